/-
  inflate: books bound; are lengths full, few; how many.
  inflate: are lengths full, few; how many.
-/
import Derived.Test.YtegmbjkpjglgpaaInfSto
namespace Go.Proofs.Ytegmbjkpjglgpaa
open Go.RowKit

/-- a row of ints in memory -/
def IRow (w : World) (A : Option Addr) (l : List Int) : Prop := (A = none ∧ l = []) ∨ ∃ b off cs, A = some ⟨b, off, none⟩ ∧ Blk w b 3 cs ∧ ∀ j u, (l.flatMap encI)[j]? = some u → cs[off + j]? = some u
theorem IRow.rdi {w : World} {A : Option Addr} {l : List Int} (h : IRow w A l) : RdI w w.heap.size A l := by
  refine ⟨by rw [intsV_eq, intsV_length, Nat.mul_one], fun hp => ?_⟩
  rcases h with ⟨_, rfl⟩ | ⟨b, off, cs, hA, hb, hc⟩
  · exact absurd hp (by simp)
  · exact ⟨b, off, hA, hb.lt, fun j u hu => (hb.cell _).trans (hc j u hu)⟩
theorem IRow.hold {w w' : World} {A : Option Addr} {l : List Int} (h : IRow w A l) (hh : HoldT w w') : IRow w' A l := by
  rcases h with h | ⟨b, off, cs, hA, hb, hc⟩
  · exact .inl h
  · exact .inr ⟨b, off, cs, hA, hh _ _ _ (by decide) (by decide) (by decide) hb, hc⟩
theorem IRow.turn {v : Ev} {w w' : World} {s : Sk} {lp dp : Value} {bs : List (Nat × BM)} {A : Option Addr} {l : List Int} (h : IRow w A l) (hs : St v w s lp dp bs) (hg : w.grownBy w' (some v.gr)) : IRow w' A l := by
  rcases h with h | ⟨b, off, cs, hA, hb, hc⟩
  · exact .inl h
  · exact .inr ⟨b, off, cs, hA, blk_turn hs hg hb, hc⟩
theorem IRow.own {w : World} {base c : Nat} {A : Option Addr} {l : List Int} (h : w.ownsRow base 3 1 (.slice A l.length c) l.length (intsV l)) : IRow w A l := by
  rcases h.2 with ⟨h1, h2⟩ | ⟨g, cap, cur, h1, _, hh, _, _, _, ht⟩
  · injection h1 with h1 _ _
    exact .inl ⟨h1, List.eq_nil_of_length_eq_zero h2⟩
  · injection h1 with h1 _ _
    refine .inr ⟨g, 0, cur, h1, hh, fun j u hu => ?_⟩
    rw [intsV_eq, ← ht] at hu
    rw [Nat.zero_add, ← Array.getElem?_toList]
    rw [List.getElem?_take] at hu
    split at hu
    · exact hu
    · cases hu
/-- a part of a row -/
theorem IRow.part {w : World} {b off : Nat} {l : List Int} (h : IRow w (some ⟨b, off, none⟩) l) (i n : Nat) : IRow w (some ⟨b, off + i, none⟩) ((l.drop i).take n) := by
  rcases h with ⟨h, _⟩ | ⟨b', off', cs, hA, hb, hc⟩
  · cases h
  · injection hA with hA
    injection hA with h1 h2
    subst h1 h2
    refine .inr ⟨b, off + i, cs, rfl, hb, fun j u hu => ?_⟩
    have e : (l.flatMap encI)[i + j]? = some u := by
      rw [intsV_eq] at hu ⊢
      unfold intsV at hu ⊢
      rw [List.getElem?_map] at hu ⊢
      rw [List.getElem?_take] at hu
      split at hu
      · rw [List.getElem?_drop] at hu; exact hu
      · cases hu
    rw [Nat.add_assoc]
    exact hc _ _ e
theorem St.set4 {v : Ev} {w : World} {s : Sk} {lp dp : Value} {bs : List (Nat × BM)} (h : St v w s lp dp bs) (p : Value) : St v (w.setCell ⟨v.g, 4, none⟩ p) s p dp bs ∧ HoldT w (w.setCell ⟨v.g, 4, none⟩ p) := by
  obtain ⟨T, tc, hk, ho⟩ := h.tok
  have hh := HoldT.set (i := 4) hk (.inl rfl) p
  exact ⟨⟨⟨T, tc, hk.set_ 4 _, ownsRow_setCell_other (a := ⟨v.g, 4, none⟩) ho (fun h => own_blk_ne ho hk (by decide) h.symm) _⟩, h.rd.hold hh, fun x hx => (h.bks x hx).hold hh, h.gB, h.grB, h.fr.setCell (p := ⟨v.g, 4, none⟩) h.gB _, h.sz, fun x hx => hh _ _ _ (by decide) (by decide) (by decide) (h.ext x hx)⟩, hh⟩
theorem St.set5 {v : Ev} {w : World} {s : Sk} {lp dp : Value} {bs : List (Nat × BM)} (h : St v w s lp dp bs) (p : Value) : St v (w.setCell ⟨v.g, 5, none⟩ p) s lp p bs ∧ HoldT w (w.setCell ⟨v.g, 5, none⟩ p) := by
  obtain ⟨T, tc, hk, ho⟩ := h.tok
  have hh := HoldT.set (i := 5) hk (.inl rfl) p
  exact ⟨⟨⟨T, tc, hk.set_ 5 _, ownsRow_setCell_other (a := ⟨v.g, 5, none⟩) ho (fun h => own_blk_ne ho hk (by decide) h.symm) _⟩, h.rd.hold hh, fun x hx => (h.bks x hx).hold hh, h.gB, h.grB, h.fr.setCell (p := ⟨v.g, 5, none⟩) h.gB _, h.sz, fun x hx => hh _ _ _ (by decide) (by decide) (by decide) (h.ext x hx)⟩, hh⟩
theorem St.books {v : Ev} {w : World} {s : Sk} {lp dp : Value} {bs bs' : List (Nat × BM)} (h : St v w s lp dp bs) (hb : ∀ x ∈ bs', BK w x.1 x.2) : St v w s lp dp bs' := ⟨h.tok, h.rd, hb, h.gB, h.grB, h.fr, h.sz, h.ext⟩
/-- how a binding ends -/
def BndEnd (v : Ev) (s : Sk) (l d : List Int) (e : Ending) (w' : World) : Prop :=
  (lensB l = true ∧ lensB d = true ∧ e = .returned .nilIface ∧ ∃ gl bL gd bD, BookOf l bL ∧ BookOf d bD ∧ St v w' s (.pointer (some ⟨gl, 0, none⟩)) (.pointer (some ⟨gd, 0, none⟩)) [(gl, bL), (gd, bD)]) ∨
  ((lensB l = false ∨ lensB d = false) ∧ e = .returned (.iface 40 (.int .i64 2)) ∧ Below v.B v.W0 w')
set_option maxRecDepth 100000 in
set_option maxHeartbeats 4000000 in
theorem bindW_any (v : Ev) (s : Sk) (lp dp : Value) (bs : List (Nat × BM)) (A1 A2 : Option Addr) (c1 c2 : Nat) (l d : List Int) (hl : l.length ≤ 1000) (hd : d.length ≤ 1000) (hn1 : A1 = none → c1 = 0) (hn2 : A2 = none → c2 = 0) (W : World) (h : St v W s lp dp bs) (h1 : IRow W A1 l) (h2 : IRow W A2 d) :
    Calls Try.prog 133 #[.pointer (some ⟨v.g, 0, none⟩), .slice A1 l.length c1, .slice A2 d.length c2] W (BndEnd v s l d) := by
  have H := hid h
  have H1 := hid h1
  have H2 := hid h2
  have Hn1 := hid hn1
  have Hn2 := hid hn2
  have N1 := hid (newBook_any A1 c1 l W h1.rdi hn1 hl)
  have N2 := hid (fun w (h : IRow w A2 d) => newBook_any A2 c2 d w h.rdi hn2 hd)
  obtain ⟨L, hL⟩ : ∃ L, L = l.length := ⟨_, rfl⟩
  obtain ⟨D, hD⟩ : ∃ D, D = d.length := ⟨_, rfl⟩
  rw [← hL] at N1 ⊢
  rw [← hD] at N2 ⊢
  have hgw : v.g < W.heap.size := by obtain ⟨T, tc, hk, _⟩ := h.tok; exact hk.lt
  clear h h1 h2 hn1 hn2 hl hd hL hD
  go_enter Try.func133, Try.ntmps133
  go_wp2_with fail
  refine N1.out.mono ?_
  rintro e w1 (⟨hlf, rfl, hb1⟩ | ⟨hlt, g1, b1, rfl, hg1, hK1, hBo1, hb1⟩)
  · have S1 := hid (H.out.below hb1)
    have Hlf := hid hlf
    have hgw1 := hb1.size
    obtain ⟨T_S1, tc_S1, hk_S1, _⟩ := S1.out.tok
    have fz := hk_S1.frozen 4
    unfold workCs at hk_S1
    have c4 := hk_S1.cell 4
    have c5 := hk_S1.cell 5
    simp only [List.getElem?_toArray, List.getElem?_cons_zero, List.getElem?_cons_succ] at c4 c5
    have hgl := hk_S1.lt
    clear hk_S1
    clear hlf hb1
    go_wp2_with fail
    go_ret
    exact .inr ⟨.inl Hlf.out, rfl, (S1.out.set4 _).1.fr⟩
  · have S1 := hid ((H.out.below hb1).books (bs' := [(g1, b1)]) (by simpa using hK1))
    have R2 := hid (H2.out.hold (HoldT.below hb1))
    have Hlt := hid hlt
    have HB1 := hid hBo1
    have hgw1 := hb1.size
    obtain ⟨T_S1, tc_S1, hk_S1, _⟩ := S1.out.tok
    have fz := hk_S1.frozen 4
    unfold workCs at hk_S1
    have c4 := hk_S1.cell 4
    have c5 := hk_S1.cell 5
    simp only [List.getElem?_toArray, List.getElem?_cons_zero, List.getElem?_cons_succ] at c4 c5
    have hgl := hk_S1.lt
    clear hk_S1
    clear hlt hb1 hK1 hBo1 hg1
    go_wp2_with fail
    clear fz c4 c5 hgl
    have S2 := hid (S1.out.set4 (.pointer (some ⟨g1, 0, none⟩))).1
    have R3 := hid (R2.out.hold (S1.out.set4 (.pointer (some ⟨g1, 0, none⟩))).2)
    have hz : (w1.setCell ⟨v.g, 4, none⟩ (.pointer (some ⟨g1, 0, none⟩))).heap.size = w1.heap.size := by simp
    generalize w1.setCell ⟨v.g, 4, none⟩ (.pointer (some ⟨g1, 0, none⟩)) = w2 at *
    refine (N2.out w2 R3.out).mono ?_
    rintro e w3 (⟨hdf, rfl, hb3⟩ | ⟨hdt, g3, b3, rfl, hg3, hK3, hBo3, hb3⟩)
    · have S3 := hid (S2.out.below hb3)
      have Hdf := hid hdf
      have hgw3 := hb3.size
      obtain ⟨T_S3, tc_S3, hk_S3, _⟩ := S3.out.tok
      have fz := hk_S3.frozen 5
      unfold workCs at hk_S3
      have c4 := hk_S3.cell 4
      have c5 := hk_S3.cell 5
      simp only [List.getElem?_toArray, List.getElem?_cons_zero, List.getElem?_cons_succ] at c4 c5
      have hgl := hk_S3.lt
      clear hk_S3
      clear hdf hb3
      go_wp2_with fail
      go_ret
      exact .inr ⟨.inr Hdf.out, rfl, (S3.out.set5 _).1.fr⟩
    · have S3 := hid ((S2.out.below hb3).books (bs' := [(g1, b1), (g3, b3)]) (by
        intro x hx
        rcases List.mem_cons.1 hx with rfl | hx
        · exact (S2.out.bks _ (by simp)).below hb3
        · rw [List.mem_singleton.1 hx]; exact hK3))
      have Hdt := hid hdt
      have HB3 := hid hBo3
      have hgw3 := hb3.size
      obtain ⟨T_S3, tc_S3, hk_S3, _⟩ := S3.out.tok
      have fz := hk_S3.frozen 5
      unfold workCs at hk_S3
      have c4 := hk_S3.cell 4
      have c5 := hk_S3.cell 5
      simp only [List.getElem?_toArray, List.getElem?_cons_zero, List.getElem?_cons_succ] at c4 c5
      have hgl := hk_S3.lt
      clear hk_S3
      clear hdt hb3 hK3 hBo3 hg3
      go_wp2_with fail
      go_ret
      exact .inl ⟨Hlt.out, Hdt.out, rfl, g1, b1, g3, b3, HB1.out, HB3.out, (S3.out.set5 _).1⟩
end Go.Proofs.Ytegmbjkpjglgpaa

namespace Go.Proofs.Ytegmbjkpjglgpaa
open Go.RowKit

theorem full_any (A : Option Addr) (c : Nat) (l : List Int) (W : World) (h : RdI W W.heap.size A l) (hm : l.length ≤ maxLen) : Calls Try.prog 136 #[.slice A l.length c] W fun e w' => e = .returned (.bool (fullB l)) ∧ W = w' := by
  have F := hid (free_any A c l W h hm)
  obtain ⟨L, hL⟩ : ∃ L, L = l.length := ⟨_, rfl⟩
  rw [← hL] at F ⊢
  clear h hL hm
  go_enter Try.func136, Try.ntmps136
  go_wp2_with fail
  refine F.out.mono ?_
  rintro e w1 ⟨rfl, ⟨hl, rfl⟩ | ⟨hl, rfl⟩⟩
  · obtain ⟨k, hk⟩ : ∃ k, k = 65536 - kraft l := ⟨_, rfl⟩
    have hb : fullB l = (k == 0) := by
      unfold fullB
      rw [hl, Bool.true_and, Bool.eq_iff_iff, decide_eq_true_eq, beq_iff_eq]
      omega
    rw [← hk]
    have Hb := hid hb
    clear hb hl hk F
    go_wp2_with fail
    go_ret
    exact ⟨by rw [Hb.out]; rfl, rfl⟩
  · have Hb := hid (show fullB l = false by unfold fullB; rw [hl]; rfl)
    clear hl F
    go_wp2_with fail
    go_ret
    exact ⟨by rw [Hb.out]; rfl, rfl⟩
theorem sum_take_bd {l : List Int} (hb : ∀ x ∈ l, 0 ≤ x ∧ x ≤ 100) (j : Nat) : 0 ≤ (l.take j).sum ∧ (l.take j).sum ≤ 100 * j := by
  induction l generalizing j with
  | nil => simp; omega
  | cons x l ih =>
    cases j with
    | zero => simp
    | succ j =>
      have h1 := hb x (by simp)
      have h2 := ih (fun y hy => hb y (by simp [hy])) j
      rw [List.take_succ_cons, List.sum_cons]
      omega
set_option maxRecDepth 100000 in
set_option maxHeartbeats 2000000 in
theorem few_any (A : Option Addr) (c : Nat) (l : List Int) (W : World) (h : RdI W W.heap.size A l) (hm : l.length ≤ 1000) (hb : ∀ x ∈ l, 0 ≤ x ∧ x ≤ 100) : Calls Try.prog 139 #[.slice A l.length c] W fun e w' => e = .returned (.bool (decide (l.sum ≤ 1))) ∧ W = w' := by
  have H := hid h
  have Hb := hid hb
  obtain ⟨L, hL⟩ : ∃ L, L = l.length := ⟨_, rfl⟩
  have HL := hid hL
  rw [← hL] at hm ⊢
  clear h hL hb
  go_enter Try.func139, Try.ntmps139
  go_wp2_with fail
  go_loop [3, 8] (fun v3 v8 => ∃ (j : Nat) (x : Int), j ≤ L ∧ v3 = .int .i64 x ∧ v8 = .int .i64 (j : Int) ∧ Hid (x = (l.take j).sum)) (fun _ i => L - (intOf i).toNat)
  case atStart => exact ⟨0, 0, by omega, rfl, rfl, hid rfl⟩
  case round =>
    obtain ⟨j, x, hj, rfl, rfl, Hx⟩ := hrel
    by_cases hlt : j < L
    · have d1 : decide (j < L) = true := decide_eq_true hlt
      have hjl : j < l.length := by rw [← HL.out]; exact hlt
      obtain ⟨b, off, rfl, hbb, q0⟩ := int_at H.out hjl
      obtain ⟨y, hy⟩ : ∃ y, y = l[j] := ⟨_, rfl⟩
      rw [← hy] at q0
      have hs : (l.take (j + 1)).sum = x + y := by rw [List.take_succ_eq_append_getElem hjl, List.sum_append, hy, Hx.out]; simp
      have hbd := sum_take_bd Hb.out (j + 1)
      rw [hs] at hbd
      have tw : IntKind.i64.wrap (x + y) = x + y := IntWalk.i64_in _ (by omega)
      have Hs := hid hs
      clear hy hs hjl
      go_wp2_with fail
      go_round
      case rel => exact ⟨j + 1, x + y, by omega, rfl, by go_num, hid Hs.out.symm⟩
      case measure => simp [intOf]; omega
    · have d1 : decide (j < L) = false := decide_eq_false hlt
      have Hs := hid (show l.sum = x by rw [Hx.out, List.take_of_length_le (by rw [← HL.out]; omega)])
      go_wp2_with fail
      go_ret
      exact ⟨by rw [Hs.out]; rfl, rfl⟩
/-- how a count's reading ends -/
def CntEnd (v : Ev) (s : Sk) (lp dp : Value) (bs : List (Nat × BM)) (least most : Int) (e : Ending) (w' : World) : Prop :=
  match tkM (bitsL v.bl) s.k 5 with
  | none => e = .returned (.tuple #[.int .i64 least, .iface 40 (.int .i64 8)]) ∧ Below v.B v.W0 w'
  | some n => if most < least + n then e = .returned (.tuple #[.int .i64 (least + n), .iface 40 (.int .i64 2)]) ∧ Below v.B v.W0 w'
    else e = .returned (.tuple #[.int .i64 (least + n), .nilIface]) ∧ St v w' ⟨s.k + 5, s.size, s.toks⟩ lp dp bs
theorem count_any (v : Ev) (s : Sk) (lp dp : Value) (bs : List (Nat × BM)) (least most : Int) (h0 : 0 ≤ least ∧ least ≤ 1000) (W : World) (h : St v W s lp dp bs) :
    Calls Try.prog 134 #[.pointer (some ⟨v.g, 0, none⟩), .int .i64 least, .int .i64 most] W (CntEnd v s lp dp bs least most) := by
  have H := hid h
  obtain ⟨T, tc, hk, _⟩ := h.tok
  unfold workCs at hk
  have c0 := hk.cell 0
  simp only [List.getElem?_toArray, List.getElem?_cons_zero] at c0
  have hgw := hk.lt
  clear h hk
  cases ht : tkM (bitsL v.bl) s.k 5 with
  | none =>
    have Ht := hid ht
    clear ht
    go_enter Try.func134, Try.ntmps134
    go_wp2_with fail
    refine (takeSt_none v s _ _ bs 5 (by decide) _ H.out Ht.out).mono ?_
    rintro e w2 ⟨rfl, hS2, _⟩
    have S2 := hid hS2
    have tw : IntKind.i64.wrap least = least := IntWalk.i64_in _ (by omega)
    clear hS2
    go_wp2_with fail
    go_ret2
    unfold CntEnd
    rw [Ht.out]
    exact ⟨rfl, S2.out.fr⟩
  | some n =>
    have hn := tkM_bd (bitsL_bit v.bl) ht
    have hn2 : 0 ≤ n ∧ n < 32 := by have : (2 : Int) ^ 5 = 32 := by decide
                                    omega
    have Ht := hid ht
    have tw : IntKind.i64.wrap (least + n) = least + n := IntWalk.i64_in _ (by omega)
    clear ht hn
    by_cases hm : most < least + n
    · have d0 : decide (most < least + n) = true := decide_eq_true hm
      have Hm := hid hm
      clear hm
      go_enter Try.func134, Try.ntmps134
      go_wp2_with fail
      refine (takeSt_some v s _ _ bs 5 (by decide) n _ H.out Ht.out).mono ?_
      rintro e w2 ⟨rfl, hS2, _⟩
      have S2 := hid hS2
      clear hS2
      go_wp2_with fail
      go_ret2
      unfold CntEnd
      rw [Ht.out]
      dsimp only
      rw [if_pos Hm.out]
      exact ⟨rfl, S2.out.fr⟩
    · have d0 : decide (most < least + n) = false := decide_eq_false hm
      have Hm := hid hm
      clear hm
      go_enter Try.func134, Try.ntmps134
      go_wp2_with fail
      refine (takeSt_some v s _ _ bs 5 (by decide) n _ H.out Ht.out).mono ?_
      rintro e w2 ⟨rfl, hS2, _⟩
      have S2 := hid hS2
      clear hS2
      go_wp2_with fail
      go_ret2
      unfold CntEnd
      rw [Ht.out]
      dsimp only
      rw [if_neg (Int.not_lt.2 Hm.out)]
      exact ⟨rfl, S2.out⟩
end Go.Proofs.Ytegmbjkpjglgpaa
