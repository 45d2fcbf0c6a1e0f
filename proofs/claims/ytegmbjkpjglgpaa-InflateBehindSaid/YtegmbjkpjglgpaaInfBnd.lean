/-
  inflate: books bound; are lengths full, few; how many.
-/
import Derived.Test.YtegmbjkpjglgpaaInfSto
namespace Go.Proofs.Ytegmbjkpjglgpaa
open Go.RowKit

/-- a row of ints in memory -/
def IRow (w : World) (A : Option Addr) (l : List Int) : Prop := (A = none ∧ l = []) ∨ ∃ b off cs, A = some ⟨b, off, none⟩ ∧ Blk w b 3 cs ∧ ∀ j u, (l.flatMap encI)[j]? = some u → cs[off + j]? = some u
theorem IRow.rdi {w : World} {A : Option Addr} {l : List Int} (h : IRow w A l) : RdI w w.heap.size A l := by
  refine ⟨by rw [intsV_eq, intsV_length, Nat.mul_one], fun hp => ?_⟩
  rcases h with ⟨_, rfl⟩ | ⟨b, off, cs, hA, hb, hc⟩
  · exact absurd hp (by simp)
  · exact ⟨b, off, hA, hb.lt, fun j u hu => (hb.cell _).trans (hc j u hu)⟩
theorem IRow.hold {w w' : World} {A : Option Addr} {l : List Int} (h : IRow w A l) (hh : HoldT w w') : IRow w' A l := by
  rcases h with h | ⟨b, off, cs, hA, hb, hc⟩
  · exact .inl h
  · exact .inr ⟨b, off, cs, hA, hh _ _ _ (by decide) (by decide) (by decide) hb, hc⟩
theorem IRow.turn {v : Ev} {w w' : World} {s : Sk} {lp dp : Value} {bs : List (Nat × BM)} {A : Option Addr} {l : List Int} (h : IRow w A l) (hs : St v w s lp dp bs) (hg : w.grownBy w' (some v.gr)) : IRow w' A l := by
  rcases h with h | ⟨b, off, cs, hA, hb, hc⟩
  · exact .inl h
  · exact .inr ⟨b, off, cs, hA, blk_turn hs hg hb, hc⟩
theorem IRow.own {w : World} {base c : Nat} {A : Option Addr} {l : List Int} (h : w.ownsRow base 3 1 (.slice A l.length c) l.length (intsV l)) : IRow w A l := by
  rcases h.2 with ⟨h1, h2⟩ | ⟨g, cap, cur, h1, _, hh, _, _, _, ht⟩
  · injection h1 with h1 _ _
    exact .inl ⟨h1, List.eq_nil_of_length_eq_zero h2⟩
  · injection h1 with h1 _ _
    refine .inr ⟨g, 0, cur, h1, hh, fun j u hu => ?_⟩
    rw [intsV_eq, ← ht] at hu
    rw [Nat.zero_add, ← Array.getElem?_toList]
    rw [List.getElem?_take] at hu
    split at hu
    · exact hu
    · cases hu
/-- a part of a row -/
theorem IRow.part {w : World} {b off : Nat} {l : List Int} (h : IRow w (some ⟨b, off, none⟩) l) (i n : Nat) : IRow w (some ⟨b, off + i, none⟩) ((l.drop i).take n) := by
  rcases h with ⟨h, _⟩ | ⟨b', off', cs, hA, hb, hc⟩
  · cases h
  · injection hA with hA
    injection hA with h1 h2
    subst h1 h2
    refine .inr ⟨b, off + i, cs, rfl, hb, fun j u hu => ?_⟩
    have e : (l.flatMap encI)[i + j]? = some u := by
      rw [intsV_eq] at hu ⊢
      unfold intsV at hu ⊢
      rw [List.getElem?_map] at hu ⊢
      rw [List.getElem?_take] at hu
      split at hu
      · rw [List.getElem?_drop] at hu; exact hu
      · cases hu
    rw [Nat.add_assoc]
    exact hc _ _ e
theorem St.set4 {v : Ev} {w : World} {s : Sk} {lp dp : Value} {bs : List (Nat × BM)} (h : St v w s lp dp bs) (p : Value) : St v (w.setCell ⟨v.g, 4, none⟩ p) s p dp bs ∧ HoldT w (w.setCell ⟨v.g, 4, none⟩ p) := by
  obtain ⟨T, tc, hk, ho⟩ := h.tok
  have hh := HoldT.set (i := 4) hk (.inl rfl) p
  exact ⟨⟨⟨T, tc, hk.set_ 4 _, ownsRow_setCell_other (a := ⟨v.g, 4, none⟩) ho (fun h => own_blk_ne ho hk (by decide) h.symm) _⟩, h.rd.hold hh, fun x hx => (h.bks x hx).hold hh, h.gB, h.grB, h.fr.setCell (p := ⟨v.g, 4, none⟩) h.gB _, h.sz, fun x hx => hh _ _ _ (by decide) (by decide) (by decide) (h.ext x hx)⟩, hh⟩
theorem St.set5 {v : Ev} {w : World} {s : Sk} {lp dp : Value} {bs : List (Nat × BM)} (h : St v w s lp dp bs) (p : Value) : St v (w.setCell ⟨v.g, 5, none⟩ p) s lp p bs ∧ HoldT w (w.setCell ⟨v.g, 5, none⟩ p) := by
  obtain ⟨T, tc, hk, ho⟩ := h.tok
  have hh := HoldT.set (i := 5) hk (.inl rfl) p
  exact ⟨⟨⟨T, tc, hk.set_ 5 _, ownsRow_setCell_other (a := ⟨v.g, 5, none⟩) ho (fun h => own_blk_ne ho hk (by decide) h.symm) _⟩, h.rd.hold hh, fun x hx => (h.bks x hx).hold hh, h.gB, h.grB, h.fr.setCell (p := ⟨v.g, 5, none⟩) h.gB _, h.sz, fun x hx => hh _ _ _ (by decide) (by decide) (by decide) (h.ext x hx)⟩, hh⟩
theorem St.books {v : Ev} {w : World} {s : Sk} {lp dp : Value} {bs bs' : List (Nat × BM)} (h : St v w s lp dp bs) (hb : ∀ x ∈ bs', BK w x.1 x.2) : St v w s lp dp bs' := ⟨h.tok, h.rd, hb, h.gB, h.grB, h.fr, h.sz, h.ext⟩
/-- how a binding ends -/
def BndEnd (v : Ev) (s : Sk) (l d : List Int) (e : Ending) (w' : World) : Prop :=
  (lensB l = true ∧ lensB d = true ∧ e = .returned .nilIface ∧ ∃ gl bL gd bD, BookOf l bL ∧ BookOf d bD ∧ St v w' s (.pointer (some ⟨gl, 0, none⟩)) (.pointer (some ⟨gd, 0, none⟩)) [(gl, bL), (gd, bD)]) ∨
  ((lensB l = false ∨ lensB d = false) ∧ e = .returned (.iface 40 (.int .i64 2)) ∧ Below v.B v.W0 w')
set_option maxRecDepth 100000 in
set_option maxHeartbeats 4000000 in
theorem bindW_any (v : Ev) (s : Sk) (lp dp : Value) (bs : List (Nat × BM)) (A1 A2 : Option Addr) (c1 c2 : Nat) (l d : List Int) (hl : l.length ≤ 1000) (hd : d.length ≤ 1000) (hn1 : A1 = none → c1 = 0) (hn2 : A2 = none → c2 = 0) (W : World) (h : St v W s lp dp bs) (h1 : IRow W A1 l) (h2 : IRow W A2 d) :
    Calls Try.prog 133 #[.pointer (some ⟨v.g, 0, none⟩), .slice A1 l.length c1, .slice A2 d.length c2] W (BndEnd v s l d) := by
  have H := hid h
  have H1 := hid h1
  have H2 := hid h2
  have Hn1 := hid hn1
  have Hn2 := hid hn2
  have N1 := hid (newBook_any A1 c1 l W h1.rdi hn1 hl)
  have N2 := hid (fun w (h : IRow w A2 d) => newBook_any A2 c2 d w h.rdi hn2 hd)
  obtain ⟨L, hL⟩ : ∃ L, L = l.length := ⟨_, rfl⟩
  obtain ⟨D, hD⟩ : ∃ D, D = d.length := ⟨_, rfl⟩
  rw [← hL] at N1 ⊢
  rw [← hD] at N2 ⊢
  have hgw : v.g < W.heap.size := by obtain ⟨T, tc, hk, _⟩ := h.tok; exact hk.lt
  clear h h1 h2 hn1 hn2 hl hd hL hD
  go_enter Try.func133, Try.ntmps133
  go_wp2_with fail
  refine N1.out.mono ?_
  rintro e w1 (⟨hlf, rfl, hb1⟩ | ⟨hlt, g1, b1, rfl, hg1, hK1, hBo1, hb1⟩)
  · have S1 := hid (H.out.below hb1)
    have Hlf := hid hlf
    have hgw1 := hb1.size
    obtain ⟨T_S1, tc_S1, hk_S1, _⟩ := S1.out.tok
    have fz := hk_S1.frozen 4
    unfold workCs at hk_S1
    have c4 := hk_S1.cell 4
    have c5 := hk_S1.cell 5
    simp only [List.getElem?_toArray, List.getElem?_cons_zero, List.getElem?_cons_succ] at c4 c5
    have hgl := hk_S1.lt
    clear hk_S1
    clear hlf hb1
    go_wp2_with fail
    go_ret
    exact .inr ⟨.inl Hlf.out, rfl, (S1.out.set4 _).1.fr⟩
  · have S1 := hid ((H.out.below hb1).books (bs' := [(g1, b1)]) (by simpa using hK1))
    have R2 := hid (H2.out.hold (HoldT.below hb1))
    have Hlt := hid hlt
    have HB1 := hid hBo1
    have hgw1 := hb1.size
    obtain ⟨T_S1, tc_S1, hk_S1, _⟩ := S1.out.tok
    have fz := hk_S1.frozen 4
    unfold workCs at hk_S1
    have c4 := hk_S1.cell 4
    have c5 := hk_S1.cell 5
    simp only [List.getElem?_toArray, List.getElem?_cons_zero, List.getElem?_cons_succ] at c4 c5
    have hgl := hk_S1.lt
    clear hk_S1
    clear hlt hb1 hK1 hBo1 hg1
    go_wp2_with fail
    clear fz c4 c5 hgl
    have S2 := hid (S1.out.set4 (.pointer (some ⟨g1, 0, none⟩))).1
    have R3 := hid (R2.out.hold (S1.out.set4 (.pointer (some ⟨g1, 0, none⟩))).2)
    have hz : (w1.setCell ⟨v.g, 4, none⟩ (.pointer (some ⟨g1, 0, none⟩))).heap.size = w1.heap.size := by simp
    generalize w1.setCell ⟨v.g, 4, none⟩ (.pointer (some ⟨g1, 0, none⟩)) = w2 at *
    refine (N2.out w2 R3.out).mono ?_
    rintro e w3 (⟨hdf, rfl, hb3⟩ | ⟨hdt, g3, b3, rfl, hg3, hK3, hBo3, hb3⟩)
    · have S3 := hid (S2.out.below hb3)
      have Hdf := hid hdf
      have hgw3 := hb3.size
      obtain ⟨T_S3, tc_S3, hk_S3, _⟩ := S3.out.tok
      have fz := hk_S3.frozen 5
      unfold workCs at hk_S3
      have c4 := hk_S3.cell 4
      have c5 := hk_S3.cell 5
      simp only [List.getElem?_toArray, List.getElem?_cons_zero, List.getElem?_cons_succ] at c4 c5
      have hgl := hk_S3.lt
      clear hk_S3
      clear hdf hb3
      go_wp2_with fail
      go_ret
      exact .inr ⟨.inr Hdf.out, rfl, (S3.out.set5 _).1.fr⟩
    · have S3 := hid ((S2.out.below hb3).books (bs' := [(g1, b1), (g3, b3)]) (by
        intro x hx
        rcases List.mem_cons.1 hx with rfl | hx
        · exact (S2.out.bks _ (by simp)).below hb3
        · rw [List.mem_singleton.1 hx]; exact hK3))
      have Hdt := hid hdt
      have HB3 := hid hBo3
      have hgw3 := hb3.size
      obtain ⟨T_S3, tc_S3, hk_S3, _⟩ := S3.out.tok
      have fz := hk_S3.frozen 5
      unfold workCs at hk_S3
      have c4 := hk_S3.cell 4
      have c5 := hk_S3.cell 5
      simp only [List.getElem?_toArray, List.getElem?_cons_zero, List.getElem?_cons_succ] at c4 c5
      have hgl := hk_S3.lt
      clear hk_S3
      clear hdt hb3 hK3 hBo3 hg3
      go_wp2_with fail
      go_ret
      exact .inl ⟨Hlt.out, Hdt.out, rfl, g1, b1, g3, b3, HB1.out, HB3.out, (S3.out.set5 _).1⟩
end Go.Proofs.Ytegmbjkpjglgpaa
