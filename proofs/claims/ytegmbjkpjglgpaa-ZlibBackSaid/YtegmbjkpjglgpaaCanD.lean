/-
  canon.NewBook; (*canon.Book).beyond.
  (*canon.Book).beyond.
-/
import Derived.Test.YtegmbjkpjglgpaaCanC
namespace Go.Proofs.Ytegmbjkpjglgpaa
open Go.RowKit

/-- the book of lengths -/
structure BookOf (l : List Int) (b : BM) : Prop where
  lens : b.lens = l
  codes : b.codes = codesL l
  ord : b.ord = ordL l
  rows : ∀ n, n < 17 → b.S n = selN l (ordL l) n ∧ b.F n = fstC (codesL l) (b.S n)
def NewBookEnd (l : List Int) (W : World) (e : Ending) (w' : World) : Prop :=
  (lensB l = false ∧ e = .returned (.tuple #[.pointer none, .iface 40 (.int .i64 6)]) ∧ Below W.heap.size W w') ∨
  (lensB l = true ∧ ∃ g b, e = .returned (.tuple #[.pointer (some ⟨g, 0, none⟩), .nilIface]) ∧ W.heap.size ≤ g ∧ BK w' g b ∧ BookOf l b ∧ Below W.heap.size W w')
theorem ordL_sum (l : List Int) : ∀ n, ((List.range n).flatMap (fun i => rowF l (i + 1))).length = sumR (fun i => (rowF l (i + 1)).length) n
  | 0 => rfl
  | n + 1 => by
    rw [List.range_succ, List.flatMap_append, List.length_append, ordL_sum l n]
    simp [sumR]
theorem ordL_len {l : List Int} : (ordL l).length ≤ l.length := by
  unfold ordL
  rw [ordL_sum]
  have key : ∀ k, k ≤ l.length → sumR (fun i => (rowF (l.take k) (i + 1)).length) 16 ≤ k := by
    intro k
    induction k with
    | zero =>
      intro _
      have : ∀ m, sumR (fun i => (rowF (l.take 0) (i + 1)).length) m = 0 := by
        intro m
        induction m with
        | zero => rfl
        | succ m ihm =>
          unfold sumR
          rw [ihm]
          simp [rowF]
      rw [this]
      exact Nat.le_refl _
    | succ k ih =>
      intro hk
      have ih := ih (by omega)
      rw [List.take_succ_eq_append_getElem (by omega)]
      generalize l[k] = x
      have e : (fun i => (rowF (l.take k ++ [x]) (i + 1)).length) = (fun i => (rowF (l.take k) (i + 1)).length + (if x = ((i + 1 : Nat) : Int) then 1 else 0)) := by
        funext i
        rw [rowF_snoc, List.length_append]
        congr 1
        split <;> rfl
      rw [e, sumR_add, sumR_pick (fun _ => 1) x 16]
      split <;> omega
  have := key l.length (Nat.le_refl _)
  rw [List.take_length] at this
  exact this
set_option maxRecDepth 100000 in
theorem newBook_any (A : Option Addr) (c : Nat) (l : List Int) (W : World) (h : RdI W W.heap.size A l) (hn : A = none → c = 0) (hm : l.length ≤ 1000) : Calls Try.prog 137 #[.slice A l.length c] W (NewBookEnd l W) := by
  have H := hid h
  have Hn := hid hn
  have FR := hid (free_any A c l W h (by unfold maxLen; omega))
  clear h hn
  obtain ⟨L, hL⟩ : ∃ L, L = l.length := ⟨_, rfl⟩
  have HL := hid hL
  rw [← hL] at hm
  have fr := FR.out
  rw [← hL] at fr ⊢
  have FR2 := hid fr
  clear fr FR hL
  go_enter Try.func137, Try.ntmps137
  go_wp2_with fail
  refine (FR2.out).mono ?_
  rintro e w1 ⟨rfl, (⟨hb, rfl⟩ | ⟨hb, rfl⟩)⟩
  · have Hb := hid hb
    clear hb FR2
    have hor := order_any A c l w1 H.out (by rw [← HL.out]; exact hm)
    rw [← HL.out] at hor
    have OR := hid hor
    clear hor
    go_wp2_with fail
    refine (OR.out).mono ?_
    rintro e w2 ⟨OA, oc, rfl, ho, hb2⟩
    have hok := sl_ok Hb.out
    have hbi := bind_any A OA c oc l (ordL l) w2 (H.out.below hb2 (Nat.le_refl _) |>.more hb2.size) Hn.out (own_base ho (Nat.zero_le _)) hok (fun s hs => (ordL_mem.1 hs).1) (by rw [← HL.out]; exact hm) (Nat.le_trans ordL_len (by rw [← HL.out]; exact hm))
    rw [← HL.out] at hbi
    have BI := hid hbi
    have B2 := hid hb2
    clear ho hb2 hok hbi OR
    obtain ⟨O, hO⟩ : ∃ O, O = (ordL l).length := ⟨_, rfl⟩
    have bi := BI.out
    rw [← hO] at bi ⊢
    have BI2 := hid bi
    clear bi BI hO
    go_wp2_with fail
    refine (BI2.out).mono ?_
    rintro e w3 ⟨g, b, rfl, hg, hK, h1, h2, h3, h4, hb3⟩
    have R := hid (show NewBookEnd l w1 (.returned (.tuple #[.pointer (some ⟨g, 0, none⟩), .nilIface])) w3 from .inr ⟨Hb.out, g, b, rfl, Nat.le_trans B2.out.size hg, hK, ⟨h1, h2, h3, fun n hn => by have := h4 n hn; rw [h2] at this; exact this⟩, B2.out.trans (hb3.mono B2.out.size)⟩)
    clear hg hK h1 h2 h3 h4 hb3 BI2
    go_wp2_with fail
    go_ret2
    exact R.out
  · have Hb := hid hb
    clear hb FR2
    go_wp2_with fail
    go_ret2
    exact .inl ⟨Hb.out, rfl, Below.refl _ _⟩
end Go.Proofs.Ytegmbjkpjglgpaa

namespace Go.Proofs.Ytegmbjkpjglgpaa
open Go.RowKit

/-- the last code of lengths: its symbol, its length, its code -/
structure LastOf (l : List Int) (m : List Nat) (s ln cd : Nat) : Prop where
  ord : ordL l = m ++ [s]
  len : ln = lenOf l s
  cod : cd = Cd.tot (m.map (fun s => (s, lenOf l s))) / Cd.pw ln
theorem LastOf.bd {l : List Int} {m : List Nat} {s ln cd : Nat} (h : LastOf l m s ln cd) (hl : lensB l = true) : s < l.length ∧ l.getD s 0 = (ln : Int) ∧ 1 ≤ ln ∧ ln ≤ 16 ∧ (codesL l).getD s 0 = (cd : Int) ∧ cd < 65536 := by
  have hmem : s ∈ ordL l := by rw [h.ord]; simp
  obtain ⟨h1, i, hi, e⟩ := ordL_mem.1 hmem
  have hln : ln = i + 1 := by rw [h.len]; unfold lenOf; rw [e]; omega
  have hk := (sl_ok hl).kraft
  refine ⟨h1, by rw [e, hln], by omega, by omega, ?_, ?_⟩
  · have h2 : ordL l = m ++ s :: [] := h.ord
    rw [codes_at hl h2, ← h.len, ← h.cod]
  · have e2 : Cd.tot (slOf l) = Cd.tot (m.map (fun s => (s, lenOf l s))) + Cd.pw ln := by
      unfold slOf
      rw [h.ord, List.map_append, Cd.tot_append, List.map_cons, List.map_nil, Cd.tot_cons, Cd.tot_nil, h.len]
      rfl
    have hp := Cd.pw_pos ln
    rw [h.cod]
    have : Cd.tot (m.map (fun s => (s, lenOf l s))) / Cd.pw ln ≤ Cd.tot (m.map (fun s => (s, lenOf l s))) := Nat.div_le_self _ _
    omega
theorem bk_cell0 {w : World} {g : Nat} {b : BM} (h : BK w g b) : w.cell? ⟨g, 0, none⟩ = some (.slice b.LA b.lens.length b.Lc) ∧ w.cell? ⟨g, 1, none⟩ = some (.slice b.CA b.codes.length b.Cc) ∧ w.cell? ⟨g, 2, none⟩ = some (.slice b.OA b.ord.length b.Oc) :=
  ⟨(h.blk.cell 0).trans (bookCs_at b 0 (by omega)), (h.blk.cell 1).trans (bookCs_at b 1 (by omega)), (h.blk.cell 2).trans (bookCs_at b 2 (by omega))⟩
set_option maxRecDepth 100000 in
set_option maxHeartbeats 2000000 in
theorem beyond_any (g : Nat) (b : BM) (l : List Int) (m : List Nat) (s ln cd c n : Nat) (W : World) (hK : BK W g b) (hB : BookOf l b) (hl : lensB l = true) (hL : LastOf l m s ln cd) (hn : n ≤ 16) :
    Calls Try.prog 152 #[.pointer (some ⟨g, 0, none⟩), .int .i64 (c : Int), .int .i64 (n : Int)] W fun e w' => e = .returned (.bool (decide (ln < n ∨ cd / 2 ^ (ln - n) < c))) ∧ Below W.heap.size W w' := by
  obtain ⟨h1, h2, h3, h4, h5, h6⟩ := hL.bd hl
  obtain ⟨q0, q1, q2⟩ := bk_cell0 hK
  have hl512 := (lensB_iff.1 hl).1
  have hoo := hK.ord
  have hO : (ordL l).length = m.length + 1 := by rw [hL.ord]; simp
  have hOl := ordL_len (l := l)
  have hcl : (codesL l).length = l.length := by unfold codesL; rw [asg_length]; simp
  have hro : RdI W W.heap.size b.OA (natsV b.ord) := own_rdi (by unfold OwnN at hoo; rw [natsV_length]; exact hoo)
  obtain ⟨bo, off, hA, hbo, x0⟩ := int_at hro (j := m.length) (by rw [natsV_length, hB.ord, hO]; omega)
  have e0 : (natsV b.ord)[m.length]'(by rw [natsV_length, hB.ord, hO]; omega) = (s : Int) := by
    have : (natsV b.ord)[m.length]? = some (s : Int) := by rw [hB.ord, hL.ord]; simp [natsV]
    rw [List.getElem?_eq_getElem (by rw [natsV_length, hB.ord, hO]; omega)] at this
    injection this
  rw [e0] at x0
  obtain ⟨b1, off1, hA1, hb1, x1⟩ := int_at (own_rdi hK.len) (j := s) (by rw [hB.lens]; exact h1)
  have e1 : b.lens[s]'(by rw [hB.lens]; exact h1) = (ln : Int) := by
    have hx : b.lens.getD s 0 = (ln : Int) := by rw [hB.lens]; exact h2
    rw [List.getD_eq_getElem?_getD, List.getElem?_eq_getElem (by rw [hB.lens]; exact h1)] at hx
    exact hx
  rw [e1] at x1
  obtain ⟨b2, off2, hA2, hb2, x2⟩ := int_at (own_rdi hK.cod) (j := s) (by rw [hB.codes, hcl]; exact h1)
  have e2 : b.codes[s]'(by rw [hB.codes, hcl]; exact h1) = (cd : Int) := by
    have hx : b.codes.getD s 0 = (cd : Int) := by rw [hB.codes]; exact h5
    rw [List.getD_eq_getElem?_getD, List.getElem?_eq_getElem (by rw [hB.codes, hcl]; exact h1)] at hx
    exact hx
  rw [e2] at x2
  rw [hA1, hB.lens] at q0
  rw [hA2, hB.codes, hcl] at q1
  rw [hA, hB.ord, hO] at q2
  have hgw := hK.blk.lt
  obtain ⟨L, hLn⟩ : ∃ L, L = l.length := ⟨_, rfl⟩
  obtain ⟨M, hM⟩ : ∃ M, M = m.length := ⟨_, rfl⟩
  obtain ⟨M1, hM1⟩ : ∃ M1, M1 = M + 1 := ⟨_, rfl⟩
  rw [← hLn] at q0 q1 h1 hl512
  rw [← hM, ← hM1] at q2
  rw [← hM] at x0
  have tm : IntKind.i64.wrap ((M1 : Int) - 1) = (M : Int) := (IntWalk.i64_in _ (by omega)).trans (by omega)
  have hMM : M < M1 := by omega
  clear e0 e1 e2 hro hoo hO hOl hcl hA hA1 hA2 hK hB hl hL h2 h5 hLn hM hM1
  by_cases hlt : ln < n
  · have d1 : decide (ln < n) = true := decide_eq_true hlt
    have d2 : decide ((ln : Int) < (n : Int)) = true := decide_eq_true (by omega)
    have HE := hid (show decide (ln < n ∨ cd / 2 ^ (ln - n) < c) = true from decide_eq_true (.inl hlt))
    clear hlt
    go_enter Try.func152, Try.ntmps152
    go_upto_region 1 with (fail)
    go_quiet (fail)
    go_upto_region 2 with (fail)
    go_quiet (fail)
    go_wp2_with fail
    go_ret
    exact ⟨by rw [HE.out]; rfl, below_drewN (below_drewN (Below.refl _ _) _) _⟩
  · have d1 : decide (ln < n) = false := decide_eq_false hlt
    have d2 : decide ((ln : Int) < (n : Int)) = false := decide_eq_false (by omega)
    obtain ⟨dd, hdd⟩ : ∃ dd, dd = ln - n := ⟨_, rfl⟩
    have tw : IntKind.i64.wrap ((ln : Int) - (n : Int)) = (dd : Int) := (IntWalk.i64_in _ (by omega)).trans (by omega)
    have tmin : min dd 64 = dd := by omega
    obtain ⟨qv, hqv⟩ : ∃ qv : Nat, qv = cd / 2 ^ dd := ⟨_, rfl⟩
    have e3 : (cd : Int) / 2 ^ dd = (qv : Int) := by rw [hqv]; push_cast; rfl
    have HE := hid (show decide (ln < n ∨ cd / 2 ^ (ln - n) < c) = decide (qv < c) from by rw [← hdd, ← hqv]; exact decide_eq_decide.2 (by omega))
    clear hqv hdd hlt
    obtain ⟨db, hdb⟩ : ∃ db, db = decide (qv < c) := ⟨_, rfl⟩
    have d3 : decide (qv < c) = db := hdb.symm
    have d4 : decide ((qv : Int) < (c : Int)) = db := by rw [hdb]; exact decide_eq_decide.2 (by omega)
    rw [← hdb] at HE
    clear hdb
    go_enter Try.func152, Try.ntmps152
    go_upto_region 1 with (fail)
    go_quiet (fail)
    go_upto_region 2 with (fail)
    go_quiet (fail)
    go_wp2_with fail
    go_ret
    exact ⟨by rw [HE.out]; rfl, below_drewN (below_drewN (Below.refl _ _) _) _⟩
end Go.Proofs.Ytegmbjkpjglgpaa
