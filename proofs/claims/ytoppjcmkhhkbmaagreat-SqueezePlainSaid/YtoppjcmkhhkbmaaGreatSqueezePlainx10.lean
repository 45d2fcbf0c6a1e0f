/-
  What is written is read back, in plain Lean: numbers and symbols.
  What is written is read back, in plain Lean: tokens, bytes, lengths.
  block: the order of the lengths of lengths, trimming, two symbols at least; parse.Count.
  parse.Count: how often symbols stand.
  block.plan: how many lengths of lengths are written; a block's body in bits.
  block.plan: a block's body in bits.
  slices.Grow of nil and slices.Concat at one instance, over cells.
-/
import Derived.Test.YtoppjcmkhhkbmaaGreatSqueezePlainx3
import Derived.Test.YtoppjcmkhhkbmaaGreatSqueezePlainx6
import Derived.Test.YtoppjcmkhhkbmaaGreatSqueezePlainx7
import Derived.Test.YtoppjcmkhhkbmaaGreatSqueezePlainx9
import Derived.BigQuiet
import Derived.Deep.DeepCutAuto
import Derived.Deep.CutRange
import Derived.BigRegion
import Derived.Deep.RegionLaw
import Derived.Lib.AppendZerosOnto
namespace Go.Proofs.YtoppjcmkhhkbmaaGreat
open Cd

/-- from a place on bits stand -/
def At (L : List Int) (k : Nat) (b rest : List Int) : Prop := L.drop k = b ++ rest
theorem At.app {L : List Int} {k : Nat} {a b rest : List Int} (h : At L k (a ++ b) rest) : At L k a (b ++ rest) := by unfold At at *; rw [h, List.append_assoc]
theorem At.next {L : List Int} {k : Nat} {a rest : List Int} (h : At L k a rest) : L.drop (k + a.length) = rest := by
  unfold At at h
  rw [← List.drop_drop, h, List.drop_left]
theorem At.then {L : List Int} {k n : Nat} {a b rest : List Int} (h : At L k (a ++ b) rest) (hn : a.length = n) : At L (k + n) b rest := by
  have := h.app.next
  rw [hn] at this
  exact this
theorem At.len {L : List Int} {k : Nat} {a rest : List Int} (h : At L k a rest) (ha : 0 < a.length) : k + a.length ≤ L.length := by
  have := congrArg List.length h
  rw [List.length_drop, List.length_append] at this
  omega
theorem At.getD {L : List Int} {k i : Nat} {a rest : List Int} (h : At L k a rest) (hi : i < a.length) : L.getD (k + i) 0 = a.getD i 0 := by
  have := congrArg (·[i]?) h
  simp only [List.getElem?_drop, List.getElem?_append_left hi] at this
  rw [List.getD_eq_getElem?_getD, List.getD_eq_getElem?_getD, this]
/-- a symbol's code -/
def cdB (l : List Int) (s : Nat) : List Int := dgS true ((codesL l).getD s 0) (lenOf l s)
theorem cdB_len (l : List Int) (s : Nat) : (cdB l s).length = lenOf l s := dgS_len _ _ _
theorem cdB_at (l : List Int) (s i : Nat) (hi : i < lenOf l s) : (cdB l s).getD i 0 = (codesL l).getD s 0 / 2 ^ (lenOf l s - 1 - i) % 2 := by
  unfold cdB dgS
  rw [List.getD_eq_getElem?_getD, List.getElem?_map, List.getElem?_range hi]
  rfl
theorem sym_at {l : List Int} (hl : lensB l = true) {s : Nat} (hs : s < l.length) (hp : 0 < l.getD s 0) :
    ∃ m r : List Nat, ordL l = m ++ s :: r ∧ 1 ≤ lenOf l s ∧ lenOf l s ≤ 16 ∧ (codesL l).getD s 0 = ((tot (m.map fun s => (s, lenOf l s)) / pw (lenOf l s) : Nat) : Int) ∧ pw (lenOf l s) ∣ tot (m.map fun s => (s, lenOf l s)) ∧ tot (m.map fun s => (s, lenOf l s)) + pw (lenOf l s) ≤ tot (slOf l) ∧
      (rowOf (slOf l) (lenOf l s)).getD ((tot (m.map fun s => (s, lenOf l s)) - low (slOf l) (lenOf l s)) / pw (lenOf l s)) 0 = s ∧ low (slOf l) (lenOf l s) ≤ tot (m.map fun s => (s, lenOf l s)) ∧ tot (m.map fun s => (s, lenOf l s)) < low (slOf l) (lenOf l s + 1) := by
  have hb := lensB_iff.1 hl
  have h16 := (hb.2.1 _ (show l.getD s 0 ∈ l by rw [List.getD_eq_getElem?_getD, List.getElem?_eq_getElem hs]; exact List.getElem_mem hs))
  have hln : lenOf l s = (l.getD s 0).toNat := rfl
  have hmem : s ∈ ordL l := ordL_mem.2 ⟨hs, lenOf l s - 1, by omega, by omega⟩
  obtain ⟨m, r, e⟩ := List.append_of_mem hmem
  have hok := sl_ok hl
  have esl : slOf l = m.map (fun s => (s, lenOf l s)) ++ (s, lenOf l s) :: r.map (fun s => (s, lenOf l s)) := by unfold slOf; rw [e, List.map_append, List.map_cons]
  have hsort := hok.sorted
  rw [esl, List.pairwise_append] at hsort
  have hA : ∀ x ∈ m.map (fun s => (s, lenOf l s)), x.2 ≤ lenOf l s := fun x hx => hsort.2.2 x hx (s, lenOf l s) List.mem_cons_self
  have hB : ∀ x ∈ r.map (fun s => (s, lenOf l s)), lenOf l s ≤ x.2 := fun x hx => (List.pairwise_cons.1 hsort.2.1).1 x hx
  generalize hM : m.map (fun s => (s, lenOf l s)) = M at *
  generalize hR : r.map (fun s => (s, lenOf l s)) = R at *
  have hMs : M.Pairwise (fun x y => x.2 ≤ y.2) := hsort.1
  -- what stands below, and in the row ahead
  have s3 := split3 (lenOf l s) hMs
  have hgt : M.filter (fun x => decide (lenOf l s < x.2)) = [] := List.filter_eq_nil_iff.2 fun x hx => by have := hA x hx; simp; omega
  rw [hgt, List.append_nil] at s3
  have hlow : low (slOf l) (lenOf l s) = tot (M.filter fun x => decide (x.2 < lenOf l s)) := by
    unfold low
    have hnR : R.filter (fun x => decide (x.2 < lenOf l s)) = [] := List.filter_eq_nil_iff.2 fun x hx => by have := hB x hx; simp; omega
    rw [esl, List.filter_append, List.filter_cons_of_neg (by simp), hnR, List.append_nil]
  have hrow : rowOf (slOf l) (lenOf l s) = (M.filter fun x => decide (x.2 = lenOf l s)).map (·.1) ++ s :: (R.filter fun x => decide (x.2 = lenOf l s)).map (·.1) := by
    unfold rowOf
    rw [esl, List.filter_append, List.filter_cons_of_pos (by simp), List.map_append, List.map_cons]
  have htot : tot M = low (slOf l) (lenOf l s) + (M.filter fun x => decide (x.2 = lenOf l s)).length * pw (lenOf l s) := by
    conv => lhs; rw [s3]
    rw [tot_append, hlow, tot_same (l := M.filter fun x => decide (x.2 = lenOf l s)) (n := lenOf l s) fun x hx => by have := (List.mem_filter.1 hx).2; simpa using this]
  have hpp := pw_pos (lenOf l s)
  refine ⟨m, r, e, by omega, by omega, ?_, ?_, ?_, ?_, ?_, ?_⟩
  · rw [codes_at hl e, hM]
  · rw [hM]; exact tot_dvd hA
  · rw [hM, esl, tot_append, tot_cons]; dsimp only; omega
  · rw [hM, htot, Nat.add_sub_cancel_left, Nat.mul_div_cancel _ hpp, hrow, List.getD_eq_getElem?_getD]
    have e9 : (M.filter fun x => decide (x.2 = lenOf l s)).length = ((M.filter fun x => decide (x.2 = lenOf l s)).map (·.1)).length := by rw [List.length_map]
    rw [e9, List.getElem?_append_right (Nat.le_refl _), Nat.sub_self]
    rfl
  · rw [hM, htot]; omega
  · rw [hM, low_succ, htot, hrow, List.length_append, List.length_map, List.length_cons, List.length_map, Nat.add_mul, Nat.add_mul]
    generalize (M.filter fun x => decide (x.2 = lenOf l s)).length * pw (lenOf l s) = q
    generalize (R.filter fun x => decide (x.2 = lenOf l s)).length * pw (lenOf l s) = q2
    omega
end Go.Proofs.YtoppjcmkhhkbmaaGreat

namespace Go.Proofs.YtoppjcmkhhkbmaaGreat
open Cd

theorem filter_down (p : Nat → Bool) : ∀ n, (∀ i j, i ≤ j → j < n → p j = true → p i = true) → ∃ j, j ≤ n ∧ ((List.range n).filter p).length = j ∧ ∀ i, i < n → (p i = true ↔ i < j)
  | 0, _ => ⟨0, Nat.le_refl _, rfl, fun i h => absurd h (Nat.not_lt_zero _)⟩
  | n + 1, h => by
    obtain ⟨j, h1, h2, h3⟩ := filter_down p n fun i j a b => h i j a (by omega)
    by_cases hp : p n = true
    · have h4 : ∀ i, i < n + 1 → (p i = true ↔ i < n + 1) := fun i hi => ⟨fun _ => hi, fun _ => h i n (by omega) (by omega) hp⟩
      exact ⟨n + 1, Nat.le_refl _, filter_pre p (n + 1) (n + 1) (Nat.le_refl _) h4, h4⟩
    · have h4 : ∀ i, i < n + 1 → (p i = true ↔ i < j) := fun i hi => by
        rcases Nat.lt_or_ge i n with h5 | h5
        · exact h3 i h5
        · have : i = n := by omega
          subst this
          exact ⟨fun h => absurd h hp, fun h => by omega⟩
      exact ⟨j, by omega, filter_pre p j (n + 1) (by omega) h4, h4⟩
theorem lsN_sym {n : Int} (h1 : 3 ≤ n) : LSym n (lsN n : Nat) := by
  obtain ⟨j, hj, he, hp⟩ := filter_down (fun j => decide (lbase (257 + ((j + 1 : Nat) : Int)) ≤ n)) 28 fun i j a b h => by
    have := lbase_mono ⟨i + 1, by omega⟩ ⟨j + 1, by omega⟩ (by simp; omega)
    simp only at this
    have := of_decide_eq_true h
    exact decide_eq_true (by omega)
  unfold lsN
  rw [he]
  refine ⟨by omega, by omega, ?_, ?_⟩
  · cases j with
    | zero => rw [show ((257 + 0 : Nat) : Int) = 257 by rfl, lbase_257]; exact h1
    | succ j =>
      have := of_decide_eq_true ((hp j (by omega)).2 (by omega))
      rw [show ((257 + (j + 1) : Nat) : Int) = 257 + ((j + 1 : Nat) : Int) by omega]
      exact this
  · by_cases h : j = 28
    · left; omega
    · right
      have hnj := mt (hp j (by omega)).1 (Nat.lt_irrefl j)
      rw [show ((257 + j : Nat) : Int) + 1 = 257 + ((j + 1 : Nat) : Int) by omega]
      rcases Int.lt_or_le n (lbase (257 + ((j + 1 : Nat) : Int))) with h3 | h3
      · exact h3
      · exact absurd (decide_eq_true h3) hnj
theorem dsN_sym {n : Int} (h1 : 1 ≤ n) : DSym n (dsN n : Nat) := by
  obtain ⟨j, hj, he, hp⟩ := filter_down (fun j => decide (dbase ((j + 1 : Nat) : Int) ≤ n)) 29 fun i j a b h => by
    have := dbase_mono ⟨i + 1, by omega⟩ ⟨j + 1, by omega⟩ (by simp; omega)
    simp only at this
    have := of_decide_eq_true h
    exact decide_eq_true (by omega)
  unfold dsN
  rw [he]
  refine ⟨by omega, by omega, ?_, ?_⟩
  · cases j with
    | zero => rw [show ((0 : Nat) : Int) = 0 by rfl, dbase_0]; exact h1
    | succ j => exact of_decide_eq_true ((hp j (by omega)).2 (by omega))
  · by_cases h : j = 29
    · left; omega
    · right
      have hnj := mt (hp j (by omega)).1 (Nat.lt_irrefl j)
      rw [show ((j : Nat) : Int) + 1 = ((j + 1 : Nat) : Int) by omega]
      rcases Int.lt_or_le n (dbase ((j + 1 : Nat) : Int)) with h3 | h3
      · exact h3
      · exact absurd (decide_eq_true h3) hnj
theorem lext_bd : ∀ j : Fin 29, 0 ≤ lextra (257 + (j.val : Int)) ∧ lextra (257 + (j.val : Int)) ≤ 5 ∧ (j.val < 28 → lbase (257 + ((j.val + 1 : Nat) : Int)) ≤ lbase (257 + (j.val : Int)) + 2 ^ (lextra (257 + (j.val : Int))).toNat) := by decide +kernel
theorem dext_bd : ∀ j : Fin 30, 0 ≤ dextra (j.val : Int) ∧ dextra (j.val : Int) ≤ 13 ∧ (j.val < 29 → dbase ((j.val + 1 : Nat) : Int) ≤ dbase (j.val : Int) + 2 ^ (dextra (j.val : Int)).toNat) := by decide +kernel
/-- what is left of a length, of a distance -/
theorem lrest {n : Int} (h1 : 3 ≤ n) (h2 : n ≤ 258) : 0 ≤ n - lbase (lsN n : Nat) ∧ n - lbase (lsN n : Nat) < 2 ^ (lextra (lsN n : Nat)).toNat ∧ 0 ≤ lextra (lsN n : Nat) ∧ lextra (lsN n : Nat) ≤ 5 := by
  obtain ⟨a1, a2, a3, a4⟩ := lsN_sym h1
  generalize lsN n = s at *
  obtain ⟨j, rfl⟩ : ∃ j, s = 257 + j := ⟨s - 257, by omega⟩
  have hj := lext_bd ⟨j, by omega⟩
  simp only at hj
  rw [show ((257 + j : Nat) : Int) = 257 + (j : Int) by omega] at *
  refine ⟨by omega, ?_, hj.1, hj.2.1⟩
  rcases a4 with a4 | a4
  · have : j = 28 := by omega
    subst this
    have : lbase (257 + ((28 : Nat) : Int)) = 258 := by decide
    have h3 : lextra (257 + ((28 : Nat) : Int)) = 0 := by decide
    rw [this, h3] at *
    simp
    omega
  · by_cases h : j = 28
    · subst h
      have : lbase (257 + ((28 : Nat) : Int)) = 258 := by decide
      have h3 : lextra (257 + ((28 : Nat) : Int)) = 0 := by decide
      rw [this, h3] at *
      simp
      omega
    · have := hj.2.2 (by omega)
      rw [show (257 : Int) + (j : Int) + 1 = 257 + ((j + 1 : Nat) : Int) by omega] at a4
      omega
theorem drest {n : Int} (h1 : 1 ≤ n) (h2 : n ≤ 32768) : 0 ≤ n - dbase (dsN n : Nat) ∧ n - dbase (dsN n : Nat) < 2 ^ (dextra (dsN n : Nat)).toNat ∧ 0 ≤ dextra (dsN n : Nat) ∧ dextra (dsN n : Nat) ≤ 13 := by
  obtain ⟨a1, a2, a3, a4⟩ := dsN_sym h1
  generalize dsN n = j at *
  have hj := dext_bd ⟨j, by omega⟩
  simp only at hj
  refine ⟨by omega, ?_, hj.1, hj.2.1⟩
  by_cases h : j = 29
  · subst h
    have : dbase ((29 : Nat) : Int) = 24577 := by decide
    have h3 : dextra ((29 : Nat) : Int) = 13 := by decide
    rw [this, h3]
    have : (2 : Int) ^ (13 : Int).toNat = 8192 := by decide
    rw [this]
    omega
  · rcases a4 with a4 | a4
    · omega
    · have := hj.2.2 (by omega)
      rw [show (j : Int) + 1 = ((j + 1 : Nat) : Int) by omega] at a4
      omega
/-- a token's bits -/
def tokB (L D : List Int) (t : Int × Int) : List Int :=
  if t.1 = 0 then cdB L t.2.toNat else cdB L (lsN t.1) ++ (dgS false (t.1 - lbase (lsN t.1 : Nat)) (lextra (lsN t.1 : Nat)).toNat ++ (cdB D (dsN t.2) ++ dgS false (t.2 - dbase (dsN t.2 : Nat)) (dextra (dsN t.2 : Nat)).toNat))
def toksB (L D : List Int) (l : List (Int × Int)) : List Int := l.flatMap (tokB L D) ++ cdB L 256
/-- its symbols have codes -/
def hasT (L D : List Int) (t : Int × Int) : Prop := if t.1 = 0 then 0 < L.getD t.2.toNat 0 else 0 < L.getD (lsN t.1) 0 ∧ 0 < D.getD (dsN t.2) 0
theorem getD_in {l : List Int} {s : Nat} (h : 0 < l.getD s 0) : s < l.length := by
  rcases Nat.lt_or_ge s l.length with h1 | h1
  · exact h1
  · rw [List.getD_eq_getElem?_getD, List.getElem?_eq_none h1] at h
    exact absurd h (by decide)
/-- bytes -/
def bytB (text : List Int) : List Int := text.flatMap fun c => dgS false c 8
theorem bytB_len (text : List Int) : (bytB text).length = 8 * text.length := by
  unfold bytB
  induction text with
  | nil => rfl
  | cons c l ih => rw [List.flatMap_cons, List.length_append, ih, dgS_len, List.length_cons]; omega
def padB (k : Nat) : List Int := List.replicate ((8 - k % 8) % 8) 0
def stB (k : Nat) (text : List Int) : List Int := padB k ++ (dgS false text.length 16 ++ (dgS false (65535 - text.length) 16 ++ bytB text))
/-- runs -/
def runB (O : List Int) (r : Int × Int) : List Int := cdB O r.1.toNat ++ dgS false r.2 (rb r.1).toNat
end Go.Proofs.YtoppjcmkhhkbmaaGreat

namespace Go.Proofs.YtoppjcmkhhkbmaaGreat
open Go.RowKit

def ordI : List Int := [16, 17, 18, 0, 8, 7, 9, 6, 10, 5, 11, 4, 12, 3, 13, 2, 14, 1, 15]
theorem order10_any (W : World) : Calls Tryz.prog 123 #[] W fun e w' => ∃ g, e = .returned (.slice (some ⟨g, 0, none⟩) 19 19) ∧ W.heap.size ≤ g ∧ Blk w' g 3 (intsV ordI).toArray ∧ Below W.heap.size W w' := by
  go_enter Tryz.func123, Tryz.ntmps123
  go_wp2_with fail
  go_ret
  exact ⟨W.heap.size, rfl, Nat.le_refl _, Blk.new _ _ _, (Below.refl _ _).alloc (Nat.le_refl _) _⟩
/-- a row of ints in a block -/
theorem blkI_at {w : World} {g : Nat} {l : List Int} (h : Blk w g 3 (intsV l).toArray) {s : Nat} (hs : s < l.length) : w.cell? ⟨g, s, none⟩ = some (.int .i64 (l.getD s 0)) := by
  rw [h.cell s, List.getElem?_toArray, intsV, List.getElem?_map, List.getD_eq_getElem?_getD, List.getElem?_eq_getElem hs]
  rfl
theorem blkI_set {w : World} {g : Nat} {l : List Int} (h : Blk w g 3 (intsV l).toArray) (s : Nat) (x : Int) : Blk (w.setCell ⟨g, s, none⟩ (.int .i64 x)) g 3 (intsV (l.set s x)).toArray := by
  have := h.set_ s (.int .i64 x)
  have e : (intsV l).toArray.setIfInBounds s (Value.int .i64 x) = (intsV (l.set s x)).toArray := by simp [intsV, List.map_set]
  rw [e] at this
  exact this
theorem blkI_rd {w : World} {g : Nat} {l : List Int} {t : TypeId} (h : Blk w g t (intsV l).toArray) : RdI w w.heap.size (some ⟨g, 0, none⟩) l := by
  refine ⟨by rw [intsV_eq, intsV_length, Nat.mul_one], fun _ => ⟨g, 0, rfl, h.lt, fun j u hu => ?_⟩⟩
  rw [Nat.zero_add, h.cell j, List.getElem?_toArray]
  rw [intsV_eq] at hu
  exact hu
set_option maxRecDepth 100000 in
set_option maxHeartbeats 4000000 in
theorem trim10_any (A : Option Addr) (c k : Nat) (l : List Int) (W : World) (h : RdI W W.heap.size A l) (hm : l.length ≤ 1000) (hk : k ≤ 1000) (hcl : l.length ≤ c) :
    Calls Tryz.prog 120 #[.slice A l.length c, .int .i64 (k : Int)] W fun e w' => e = .returned (.slice A (trimM k l).length c) ∧ W = w' := by
  have H := hid h
  obtain ⟨n, hn⟩ : ∃ n, n = l.length := ⟨_, rfl⟩
  have Hn := hid hn
  rw [← hn] at hm hcl ⊢
  clear h hn
  go_enter Tryz.func120, Tryz.ntmps120
  go_wp2
  go_loop [0] (fun v => ∃ j : Nat, v = .slice A j c ∧ j ≤ n ∧ trimN k l n = trimN k l j) (fun v => match v with | .slice _ j _ => j | _ => 0)
  case atStart => exact ⟨n, rfl, Nat.le_refl _, rfl⟩
  case round =>
    obtain ⟨j, rfl, hj, ht⟩ := hrel
    have Ht := hid ht
    clear ht
    have hend : trimN k l j = j → (trimM k l).length = j := fun e => by
      unfold trimM
      rw [List.length_take, ← Hn.out, Ht.out, e]
      omega
    have Hend := hid hend
    clear hend
    by_cases h1 : k < j
    · obtain ⟨b, off, hA, hbb, hc⟩ := int_at H.out (j := j - 1) (by rw [← Hn.out]; omega)
      subst hA
      have hg : l[j - 1]'(by rw [← Hn.out]; omega) = l.getD (j - 1) 0 := by rw [List.getD_eq_getElem?_getD, List.getElem?_eq_getElem (by rw [← Hn.out]; omega)]; rfl
      rw [hg] at hc
      have Hun := hid (show trimN k l j = if k < j ∧ l.getD (j - 1) 0 = 0 then trimN k l (j - 1) else j by
        obtain ⟨q, rfl⟩ : ∃ q, j = q + 1 := ⟨j - 1, by omega⟩
        rfl)
      clear hg
      generalize l.getD (j - 1) 0 = x at *
      by_cases hx : x = 0
      · subst hx
        have E := hid (Ht.out.trans (Hun.out.trans (if_pos ⟨h1, rfl⟩)))
        go_wp2
        go_round
        case rel => exact ⟨j - 1, rfl, by omega, E.out⟩
        case measure => simp; omega
      · have E := hid (Hend.out (Hun.out.trans (if_neg fun h => hx h.2)))
        go_wp2
        go_ret
        exact ⟨by rw [E.out]; rfl, rfl⟩
    · have E := hid (Hend.out (by
        cases j with
        | zero => rfl
        | succ q => unfold trimN; rw [if_neg (by omega)]))
      go_wp2
      go_ret
      exact ⟨by rw [E.out]; rfl, rfl⟩
/-- only one block turns -/
structure One (g : Nat) (w w' : World) : Prop where
  os : w'.os = w.os
  tape : w'.tape = w.tape
  output : w'.output = w.output
  size : w'.heap.size = w.heap.size
  same : ∀ k, k ≠ g → w'.heap[k]? = w.heap[k]?
theorem One.refl (g : Nat) (w : World) : One g w w := ⟨rfl, rfl, rfl, rfl, fun _ _ => rfl⟩
theorem One.set {g : Nat} {w w' : World} (h : One g w w') (i : Nat) (u : Value) : One g w (w'.setCell ⟨g, i, none⟩ u) :=
  have b := Below.setCell (B := g) (Below.refl g w') (p := ⟨g, i, none⟩) (Nat.le_refl g) u
  ⟨b.os.trans h.os, b.tape.trans h.tape, b.output.trans h.output, (World.size_setCell _ _ _).trans h.size, fun k hk => (Below.heap_setCell w' ⟨g, i, none⟩ u k hk).trans (h.same k hk)⟩
theorem One.low {g base : Nat} {w w' : World} (h : One g w w') (hg : base ≤ g) : Below base w w' := ⟨h.os, h.tape, h.output, Nat.le_of_eq h.size.symm, fun k hk => h.same k (by omega)⟩
theorem One.blk {g k : Nat} {w w' : World} {t : TypeId} {cs : Array Value} (h : One g w w') (hb : Blk w k t cs) (hk : k ≠ g) : Blk w' k t cs := (h.same k hk).trans hb
theorem used_step {l : List Int} {j : Nat} (hj : j < l.length) : usedN (l.take (j + 1)) = usedN (l.take j) + (if 0 < l[j] then 1 else 0) := by
  unfold usedN
  rw [List.take_succ_eq_append_getElem hj, List.filter_append, List.length_append]
  by_cases h : 0 < l[j]
  · rw [List.filter_cons_of_pos (by simpa using h), if_pos h]; rfl
  · rw [List.filter_cons_of_neg (by simpa using h), if_neg h]; rfl
def zerN (l : List Int) : Nat := (l.filter fun x => decide (x = 0)).length
theorem zer_used : ∀ {l : List Int}, (∀ x ∈ l, 0 ≤ x) → usedN l + zerN l = l.length
  | [], _ => rfl
  | x :: l, h => by
    have ih := zer_used (l := l) fun y hy => h y (List.mem_cons_of_mem _ hy)
    have hx := h x List.mem_cons_self
    unfold usedN zerN at *
    by_cases h0 : x = 0
    · rw [List.filter_cons_of_neg (by simp; omega), List.filter_cons_of_pos (by simpa using h0), List.length_cons, List.length_cons]
      omega
    · rw [List.filter_cons_of_pos (by simp; omega), List.filter_cons_of_neg (by simpa using h0), List.length_cons, List.length_cons]
      omega
theorem zer_cons (x : Int) (l : List Int) : zerN (x :: l) = zerN l + (if x = 0 then 1 else 0) := by
  unfold zerN
  by_cases h0 : x = 0
  · rw [List.filter_cons_of_pos (by simpa using h0), if_pos h0]; rfl
  · rw [List.filter_cons_of_neg (by simpa using h0), if_neg h0]; rfl
set_option maxRecDepth 100000 in
set_option maxHeartbeats 8000000 in
theorem two10_any (g c : Nat) (l : List Int) (W : World) (h : Blk W g 3 (intsV l).toArray) (h2 : 2 ≤ l.length) (hm : l.length ≤ 1000) (h0 : ∀ x ∈ l, 0 ≤ x) :
    Calls Tryz.prog 119 #[.slice (some ⟨g, 0, none⟩) l.length c] W fun e w' => e = .returned (.slice (some ⟨g, 0, none⟩) l.length c) ∧ Blk w' g 3 (intsV (twoM l)).toArray ∧ One g W w' := by
  have H := hid h
  have H0 := hid h0
  have Hz := hid (zer_used h0)
  obtain ⟨n, hn⟩ : ∃ n, n = l.length := ⟨_, rfl⟩
  have Hn := hid hn
  rw [← hn] at h2 hm ⊢
  clear h h0 hn
  go_enter Tryz.func119, Tryz.ntmps119
  go_wp2
  go_loop [3, 9] (fun u i => ∃ j k : Nat, j ≤ n ∧ k ≤ j ∧ i = .int .i64 (j : Int) ∧ u = .int .i64 (k : Int) ∧ usedN (l.take j) = k) (fun _ i => n - (intOf i).toNat)
  case atStart => exact ⟨0, 0, by omega, by omega, rfl, rfl, rfl⟩
  case round =>
    obtain ⟨j, k, hj, hkj, rfl, rfl, hu⟩ := hrel
    have Hu := hid hu
    clear hu
    by_cases hlt : j < n
    · have hjl : j < l.length := by rw [← Hn.out]; exact hlt
      have q0 := blkI_at H.out hjl
      have Hs := hid (used_step hjl)
      have e0 : l[j] = l.getD j 0 := by rw [List.getD_eq_getElem?_getD, List.getElem?_eq_getElem hjl]; rfl
      rw [e0] at Hs
      clear e0
      generalize l.getD j 0 = x at *
      by_cases hx : 0 < x
      · have E := hid (show usedN (l.take (j + 1)) = k + 1 by rw [Hs.out, Hu.out, if_pos hx])
        go_wp2
        go_round
        case rel => exact ⟨j + 1, k + 1, by omega, by omega, by go_num, by go_num, E.out⟩
        case measure => simp [intOf]; omega
      · have E := hid (show usedN (l.take (j + 1)) = k by rw [Hs.out, Hu.out, if_neg hx]; rfl)
        go_wp2
        go_round
        case rel => exact ⟨j + 1, k, by omega, by omega, by go_num, rfl, E.out⟩
        case measure => simp [intOf]; omega
    · have e : j = n := by omega
      subst e
      have hul : usedN l = k := by have := Hu.out; rw [Hn.out, List.take_length] at this; exact this
      have Hul := hid hul
      have Hz2 := hid (show 2 - k ≤ zerN l by have := Hz.out; have := Hn.out; omega)
      clear hul
      go_wp2
      go_loopw [3, 6] (fun u i wr => ∃ (p k2 : Nat) (P : List Int), p ≤ j ∧ i = .int .i64 (p : Int) ∧ u = .int .i64 (k2 : Int) ∧ Hid (k ≤ k2) ∧ Hid (P.length = p) ∧ Hid (twoM l = P ++ twoN (2 - k2) (l.drop p)) ∧ Hid (2 - k2 ≤ zerN (l.drop p)) ∧ Hid (Blk wr g 3 (intsV (P ++ l.drop p)).toArray) ∧ Hid (One g W wr)) (fun _ i _ => j - (intOf i).toNat)
      case atStart => exact ⟨0, k, [], by omega, rfl, rfl, hid (Nat.le_refl _), hid rfl, hid (by rw [List.nil_append, List.drop_zero, ← Hul.out]; rfl), Hz2, H, hid (One.refl _ _)⟩
      case round =>
        obtain ⟨p, k2, P, hp, rfl, rfl, Hk, HP, Ht, Hzz, B, O⟩ := hrel
        by_cases hgo : k2 < 2
        · have hpl : p < l.length := by
            rcases Nat.lt_or_ge p l.length with h | h
            · exact h
            · exfalso
              have := Hzz.out
              rw [List.drop_eq_nil_of_le h] at this
              simp [zerN] at this
              omega
          have hpj : p < j := by rw [Hn.out]; exact hpl
          have hd : l.drop p = l[p] :: l.drop (p + 1) := List.drop_eq_getElem_cons hpl
          have q0 := blkI_at B.out (s := p) (by rw [List.length_append, HP.out, List.length_drop]; omega)
          have eg : (P ++ l.drop p).getD p 0 = l[p] := by
            rw [List.getD_eq_getElem?_getD, List.getElem?_append_right (by rw [HP.out]; exact Nat.le_refl _), HP.out, Nat.sub_self, hd]
            rfl
          rw [eg] at q0
          have Hd := hid hd
          have hgw := B.out.lt
          have fz := fun o => B.out.frozen o
          obtain ⟨x, hx⟩ : ∃ x, x = l[p] := ⟨_, rfl⟩
          rw [← hx] at q0 Hd
          clear eg hd hx
          by_cases h0 : x = 0
          · subst h0
            have E := hid (show twoM l = (P ++ [1]) ++ twoN (2 - (k2 + 1)) (l.drop (p + 1)) by
              rw [Ht.out, Hd.out, twoN, if_neg (by omega), if_pos rfl, List.append_assoc, show 2 - k2 - 1 = 2 - (k2 + 1) by omega]
              rfl)
            have E2 := hid (show 2 - (k2 + 1) ≤ zerN (l.drop (p + 1)) by
              have := Hzz.out
              rw [Hd.out, zer_cons, if_pos rfl] at this
              omega)
            have hset := blkI_set B.out p 1
            have es : (P ++ l.drop p).set p 1 = (P ++ [1]) ++ l.drop (p + 1) := by
              rw [List.set_append, if_neg (by rw [HP.out]; omega), HP.out, Nat.sub_self, Hd.out, List.append_assoc]
              rfl
            rw [es] at hset
            have Hset := hid hset
            clear hset es
            go_wp2
            go_roundw
            case rel => exact ⟨p + 1, k2 + 1, P ++ [1], by omega, by go_num, by go_num, hid (by have := Hk.out; omega), hid (by rw [List.length_append, HP.out]; rfl), E, E2, Hset, hid (O.out.set p _)⟩
            case measure => simp [intOf]; omega
          · have E := hid (show twoM l = (P ++ [x]) ++ twoN (2 - k2) (l.drop (p + 1)) by
              rw [Ht.out, Hd.out, twoN, if_neg (by omega), if_neg h0, List.append_assoc]
              rfl)
            have E2 := hid (show 2 - k2 ≤ zerN (l.drop (p + 1)) by
              have := Hzz.out
              rw [Hd.out, zer_cons, if_neg h0] at this
              exact this)
            have E3 := hid (show P ++ l.drop p = (P ++ [x]) ++ l.drop (p + 1) by rw [Hd.out, List.append_assoc]; rfl)
            go_wp2
            go_roundw
            case rel => exact ⟨p + 1, k2, P ++ [x], by omega, by go_num, rfl, Hk, hid (by rw [List.length_append, HP.out]; rfl), E, E2, hid (by rw [← E3.out]; exact B.out), O⟩
            case measure => simp [intOf]; omega
        · have E := hid (show twoM l = P ++ l.drop p by rw [Ht.out, show 2 - k2 = 0 by omega, twoN_zero])
          go_wp2
          go_ret
          exact ⟨rfl, by rw [E.out]; exact B.out, O.out⟩
end Go.Proofs.YtoppjcmkhhkbmaaGreat

namespace Go.Proofs.YtoppjcmkhhkbmaaGreat
open Go.RowKit

/-- DistSymbol at any number -/
theorem dsym_some (n : Int) (w : World) : Calls Tryz.prog 101 #[.int .i64 n] w fun e w' => ∃ s ok, e = .returned (.tuple #[.int .i64 s, .bool ok]) ∧ w = w' := by
  by_cases h : n < 1 ∨ 32768 < n
  · exact (dsym_no n h w).mono fun e w' h => ⟨0, false, h.1, h.2⟩
  · exact (dsym_yes n (by omega) (by omega) w).mono fun e w' h => by
      obtain ⟨s, _, h1, h2⟩ := h
      exact ⟨s, true, h1, h2⟩
theorem lsym_at (n : Int) (h1 : 3 ≤ n) (h2 : n ≤ 258) (w : World) : Calls Tryz.prog 82 #[.int .i64 n] w fun e w' => e = .returned (.tuple #[.int .i64 (lsN n : Nat), .bool true]) ∧ w = w' :=
  (lsym_yes n h1 h2 w).mono fun e w' h => by
    obtain ⟨s, hs, h1, h2⟩ := h
    rw [lsN_of hs]
    exact ⟨h1, h2⟩
theorem dsym_at (n : Int) (h1 : 1 ≤ n) (h2 : n ≤ 32768) (w : World) : Calls Tryz.prog 101 #[.int .i64 n] w fun e w' => e = .returned (.tuple #[.int .i64 (dsN n : Nat), .bool true]) ∧ w = w' :=
  (dsym_yes n h1 h2 w).mono fun e w' h => by
    obtain ⟨s, hs, h1, h2⟩ := h
    rw [dsN_of hs]
    exact ⟨h1, h2⟩
theorem lbase_at (n : Int) (w : World) : Calls Tryz.prog 83 #[.int .i64 (lsN n : Nat)] w fun e w' => e = .returned (.tuple #[.int .i64 (lbase (lsN n : Nat)), .int .i64 (lextra (lsN n : Nat)), .bool true]) ∧ w = w' :=
  lbase_yes _ (by have := lsN_bd n; omega) (by have := lsN_bd n; omega) w
theorem dbase_at (n : Int) (w : World) : Calls Tryz.prog 84 #[.int .i64 (dsN n : Nat)] w fun e w' => e = .returned (.tuple #[.int .i64 (dbase (dsN n : Nat)), .int .i64 (dextra (dsN n : Nat)), .bool true]) ∧ w = w' :=
  dbase_yes _ (by omega) (by have := dsN_bd n; omega) w
/-- counts stay small -/
def cntB (c : List Int) (b : Int) : Prop := ∀ x ∈ c, 0 ≤ x ∧ x ≤ b
theorem cntB_at {c : List Int} {b : Int} (h : cntB c b) (hb : 0 ≤ b) (s : Nat) : 0 ≤ c.getD s 0 ∧ c.getD s 0 ≤ b := by
  rw [List.getD_eq_getElem?_getD]
  rcases Nat.lt_or_ge s c.length with h1 | h1
  · rw [List.getElem?_eq_getElem h1]; exact h _ (List.getElem_mem h1)
  · rw [List.getElem?_eq_none h1]; exact ⟨Int.le_refl 0, hb⟩
theorem cntB_inc {c : List Int} {b : Int} (h : cntB c b) (hb : 0 ≤ b) (s : Nat) : cntB (incL c s) (b + 1) := by
  intro x hx
  have h2 := cntB_at h hb s
  rcases List.mem_or_eq_of_mem_set hx with h1 | h1
  · have := h x h1; omega
  · omega
theorem cntB_more {c : List Int} {b d : Int} (h : cntB c b) (hd : b ≤ d) : cntB c d := fun x hx => by have := h x hx; omega
theorem cnt0_B : cntB cnt0.1 1 ∧ cntB cnt0.2 1 := by
  constructor
  · intro x hx
    rcases List.mem_or_eq_of_mem_set hx with h1 | h1
    · have := List.eq_of_mem_replicate h1; omega
    · omega
  · intro x hx
    have := List.eq_of_mem_replicate hx
    omega
theorem cntStep_B {c : List Int × List Int} {b : Int} (t : Int × Int) (hb : 0 ≤ b) (h1 : cntB c.1 b) (h2 : cntB c.2 b) : cntB (cntStep c t).1 (b + 1) ∧ cntB (cntStep c t).2 (b + 1) := by
  unfold cntStep
  split
  · exact ⟨cntB_inc h1 hb _, cntB_more h2 (by omega)⟩
  · exact ⟨cntB_inc h1 hb _, cntB_inc h2 hb _⟩
theorem cnt_B : ∀ (l : List (Int × Int)) (c : List Int × List Int) (b : Int), 0 ≤ b → cntB c.1 b → cntB c.2 b → cntB (l.foldl cntStep c).1 (b + l.length) ∧ cntB (l.foldl cntStep c).2 (b + l.length)
  | [], c, b, _, h1, h2 => ⟨cntB_more h1 (by simp), cntB_more h2 (by simp)⟩
  | t :: l, c, b, hb, h1, h2 => by
    obtain ⟨h3, h4⟩ := cntStep_B t hb h1 h2
    obtain ⟨h5, h6⟩ := cnt_B l _ (b + 1) (by omega) h3 h4
    exact ⟨cntB_more h5 (by rw [List.length_cons]; push_cast; omega), cntB_more h6 (by rw [List.length_cons]; push_cast; omega)⟩
theorem cntM_B (l : List (Int × Int)) : cntB (cntM l).1 (1 + l.length) ∧ cntB (cntM l).2 (1 + l.length) := cnt_B l cnt0 1 (by omega) cnt0_B.1 cnt0_B.2
theorem cntM_take {l : List (Int × Int)} {j : Nat} (hj : j < l.length) : cntM (l.take (j + 1)) = cntStep (cntM (l.take j)) l[j] := by
  unfold cntM
  rw [List.take_succ_eq_append_getElem hj, List.foldl_append]
  rfl
/-- the rows of counts in memory -/
def CntW (w : World) (g1 g2 : Nat) (c : List Int × List Int) : Prop := Blk w g1 3 (intsV c.1).toArray ∧ Blk w g2 3 (intsV c.2).toArray
theorem CntW.below {w w' : World} {g1 g2 : Nat} {c : List Int × List Int} (h : CntW w g1 g2 c) (hb : Below w.heap.size w w') : CntW w' g1 g2 c := ⟨h.1.below hb h.1.lt, h.2.below hb h.2.lt⟩
theorem CntW.set1 {w : World} {g1 g2 : Nat} {c d : List Int} (h : CntW w g1 g2 (c, d)) (hne : g1 ≠ g2) (s : Nat) (x : Int) : CntW (w.setCell ⟨g1, s, none⟩ (.int .i64 x)) g1 g2 (c.set s x, d) :=
  ⟨blkI_set h.1 s x, h.2.far (p := ⟨g1, s, none⟩) (fun e => hne e.symm) _⟩
theorem CntW.set2 {w : World} {g1 g2 : Nat} {c d : List Int} (h : CntW w g1 g2 (c, d)) (hne : g1 ≠ g2) (s : Nat) (x : Int) : CntW (w.setCell ⟨g2, s, none⟩ (.int .i64 x)) g1 g2 (c, d.set s x) :=
  ⟨h.1.far (p := ⟨g2, s, none⟩) hne _, blkI_set h.2 s x⟩
def CntEnd10 (l : List (Int × Int)) (W : World) (e : Ending) (w' : World) : Prop :=
  ∃ g1 g2, e = .returned (.tuple #[.slice (some ⟨g1, 0, none⟩) 286 286, .slice (some ⟨g2, 0, none⟩) 30 30]) ∧ W.heap.size ≤ g1 ∧ W.heap.size ≤ g2 ∧ g1 ≠ g2 ∧ CntW w' g1 g2 (cntM l) ∧ Below W.heap.size W w'
theorem zrow (n : Nat) : (intsV (List.replicate n 0)).toArray = Array.replicate n (Value.int .i64 0) := by unfold intsV; rw [List.map_replicate, List.toArray_replicate]
set_option maxRecDepth 100000 in
set_option maxHeartbeats 8000000 in
theorem count10_any (A : Option Addr) (c : Nat) (l : List (Int × Int)) (W : World) (hr : Rd W W.heap.size 2 A l.length (l.flatMap encTok)) (hm : l.length ≤ 1000000) (hg : ∀ t ∈ l, tgood t = true) :
    Calls Tryz.prog 80 #[.slice A l.length c] W (CntEnd10 l W) := by
  have Hr := hid hr
  have Hg := hid hg
  obtain ⟨i0, hi0, hz0, hz1, hz2⟩ := info_parts int_info
  obtain ⟨Z1, hZ1⟩ : ∃ Z, Z = Array.replicate 286 (Value.int .i64 0) := ⟨_, rfl⟩
  obtain ⟨Z2, hZ2⟩ : ∃ Z, Z = Array.replicate 30 (Value.int .i64 0) := ⟨_, rfl⟩
  have mk1 : ∀ w : World, (Instr.makeSlice 65 (.int .i64 286) (.int .i64 286)).run Tryz.prog w = .ok (.slice (some ⟨w.heap.size, 0, none⟩) 286 286) (w.alloc (.cells Z1 3)) := by
    intro w
    have h := run_make (P := Tryz.prog) w 65 3 i0 (.int .i64 0) Tryz.underlying65 hi0 hz0 .i64 .i64 286 286 (by omega) (by omega) (by rw [hz2]; omega) (by omega)
    rw [hz1, made_list _ _ rfl, List.toArray_replicate] at h
    rw [hZ1]
    exact h
  have mk2 : ∀ w : World, (Instr.makeSlice 65 (.int .i64 30) (.int .i64 30)).run Tryz.prog w = .ok (.slice (some ⟨w.heap.size, 0, none⟩) 30 30) (w.alloc (.cells Z2 3)) := by
    intro w
    have h := run_make (P := Tryz.prog) w 65 3 i0 (.int .i64 0) Tryz.underlying65 hi0 hz0 .i64 .i64 30 30 (by omega) (by omega) (by rw [hz2]; omega) (by omega)
    rw [hz1, made_list _ _ rfl, List.toArray_replicate] at h
    rw [hZ2]
    exact h
  have HZ1 := hid (hZ1.trans (zrow 286).symm)
  have HZ2 := hid (hZ2.trans (zrow 30).symm)
  clear hr hg hi0 hz0 hz1 hz2 hZ1 hZ2
  go_enter Tryz.func80, Tryz.ntmps80
  go_upto_region 1 with (fail)
  go_cut [4, 5] from 12 to 13 (fun u v wq => ∃ g1 g2, u = .slice (some ⟨g1, 0, none⟩) 286 286 ∧ v = .slice (some ⟨g2, 0, none⟩) 30 30 ∧ W.heap.size ≤ g1 ∧ W.heap.size ≤ g2 ∧ g1 ≠ g2 ∧ Blk wq g1 3 Z1 ∧ Blk wq g2 3 Z2 ∧ Below W.heap.size W wq)
  case first =>
    have two := fun (Y1 Y2 : Array Value) => show Blk ((W.alloc (.cells Y1 3)).alloc (.cells Y2 3)).drew W.heap.size 3 Y1 ∧ Blk ((W.alloc (.cells Y1 3)).alloc (.cells Y2 3)).drew (W.heap.size + 1) 3 Y2 ∧ Below W.heap.size W ((W.alloc (.cells Y1 3)).alloc (.cells Y2 3)).drew from by
      have h := Blk.new (W.alloc (.cells Y1 3)) 3 Y2
      rw [World.size_alloc] at h
      exact ⟨((Blk.new W _ _).alloc _).drew, h.drew, (((Below.refl _ _).alloc (Nat.le_refl _) _).alloc (by simp) _).drew⟩
    have Two := hid two
    clear two
    go_region
    · go_wp2
      go_meet
      exact ⟨W.heap.size, W.heap.size + 1, rfl, rfl, by omega, by omega, by omega, (Two.out Z1 Z2).1, (Two.out Z1 Z2).2.1, (Two.out Z1 Z2).2.2⟩
    · go_wp2
      go_meet
      exact ⟨W.heap.size + 1, W.heap.size, rfl, rfl, by omega, by omega, by omega, (Two.out Z2 Z1).2.1, (Two.out Z2 Z1).1, (Two.out Z2 Z1).2.2⟩
  case rest =>
    obtain ⟨g1, g2, rfl, rfl, hg1, hg2, hne, B1, B2, hb0⟩ := hcut
    rw [HZ1.out] at B1
    rw [HZ2.out] at B2
    have C0 := hid (show CntW wc g1 g2 (List.replicate 286 0, List.replicate 30 0) from ⟨B1, B2⟩)
    have hb0' := hid hb0
    have C1 := hid (C0.out.set1 hne 256 1)
    have hgw := B1.lt
    have fz := fun o => B1.frozen o
    have q0 := blkI_at B1 (s := 256) (by rw [List.length_replicate]; omega)
    have Hb1 := hid (hb0.setCell (p := ⟨g1, 256, none⟩) hg1 (.int .i64 1))
    clear B1 B2 C0 hb0 HZ1 HZ2 mk1 mk2
    go_upto_region 3 with (fail)
    clear q0 fz
    generalize wc.setCell ⟨g1, 256, none⟩ (.int .i64 1) = w0 at *
    go_wp2
    go_loopw [18] (fun i wr => ∃ j : Nat, j ≤ l.length ∧ i = .int .i64 (j : Int) ∧ Hid (CntW wr g1 g2 (cntM (l.take j))) ∧ Hid (Below W.heap.size W wr)) (fun i _ => l.length - (intOf i).toNat)
    case atStart => exact ⟨0, by omega, rfl, hid (by rw [List.take_zero]; exact C1.out), Hb1⟩
    case round =>
      obtain ⟨j, hj, rfl, C, hb⟩ := hrel
      by_cases hlt : j < l.length
      · obtain ⟨b, off, rfl, hbb, h0, h1⟩ := tok_at (Hr.out.below hb.out (Nat.le_refl _)) hlt
        have hgt := Hg.out _ (List.getElem_mem hlt)
        have hstep := cntM_take hlt
        have hbd := cntM_B (l.take j)
        rw [List.length_take, Nat.min_eq_left (Nat.le_of_lt hlt)] at hbd
        have hlen := cnt_len (l.take j)
        obtain ⟨t, htj⟩ : ∃ t, l[j] = t := ⟨_, rfl⟩
        rw [htj] at h0 h1 hgt hstep
        obtain ⟨c1, c2, hc⟩ : ∃ c1 c2, cntM (l.take j) = (c1, c2) := ⟨_, _, rfl⟩
        rw [hc] at C hstep hbd hlen
        obtain ⟨a, dd⟩ := t
        have htg := tgood_true.1 hgt
        simp only at h0 h1 htg hbd hlen
        have Hbd := hid hbd
        have Hlen := hid hlen
        have Hst := hid hstep
        have hsz := hb.out.size
        have Ca := hid (C.out.below ((Below.refl wr.heap.size wr).alloc (Nat.le_refl _) (.cells #[.int .i64 a, .int .i64 dd] 54)))
        have Hba := hid (hb.out.alloc hsz (.cells #[.int .i64 a, .int .i64 dd] 54))
        have Zb := hid (Blk.new wr 54 #[.int .i64 a, .int .i64 dd])
        have g1w := C.out.1.lt
        have g2w := C.out.2.lt
        clear hbd hlen hstep htj hgt hc
        go_upto_region 6 with (fail)
        generalize wr.alloc (.cells #[.int .i64 a, .int .i64 dd] 54) = wz at *
        clear C hb h0 h1
        generalize wr.heap.size = gz at *
        have z0 := Zb.out.cell 0
        have z1 := Zb.out.cell 1
        have z3 := Zb.out.lt
        simp only [List.getElem?_toArray, List.getElem?_cons_zero, List.getElem?_cons_succ] at z0 z1
        have hg1w := Ca.out.1.lt
        have hg2w := Ca.out.2.lt
        have fz1 := fun o => Ca.out.1.frozen o
        have fz2 := fun o => Ca.out.2.frozen o
        by_cases ha : a = 0
        · subst ha
          obtain ⟨s, rfl⟩ : ∃ s : Nat, dd = (s : Int) := ⟨dd.toNat, by omega⟩
          have hs : s ≤ 255 := by omega
          have q0 := blkI_at Ca.out.1 (s := s) (by rw [Hlen.out.1]; omega)
          have hq := cntB_at Hbd.out.1 (by omega) s
          obtain ⟨x, hx⟩ : ∃ x, x = c1.getD s 0 := ⟨_, rfl⟩
          rw [← hx] at q0 hq
          have E := hid (show cntM (l.take (j + 1)) = (c1.set s (x + 1), c2) by
            rw [Hst.out]
            show (if (0 : Int) = 0 then (incL c1 (s : Int).toNat, c2) else _) = _
            rw [if_pos rfl, Int.toNat_natCast, hx]
            rfl)
          have C2 := hid (Ca.out.set1 hne s (x + 1))
          have Hb2 := hid (Hba.out.setCell (p := ⟨g1, s, none⟩) hg1 (.int .i64 (x + 1)))
          have hxx : x + 1 ≤ 2000000 := by omega
          have hne2 : gz ≠ g1 := by omega
          clear hx htg
          go_wp2_with fail
          refine (lsym_no 0 (by omega) _).mono ?_
          rintro e w1 ⟨rfl, rfl⟩
          go_wp2_with fail
          refine (dsym_some _ _).mono ?_
          rintro e w1 ⟨s2, ok, rfl, rfl⟩
          go_wp2
          go_roundw
          case rel => exact ⟨j + 1, by omega, by go_num, hid (by rw [E.out]; exact C2.out), Hb2⟩
          case measure => simp [intOf]; omega
        · have hb3 : 3 ≤ a ∧ a ≤ 258 ∧ 1 ≤ dd ∧ dd ≤ 32768 := by omega
          obtain ⟨b1, b2, b3, b4⟩ := hb3
          have hls := lsN_bd a
          have hds := dsN_bd dd
          have hE := lsym_at a b1 b2
          have hD := dsym_at dd b3 b4
          have q0 := blkI_at Ca.out.1 (s := lsN a) (by rw [Hlen.out.1]; omega)
          have q1 := blkI_at Ca.out.2 (s := dsN dd) (by rw [Hlen.out.2]; omega)
          have hq := cntB_at Hbd.out.1 (by omega) (lsN a)
          have hq2 := cntB_at Hbd.out.2 (by omega) (dsN dd)
          have hst : cntM (l.take (j + 1)) = (c1.set (lsN a) (c1.getD (lsN a) 0 + 1), c2.set (dsN dd) (c2.getD (dsN dd) 0 + 1)) := by
            rw [Hst.out]
            show (if a = 0 then _ else (incL c1 (lsN a), incL c2 (dsN dd))) = _
            rw [if_neg ha]
            rfl
          generalize lsN a = s at *
          generalize dsN dd = s2 at *
          generalize c1.getD s 0 = x at *
          generalize c2.getD s2 0 = y at *
          have E := hid hst
          have C2 := hid ((Ca.out.set1 hne s (x + 1)).set2 hne s2 (y + 1))
          have Hb2 := hid ((Hba.out.setCell (p := ⟨g1, s, none⟩) hg1 (.int .i64 (x + 1))).setCell (p := ⟨g2, s2, none⟩) hg2 (.int .i64 (y + 1)))
          have hxx : x + 1 ≤ 2000000 := by omega
          have hyy : y + 1 ≤ 2000000 := by omega
          have hne2 : gz ≠ g1 := by omega
          have hne3 : gz ≠ g2 := by omega
          have hne4 : g2 ≠ g1 := fun e => hne e.symm
          clear htg hst
          go_wp2_with fail
          refine (hE _).mono ?_
          rintro e w1 ⟨rfl, rfl⟩
          go_wp2_with fail
          refine (hD _).mono ?_
          rintro e w1 ⟨rfl, rfl⟩
          go_wp2
          go_roundw
          case rel => exact ⟨j + 1, by omega, by go_num, hid (by rw [E.out]; exact C2.out), Hb2⟩
          case measure => simp [intOf]; omega
      · have e : j = l.length := by omega
        subst e
        rw [List.take_length] at C
        go_wp2
        go_ret2
        exact ⟨g1, g2, rfl, hg1, hg2, hne, C.out, hb.out⟩
end Go.Proofs.YtoppjcmkhhkbmaaGreat

namespace Go.Proofs.YtoppjcmkhhkbmaaGreat
open Go.RowKit

/-- a plan in memory: its value, and what can be read -/
structure PlV where
  L : List Int
  LA : Option Addr
  Lc : Nat
  D : List Int
  DA : Option Addr
  Dc : Nat
  R : List (Int × Int)
  RA : Option Addr
  Rc : Nat
  O : List Int
  OA : Option Addr
  Oc : Nat
  h : Int
def PlV.cs (p : PlV) : Array Value := #[.slice p.LA p.L.length p.Lc, .slice p.DA p.D.length p.Dc, .slice p.RA p.R.length p.Rc, .slice p.OA p.O.length p.Oc, .int .i64 p.h]
structure PlOk (w : World) (p : PlV) : Prop where
  rl : RdI w w.heap.size p.LA p.L
  rd : RdI w w.heap.size p.DA p.D
  rr : Rd w w.heap.size 2 p.RA p.R.length (p.R.flatMap encTok)
  ro : RdI w w.heap.size p.OA p.O
theorem rd_up {w w' : World} {size n : Nat} {A : Option Addr} {xs : List Value} (h : Rd w w.heap.size size A n xs) (hb : Below w.heap.size w w') : Rd w' w'.heap.size size A n xs := (h.below hb (Nat.le_refl _)).more hb.size
theorem PlOk.below {w w' : World} {p : PlV} (h : PlOk w p) (hb : Below w.heap.size w w') : PlOk w' p := ⟨rd_up h.rl hb, rd_up h.rd hb, rd_up h.rr hb, rd_up h.ro hb⟩
theorem cell_up {w w' : World} {g o : Nat} {v : Value} (h : w.cell? ⟨g, o, none⟩ = some v) (hb : Below w.heap.size w w') (hg : g < w.heap.size) : w'.cell? ⟨g, o, none⟩ = some v := (Below.cell hb (p := ⟨g, o, none⟩) hg).trans h
theorem getD_at {l : List Int} {j : Nat} (hj : j < l.length) : l[j] = l.getD j 0 := by rw [List.getD_eq_getElem?_getD, List.getElem?_eq_getElem hj]; rfl
theorem ord_at : ∀ n : Fin 19, ordI.getD n.val 0 = ((ordT.getD n.val 0 : Nat) : Int) ∧ ordT.getD n.val 0 < 19 := by decide
set_option maxRecDepth 100000 in
set_option maxHeartbeats 8000000 in
theorem written10_any (a0 a1 a2 a4 : Value) (OA : Option Addr) (Oc : Nat) (O : List Int) (W : World) (h : RdI W W.heap.size OA O) (hO : O.length = 19) :
    Calls Tryz.prog 124 #[.agg #[a0, a1, a2, .slice OA 19 Oc, a4]] W fun e w' => e = .returned (.int .i64 (wrN O 19 : Nat)) ∧ Below W.heap.size W w' := by
  have Hb := hid ((Below.refl W.heap.size W).alloc (Nat.le_refl _) (.cells #[a0, a1, a2, .slice OA 19 Oc, a4] 100))
  have Hr := hid (rd_up h ((Below.refl W.heap.size W).alloc (Nat.le_refl _) (.cells #[a0, a1, a2, .slice OA 19 Oc, a4] 100)))
  have Z := hid (Blk.new W 100 #[a0, a1, a2, .slice OA 19 Oc, a4])
  clear h
  go_enter Tryz.func124, Tryz.ntmps124
  go_upto_region 1 with (fail)
  generalize W.alloc (.cells #[a0, a1, a2, .slice OA 19 Oc, a4] 100) = w0 at *
  have hs0 := Hb.out.size
  have hzl : W.heap.size < w0.heap.size := Z.out.lt
  go_wp2_with fail
  refine (order10_any _).mono ?_
  rintro e w1 ⟨g1, rfl, _, _, hb1⟩
  have Hb1 := hid hb1
  clear hb1
  go_wp2_with fail
  go_loopw [3] (fun v wr => ∃ n : Nat, v = .int .i64 (n : Int) ∧ n ≤ 19 ∧ wrN O 19 = wrN O n ∧ Hid (Below w0.heap.size w0 wr)) (fun v _ => (intOf v).toNat)
  case atStart => exact ⟨19, rfl, by omega, rfl, Hb1⟩
  case round =>
    obtain ⟨n, rfl, hn, hw, hb⟩ := hrel
    have Hw := hid hw
    clear hw
    by_cases h4 : 4 < n
    · obtain ⟨m, rfl⟩ : ∃ m, n = m + 1 := ⟨n - 1, by omega⟩
      have Zr := hid (Z.out.below hb.out Z.out.lt)
      have z3 := Zr.out.cell 3
      simp only [List.getElem?_toArray, List.getElem?_cons_zero, List.getElem?_cons_succ] at z3
      have hzr := Zr.out.lt
      have Rr := hid (rd_up Hr.out hb.out)
      have hm3 : 3 < m := by omega
      have h4i : (4 : Int) < (m : Int) + 1 := by omega
      have d4 : decide (4 < m + 1) = true := decide_eq_true h4
      have d4i : decide ((4 : Int) < (m : Int) + 1) = true := decide_eq_true h4i
      have d3 : decide (3 < m) = true := decide_eq_true hm3
      obtain ⟨bo, oo, rfl, hbo, _⟩ := int_at Rr.out (j := 0) (by omega)
      obtain ⟨o, ho⟩ : ∃ o, o = ordT.getD m 0 := ⟨_, rfl⟩
      have hoo := ord_at ⟨m, by omega⟩
      simp only at hoo
      rw [← ho] at hoo
      obtain ⟨x, hx⟩ : ∃ x, x = O.getD o 0 := ⟨_, rfl⟩
      obtain ⟨bo2, oo2, hA2, _, p0⟩ := int_at Rr.out (j := o) (by omega)
      obtain ⟨rfl, rfl⟩ : bo = bo2 ∧ oo = oo2 := by simpa using hA2
      rw [getD_at, ← hx] at p0
      have Hun := hid (show wrN O (m + 1) = if x = 0 then wrN O m else m + 1 by
        rw [wrN, hx, ho]
        by_cases h0 : O.getD (ordT.getD m 0) 0 = 0
        · rw [if_pos ⟨h4, h0⟩, if_pos h0]
        · rw [if_neg (fun h => h0 h.2), if_neg h0])
      have hbow : bo < wr.heap.size := hbo
      have P0 := hid p0
      have Z3 := hid z3
      have ho2 := hoo.2
      have hO1 := hoo.1
      have hm19 : m < 19 := by omega
      clear hx ho hA2 hoo p0
      have hwr : IntKind.i64.wrap (m : Int) = (m : Int) := IntWalk.i64_in _ (by omega)
      go_upto_region 2 with (fail)
      go_cut [19] from 6 to 19 (fun v wq => v = .bool (x == 0) ∧ Hid (Below wr.heap.size wr wq))
      case first =>
        go_region_with (go_at_call 123; refine (order10_any _).mono ?_; rintro e w2 ⟨g, rfl, hg, hB, hb2⟩; have c1 := blkI_at hB (s := m) hm19; rw [hO1] at c1; have hb3 : Below wr.heap.size wr w2 := (Below.refl wr.heap.size wr).drew.trans hb2; have p1 := cell_up P0.out hb3 hbow; have z31 := cell_up Z3.out hb3 hzr; have gw2 := hb3.size; have gw3 := hB.lt; have Hb3 := hid hb3; clear hb2 hB hb3)
        all_goals
          go_wp2
          go_meet
          exact ⟨rfl, by first | assumption | (refine hid (Below.trans (Hid.out (by assumption)) (Below.refl _ _).drew))⟩
      case rest =>
        obtain ⟨rfl, hbq⟩ := hcut
        have Hbq := hid (hb.out.trans (hbq.out.mono hb.out.size))
        by_cases hx0 : x = 0
        · subst hx0
          have E := hid (Hw.out.trans (Hun.out.trans (if_pos rfl)))
          go_wp2
          go_roundw
          case rel => exact ⟨m, by go_num, by omega, E.out, Hbq⟩
          case measure => simp [intOf]
        · have E := hid (Hw.out.trans (Hun.out.trans (if_neg hx0)))
          have hx1 : (x == 0) = false := beq_eq_false_iff_ne.2 hx0
          go_wp2
          go_ret
          exact ⟨by rw [E.out]; rfl, Hb.out.trans (Hbq.out.mono hs0)⟩
    · have h4i : ¬ (4 : Int) < (n : Int) := by omega
      have d4 : decide (4 < n) = false := decide_eq_false h4
      have d4i : decide ((4 : Int) < (n : Int)) = false := decide_eq_false h4i
      have e : wrN O n = n := by
        cases n with
        | zero => rfl
        | succ q => unfold wrN; rw [if_neg (by omega)]
      have E := hid (Hw.out.trans e)
      clear e
      go_upto_region 2 with (fail)
      go_quiet (fail)
      go_wp2
      go_ret
      exact ⟨by rw [E.out]; rfl, below_drewN (Hb.out.trans (hb.out.mono hs0)) nq⟩
end Go.Proofs.YtoppjcmkhhkbmaaGreat

namespace Go.Proofs.YtoppjcmkhhkbmaaGreat
open Go.RowKit

theorem len_bd {L : List Int} (h : ∀ x ∈ L, 0 ≤ x ∧ x ≤ 16) (s : Nat) : 0 ≤ L.getD s 0 ∧ L.getD s 0 ≤ 16 := cntB_at (b := 16) h (by omega) s
theorem tokBits_bd {L D : List Int} (h1 : ∀ x ∈ L, 0 ≤ x ∧ x ≤ 16) (h2 : ∀ x ∈ D, 0 ≤ x ∧ x ≤ 16) {t : Int × Int} (hg : tgood t = true) : 0 ≤ tokBits L D t ∧ tokBits L D t ≤ 50 := by
  unfold tokBits
  split
  · have := len_bd h1 t.2.toNat; omega
  · next h =>
    have hb : 3 ≤ t.1 ∧ t.1 ≤ 258 ∧ 1 ≤ t.2 ∧ t.2 ≤ 32768 := by rcases tgood_true.1 hg with h | h <;> omega
    have := lrest hb.1 hb.2.1
    have := drest hb.2.2.1 hb.2.2.2
    have := len_bd h1 (lsN t.1)
    have := len_bd h2 (dsN t.2)
    omega
end Go.Proofs.YtoppjcmkhhkbmaaGreat

namespace Go.Proofs.YtoppjcmkhhkbmaaGreat
open Go.RowKit

/-- a slice value's parts -/
abbrev Sl := Option Addr × Nat × Nat
def slv (s : Sl) : Value := .slice s.1 s.2.1 s.2.2

theorem cat_infoI : (Tryz.prog.info? 3).map (fun i => (i.zero, i.size, i.bytes)) = some (some (.int .i64 0), 1, 8) := by kernel_rfl

/-- what slices.Grow of nil hands back: an empty row, with room -/
def GrownI (W : World) (e : Ending) (w' : World) : Prop := ∃ A c, e = .returned (.slice A 0 c) ∧ w'.ownsRow W.heap.size 3 1 (.slice A 0 c) 0 [] ∧ Below W.heap.size W w'
set_option maxRecDepth 100000 in
set_option maxHeartbeats 1000000 in
theorem growI_any (n : Nat) (hn : n * 8 ≤ 140737488355328) (W : World) : Calls Tryz.prog 155 #[.slice none 0 0, .int .i64 n] W (GrownI W) := by
  by_cases h0 : n = 0
  · subst h0
    go_enter Tryz.func155, Tryz.ntmps155
    go_wp2
    go_ret
    exact ⟨none, 0, rfl, World.ownsRow_nil _ _ _ _, Below.refl _ _⟩
  · obtain ⟨i0, hi0, hz0, hz1, hz2⟩ := info_parts cat_infoI
    have hr := fun ty => Lib.run_append_nil_zeros (P := Tryz.prog) W 65 3 ty 3 i0 (.int .i64 0) .i64 .i64 Tryz.underlying65 Tryz.underlying3 hi0 hz0 n (by omega) (by rw [hz1]; omega) (by omega) (by rw [hz2]; omega)
    have hge := grownCap_ge W n 0 3
    have hle : grownCap W n 0 3 ≤ 9223372036854775807 := by
      have := grownCap_le_maxLen W n 0 3 (by unfold maxLen; omega)
      unfold maxLen at this
      exact this
    generalize grownCap W n 0 3 = C at *
    obtain ⟨cs, hcs⟩ : ∃ cs : Array Value, cs = Builtin.zeroCells (Value.cells (.int .i64 0)) n ++ Builtin.zeroCells (Value.cells (.int .i64 0)) (C - n) := ⟨_, rfl⟩
    rw [← hcs] at hr
    have hsz : cs.size = C * 1 := by
      rw [hcs]
      simp only [Array.size_append, size_zeroCells, Value.cells]
      simp
      try omega
    have Hr := hid hr
    have Hsz := hid hsz
    have hpos : (0 : Int) < n := by omega
    clear hr hi0 hz0 hz1 hz2 hcs hsz h0
    go_enter Tryz.func155, Tryz.ntmps155
    go_wp2_with (at_builtin; refine Lib.wpList_append_run _ rfl _ _ _ _ rfl _ _ rfl rfl _ _ (Hr.out _) ?_)
    go_ret
    refine ⟨some ⟨W.heap.size, 0, none⟩, C, rfl, ⟨rfl, .inr ⟨W.heap.size, C, cs, rfl, Nat.le_refl _, (Blk.new W.drew 3 cs), Nat.zero_le _, by unfold maxLen; exact hle, Hsz.out, by simp⟩⟩, ?_⟩
    exact ((Below.refl _ _).drew).alloc (by simp) _

/-- slices in a list of slices: what cells they hold -/
def PartsCI (w : World) (B gl : Nat) (R : List Sl) (P : List (List Value)) : Prop :=
  Blk w gl 65 (R.map slv).toArray ∧ R.length = P.length ∧ ∀ (k : Nat) (s : Sl) (l : List Value), R[k]? = some s → P[k]? = some l → Rd w B 1 s.1 s.2.1 l ∧ ∀ u ∈ l, u.oneCell' = true
theorem partsCI_at {w : World} {B gl k : Nat} {R : List Sl} {P : List (List Value)} (h : PartsCI w B gl R P) (hk : k < R.length) :
    ∃ (A : Option Addr) (n c : Nat) (l : List Value), P[k]? = some l ∧ w.cell? ⟨gl, k, none⟩ = some (.slice A n c) ∧ Rd w B 1 A n l ∧ ∀ u ∈ l, u.oneCell' = true := by
  obtain ⟨h1, h2, h3⟩ := h
  have e1 : R[k]? = some R[k] := List.getElem?_eq_getElem hk
  have e2 : P[k]? = some (P[k]'(by omega)) := List.getElem?_eq_getElem _
  obtain ⟨h5, h6⟩ := h3 k _ _ e1 e2
  generalize R[k] = s at *
  obtain ⟨A, n, c⟩ := s
  refine ⟨A, n, c, _, e2, ?_, h5, h6⟩
  rw [h1.cell k, List.getElem?_toArray, List.getElem?_map, e1]
  rfl
theorem flatCI_take (P : List (List Value)) (k : Nat) (l : List Value) (h : P[k]? = some l) : (P.take (k + 1)).flatten = (P.take k).flatten ++ l := by
  obtain ⟨hk, rfl⟩ := List.getElem?_eq_some_iff.1 h
  rw [List.take_succ_eq_append_getElem hk, List.flatten_append]
  simp
theorem flatCI_le (P : List (List Value)) (k : Nat) : (P.take k).flatten.length ≤ P.flatten.length := by
  conv => rhs; rw [← List.take_append_drop k P]
  rw [List.flatten_append, List.length_append]
  omega

theorem rdCI_nil {w : World} {B n : Nat} {A : Option Addr} {xs : List Value} (h : Rd w B 1 A n xs) (hA : A = none) : n = 0 := by
  rcases Nat.eq_zero_or_pos n with h0 | h0
  · exact h0
  · obtain ⟨b, off, hA', _⟩ := h.at_ (k := 0) h0 (by omega)
    rw [hA] at hA'; cases hA'
/-- what slices.Concat hands back -/
def CattedI (n : Nat) (xs : List Value) (W : World) (e : Ending) (w' : World) : Prop :=
  ∃ A c, e = .returned (.slice A n c) ∧ w'.ownsRow W.heap.size 3 1 (.slice A n c) n xs ∧ Below W.heap.size W w'
set_option maxRecDepth 100000 in
set_option maxHeartbeats 2000000 in
theorem concatI_any (gl mc N : Nat) (R : List Sl) (P : List (List Value)) (W : World) (hp : PartsCI W W.heap.size gl R P) (hn : R.length ≤ 1000000) (hN : P.flatten.length = N * 1) (hm : N * 8 ≤ 70368744177664) :
    Calls Tryz.prog 122 #[.slice (some ⟨gl, 0, none⟩) R.length mc] W (CattedI N P.flatten W) := by
  obtain ⟨i0, hi0, hz0, hz1, hz2⟩ := info_parts cat_infoI
  have Hi0 := hid hi0
  have Hz0 := hid hz0
  have Hz1 := hid hz1
  have Hz2 := hid hz2
  have Hp := hid hp
  have HN := hid hN
  have hm2 : N ≤ 70368744177664 := by omega
  clear hi0 hz0 hz1 hz2 hp hN
  go_enter Tryz.func122, Tryz.ntmps122
  go_wp2
  go_loop [3, 11] (fun a i => ∃ k q : Nat, k ≤ R.length ∧ i = .int .i64 k ∧ a = .int .i64 q ∧ (P.take k).flatten.length = q * 1) (fun _ i => R.length - (intOf i).toNat)
  case atStart => exact ⟨0, 0, by omega, rfl, rfl, by simp⟩
  case round =>
    obtain ⟨k, q, hk, rfl, rfl, hq⟩ := hrel
    have Hq := hid hq
    have hqN : q ≤ N := by
      have h1 := flatCI_le P k
      rw [hq, HN.out] at h1
      omega
    clear hq
    by_cases hlt : k < R.length
    · obtain ⟨A, n, c, l, hP, q0, hr, _⟩ := partsCI_at Hp.out hlt
      have Hfl := hid (flatCI_take P k l hP)
      have Hl : Hid (l.length = n * 1) := hr.1
      have hqn : q + n ≤ N := by
        have h1 := flatCI_le P (k + 1)
        rw [Hfl.out, List.length_append, Hq.out, Hl.out, HN.out] at h1
        omega
      clear hP hr
      go_wp2
      go_round
      case rel => exact ⟨k + 1, q + n, by omega, by go_num, by go_num, by rw [Hfl.out, List.length_append, Hq.out, Hl.out]; omega⟩
      case measure => simp [intOf]; omega
    · have e : k = R.length := by omega
      subst e
      have hqe : q = N := by
        have h1 := Hq.out
        rw [Hp.out.2.1, List.take_length, HN.out] at h1
        omega
      subst hqe
      go_wp2_with fail
      refine (growI_any q (by omega) _).mono ?_
      rintro e w1 ⟨A1, c1, rfl, hown1, hb1⟩
      have Hown1 := hid hown1
      have Hb1 := hid hb1
      clear hown1 hb1
      go_wp2_with fail
      go_loopw [6, 27] (fun ov i wr => ∃ (k n : Nat) (A' : Option Addr) (c' : Nat), k ≤ R.length ∧ i = .int .i64 k ∧ ov = .slice A' n c' ∧ wr.ownsRow W.heap.size 3 1 (.slice A' n c') n (P.take k).flatten ∧ Below W.heap.size W wr) (fun _ i _ => R.length - (intOf i).toNat)
      case atStart => exact ⟨0, 0, A1, c1, by omega, rfl, rfl, by simpa using Hown1.out, Hb1.out⟩
      case round =>
        obtain ⟨k, n, A', c', hk, rfl, rfl, hown, hb⟩ := hrel
        have Hown := hid hown
        have Hb := hid hb
        have hsz := hb.size
        clear hown hb
        by_cases hlt2 : k < R.length
        · obtain ⟨A, m, c, l, hP, q0, hr, hone⟩ := partsCI_at Hp.out hlt2
          have q1 := Hb.out.cell (p := ⟨gl, k, none⟩) Hp.out.1.lt
          rw [q0] at q1
          have Hfl := hid (flatCI_take P k l hP)
          have Hl : Hid (l.length = m * 1) := hr.1
          have hqn : n + m ≤ q := by
            have h1 := flatCI_le P (k + 1)
            have h2 := Hown.out.1
            rw [Hfl.out, List.length_append, Hl.out, HN.out] at h1
            omega
          have Hr := hid (hr.below Hb.out (Nat.le_refl _))
          have Hnil := hid (fun (h : A = none) => rdCI_nil hr h)
          have Hone := hid hone
          clear hP hr hone q0
          go_wp2_with (at_builtin; refine wpList_app _ rfl _ _ _ rfl W.heap.size 3 i0 (.int .i64 0) 1 8 Tryz.underlying65 Hi0.out Hz0.out Hz1.out Hz2.out rfl (by omega) A' n c' _ rfl Hown.out _ A m c l rfl Hr.out Hnil.out Hone.out (by simp only [maxLen]; omega) (by omega) hsz ?_; rintro A4 c4 w4 ⟨hown4, hgr4, hb4, _⟩)
          go_roundw
          case rel => exact ⟨k + 1, n + m, A4, c4, by omega, by go_num, rfl, by rw [Hfl.out]; exact hown4, Hb.out.trans hb4⟩
          case measure => simp [intOf]; omega
        · have e2 : k = R.length := by omega
          subst e2
          have ht : (P.take R.length).flatten = P.flatten := by rw [Hp.out.2.1, List.take_length]
          have hne : n = q := by
            have h1 := Hown.out.1
            rw [ht, HN.out] at h1
            omega
          subst hne
          have Ht := hid ht
          clear ht
          go_wp2
          go_ret
          exact ⟨A', c', rfl, by have := Hown.out; rwa [Ht.out] at this, Hb.out⟩

end Go.Proofs.YtoppjcmkhhkbmaaGreat
