/-
  One symbol more that never stands, plain: the lengths of a JPEG's codes.
-/
import Derived.Test.YtlekobompjehdaaMgT
import Derived.Test.YtlekobompjehdaaCost5
namespace Go.Proofs.Ytlekobompjehdaa
open Mg

def extra (l : List Int) : List It := ⟨0, [l.length]⟩ :: itemsOf l
theorem extra_pos {l : List Int} {x : It} (h : x ∈ itemsOf l) : 0 < x.w := by
  obtain ⟨s, _, h0, rfl⟩ := items_mem l _ x ((isort_perm (itemsTo l l.length)).mem_iff.1 h)
  exact h0
theorem extra_gl (l : List Int) : GL (extra l) := by
  have h := items_gl l
  refine ⟨List.pairwise_cons.2 ⟨fun x hx => .inl (extra_pos hx), h.sorted⟩, fun x hx => ?_, fun x hx => ?_, ?_⟩
  · rcases List.mem_cons.1 hx with rfl | hx
    · rfl
    · exact h.single x hx
  · rcases List.mem_cons.1 hx with rfl | hx
    · exact Int.le_refl _
    · exact h.nonneg x hx
  · show (sy (⟨0, [l.length]⟩ :: itemsOf l)).Nodup
    have e : sy (⟨0, [l.length]⟩ :: itemsOf l) = l.length :: sy (itemsOf l) := by simp [sy]
    rw [e]
    exact List.nodup_cons.2 ⟨fun hm => by have := ((itemsOf_sy l _).1 hm).1; omega, h.nodup⟩
theorem extra_sy (l : List Int) (s : Nat) : s ∈ sy (extra l) ↔ s = l.length ∨ s ∈ sy (itemsOf l) := by
  have e : sy (extra l) = l.length :: sy (itemsOf l) := by simp [sy, extra]
  rw [e, List.mem_cons]
theorem extra_len (l : List Int) : (extra l).length = (itemsOf l).length + 1 := rfl
theorem extra_in {l : List Int} {m : Int} (hg : goodc l m = true) (hl : l.length ≤ 256) : BestIn (extra l) (l.length + 1) 15 := by
  have hm := itemsOf_le l
  refine ⟨extra_gl l, by rw [extra_len]; omega, by rw [extra_len]; show _ ≤ 65536; omega, by omega, by omega, ?_, fun s hs => ?_⟩
  · have h1 := ws_le (b := 1099511627776) (extra l) (fun x hx => by
      rcases List.mem_cons.1 hx with rfl | hx
      · show (0 : Int) ≤ _
        omega
      · obtain ⟨s, h1, _, rfl⟩ := items_mem l _ x ((isort_perm (itemsTo l l.length)).mem_iff.1 hx)
        exact (good_at hg h1).2)
    rw [extra_len] at h1
    omega
  · rcases (extra_sy l s).1 hs with rfl | hs
    · omega
    · have := ((itemsOf_sy l s).1 hs).1
      omega
theorem sOf_extra (l : List Int) (i : Nat) : sOf (extra l) (i + 1) = sOf (itemsOf l) i := by
  unfold sOf extra
  rw [List.getD_cons_succ]
theorem sOf_extra0 (l : List Int) : sOf (extra l) 0 = l.length := rfl
theorem wt_extra (l : List Int) (i : Nat) : wt (extra l) (i + 1) = wt (itemsOf l) i := by
  unfold wt extra
  rw [List.getD_cons_succ]
/-- the length of a symbol of codes -/
def codeL (l : List Int) (s : Nat) : Nat := bestAt (extra l) 15 s
theorem codeL_at {l : List Int} {m : Int} (hg : goodc l m = true) (hl : l.length ≤ 256) {s : Nat} (hs : s < l.length) : codeL l s ≤ 16 ∧ (codeL l s = 0 ↔ ¬ 0 < l.getD s 0) := by
  have hb := extra_in hg hl
  have hgl := extra_gl l
  unfold codeL
  by_cases h : 0 < l.getD s 0
  · have hm := (itemsOf_sy l s).2 ⟨hs, h⟩
    have h2 : 2 ≤ (extra l).length := by
      have : 0 < (itemsOf l).length := by
        apply Decidable.byContradiction
        intro hn
        rw [List.eq_nil_of_length_eq_zero (by omega : (itemsOf l).length = 0)] at hm
        simp [sy] at hm
      rw [extra_len]
      omega
    obtain ⟨cs, L⟩ := best_levels hgl h2 hb.wide
    obtain ⟨i, hi, he, _⟩ := sOf_ex hgl ((extra_sy l s).2 (.inr hm))
    have e := L.at_ i hi
    rw [he] at e
    have := L.each i hi
    omega
  · have hm : s ∉ sy (extra l) := fun hm => by
      rcases (extra_sy l s).1 hm with e | hm
      · omega
      · exact h ((itemsOf_sy l s).1 hm).2
    have := best_none hgl hm hb.wide
    omega
theorem codeL_some {l : List Int} {m : Int} (hg : goodc l m = true) (hl : l.length ≤ 256) (g : Nat → Nat) : SN l.length (fun s => if 1 ≤ codeL l s ∧ codeL l s ≤ 16 then g s else 0) = SN l.length (fun s => if 0 < l.getD s 0 then g s else 0) := SN_congr fun s hs => by
  have := codeL_at hg hl hs
  by_cases h : 0 < l.getD s 0
  · rw [if_pos h, if_pos (by omega)]
  · rw [if_neg h, if_neg (by omega)]
/-- as many codes as symbols that stand -/
theorem code_count {l : List Int} {m : Int} (hg : goodc l m = true) (hl : l.length ≤ 256) : (syTo (codeL l) l.length 16).length = (itemsOf l).length := by
  have h1 := syTo_sum (codeL l) l.length (fun _ => 1) 16
  rw [codeL_some hg hl, sum_of l (fun _ => 1)] at h1
  have e1 : ((syTo (codeL l) l.length 16).map fun _ => 1).sum = (syTo (codeL l) l.length 16).length := by
    rw [List.map_const', List.sum_replicate_nat, Nat.mul_one]
  rw [e1, SN_const, Nat.mul_one] at h1
  exact h1
theorem tk_sum : ∀ (zs : List Nat), (∀ z ∈ zs, 1 ≤ z ∧ z ≤ 16) → SN zs.length (tk (ints zs)) = (zs.map fun z => 2 ^ (16 - z)).sum := by
  intro zs hz
  have key : ∀ j, j ≤ zs.length → SN j (tk (ints zs)) = ((zs.take j).map fun z => 2 ^ (16 - z)).sum := by
    intro j
    induction j with
    | zero => intro _; rfl
    | succ j ih =>
      intro hj
      rw [List.take_succ_eq_append_getElem (by omega), List.map_append, List.sum_append, ← ih (by omega)]
      simp only [SN]
      congr 1
      unfold tk
      have e : (ints zs).getD j 0 = ((zs[j]'(by omega) : Nat) : Int) := by
        rw [List.getD_eq_getElem?_getD]
        simp [ints, show j < zs.length by omega]
      have := hz _ (List.getElem_mem (show j < zs.length by omega))
      rw [e, if_pos (by omega)]
      simp
  have := key zs.length (Nat.le_refl _)
  rwa [List.take_length] at this
/-- the codes leave some room -/
theorem code_free {l : List Int} {m : Int} (hg : goodc l m = true) (hl : l.length ≤ 256) : SN (szTo (codeL l) l.length 16).length (tk (ints (szTo (codeL l) l.length 16))) < 65536 := by
  rw [tk_sum _ (szTo_sorted _ _ 16).2, ← szTo_map, List.map_map]
  have h1 := syTo_sum (codeL l) l.length (fun s => 2 ^ (16 - codeL l s)) 16
  rw [codeL_some hg hl, sum_of l (fun s => 2 ^ (16 - codeL l s))] at h1
  have e : ((syTo (codeL l) l.length 16).map ((fun z => 2 ^ (16 - z)) ∘ codeL l)).sum = ((syTo (codeL l) l.length 16).map fun s => 2 ^ (16 - codeL l s)).sum := rfl
  rw [e, h1]
  by_cases h2 : 2 ≤ (extra l).length
  · obtain ⟨cs, L⟩ := best_levels (K := 15) (extra_gl l) h2 (extra_in hg hl).wide
    have hk := L.kraft
    rw [extra_len, SN_cons] at hk
    have e2 : SN (itemsOf l).length (fun i => 2 ^ (15 + 1 - ln cs (i + 1))) = SN (itemsOf l).length (fun i => 2 ^ (16 - codeL l (sOf (itemsOf l) i))) := SN_congr fun i hi => by
      have := L.at_ (i + 1) (by rw [extra_len]; omega)
      rw [sOf_extra] at this
      unfold codeL
      rw [this]
    rw [e2] at hk
    have : 0 < 2 ^ (15 + 1 - ln cs 0) := pow_pos2 _
    have e3 : (2 : Nat) ^ (15 + 1) = 65536 := rfl
    omega
  · rw [extra_len] at h2
    have : (itemsOf l).length = 0 := by omega
    rw [this]
    simp [SN]
/-- and cost what Best says, of one symbol more that costs nothing -/
theorem code_cost {l : List Int} {m : Int} (hg : goodc l m = true) (hl : l.length ≤ 256) (h1 : 1 ≤ (itemsOf l).length) : ((syTo (codeL l) l.length 16).map fun s => l.getD s 0 * (codeL l s : Int)).sum = bestFn (dsc (itemsOf l) ++ [0]) 16 := by
  have e0 : dsc (itemsOf l) ++ [0] = dsc (extra l) := by simp [dsc, extra]
  have h2 : 2 ≤ (extra l).length := by rw [extra_len]; omega
  obtain ⟨cs, L⟩ := best_levels (K := 15) (extra_gl l) h2 (extra_in hg hl).wide
  rw [e0, best_fn (K := 15) (extra_gl l) h2 L, syTo_isum]
  have e1 : SZ l.length (fun s => if 1 ≤ codeL l s ∧ codeL l s ≤ 16 then l.getD s 0 * (codeL l s : Int) else 0) = SZ l.length (fun s => if 0 < l.getD s 0 then l.getD s 0 * (codeL l s : Int) else 0) := SZ_congr fun s hs => by
    have := codeL_at hg hl hs
    by_cases h : 0 < l.getD s 0
    · rw [if_pos h, if_pos (by omega)]
    · rw [if_neg h, if_neg (by omega)]
  have e2 : SZ l.length (fun s => if 0 < l.getD s 0 then l.getD s 0 * (codeL l s : Int) else 0) = SZ (itemsOf l).length (fun i => wt (itemsOf l) i * (codeL l (sOf (itemsOf l) i) : Int)) := by
    rw [← items_wsum l (fun s => (codeL l s : Int)), ← w_single (l := itemsOf l) (fun s => (codeL l s : Int))]
    exact (isum_perm ((isort_perm (itemsTo l l.length)).map _)).symm
  rw [e1, e2, extra_len, SZ_cons]
  have e3 : SZ (itemsOf l).length (fun i => wt (extra l) (i + 1) * (ln cs (i + 1) : Int)) = SZ (itemsOf l).length (fun i => wt (itemsOf l) i * (codeL l (sOf (itemsOf l) i) : Int)) := SZ_congr fun i hi => by
    have := L.at_ (i + 1) (by rw [extra_len]; omega)
    rw [sOf_extra] at this
    unfold codeL
    rw [this, wt_extra]
  rw [e3]
  have e4 : wt (extra l) 0 = 0 := rfl
  rw [e4, Int.zero_mul, Int.zero_add]
theorem syTo_sub (L : Nat → Nat) (N : Nat) {n m : Nat} (h : n ≤ m) : (syTo L N n).length ≤ (syTo L N m).length := syTo_mono L N h
/-- the codes are in form -/
theorem code_in {l : List Int} {m : Int} (hg : goodc l m = true) (hl : l.length ≤ 256) : CodeIn (syTo (codeL l) l.length 16) (szTo (codeL l) l.length 16) (fun k => (grp (codeL l) (k + 1) l.length).length) (fun n => (syTo (codeL l) l.length n).length) (syTo (codeL l) l.length 16).length := by
  refine ⟨rfl, fun n _ => syTo_len _ _ _, rfl, fun n hn => syTo_mono _ _ hn, rfl, szTo_len _ _ _, fun n k hn hk h => szTo_at _ _ hn hk h, fun s hs => ?_, syTo_nodup _ _ _, (szTo_sorted _ _ 16).1, (szTo_sorted _ _ 16).2, ?_, fun n _ => Nat.le_trans (grp_len _ _ _) hl⟩
  · have := ((syTo_mem 16).1 hs).1
    omega
  · rw [code_count hg hl]
    have := itemsOf_le l
    omega
end Go.Proofs.Ytlekobompjehdaa
