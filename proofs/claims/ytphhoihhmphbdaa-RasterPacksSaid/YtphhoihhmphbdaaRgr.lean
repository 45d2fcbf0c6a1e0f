/-
  A drawn region of a round of a range over a function, whose turning operations have no order of their own.
-/
import Derived.Test.YtphhoihhmphbdaaRgs
namespace Go.Proofs.Ytphhoihhmphbdaa
open Go.RowKit

section
variable {P : Program}
theorem set_round {lp n id : Nat} {Q : Exit → Act → World → Prop} {a : Act} {w : World} {L : List Oper} {S : Type} (ms : List Nat) (val : S → Nat → Value) (wd : S → World) (R : List Bool → S → Prop) (dep : Nat → List Nat) (af : S → Act) (x0 : S) (hm : P.follows .mixedOrders = true) (hok : okR2 L none2 none2 none2 = true) (hdep : depS L dep = true)
    (hlow : lowB L = true) (hms : (ms.all fun k => decide (k < L.length)) = true) (h0 : wd x0 = w.drew) (hR0 : R (ms.map fun _ => false) x0) (haf : ∀ x, actOf L (val x) (fun _ => true) a L.length = af x)
    (hy : ∀ s x, R (ms.map s) x → AllY (fun i o => StepS P val wd (fun s => R (ms.map s)) dep L.length s x (ms.contains i) i o (af x).eval) 0 L) (hQ : ∀ x, R (ms.map fun _ => true) x → Q .normal (af x) (wd x)) :
    (Code.region id L.toArray true).wpIn (Fence.wide.inRound lp) n P Q a w := by
  have ok := okR2_of hok
  refine wpIn_region_any hm ?_
  obtain ⟨e1, e2⟩ := none_listed L none2 (val x0) a
  have hms2 : ∀ k, ms.contains k = true → k < L.length := fun k hk => of_decide_eq_true (List.all_eq_true.1 hms k (List.contains_iff_mem.1 hk))
  have h := set_core (P := P) (mem := fun k => ms.contains k) (val := val) (wd := wd) (R := fun s => R (ms.map s)) (dep := dep) (Q := Q) (a := a) (fun i K a w => wpOpIn (Fence.wide.inRound lp) n P L.toArray Q i K a w)
    (fun i o a w w' v K ho hy hK => wpOpIn_yl ho (ok.guard o (List.mem_of_getElem? ho)) (ok.defer o (List.mem_of_getElem? ho)) hy hK)
    (fun i o a w G K ho hy hK => wpOpIn_turn ho (ok.guard o (List.mem_of_getElem? ho)) (ok.defer o (List.mem_of_getElem? ho)) hy hK) ok hdep
    (fun s s' x he hR => by
      have : ms.map s = ms.map s' := List.map_congr_left fun k hk => he k (List.contains_iff_mem.2 hk)
      rw [← this]; exact hR)
    (fun s x hR i o ho => by
      have h := allY_at L 0 (hy s x hR) i o ho
      rw [Nat.zero_add] at h
      rw [haf]
      exact h) (fun x hR => by rw [haf]; exact hQ x hR) hms2 (ready_all hlow) (fun fuel listed a w => wpAnyIn (Fence.wide.inRound lp) n P .any L.toArray Q fuel listed a w) (fun _ _ _ h1 h2 => ⟨h1, h2⟩) (fun _ _ _ _ h1 h2 => ⟨h1, h2⟩)
    L.toArray.size (Array.replicate L.toArray.size false) x0 (inv_none L none2) (by
      have hz : ms.map (fun k => (Array.replicate L.toArray.size false).getD k false) = ms.map (fun _ => false) := List.map_congr_left fun k hk => by
        have := hms2 k (List.contains_iff_mem.2 hk)
        simp [this]
      show R _ x0
      rw [hz]; exact hR0) (fun ⟨i, hi, _⟩ => by simp; omega) (by simp)
  rw [e1, h0] at h
  exact h
end
end Go.Proofs.Ytphhoihhmphbdaa
