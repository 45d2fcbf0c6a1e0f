/-
  wish.Runes as a range's contract.
-/
import Derived.Test.YtfcppchjikmioaaGreatWpH
import Derived.Test.YtfcppchjikmioaaGreatRnd
namespace Go.Proofs.YtfcppchjikmioaaGreat
open Go.RowKit Go.Shelf Go.Lib

theorem runes_any (s : ByteArray) (W : World) : Calls Tryz.prog 31 #[.string s] W fun e w' => e = .returned (.func (.func 57) #[] #[.pointer (some ⟨W.heap.size, 0, none⟩)]) ∧ w' = W.alloc (.cells #[.string s] 9) := by
  go_enter Tryz.func31, Tryz.ntmps31
  go_wp2
  go_ret
  exact ⟨rfl, rfl⟩
def encR (x : Nat × Int) : Array Value := #[.int .i64 (x.1 : Int), .int .i32 x.2]
theorem runes_stops (n : Nat) (hn : 1 ≤ n) (Bs : Nat) (s : ByteArray) (L : List Int) (hL : L = rnL s) (hLm : L.length ≤ 1000000) (w : World) (hB : Bs < w.heap.size) (hBs : w.cell? ⟨Bs, 0, none⟩ = some (.string s)) :
    SeqStopsK Fence.wide n Tryz.prog 57 #[.pointer (some ⟨Bs, 0, none⟩)] encR (KpS Bs) (fun ys => ys = upR L L.length) (fun pre => ∃ k, k ≤ L.length ∧ pre = upR L k) L.length w :=
  fun l J Jx W hb hJ _ hY h0 => runes1_in n hn l Bs s L hL hLm J Jx W hJ (by have := hb.size; omega) hY ((hb.cell (p := ⟨Bs, 0, none⟩) hB).trans hBs) h0
theorem kps_t {Bs : Nat} {A B C : World} (h : KpS Bs A B) (k : KpS Bs B C) : KpS Bs A C := ⟨h.1.trans k.1, k.2.trans h.2⟩
theorem kps_b {Bs : Nat} {w : World} (hB : Bs < w.heap.size) (W : World) (l : Nat) (o o' : Obj) (hl : w.heap.size ≤ l) (h : W.heap[l]? = some o) (_ : o.isCells = false) (hw : o.isWalk = false) : KpS Bs W (W.putObj l o') :=
  ⟨KeepsWalks.putObj _ h hw, World.putObj_heap_other (by omega)⟩
theorem Blk.other {w w' : World} {g : Nat} {t : TypeId} {cs : Array Value} {row : Option Nat} (h : Blk w g t cs) (hg : w.grownBy w' row) (hr : ∀ r, row = some r → ∃ o : Obj, w.heap[r]? = some o ∧ o.isCells = false) : Blk w' g t cs :=
  h.grown hg (fun e => by
    obtain ⟨o, ho, hc⟩ := hr g e.symm
    unfold Blk at h
    rw [h] at ho
    injection ho with ho
    rw [← ho] at hc
    cases hc)
theorem own_other {w w' : World} {base n size : Nat} {e : TypeId} {v : Value} {xs : List Value} {row : Option Nat} (h : w.ownsRow base e size v n xs) (hg : w.grownBy w' row) (hr : ∀ r, row = some r → ∃ o : Obj, w.heap[r]? = some o ∧ o.isCells = false) : w'.ownsRow base e size v n xs := by
  refine ⟨h.1, ?_⟩
  rcases h.2 with hn | ⟨g, cap, cur, rfl, hb, hh, rest⟩
  · exact .inl hn
  · refine .inr ⟨g, cap, cur, rfl, hb, ?_, rest⟩
    have hlt := (Array.getElem?_eq_some_iff.1 hh).1
    refine (hg.block g hlt (fun e => ?_)).trans hh
    obtain ⟨o, ho, hc⟩ := hr g e.symm
    rw [hh] at ho
    injection ho with ho
    rw [← ho] at hc
    cases hc
theorem below_other {W0 w w' : World} {B : Nat} {row : Option Nat} (h : Below B W0 w) (hg : w.grownBy w' row) (hB : B ≤ w.heap.size) (hr : ∀ r, row = some r → B ≤ r) : Below B W0 w' := h.trans ((Below.refl B w).grown hg hB (fun k hk => hr k hk))
theorem keeps_own {w w' : World} {base n size : Nat} {e : TypeId} {v : Value} {xs : List Value} (h : w.ownsRow base e size v n xs) (hg : w.grownBy w' v.ownBlock) : KeepsOthers w w' :=
  ⟨hg.size, fun k o hk hc => (hg.block k (Array.getElem?_eq_some_iff.1 hk).1 (fun e => by
    rcases h.2 with ⟨rfl, _⟩ | ⟨g, cap, cur, rfl, _, hh, _⟩
    · simp [Value.ownBlock] at e
    · have : k = g := by simpa [Value.ownBlock] using e
      subst this
      rw [hk] at hh
      injection hh with hh
      rw [hh] at hc
      cases hc)).trans hk⟩
theorem keeps_walks {w w' : World} (h : KeepsOthers w w') : KeepsWalks w w' := ⟨h.size, fun k o hk hw => h.same k o hk (Obj.not_cells_of_walk hw)⟩
/-- the returns of a function that ranges over a function -/
theorem marks_end {n : Nat} {P : Program} {fn : Func} {R : Ending → World → Prop} {tmps : Array Value} {W : World} {D : Nat} (hK : W.heap[D]? = some (.deferred (some []))) (h : ∃ v, (results fn tmps).run P (W.putObj D (.deferred none)) = .ok v (W.putObj D (.deferred none)) ∧ R (.returned v) (W.putObj D (.deferred none))) :
    LeavesInM Fence.wide n P fn tmps R [{ target := .collected D, args := #[] }] .returning W :=
  ⟨by simp, .inl ⟨_, _, rfl, run_takeDeferred hK, h⟩⟩
end Go.Proofs.YtfcppchjikmioaaGreat
