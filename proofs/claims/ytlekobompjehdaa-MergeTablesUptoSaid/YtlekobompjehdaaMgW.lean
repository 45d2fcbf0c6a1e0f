/-
  merge.Table of counts in form.
-/
import Derived.Test.YtlekobompjehdaaMgU
namespace Go.Proofs.Ytlekobompjehdaa
open Go.RowKit Mg

theorem byte_info : (Try.prog.info? 5).map (fun i => (i.zero, i.size, i.bytes)) = some (some (.int .u8 0), 1, 1) := by kernel_rfl
/-- how many codes of each length, so far -/
def cntF (L : Nat → Nat) (N n j k : Nat) : Nat := if k < n then (grp L (k + 1) N).length else if k = n then (grp L (n + 1) j).length else 0
theorem cntF_step (L : Nat → Nat) (N n : Nat) : cntF L N n N = cntF L N (n + 1) 0 := by
  funext k
  unfold cntF
  by_cases h : k < n
  · rw [if_pos h, if_pos (by omega)]
  · rw [if_neg h]
    by_cases h2 : k = n
    · subst h2
      rw [if_pos rfl, if_pos (by omega)]
    · rw [if_neg h2, if_neg (by omega)]
      by_cases h3 : k = n + 1
      · rw [if_pos h3]
        rfl
      · rw [if_neg h3]
theorem cntF_yes {L : Nat → Nat} {N n j : Nat} (h : L j = n + 1) : cntF L N n (j + 1) n = cntF L N n j n + 1 ∧ ∀ k, k ≠ n → cntF L N n (j + 1) k = cntF L N n j k := by
  unfold cntF
  refine ⟨?_, fun k hk => ?_⟩
  · rw [if_neg (by omega), if_pos rfl, if_neg (by omega), if_pos rfl, grp_succ, if_pos h, List.length_append]
    rfl
  · rw [if_neg hk, if_neg hk]
theorem cntF_no {L : Nat → Nat} {N n j : Nat} (h : L j ≠ n + 1) : cntF L N n (j + 1) = cntF L N n j := by
  funext k
  unfold cntF
  rw [grp_succ, if_neg h, List.append_nil]
theorem cntF_le (L : Nat → Nat) (N n j k : Nat) (hj : j ≤ N) : cntF L N n j k ≤ N := by
  unfold cntF
  split
  · exact grp_len _ _ _
  · split
    · exact Nat.le_trans (grp_len _ _ _) hj
    · omega
/-- the memory while codes are gathered -/
structure MT (w W : World) (L : Nat → Nat) (N N1 n j g gb : Nat) (A2 : Option Addr) (c2 : Nat) (ls : List Int) (A3 : Option Addr) (M3 c3 : Nat) : Prop where
  box : Blk w gb 43 (codesC (cntF L N n j) A3 M3 c3)
  num : M3 = (syTo L N n ++ grp L (n + 1) j).length
  syms : w.ownsRow W.heap.size 5 1 (.slice A3 M3 c3) M3 (bytesV (ints (syTo L N n ++ grp L (n + 1) j)))
  res : Blk w g 43 zeroC
  old : Below W.heap.size W w
  lens : w.ownsRow W.heap.size 3 1 (.slice A2 N1 c2) N1 (intsV ls)
  ne : g ≠ gb
theorem MT.step {w W : World} {L : Nat → Nat} {N N1 n g gb c2 M3 c3 : Nat} {A2 A3 : Option Addr} {ls : List Int} (h : MT w W L N N1 n N g gb A2 c2 ls A3 M3 c3) : MT w W L N N1 (n + 1) 0 g gb A2 c2 ls A3 M3 c3 := by
  have e : syTo L N n ++ grp L (n + 1) N = syTo L N (n + 1) ++ grp L (n + 1 + 1) 0 := by
    show _ = (syTo L N n ++ grp L (n + 1) N) ++ []
    rw [List.append_nil]
  exact ⟨by rw [← cntF_step]; exact h.box, by rw [← e]; exact h.num, by rw [← e]; exact h.syms, h.res, h.old, h.lens, h.ne⟩
theorem MT.no {w W : World} {L : Nat → Nat} {N N1 n j g gb c2 M3 c3 : Nat} {A2 A3 : Option Addr} {ls : List Int} (h : MT w W L N N1 n j g gb A2 c2 ls A3 M3 c3) (hj : L j ≠ n + 1) : MT w W L N N1 n (j + 1) g gb A2 c2 ls A3 M3 c3 := by
  have e : grp L (n + 1) (j + 1) = grp L (n + 1) j := by rw [grp_succ, if_neg hj, List.append_nil]
  exact ⟨by rw [cntF_no hj]; exact h.box, by rw [e]; exact h.num, by rw [e]; exact h.syms, h.res, h.old, h.lens, h.ne⟩
theorem MT.mid {w w1 w3 W : World} {L : Nat → Nat} {N N1 n j g gb c2 M3 c3 : Nat} {A2 A3 : Option Addr} {ls : List Int} {o : Obj} (h : MT w W L N N1 n j g gb A2 c2 ls A3 M3 c3) (hn : n < 16) (hj : L j = n + 1)
    (hw1 : w1 = (w.setCell ⟨gb, n, none⟩ (.int .i64 ((cntF L N n j n : Int) + 1))).alloc o) {A4 : Option Addr} {c4 : Nat} (ha : Apped w1 W.heap.size 5 1 A3 M3 c3 (bytesV (ints (syTo L N n ++ grp L (n + 1) j))) 1 [.int .u8 (j : Int)] A4 c4 w3) :
    Blk w3 gb 43 (codesC (cntF L N n (j + 1)) A3 M3 c3) := by
  have b1 : Blk w1 gb 43 (codesC (cntF L N n (j + 1)) A3 M3 c3) := by
    rw [hw1, ← codes_inc (cntF L N n j) A3 M3 c3 hn (cntF L N n (j + 1)) (cntF_yes hj).1 (cntF_yes hj).2]
    exact (h.box.set_ n _).alloc o
  have s1 : w1.ownsRow W.heap.size 5 1 (.slice A3 M3 c3) M3 (bytesV (ints (syTo L N n ++ grp L (n + 1) j))) := by
    rw [hw1]
    exact (ownsRow_setCell_other (a := ⟨gb, n, none⟩) h.syms (fun e => own_blk_ne h.syms h.box (by decide) e.symm) _).alloc o
  exact b1.grown ha.2.1 (own_blk_ne s1 b1 (by decide))
theorem MT.yes {w w1 w3 W : World} {L : Nat → Nat} {N N1 n j g gb c2 M3 c3 : Nat} {A2 A3 : Option Addr} {ls : List Int} {o : Obj} (h : MT w W L N N1 n j g gb A2 c2 ls A3 M3 c3) (hn : n < 16) (hj : L j = n + 1) (hg : W.heap.size ≤ gb)
    (hw1 : w1 = (w.setCell ⟨gb, n, none⟩ (.int .i64 ((cntF L N n j n : Int) + 1))).alloc o) {A4 : Option Addr} {c4 : Nat} (ha : Apped w1 W.heap.size 5 1 A3 M3 c3 (bytesV (ints (syTo L N n ++ grp L (n + 1) j))) 1 [.int .u8 (j : Int)] A4 c4 w3) :
    MT (w3.setCell ⟨gb, 16, none⟩ (.slice A4 (M3 + 1) c4)) W L N N1 n (j + 1) g gb A2 c2 ls A4 (M3 + 1) c4 := by
  have e : grp L (n + 1) (j + 1) = grp L (n + 1) j ++ [j] := by rw [grp_succ, if_pos hj]
  have e2 : syTo L N n ++ grp L (n + 1) (j + 1) = (syTo L N n ++ grp L (n + 1) j) ++ [j] := by rw [e, List.append_assoc]
  have b1 : Blk w1 gb 43 (codesC (cntF L N n (j + 1)) A3 M3 c3) := by
    rw [hw1, ← codes_inc (cntF L N n j) A3 M3 c3 hn (cntF L N n (j + 1)) (cntF_yes hj).1 (cntF_yes hj).2]
    exact (h.box.set_ n _).alloc o
  have s1 : w1.ownsRow W.heap.size 5 1 (.slice A3 M3 c3) M3 (bytesV (ints (syTo L N n ++ grp L (n + 1) j))) := by
    rw [hw1]
    exact (ownsRow_setCell_other (a := ⟨gb, n, none⟩) h.syms (fun e => own_blk_ne h.syms h.box (by decide) e.symm) _).alloc o
  have l1 : w1.ownsRow W.heap.size 3 1 (.slice A2 N1 c2) N1 (intsV ls) := by
    rw [hw1]
    exact (ownsRow_setCell_other (a := ⟨gb, n, none⟩) h.lens (fun e => own_blk_ne h.lens h.box (by decide) e.symm) _).alloc o
  have r1 : Blk w1 g 43 zeroC := by
    rw [hw1]
    exact (h.res.far (p := ⟨gb, n, none⟩) h.ne _).alloc o
  have o1 : Below W.heap.size W w1 := by
    rw [hw1]
    exact (h.old.setCell (p := ⟨gb, n, none⟩) hg _).alloc (by have := h.old.size; simpa [World.setCell] using this) o
  have b3 : Blk w3 gb 43 (codesC (cntF L N n (j + 1)) A3 M3 c3) := b1.grown ha.2.1 (own_blk_ne s1 b1 (by decide))
  have l3 := l1.kept ha.2.1 (own_two_ne l1 s1 (by decide))
  have r3 : Blk w3 g 43 zeroC := r1.grown ha.2.1 (own_blk_ne s1 r1 (by decide))
  have s3 := ha.1
  have es : bytesV (ints (syTo L N n ++ grp L (n + 1) (j + 1))) = bytesV (ints (syTo L N n ++ grp L (n + 1) j)) ++ [.int .u8 (j : Int)] := by
    rw [e2]
    simp [bytesV, ints]
  refine ⟨?_, ?_, ?_, r3.far (p := ⟨gb, 16, none⟩) h.ne _, (o1.trans ha.2.2.1).setCell (p := ⟨gb, 16, none⟩) hg _, ownsRow_setCell_other (a := ⟨gb, 16, none⟩) l3 (fun e => own_blk_ne l3 b3 (by decide) e.symm) _, h.ne⟩
  · rw [← codes_sl _ A3 A4 M3 c3 (M3 + 1) c4]
    exact b3.set_ 16 _
  · rw [e2, List.length_append, ← h.num]
    rfl
  · rw [es]
    exact ownsRow_setCell_other (a := ⟨gb, 16, none⟩) s3 (fun e => own_blk_ne s3 b3 (by decide) e.symm) _
theorem items_app {w W : World} {A A4 : Option Addr} {n c c4 : Nat} {X : List IR} {x0 : IR} {w4 : World} {A0 : Option Addr} (hI : IOwn w W A c X) (hx : SOwn w W.heap.size x0) (ha : Apped w W.heap.size 92 2 A0 1 n (encR x0) X.length (fl X) A4 c4 w4) (hrow : w.ownsRow W.heap.size 92 2 (.slice A0 1 n) 1 (encR x0)) : IOwn w4 W A4 c4 (x0 :: X) := by
  refine ⟨?_, fun y hy => ?_, hI.old.trans ha.2.2.1⟩
  · have h := ha.1
    unfold IRow
    have e : (x0 :: X).length = 1 + X.length := by rw [List.length_cons]; omega
    rw [e]
    exact h
  · rcases List.mem_cons.1 hy with rfl | hy
    · exact hx.rgrown hrow ha.2.1
    · exact (hI.sym y hy).rgrown hrow ha.2.1
theorem IOwn.base {w W W0 : World} {A : Option Addr} {c : Nat} {X : List IR} (h : IOwn w W A c X) (hb : W0.heap.size ≤ W.heap.size) (ho : Below W0.heap.size W0 W) : IOwn w W0 A c X :=
  ⟨own_base h.row hb, fun x hx => own_base (h.sym x hx) hb, ho.trans (h.old.mono hb)⟩
end Go.Proofs.Ytlekobompjehdaa
