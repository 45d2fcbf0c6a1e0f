/-
  wish.Runes: the whole runes that a text begins with, one by one.
-/
import Derived.Test.YtfcppchjikmioaaGreatWpG
import Derived.RangeFuncNested
import Derived.RangeFuncBound
import Derived.RangeFuncCalls
import Derived.RangeFuncLeaves
import Derived.RangeFuncBox
import Derived.RangeFuncWrites
import Derived.Shelf.Abstract
import Derived.OwnWalkIn
import Derived.TacticsInMore
import Derived.LoopNIn
import Derived.LoopIn
import Derived.Laws.RangeAny
import Derived.Lib.OthersKept
import Derived.Scope
namespace Go.Proofs.YtfcppchjikmioaaGreat
open Go.RowKit Go.Shelf Go.Lib

attribute [local go_sem] Oper.semAt_some

def hasPx (s p : ByteArray) : Bool := decide (p.size ≤ s.size) && ((s.extract 0 p.size).toList == p.toList)
theorem hasPx0_any (s p : ByteArray) (W : World) : Calls Tryz.prog 75 #[.string s, .string p] W fun e w' => e = .returned (.bool (hasPx s p)) ∧ W = w' := by
  unfold hasPx
  by_cases h1 : p.size ≤ s.size
  · have d1 : decide (p.size ≤ s.size) = true := decide_eq_true h1
    have d2 : (0 : Int) ≤ (p.size : Int) ∧ (p.size : Int) ≤ (s.size : Int) := by omega
    go_enter Tryz.func75, Tryz.ntmps75
    go_wp2
    go_ret
    exact ⟨ret_bool (by simp [d1]), rfl⟩
  · have d1 : decide (p.size ≤ s.size) = false := decide_eq_false h1
    go_enter Tryz.func75, Tryz.ntmps75
    go_wp2
    go_ret
    exact ⟨ret_bool (by simp [d1]), rfl⟩
theorem hasPx_any (s p : ByteArray) (W : World) : Calls Tryz.prog 58 #[.string s, .string p] W fun e w' => e = .returned (.bool (hasPx s p)) ∧ W = w' := by
  go_enter Tryz.func58, Tryz.ntmps58
  go_wp2_with fail
  refine (hasPx0_any s p _).mono ?_
  rintro e w1 ⟨rfl, rfl⟩
  go_wp2
  go_ret
  exact ⟨rfl, rfl⟩
section
variable {F : Fence} {n : Nat} {P : Program} {Q : Exit → Act → World → Prop} {a : Act} {w : World} {b : Frame} {k : List Item} {cs : List Frame}
theorem stepR_scope {c : Code} : step P (lone (b.atR a (.code (.scope c) :: k)) cs w) = .next (lone (b.atR a (.code c :: .inScope c :: k)) cs w) :=
  step_lone_go (by simp [stepG, stepG.exec, Frame.atR])
theorem stepR_inScope {c : Code} : step P (lone (b.atR a (.inScope c :: k)) cs w) = .next (lone (b.atR a k) cs w) :=
  step_lone_go (by simp [stepG, stepG.exec, Frame.atR])
/-- a scope that is not jumped about in, under a fence -/
theorem wpIn_scope {c : Code} (h : c.wpIn F n P (Exit.noGoto Q) a w) : (Code.scope c).wpIn F n P Q a w := by
  intro b k cs hro hb hr
  have h0 : (lone (b.atR a (.code (.scope c) :: k)) cs w).fenced P F := fenced_calm hb hr rfl
  obtain ⟨e, a₁, w₁, hq, harr⟩ := h b (.inScope c :: k) cs hro hb hr
  have hx : ∀ id, exitTo id (.inScope c :: k) = exitTo id k := fun id => by simp [exitTo]
  cases e with
  | normal => exact ⟨.normal, a₁, w₁, hq, .head h0 stepR_scope (StepsIn.trans harr (.one (fenced_calm hb hr rfl) stepR_inScope))⟩
  | exit id' => exact ⟨.exit id', a₁, w₁, hq, fun k' hk => .head h0 stepR_scope (harr.1 k' (by rw [hx]; exact hk)), fun hr' hk => let ⟨k₁, h1, h2⟩ := harr.2 hr' (by rw [hx]; exact hk); ⟨k₁, h1, .head h0 stepR_scope h2⟩⟩
  | goto l => exact hq.elim
  | ret => exact ⟨_, a₁, w₁, hq, .of_steps (.one h0 stepR_scope) harr⟩
  | panic ch => exact ⟨_, a₁, w₁, hq, .of_steps (.one h0 stepR_scope) harr⟩
  | outgrown => exact ⟨_, a₁, w₁, hq, .of_steps (.one h0 stepR_scope) harr⟩
end
theorem ng_normal {Q : Exit → Act → World → Prop} {a : Act} {w : World} (h : Q .normal a w) : Exit.noGoto Q .normal a w := h
def fffd : ByteArray := ⟨#[239, 191, 189]⟩
/-- is a whole rune at a place? -/
def okAt (s : ByteArray) (pos : Nat) : Bool := !(((Utf8.decode s pos).1 : Int) == 65533) || hasPx (s.extract pos s.size) fffd
def rnFrom (s : ByteArray) : Nat → Nat → List Int
  | 0, _ => []
  | f + 1, pos => if pos < s.size ∧ okAt s pos = true then ((Utf8.decode s pos).1 : Int) :: rnFrom s f (pos + (Utf8.decode s pos).2) else []
/-- the whole runes that a text begins with -/
def rnL (s : ByteArray) : List Int := rnFrom s (s.size + 1) 0
def upR (L : List Int) (k : Nat) : List (Nat × Int) := (List.range k).map (fun j => (j, L[j]?.getD 0))
theorem upR_succ (L : List Int) (k : Nat) : upR L (k + 1) = upR L k ++ [(k, L[k]?.getD 0)] := by simp [upR, List.range_succ]
theorem upR_length (L : List Int) (k : Nat) : (upR L k).length = k := by simp [upR]
def KpS (B : Nat) (W W' : World) : Prop := KeepsWalks W W' ∧ W'.heap[B]? = W.heap[B]?
theorem dec_pos {s : ByteArray} {i : Nat} (h : i < s.size) : 1 ≤ (Utf8.decode s i).2 := by
  by_cases ha : (s[i]'h).toNat < 128
  · rw [decode_ascii s i h ha]
    exact Nat.le_refl _
  · exact (decode_high s i h (by omega)).2
theorem rn_stop {s : ByteArray} {f pos k : Nat} {L : List Int} (h : L.drop k = rnFrom s f pos) (hs : ¬ (pos < s.size ∧ okAt s pos = true)) (hk : k ≤ L.length) : k = L.length := by
  have : rnFrom s f pos = [] := by
    cases f with
    | zero => rfl
    | succ f => unfold rnFrom; rw [if_neg hs]
  rw [this] at h
  have := List.drop_eq_nil_iff.1 h
  omega
theorem rn_more {s : ByteArray} {f pos k : Nat} {L : List Int} (h : L.drop k = rnFrom s (f + 1) pos) (hs : pos < s.size ∧ okAt s pos = true) : k < L.length ∧ L[k]?.getD 0 = ((Utf8.decode s pos).1 : Int) ∧ L.drop (k + 1) = rnFrom s f (pos + (Utf8.decode s pos).2) := by
  unfold rnFrom at h
  rw [if_pos hs] at h
  have hk : k < L.length := by
    rcases Nat.lt_or_ge k L.length with h0 | h0
    · exact h0
    · rw [List.drop_eq_nil_of_le h0] at h; cases h
  rw [List.drop_eq_getElem_cons hk] at h
  injection h with h1 h2
  exact ⟨hk, by rw [List.getElem?_eq_getElem hk]; exact h1, h2⟩
set_option maxRecDepth 100000 in
set_option maxHeartbeats 2000000 in
theorem runes1_in (n : Nat) (hn : 1 ≤ n) (l Bs : Nat) (s : ByteArray) (L : List Int) (hL : L = rnL s) (hLm : L.length ≤ 1000000) (J Jx : List (Nat × Int) → World → Prop) (W : World) (hJ : AbidesFrom W.heap.size J) (hBW : Bs < W.heap.size)
    (hY : ∀ pre x W, J pre W → pre.length < L.length → YieldAt Fence.wide (n - 1) Tryz.prog l #[.int .i64 (x.1 : Int), .int .i32 x.2] W fun e W' =>
      (e = .returned (.bool true) ∧ J (pre ++ [x]) W' ∧ KpS Bs W W') ∨ (e = .returned (.bool false) ∧ Jx (pre ++ [x]) W'))
    (hBs : W.cell? ⟨Bs, 0, none⟩ = some (.string s)) (h0 : J [] W) :
    CallsIn Fence.wide n Tryz.prog 57 #[.func (.yield l) #[] #[], .pointer (some ⟨Bs, 0, none⟩)] W fun e W' => (∃ v, e = .returned v) ∧
      ((∃ ys, ys = upR L L.length ∧ J ys W') ∨ (∃ pre, (∃ k, k ≤ L.length ∧ pre = upR L k) ∧ Jx pre W')) := by
  refine callsIn_of_wp Tryz.func57 rfl trivial ?_ rfl
  simp only [Tryz.ntmps57, List.size_toArray, List.length_cons, List.length_nil, Nat.reduceAdd, Nat.reduceSub, Array.replicate_succ, Array.replicate_zero, List.push_toArray, List.append_toArray, List.nil_append, List.cons_append]
  have HL := hid hL
  have HJ := hid hJ
  have HY := hid hY
  clear hL hJ hY
  refine wpIn_scope ?_
  gi_wp2
  refine wpIn_label ?_
  gi_wp2
  have hit : (W.iter s 0).heap[W.heap.size]? = some (.stringIter s 0) := World.alloc_heap_new W _
  have hBs0 : (W.iter s 0).heap[Bs]? = W.heap[Bs]? := Below.heap_alloc W (.stringIter s 0) Bs hBW
  have hJ0 : J [] (W.iter s 0) := HJ.out [] W _ none h0 (World.grownBy_alloc W (.stringIter s 0) none) (fun r e => by cases e)
  obtain ⟨gi, hgi⟩ : ∃ gi, gi = W.heap.size := ⟨_, rfl⟩
  have Hgi := hid hgi
  rw [← hgi] at hit ⊢
  generalize W.iter s 0 = w0 at *
  clear hgi
  gi_loopw [3] (fun i wr => ∃ (k pos f : Nat), k ≤ L.length ∧ i = .int .i64 (k : Int) ∧ Hid (L.drop k = rnFrom s f pos) ∧ s.size - pos < f ∧ wr.heap[gi]? = some (.stringIter s pos) ∧ wr.heap[Bs]? = W.heap[Bs]? ∧ J (upR L k) wr) (fun i _ => L.length - (intOf i).toNat)
  case atStart => exact ⟨0, 0, s.size + 1, by omega, rfl, hid HL.out, by omega, hit, hBs0, hJ0⟩
  case round =>
    obtain ⟨k, pos, f, hk, rfl, HR, hf, hit2, hbs2, hJk⟩ := hrel
    have hcs : wr.cell? ⟨Bs, 0, none⟩ = some (.string s) := by rw [← hBs]; unfold World.cell?; rw [hbs2]
    by_cases hp : pos < s.size
    · obtain ⟨rr, hrr⟩ : ∃ rr : Int, rr = ((Utf8.decode s pos).1 : Int) := ⟨_, rfl⟩
      obtain ⟨np, hnp⟩ : ∃ np, np = pos + (Utf8.decode s pos).2 := ⟨_, rfl⟩
      obtain ⟨w1, hw1⟩ : ∃ w1, w1 = wr.iterAt gi s np := ⟨_, rfl⟩
      have hnx : ∀ ty, (Instr.next (.pointer (some ⟨gi, 0, none⟩)) true ty).run Tryz.prog wr = .ok (.tuple #[.bool true, .int .i64 pos, .int .i32 rr]) w1 := fun ty => by
        rw [hw1, hnp, hrr]
        exact run_next_any_at wr gi s pos ty hit2 hp
      have hit1 : w1.heap[gi]? = some (.stringIter s np) := by rw [hw1]; exact iterAt_heap wr gi s pos np hit2
      have hne : Bs ≠ gi := by have := Hgi.out; omega
      have hbs1 : w1.heap[Bs]? = W.heap[Bs]? := by rw [hw1, iterAt_other wr gi Bs s np hne]; exact hbs2
      have hcs1 : w1.cell? ⟨Bs, 0, none⟩ = some (.string s) := by rw [← hBs]; unfold World.cell?; rw [hbs1]
      have hJ1 : J (upR L k) w1 := HJ.out _ wr w1 (some gi) hJk (by rw [hw1]; exact ⟨rfl, rfl, rfl, by rw [iterAt_size]; exact Nat.le_refl _, fun i _ hne => iterAt_other wr gi i s np (fun e => hne (by rw [e]))⟩) (fun r e => by
        injection e with e
        rw [← e]
        exact ⟨by rw [Hgi.out]; exact Nat.le_refl _, _, hit2, rfl⟩)
      have hps := dec_pos hp
      obtain ⟨f1, hf1⟩ : ∃ f1, f = f1 + 1 := ⟨f - 1, by omega⟩
      have hmo : okAt s pos = true → k < L.length ∧ L[k]?.getD 0 = rr ∧ L.drop (k + 1) = rnFrom s f1 np := fun ho => by
        have h := HR.out
        rw [hf1] at h
        have := rn_more h ⟨hp, ho⟩
        rw [hrr, hnp]
        exact this
      have hsp : okAt s pos = false → k = L.length := fun ho => rn_stop HR.out (fun h => by rw [ho] at h; cases h.2) hk
      have hok : okAt s pos = (!(rr == 65533) || hasPx (s.extract pos s.size) fffd) := by unfold okAt; rw [hrr]
      have hnf : s.size - np < f1 := by omega
      have HMo := hid hmo
      have HSp := hid hsp
      have Hok := hid hok
      clear hmo hsp hok hrr hnp hw1 hne hit2 hbs2 hJk hf1 hf hcs HR hps
      by_cases e1 : rr = 65533
      · subst e1
        have d2 : (0 : Int) ≤ (pos : Int) ∧ (pos : Int) ≤ (s.size : Int) := by omega
        cases hb : hasPx (s.extract pos s.size) fffd
        · have hkL := HSp.out (by rw [Hok.out, hb]; rfl)
          gi_wp2
          refine ⟨trivial, ?_⟩
          refine (callsIn_wide.2 (hasPx_any (s.extract pos s.size) fffd w1)).mono ?_
          rintro e w2 ⟨rfl, rfl⟩
          rw [hb]
          gi_wp2
          refine ng_normal ?_
          go_end0
          exact ⟨⟨_, rfl⟩, .inl ⟨_, by rw [hkL], hJ1⟩⟩
        · have hm := HMo.out (by rw [Hok.out, hb]; simp)
          gi_wp2
          refine ⟨trivial, ?_⟩
          refine (callsIn_wide.2 (hasPx_any (s.extract pos s.size) fffd w1)).mono ?_
          rintro e w2 ⟨rfl, rfl⟩
          rw [hb]
          obtain ⟨fn, tmps, assign, body, hy, hR⟩ := HY.out (upR L k) (k, 65533) w1 hJ1 (by rw [upR_length]; exact hm.1)
          dsimp only at hy
          gi_wp2
          refine hR.mono ?_
          rintro e W3 (⟨rfl, hJ3, hk3⟩ | ⟨rfl, hJx3⟩)
          · gi_wp2
            go_roundw
            case rel => exact ⟨k + 1, np, f1, by omega, by go_num, hid hm.2.2, by omega, hk3.1.same gi _ hit1 rfl, hk3.2.trans hbs1, by rw [upR_succ, hm.2.1]; exact hJ3⟩
            case measure => simp [intOf]; omega
          · gi_wp2
            refine ng_normal ?_
            go_end0
            exact ⟨⟨_, rfl⟩, .inr ⟨_, ⟨k + 1, by omega, rfl⟩, by rw [upR_succ, hm.2.1]; exact hJx3⟩⟩
      · have d1 : (rr == 65533) = false := beq_eq_false_iff_ne.2 e1
        have hm := HMo.out (by rw [Hok.out, d1]; rfl)
        gi_wp2
        refine ⟨trivial, ?_⟩
        obtain ⟨fn, tmps, assign, body, hy, hR⟩ := HY.out (upR L k) (k, rr) w1 hJ1 (by rw [upR_length]; exact hm.1)
        dsimp only at hy
        gi_wp2
        refine hR.mono ?_
        rintro e W3 (⟨rfl, hJ3, hk3⟩ | ⟨rfl, hJx3⟩)
        · gi_wp2
          go_roundw
          case rel => exact ⟨k + 1, np, f1, by omega, by go_num, hid hm.2.2, by omega, hk3.1.same gi _ hit1 rfl, hk3.2.trans hbs1, by rw [upR_succ, hm.2.1]; exact hJ3⟩
          case measure => simp [intOf]; omega
        · gi_wp2
          refine ng_normal ?_
          go_end0
          exact ⟨⟨_, rfl⟩, .inr ⟨_, ⟨k + 1, by omega, rfl⟩, by rw [upR_succ, hm.2.1]; exact hJx3⟩⟩
    · have hnx : ∀ ty, (Instr.next (.pointer (some ⟨gi, 0, none⟩)) true ty).run Tryz.prog wr = _ := fun ty => run_next_end_at wr gi s pos ty hit2 hp
      have hkL : k = L.length := rn_stop HR.out (fun h => hp h.1) hk
      gi_wp2
      refine ng_normal ?_
      go_end0
      exact ⟨⟨_, rfl⟩, .inl ⟨_, by rw [hkL], hJk⟩⟩
end Go.Proofs.YtfcppchjikmioaaGreat
