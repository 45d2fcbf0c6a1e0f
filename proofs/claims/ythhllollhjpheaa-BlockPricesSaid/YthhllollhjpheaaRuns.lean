/-
  What runs of lengths come to: the plain law, and burnishref10.Unruns.
  math/bits.Mul, and slices.Repeat of one number.
-/
import Derived.Test.YthhllollhjpheaaBase
import Derived.Laws.CopyOwn
import Derived.Laws.MakeOwn
import Derived.Lib.Mul64
import Derived.Laws.Bits64b
import Derived.Shelf.Bits.Mul64
import Derived.BigRegion
import Derived.Deep.DeepCutAuto
import Derived.Deep.CutRange
import Derived.Deep.RegionLaw
import Derived.Deep.RegionHeld3
namespace Go.Proofs.Ythhllollhjpheaa
open Go.RowKit

def rv (out : List Int) (s : Int) : Int := if s = 16 then out.getLast?.getD 0 else if s = 17 ∨ s = 18 then 0 else s
def rn (s e : Int) : Int := if s = 16 ∨ s = 17 then 3 + e else if s = 18 then 11 + e else 1
def rtop (s : Int) : Int := if s = 16 then 3 else if s = 17 then 7 else if s = 18 then 127 else 0
def rbad (out : List Int) (s e : Int) : Prop := s < 0 ∨ 18 < s ∨ e < 0 ∨ (s = 16 ∧ out = []) ∨ rtop s < e
instance (out : List Int) (s e : Int) : Decidable (rbad out s e) := by unfold rbad; exact inferInstance
/-- what runs come to behind what stands already; nothing where one is out of form -/
def unr (out : List Int) : List (Int × Int) → Option (List Int)
  | [] => some out
  | (s, e) :: r => if rbad out s e then none else unr (out ++ List.replicate (rn s e).toNat (rv out s)) r

def UnrEnd (good bad : Value) (l : List (Int × Int)) (W : World) (e : Ending) (w' : World) : Prop :=
  (match unr [] l with
  | some o => ∃ A c, e = .returned (.tuple #[.slice A o.length c, good]) ∧ w'.ownsRow W.heap.size 3 1 (.slice A o.length c) o.length (intsV o) ∧ o.length ≤ 138 * l.length
  | none => e = .returned (.tuple #[.slice none 0 0, bad])) ∧ Below W.heap.size W w'
theorem unrEnd_none {good bad : Value} {l : List (Int × Int)} {W w' : World} (h : unr [] l = none) (hb : Below W.heap.size W w') : UnrEnd good bad l W (.returned (.tuple #[.slice none 0 0, bad])) w' := by
  unfold UnrEnd; rw [h]; exact ⟨rfl, hb⟩
theorem unrEnd_some {good bad : Value} {l : List (Int × Int)} {W w' : World} {o : List Int} {A : Option Addr} {c : Nat} (h : unr [] l = some o) (hown : w'.ownsRow W.heap.size 3 1 (.slice A o.length c) o.length (intsV o)) (hle : o.length ≤ 138 * l.length) (hb : Below W.heap.size W w') :
    UnrEnd good bad l W (.returned (.tuple #[.slice A o.length c, good])) w' := by
  unfold UnrEnd; rw [h]; exact ⟨⟨A, c, rfl, hown, hle⟩, hb⟩

theorem zip_drop {ls le : List Int} {j : Nat} (h1 : j < ls.length) (h2 : j < le.length) : (ls.zip le).drop j = (ls[j], le[j]) :: (ls.zip le).drop (j + 1) := by
  rw [List.drop_eq_getElem_cons (by simp; omega)]; simp
theorem unr_bad {out : List Int} {s e : Int} {r : List (Int × Int)} (h : rbad out s e) : unr out ((s, e) :: r) = none := by rw [unr, if_pos h]
theorem unr_step {out : List Int} {s e : Int} {r : List (Int × Int)} (h : ¬ rbad out s e) : unr out ((s, e) :: r) = unr (out ++ List.replicate (rn s e).toNat (rv out s)) r := by rw [unr, if_neg h]
theorem rep_succ (out : List Int) (k : Nat) (v : Int) : intsV (out ++ List.replicate k v) ++ [.int .i64 v] = intsV (out ++ List.replicate (k + 1) v) := by
  rw [List.replicate_succ', ← List.append_assoc]; simp [intsV]

end Go.Proofs.Ythhllollhjpheaa

namespace Go.Proofs.Ythhllollhjpheaa
open Go.RowKit

set_option maxHeartbeats 1000000 in
theorem mul64_any (x y : Nat) (hx : x < 18446744073709551616) (hy : y < 18446744073709551616) (w : World) :
    Calls Try.prog 96 #[.int .u64 x, .int .u64 y] w fun e w' => e = .returned (.tuple #[.int .u64 ((x * y / 18446744073709551616 : Nat) : Int), .int .u64 ((x * y % 18446744073709551616 : Nat) : Int)]) ∧ w' = w := by
  obtain ⟨bd, bt, bw, hhi⟩ := Lib.mul64_hi x y hx hy
  have ba := Lib.half_mul_le (a := x / 4294967296) (b := y / 4294967296) (by omega) (by omega)
  have bb := Lib.half_mul_le (a := x / 4294967296) (b := y % 4294967296) (by omega) (by omega)
  have bc := Lib.half_mul_le (a := x % 4294967296) (b := y / 4294967296) (by omega) (by omega)
  have ba' : x / 4294967296 * (y / 4294967296) < 18446744073709551616 := by omega
  have bb' : x / 4294967296 * (y % 4294967296) < 18446744073709551616 := by omega
  have bc' : x % 4294967296 * (y / 4294967296) < 18446744073709551616 := by omega
  have bh1 : x / 4294967296 * (y / 4294967296) + (x / 4294967296 * (y % 4294967296) + x % 4294967296 * (y % 4294967296) / 4294967296) / 4294967296 < 18446744073709551616 := by omega
  have bh : x / 4294967296 * (y / 4294967296) + (x / 4294967296 * (y % 4294967296) + x % 4294967296 * (y % 4294967296) / 4294967296) / 4294967296 + ((x / 4294967296 * (y % 4294967296) + x % 4294967296 * (y % 4294967296) / 4294967296) % 4294967296 + x % 4294967296 * (y / 4294967296)) / 4294967296 < 18446744073709551616 := by omega
  go_enter Try.func96, Try.ntmps96
  go_wp2
  simp only [Mul64.maskN x hx, Mul64.maskN y hy, Mul64.divN, Mul64.mulN, Mul64.addN, Mul64.wrapN _ bd, Mul64.wrapN _ bb', Mul64.wrapN _ bt, Mul64.maskN _ bt, Mul64.wrapN _ bc', Mul64.wrapN _ bw, Mul64.wrapN _ ba', Mul64.wrapN _ bh1, Mul64.wrapN _ bh, Mul64.wrapM (x * y)]
  rw [hhi]
  go_ret2
  exact ⟨rfl, rfl⟩

theorem mul_any (x y : Nat) (hx : x < 18446744073709551616) (hy : y < 18446744073709551616) (w : World) :
    Calls Try.prog 84 #[.int .u64 x, .int .u64 y] w fun e w' => e = .returned (.tuple #[.int .u64 ((x * y / 18446744073709551616 : Nat) : Int), .int .u64 ((x * y % 18446744073709551616 : Nat) : Int)]) ∧ w' = w := by
  go_enter Try.func84, Try.ntmps84
  go_wp2_with (go_at_call 96; refine (mul64_any x y hx hy _).mono ?_; rintro e w' ⟨rfl, rfl⟩)
  go_ret2
  exact ⟨rfl, rfl⟩

theorem mul_one_any (y : Nat) (hy : y < 18446744073709551616) (w : World) :
    Calls Try.prog 84 #[.int .u64 1, .int .u64 y] w fun e w' => e = .returned (.tuple #[.int .u64 0, .int .u64 y]) ∧ w' = w := by
  have h := mul_any 1 y (by omega) hy w
  rw [show 1 * y / 18446744073709551616 = 0 by omega, show 1 * y % 18446744073709551616 = y by omega] at h
  exact h

theorem step_copy {P : Program} {w : World} {ops : Array Oper} {o : Oper} {a : Act} {K : Act → World → Prop} {Q : Exit → Act → World → Prop} {E : Prop} (hgd : o.guard = none) (d s : Operand) (dT sT : TypeId)
    (ho : o.op = .call { callee := .builtin .copy, args := #[d, s], argTypes := #[dT, sT] }) (elem : TypeId) (hu : P.underlying dT = some (.slice elem)) (hsz : (P.info? elem).map (·.size) = some 1)
    (g off dLen dCap : Nat) (ad : Addr) (sLen sCap : Nat) (hd : a.eval d = .slice (some ⟨g, off, none⟩) dLen dCap) (hs : a.eval s = .slice (some ad) sLen sCap)
    (cur : Array Value) (t : TypeId) (hg : Blk w g t cur) (cs : List Value) (hn : cs.length = Nat.min sLen dLen)
    (hsrc : ∀ j v, cs[j]? = some v → w.cell? (ad.add j) = some v) (hfit : off + cs.length ≤ cur.size) (h1 : ∀ v ∈ cs, v.oneCell' = true)
    (h : K (a.put o.dst (goInt cs.length)) (w.setRow g (splice cur.toList off cs).toArray)) :
    if Region.wanted o (yielded ops a.tmps) = true then Oper.wp P o a w K Q else E := by
  have hw : Region.wanted o (yielded ops a.tmps) = true := by simp [Region.wanted, hgd]
  rw [if_pos hw]
  have hrun := run_copy_row (P := P) w dT sT o.type elem g off dLen dCap ad sLen sCap cur t cs hu hsz hg hn hsrc hfit h1
  rw [List.append_assoc] at hrun
  unfold Oper.wp execOp
  simp only [ho, resolve, invoke, builtin, Sem.run_bind, Sem.run_pure, Result.andThen_ok, List.map_toArray, List.map_cons, List.map_nil, hd, hs, hrun]
  exact h

theorem rep_splice (v : Value) (zs : List Value) (m q : Nat) : splice (List.replicate m v ++ zs.drop m) m (List.replicate q v) = List.replicate (m + q) v ++ zs.drop (m + q) := by
  unfold splice
  rw [List.take_left' (by simp), ← List.append_assoc, List.replicate_append_replicate, List.length_replicate, List.drop_append, List.drop_eq_nil_of_le (by simp), List.nil_append, List.length_replicate, List.drop_drop]
  congr 2
  omega

/-- what slices.Repeat of one number hands back: a new row of it -/
def RepEnd (v : Int) (n : Nat) (W : World) (e : Ending) (w' : World) : Prop :=
  ∃ g, e = .returned (.slice (some ⟨g, 0, none⟩) n n) ∧ W.heap.size ≤ g ∧ Blk w' g 3 (intsV (List.replicate n v)).toArray ∧ Below W.heap.size W w'

theorem take_rep {v : Value} {zs : List Value} {m q j : Nat} {u : Value} (hq : q ≤ m) (h : (List.replicate q v)[j]? = some u) : (List.replicate m v ++ zs.drop m)[j]? = some u := by
  have hj : j < q := by
    rcases Nat.lt_or_ge j q with h1 | h1
    · exact h1
    · rw [List.getElem?_eq_none (by simpa using h1)] at h; cases h
  rw [List.getElem?_append_left (by simp; omega)]
  rw [List.getElem?_replicate, if_pos (by omega)]
  rwa [List.getElem?_replicate, if_pos hj] at h

set_option maxRecDepth 100000 in
set_option maxHeartbeats 4000000 in
theorem repeat_any (b : Nat) (c : Nat) (v : Int) (n : Nat) (W : World) (h1 : 1 ≤ n) (hn : n ≤ 1000) (hr : RdI W W.heap.size (some ⟨b, 0, none⟩) [v]) :
    Calls Try.prog 71 #[.slice (some ⟨b, 0, none⟩) 1 c, .int .i64 n] W (RepEnd v n W) := by
  have hx : W.cell? ⟨b, 0, none⟩ = some (.int .i64 v) := by
    obtain ⟨b', off, e, _, hc⟩ := int_at hr (j := 0) (by simp)
    obtain ⟨rfl, rfl⟩ : b = b' ∧ 0 = off := by simpa using e
    simpa using hc
  have hb : b < W.heap.size := by
    obtain ⟨b', off, e, hb, hc⟩ := int_at hr (j := 0) (by simp)
    obtain ⟨rfl, rfl⟩ : b = b' ∧ 0 = off := by simpa using e
    exact hb
  clear hr
  obtain ⟨i0, hi0, hz0, hz1, hz2⟩ := info_parts int_info
  obtain ⟨zs, hzs⟩ : ∃ zs : List Value, zs = (madeCells (Value.int .i64 0).cells (n * 1)).toList := ⟨_, rfl⟩
  have hzl : zs.length = n := by rw [hzs]; simp [madeCells]
  have hmk : ∀ w : World, (Instr.makeSlice 48 (.int .i64 (n : Int)) (.int .i64 (n : Int))).run Try.prog w = .ok (.slice (some ⟨w.heap.size, 0, none⟩) n n) (w.alloc (.cells zs.toArray 3)) := by
    intro w
    have := run_make (P := Try.prog) w 48 3 i0 (.int .i64 0) Try.underlying48 hi0 hz0 .i64 .i64 n n (by omega) (Int.le_refl _) (by rw [hz2]; omega) (by omega)
    rw [hz1] at this
    simp only [Int.toNat_natCast] at this
    rw [this, hzs]
  have Hsz := hid (show (Try.prog.info? 3).map (·.size) = some 1 by rw [hi0]; simp [hz1])
  have Hzl := hid hzl
  have Hx := hid hx
  clear hzs hzl hi0 hz0 hz1 hz2 hx
  have n1 : ¬ (n : Int) < 0 := by omega
  go_enter Try.func71, Try.ntmps71
  go_wp2_with fail
  refine (mul_one_any n (by omega) _).mono ?_
  rintro e w1 ⟨rfl, rfl⟩
  have hsrc : ∀ (o : Obj) (j : Nat) (u : Value), [Value.int .i64 v][j]? = some u → (w1.alloc o).cell? ((⟨b, 0, none⟩ : Addr).add j) = some u := by
    intro o j u hu
    have hj : j = 0 := by
      rcases Nat.eq_zero_or_pos j with h | h
      · exact h
      · rw [List.getElem?_eq_none (by simp; omega)] at hu; cases hu
    subst hj
    simp at hu
    subst hu
    rw [show (⟨b, 0, none⟩ : Addr).add 0 = ⟨b, 0, none⟩ from rfl, World.cell?_alloc_past _ _ _ (by exact hb)]
    exact Hx.out
  obtain ⟨w2, hcp, hg2, hb2⟩ : ∃ w2, (Builtin.copy_ #[48, 48] 3 #[.slice (some ⟨w1.heap.size, 0, none⟩) n n, .slice (some ⟨b, 0, none⟩) 1 c]).run Try.prog (w1.alloc (.cells zs.toArray 3)) = .ok (.int .i64 1) w2 ∧
      Blk w2 w1.heap.size 3 (List.replicate 1 (Value.int .i64 v) ++ zs.drop 1).toArray ∧ Below w1.heap.size w1 w2 := by
    refine ⟨_, run_copy_row (P := Try.prog) _ _ _ _ _ w1.heap.size 0 n n ⟨b, 0, none⟩ 1 c zs.toArray 3 [.int .i64 v] Try.underlying48 Hsz.out (Blk.new w1 3 zs.toArray) (show 1 = min 1 n by omega) (hsrc _) (by simp [Hzl.out]; omega) (by simp [Value.oneCell']), ?_, ?_⟩
    · refine (setRow_heap _ w1.heap.size zs.toArray _ 3 (0, 0) (Blk.new w1 3 zs.toArray)).trans ?_
      simp
    · exact below_setRow ((Below.refl _ _).alloc (Nat.le_refl _) _) (Nat.le_refl _) _
  go_wp2_with fail
  have HB2 := hid hb2
  have HG3 := hid hg2
  have hz2 := hb2.size
  clear hb2 hg2 hsrc hcp
  go_loopw [8] (fun i wr => ∃ m : Nat, 1 ≤ m ∧ m ≤ n ∧ i = .int .i64 m ∧ Blk wr w1.heap.size 3 (List.replicate m (Value.int .i64 v) ++ zs.drop m).toArray ∧ Below w1.heap.size w1 wr) (fun i _ => n - (intOf i).toNat)
  case atStart => exact ⟨1, by omega, h1, rfl, HG3.out, HB2.out⟩
  case round =>
    obtain ⟨m, hm1, hm, rfl, hg, hbw⟩ := hrel
    have Hg := hid hg
    have Hbw := hid hbw
    clear hg hbw
    by_cases hlt : m < n
    · obtain ⟨q, hq1, hq2, hq3, hqq⟩ : ∃ q, q ≤ m ∧ m + q ≤ n ∧ 1 ≤ q ∧ q = min m (n - m) := ⟨min m (n - m), by omega, by omega, by omega, rfl⟩
      have hcut : ∀ (j : Nat) (u : Value), (List.replicate q (Value.int .i64 v))[j]? = some u → wr.drew.cell? ((⟨w1.heap.size, 0, none⟩ : Addr).add j) = some u := by
        intro j u hu
        have := take_rep (m := m) (zs := zs) hq1 hu
        rw [show (⟨w1.heap.size, 0, none⟩ : Addr).add j = ⟨w1.heap.size, 0 + j, none⟩ from by unfold Addr.add; split <;> simp_all, (Blk.drew Hg.out).cell (0 + j)]
        simpa using this
      obtain ⟨w3, hcp, hg3, hb3⟩ : ∃ w3, (Builtin.copy_ #[48, 48] 3 #[.slice (some ⟨w1.heap.size, m, none⟩) (n - m) (n - m), .slice (some ⟨w1.heap.size, 0, none⟩) m n]).run Try.prog wr.drew = .ok (.int .i64 q) w3 ∧
          Blk w3 w1.heap.size 3 (List.replicate (m + q) (Value.int .i64 v) ++ zs.drop (m + q)).toArray ∧ Below w1.heap.size w1 w3 := by
        have hrun := run_copy_row (P := Try.prog) wr.drew 48 48 3 3 w1.heap.size m (n - m) (n - m) ⟨w1.heap.size, 0, none⟩ m n _ 3 (List.replicate q (Value.int .i64 v)) Try.underlying48 Hsz.out (Blk.drew Hg.out) (by rw [List.length_replicate]; exact hqq) hcut (by simp [Hzl.out]; omega) (by intro u hu; rw [List.eq_of_mem_replicate hu]; rfl)
        rw [List.length_replicate] at hrun
        refine ⟨_, hrun, ?_, below_setRow Hbw.out.drew (Nat.le_refl _) _⟩
        refine (setRow_heap _ w1.heap.size _ _ 3 (0, 0) (Blk.drew Hg.out)).trans ?_
        have h := rep_splice (Value.int .i64 v) zs m q
        unfold splice at h
        rw [List.length_replicate] at h
        exact congrArg (fun l => some (Obj.cells (List.toArray l) 3 (0, 0))) ((List.append_assoc _ _ _).trans h)
      have Hg3 := hid hg3
      have Hb3 := hid hb3
      have Hw := hid (show IntKind.i64.wrap ((m : Int) + (q : Int)) = ((m + q : Nat) : Int) by rw [IntKind.wrap_i64]; omega)
      clear hg3 hb3 hcut hqq
      go_upto_region 9 with (fail)
      go_region_held3 (fun _ => True) (trivial) (fail)
      all_goals
        go_wp2
        go_roundw
        case rel => exact ⟨m + q, by omega, by omega, by rw [Hw.out], Hg3.out, Hb3.out⟩
        case measure => simp only [intOf, Hw.out]; omega
    · have e : m = n := by omega
      subst e
      go_wp2
      go_ret
      refine ⟨_, rfl, Nat.le_refl _, ?_, Hbw.out⟩
      have h := Hg.out
      rw [List.drop_eq_nil_of_le (by rw [Hzl.out]; exact Nat.le_refl _), List.append_nil] at h
      simpa [intsV] using h

end Go.Proofs.Ythhllollhjpheaa
