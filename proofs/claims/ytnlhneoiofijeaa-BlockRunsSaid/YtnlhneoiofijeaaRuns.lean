/-
  What runs of lengths come to: the plain law, and burnishref10.Unruns.
-/
import Derived.Test.YtnlhneoiofijeaaCopies
namespace Go.Proofs.Ytnlhneoiofijeaa
open Go.RowKit

def rv (out : List Int) (s : Int) : Int := if s = 16 then out.getLast?.getD 0 else if s = 17 ∨ s = 18 then 0 else s
def rn (s e : Int) : Int := if s = 16 ∨ s = 17 then 3 + e else if s = 18 then 11 + e else 1
def rtop (s : Int) : Int := if s = 16 then 3 else if s = 17 then 7 else if s = 18 then 127 else 0
def rbad (out : List Int) (s e : Int) : Prop := s < 0 ∨ 18 < s ∨ e < 0 ∨ (s = 16 ∧ out = []) ∨ rtop s < e
instance (out : List Int) (s e : Int) : Decidable (rbad out s e) := by unfold rbad; exact inferInstance
/-- what runs come to behind what stands already; nothing where one is out of form -/
def unr (out : List Int) : List (Int × Int) → Option (List Int)
  | [] => some out
  | (s, e) :: r => if rbad out s e then none else unr (out ++ List.replicate (rn s e).toNat (rv out s)) r

def UnrEnd (good bad : Value) (l : List (Int × Int)) (W : World) (e : Ending) (w' : World) : Prop :=
  (match unr [] l with
  | some o => ∃ A c, e = .returned (.tuple #[.slice A o.length c, good]) ∧ w'.ownsRow W.heap.size 3 1 (.slice A o.length c) o.length (intsV o) ∧ o.length ≤ 138 * l.length
  | none => e = .returned (.tuple #[.slice none 0 0, bad])) ∧ Below W.heap.size W w'
theorem unrEnd_none {good bad : Value} {l : List (Int × Int)} {W w' : World} (h : unr [] l = none) (hb : Below W.heap.size W w') : UnrEnd good bad l W (.returned (.tuple #[.slice none 0 0, bad])) w' := by
  unfold UnrEnd; rw [h]; exact ⟨rfl, hb⟩
theorem unrEnd_some {good bad : Value} {l : List (Int × Int)} {W w' : World} {o : List Int} {A : Option Addr} {c : Nat} (h : unr [] l = some o) (hown : w'.ownsRow W.heap.size 3 1 (.slice A o.length c) o.length (intsV o)) (hle : o.length ≤ 138 * l.length) (hb : Below W.heap.size W w') :
    UnrEnd good bad l W (.returned (.tuple #[.slice A o.length c, good])) w' := by
  unfold UnrEnd; rw [h]; exact ⟨⟨A, c, rfl, hown, hle⟩, hb⟩

theorem zip_drop {ls le : List Int} {j : Nat} (h1 : j < ls.length) (h2 : j < le.length) : (ls.zip le).drop j = (ls[j], le[j]) :: (ls.zip le).drop (j + 1) := by
  rw [List.drop_eq_getElem_cons (by simp; omega)]; simp
theorem unr_bad {out : List Int} {s e : Int} {r : List (Int × Int)} (h : rbad out s e) : unr out ((s, e) :: r) = none := by rw [unr, if_pos h]
theorem unr_step {out : List Int} {s e : Int} {r : List (Int × Int)} (h : ¬ rbad out s e) : unr out ((s, e) :: r) = unr (out ++ List.replicate (rn s e).toNat (rv out s)) r := by rw [unr, if_neg h]
theorem rep_succ (out : List Int) (k : Nat) (v : Int) : intsV (out ++ List.replicate k v) ++ [.int .i64 v] = intsV (out ++ List.replicate (k + 1) v) := by
  rw [List.replicate_succ', ← List.append_assoc]; simp [intsV]

set_option maxRecDepth 100000 in
set_option maxHeartbeats 8000000 in
theorem refUnruns_any (A B : Option Addr) (c d : Nat) (ls le : List Int) (W : World) (hr : RdI W W.heap.size A ls) (hr2 : RdI W W.heap.size B le) (hm : ls.length ≤ 5000) (hle : ls.length ≤ le.length) :
    Calls Try.prog 43 #[.slice A ls.length c, .slice B le.length d] W (UnrEnd (.bool true) (.bool false) (ls.zip le) W) := by
  have Hr := hid hr
  have Hr2 := hid hr2
  obtain ⟨i0, hi0, hz0, hz1, hz2⟩ := info_parts int_info
  have Hi0 := hid hi0
  have Hz0 := hid hz0
  have Hz1 := hid hz1
  have Hz2 := hid hz2
  have Hzl := hid (show (ls.zip le).length = ls.length by simp; omega)
  clear hi0 hz0 hz1 hz2 hr hr2
  go_enter Try.func43, Try.ntmps43
  go_wp2
  go_loopw [6, 7] (fun o i wr => ∃ (j : Nat) (out : List Int) (A' : Option Addr) (c' : Nat), j ≤ ls.length ∧ i = .int .i64 j ∧ o = .slice A' out.length c' ∧ wr.ownsRow W.heap.size 3 1 (.slice A' out.length c') out.length (intsV out) ∧
      unr [] (ls.zip le) = unr out ((ls.zip le).drop j) ∧ out.length ≤ 138 * j ∧ Below W.heap.size W wr) (fun _ i _ => ls.length - (intOf i).toNat)
  case atStart => exact ⟨0, [], none, 0, by omega, rfl, rfl, World.ownsRow_nil _ _ _ _, rfl, by simp, Below.refl _ _⟩
  case round =>
    obtain ⟨j, out, A', c', hj, rfl, rfl, hown, hu, hol, hb⟩ := hrel
    have Hown := hid hown
    have Hb := hid hb
    have hsz := hb.size
    by_cases hlt : j < ls.length
    · have hlt2 : j < le.length := by omega
      obtain ⟨b, off, rfl, hbb, q0⟩ := int_at (Hr.out.below hb (Nat.le_refl _)) hlt
      obtain ⟨b2, off2, rfl, hbb2, q1⟩ := int_at (Hr2.out.below hb (Nat.le_refl _)) hlt2
      rw [zip_drop hlt hlt2] at hu
      have Hu := hid hu
      clear hu hown hb
      generalize ls[j] = s at *
      generalize le[j] = e at *
      by_cases b1 : s < 0
      · have g1 : decide (s < 0) = true := decide_eq_true b1
        have Hn : Hid (unr [] (ls.zip le) = none) := Hu.out.trans (unr_bad (by unfold rbad rtop; exact .inl b1))
        go_wp2
        go_ret2
        exact unrEnd_none Hn.out Hb.out
      by_cases b2 : 18 < s
      · have g1 : decide (s < 0) = false := decide_eq_false b1
        have g2 : decide (18 < s) = true := decide_eq_true b2
        have Hn : Hid (unr [] (ls.zip le) = none) := Hu.out.trans (unr_bad (by unfold rbad rtop; exact .inr (.inl b2)))
        go_wp2
        go_ret2
        exact unrEnd_none Hn.out Hb.out
      by_cases b3 : e < 0
      · have g1 : decide (s < 0) = false := decide_eq_false b1
        have g2 : decide (18 < s) = false := decide_eq_false b2
        have g3 : decide (e < 0) = true := decide_eq_true b3
        have Hn : Hid (unr [] (ls.zip le) = none) := Hu.out.trans (unr_bad (by unfold rbad rtop; exact .inr (.inr (.inl b3))))
        go_wp2
        go_ret2
        exact unrEnd_none Hn.out Hb.out
      obtain ⟨ne, rfl⟩ := Int.eq_ofNat_of_zero_le (show 0 ≤ e by omega)
      have g1 : decide (s < 0) = false := decide_eq_false b1
      have g2 : decide (18 < s) = false := decide_eq_false b2
      have g3 : decide ((ne : Int) < 0) = false := decide_eq_false b3
      by_cases k16 : s = 16
      · subst k16
        clear g1 g2
        by_cases h0 : out = []
        · subst h0
          have Hn : Hid (unr [] (ls.zip le) = none) := Hu.out.trans (unr_bad (by unfold rbad rtop; exact .inr (.inr (.inr (.inl ⟨rfl, rfl⟩)))))
          go_wp2
          go_ret2
          exact unrEnd_none Hn.out Hb.out
        · have hpos : 0 < out.length := List.length_pos_iff.2 h0
          have z0 : ((out.length : Int) == 0) = false := by rw [beq_eq_false_iff_ne]; omega
          obtain ⟨g, u, rfl, hg1, hg2, hu, hcell⟩ := own_cell (j := out.length - 1) Hown.out (by omega)
          obtain ⟨x, hx⟩ : ∃ x, out.getLast? = some x := by cases hq : out.getLast? with | none => simp at hq; exact absurd hq h0 | some x => exact ⟨x, rfl⟩
          obtain rfl : u = .int .i64 x := by
            rw [List.getLast?_eq_getElem?] at hx
            simp only [intsV, List.getElem?_map, hx] at hu
            simpa using hu.symm
          have Hx0 := hid hx
          clear hu hx
          by_cases t1 : 3 < ne
          · have Hn : Hid (unr [] (ls.zip le) = none) := Hu.out.trans (unr_bad (by unfold rbad rtop; exact .inr (.inr (.inr (.inr (by simp; omega))))))
            go_wp2
            go_ret2
            exact unrEnd_none Hn.out Hb.out
          · have Hn : Hid (unr [] (ls.zip le) = unr (out ++ List.replicate (3 + ne) (x)) ((ls.zip le).drop (j + 1))) := by
              have h := Hu.out
              rw [unr_step (by unfold rbad rtop; rintro (h | h | h | h | h) <;> first | omega | exact h0 h.2 | (simp at h; omega))] at h
              have h2 : (rn 16 ne).toNat = 3 + ne := by unfold rn; simp; omega
              have h3 : rv out 16 = x := by unfold rv; rw [if_pos rfl, Hx0.out]; rfl
              rw [h2, h3] at h
              exact h
            have hNN : 3 + ne ≤ 138 := by omega
            go_wp2_with fail
            go_loopw [6, 13] (fun o kv wi => ∃ (k : Nat) (A2 : Option Addr) (c2 : Nat), k ≤ 3 + ne ∧ kv = .int .i64 k ∧ o = .slice A2 (out.length + k) c2 ∧ wi.ownsRow W.heap.size 3 1 (.slice A2 (out.length + k) c2) (out.length + k) (intsV (out ++ List.replicate k (x))) ∧ Below W.heap.size W wi) (fun _ kv _ => (3 + ne) - (intOf kv).toNat)
            case atStart => exact ⟨0, _, c', by omega, rfl, rfl, by simpa using Hown.out, Hb.out⟩
            case round =>
              obtain ⟨k, A2, c2, hk, rfl, rfl, hown2, hb2⟩ := hrel
              have Hown2 := hid hown2
              have Hb2 := hid hb2
              have hszr := hb2.size
              clear hown2 hb2
              by_cases hkn : k < 3 + ne
              · have Hx := hid (rep_succ out k (x))
                go_wp2_with (at_builtin; refine wpList_app _ rfl _ _ _ rfl W.heap.size 3 i0 (.int .i64 0) 1 8 Try.underlying56 Hi0.out Hz0.out Hz1.out Hz2.out rfl (by omega) A2 (out.length + k) c2 _ rfl (Hown2.out.alloc _) _ _ 1 1 [.int .i64 (x)] rfl (rd_one _ _ _ _ (Blk.new _ _ _)) (by simp) (by simp [Value.oneCell']) (by simp only [maxLen]; omega) (by omega) (by simp; omega) ?_; rintro A3 c3 w3 ⟨hown3, hgr3, hb3, _⟩)
                go_roundw
                case rel => exact ⟨k + 1, A3, c3, by omega, by go_num, rfl, by rw [← Hx.out]; exact hown3, (Hb2.out.alloc hszr _).trans hb3⟩
                case measure => simp [intOf]; omega
              · have ek : k = 3 + ne := by omega
                subst ek
                go_wp2
                go_roundw
                case rel => exact ⟨j + 1, out ++ List.replicate (3 + ne) (x), A2, c2, by omega, by go_num, by simp, by simpa using Hown2.out, Hn.out, by simp; omega, Hb2.out⟩
                case measure => simp [intOf]; omega
      by_cases k17 : s = 17
      · subst k17
        clear g1 g2
        by_cases t1 : 7 < ne
        · have Hn : Hid (unr [] (ls.zip le) = none) := Hu.out.trans (unr_bad (by unfold rbad rtop; exact .inr (.inr (.inr (.inr (by simp; omega))))))
          go_wp2
          go_ret2
          exact unrEnd_none Hn.out Hb.out
        · have Hn : Hid (unr [] (ls.zip le) = unr (out ++ List.replicate (3 + ne) (0)) ((ls.zip le).drop (j + 1))) := by
            have h := Hu.out
            rw [unr_step (by unfold rbad rtop; rintro (h | h | h | h | h) <;> first | omega | (simp at h; omega))] at h
            have h2 : (rn 17 ne).toNat = 3 + ne := by unfold rn; simp; omega
            have h3 : rv out 17 = 0 := by unfold rv; simp
            rw [h2, h3] at h
            exact h
          have hNN : 3 + ne ≤ 138 := by omega
          go_wp2_with fail
          go_loopw [6, 13] (fun o kv wi => ∃ (k : Nat) (A2 : Option Addr) (c2 : Nat), k ≤ 3 + ne ∧ kv = .int .i64 k ∧ o = .slice A2 (out.length + k) c2 ∧ wi.ownsRow W.heap.size 3 1 (.slice A2 (out.length + k) c2) (out.length + k) (intsV (out ++ List.replicate k (0))) ∧ Below W.heap.size W wi) (fun _ kv _ => (3 + ne) - (intOf kv).toNat)
          case atStart => exact ⟨0, _, c', by omega, rfl, rfl, by simpa using Hown.out, Hb.out⟩
          case round =>
            obtain ⟨k, A2, c2, hk, rfl, rfl, hown2, hb2⟩ := hrel
            have Hown2 := hid hown2
            have Hb2 := hid hb2
            have hszr := hb2.size
            clear hown2 hb2
            by_cases hkn : k < 3 + ne
            · have Hx := hid (rep_succ out k (0))
              go_wp2_with (at_builtin; refine wpList_app _ rfl _ _ _ rfl W.heap.size 3 i0 (.int .i64 0) 1 8 Try.underlying56 Hi0.out Hz0.out Hz1.out Hz2.out rfl (by omega) A2 (out.length + k) c2 _ rfl (Hown2.out.alloc _) _ _ 1 1 [.int .i64 (0)] rfl (rd_one _ _ _ _ (Blk.new _ _ _)) (by simp) (by simp [Value.oneCell']) (by simp only [maxLen]; omega) (by omega) (by simp; omega) ?_; rintro A3 c3 w3 ⟨hown3, hgr3, hb3, _⟩)
              go_roundw
              case rel => exact ⟨k + 1, A3, c3, by omega, by go_num, rfl, by rw [← Hx.out]; exact hown3, (Hb2.out.alloc hszr _).trans hb3⟩
              case measure => simp [intOf]; omega
            · have ek : k = 3 + ne := by omega
              subst ek
              go_wp2
              go_roundw
              case rel => exact ⟨j + 1, out ++ List.replicate (3 + ne) (0), A2, c2, by omega, by go_num, by simp, by simpa using Hown2.out, Hn.out, by simp; omega, Hb2.out⟩
              case measure => simp [intOf]; omega
      by_cases k18 : s = 18
      · subst k18
        clear g1 g2
        by_cases t1 : 127 < ne
        · have Hn : Hid (unr [] (ls.zip le) = none) := Hu.out.trans (unr_bad (by unfold rbad rtop; exact .inr (.inr (.inr (.inr (by simp; omega))))))
          go_wp2
          go_ret2
          exact unrEnd_none Hn.out Hb.out
        · have Hn : Hid (unr [] (ls.zip le) = unr (out ++ List.replicate (11 + ne) (0)) ((ls.zip le).drop (j + 1))) := by
            have h := Hu.out
            rw [unr_step (by unfold rbad rtop; rintro (h | h | h | h | h) <;> first | omega | (simp at h; omega))] at h
            have h2 : (rn 18 ne).toNat = 11 + ne := by unfold rn; simp; omega
            have h3 : rv out 18 = 0 := by unfold rv; simp
            rw [h2, h3] at h
            exact h
          have hNN : 11 + ne ≤ 138 := by omega
          go_wp2_with fail
          go_loopw [6, 13] (fun o kv wi => ∃ (k : Nat) (A2 : Option Addr) (c2 : Nat), k ≤ 11 + ne ∧ kv = .int .i64 k ∧ o = .slice A2 (out.length + k) c2 ∧ wi.ownsRow W.heap.size 3 1 (.slice A2 (out.length + k) c2) (out.length + k) (intsV (out ++ List.replicate k (0))) ∧ Below W.heap.size W wi) (fun _ kv _ => (11 + ne) - (intOf kv).toNat)
          case atStart => exact ⟨0, _, c', by omega, rfl, rfl, by simpa using Hown.out, Hb.out⟩
          case round =>
            obtain ⟨k, A2, c2, hk, rfl, rfl, hown2, hb2⟩ := hrel
            have Hown2 := hid hown2
            have Hb2 := hid hb2
            have hszr := hb2.size
            clear hown2 hb2
            by_cases hkn : k < 11 + ne
            · have Hx := hid (rep_succ out k (0))
              go_wp2_with (at_builtin; refine wpList_app _ rfl _ _ _ rfl W.heap.size 3 i0 (.int .i64 0) 1 8 Try.underlying56 Hi0.out Hz0.out Hz1.out Hz2.out rfl (by omega) A2 (out.length + k) c2 _ rfl (Hown2.out.alloc _) _ _ 1 1 [.int .i64 (0)] rfl (rd_one _ _ _ _ (Blk.new _ _ _)) (by simp) (by simp [Value.oneCell']) (by simp only [maxLen]; omega) (by omega) (by simp; omega) ?_; rintro A3 c3 w3 ⟨hown3, hgr3, hb3, _⟩)
              go_roundw
              case rel => exact ⟨k + 1, A3, c3, by omega, by go_num, rfl, by rw [← Hx.out]; exact hown3, (Hb2.out.alloc hszr _).trans hb3⟩
              case measure => simp [intOf]; omega
            · have ek : k = 11 + ne := by omega
              subst ek
              go_wp2
              go_roundw
              case rel => exact ⟨j + 1, out ++ List.replicate (11 + ne) (0), A2, c2, by omega, by go_num, by simp, by simpa using Hown2.out, Hn.out, by simp; omega, Hb2.out⟩
              case measure => simp [intOf]; omega
      have e16 : (s == 16) = false := by rw [beq_eq_false_iff_ne]; exact k16
      have e17 : (s == 17) = false := by rw [beq_eq_false_iff_ne]; exact k17
      have e18 : (s == 18) = false := by rw [beq_eq_false_iff_ne]; exact k18
      by_cases t1 : 0 < ne
      · have Hn : Hid (unr [] (ls.zip le) = none) := Hu.out.trans (unr_bad (by unfold rbad rtop; exact .inr (.inr (.inr (.inr (by rw [if_neg k16, if_neg k17, if_neg k18]; omega))))))
        go_wp2
        go_ret2
        exact unrEnd_none Hn.out Hb.out
      · have Hn : Hid (unr [] (ls.zip le) = unr (out ++ List.replicate (1) (s)) ((ls.zip le).drop (j + 1))) := by
          have h := Hu.out
          rw [unr_step (by unfold rbad rtop; rw [if_neg k16, if_neg k17, if_neg k18]; rintro (h | h | h | h | h) <;> first | omega | exact k16 h.1)] at h
          have h2 : (rn s ne).toNat = 1 := by unfold rn; rw [if_neg (by omega), if_neg k18]; rfl
          have h3 : rv out s = s := by unfold rv; rw [if_neg k16, if_neg (by omega)]
          rw [h2, h3] at h
          exact h
        have hNN : 1 ≤ 138 := by omega
        go_wp2_with fail
        go_loopw [6, 13] (fun o kv wi => ∃ (k : Nat) (A2 : Option Addr) (c2 : Nat), k ≤ 1 ∧ kv = .int .i64 k ∧ o = .slice A2 (out.length + k) c2 ∧ wi.ownsRow W.heap.size 3 1 (.slice A2 (out.length + k) c2) (out.length + k) (intsV (out ++ List.replicate k (s))) ∧ Below W.heap.size W wi) (fun _ kv _ => (1) - (intOf kv).toNat)
        case atStart => exact ⟨0, _, c', by omega, rfl, rfl, by simpa using Hown.out, Hb.out⟩
        case round =>
          obtain ⟨k, A2, c2, hk, rfl, rfl, hown2, hb2⟩ := hrel
          have Hown2 := hid hown2
          have Hb2 := hid hb2
          have hszr := hb2.size
          clear hown2 hb2
          by_cases hkn : k < 1
          · have Hx := hid (rep_succ out k (s))
            go_wp2_with (at_builtin; refine wpList_app _ rfl _ _ _ rfl W.heap.size 3 i0 (.int .i64 0) 1 8 Try.underlying56 Hi0.out Hz0.out Hz1.out Hz2.out rfl (by omega) A2 (out.length + k) c2 _ rfl (Hown2.out.alloc _) _ _ 1 1 [.int .i64 (s)] rfl (rd_one _ _ _ _ (Blk.new _ _ _)) (by simp) (by simp [Value.oneCell']) (by simp only [maxLen]; omega) (by omega) (by simp; omega) ?_; rintro A3 c3 w3 ⟨hown3, hgr3, hb3, _⟩)
            go_roundw
            case rel => exact ⟨k + 1, A3, c3, by omega, by go_num, rfl, by rw [← Hx.out]; exact hown3, (Hb2.out.alloc hszr _).trans hb3⟩
            case measure => simp [intOf]; omega
          · have ek : k = 1 := by omega
            subst ek
            go_wp2
            go_roundw
            case rel => exact ⟨j + 1, out ++ List.replicate (1) (s), A2, c2, by omega, by go_num, by simp, by simpa using Hown2.out, Hn.out, by simp; omega, Hb2.out⟩
            case measure => simp [intOf]; omega
    · go_wp2
      go_ret2
      have e : j = ls.length := by omega
      subst e
      rw [List.drop_eq_nil_of_le (by rw [Hzl.out]; exact Nat.le_refl _)] at hu
      exact unrEnd_some (hu.trans rfl) hown (by rw [Hzl.out]; exact hol) hb

end Go.Proofs.Ytnlhneoiofijeaa
