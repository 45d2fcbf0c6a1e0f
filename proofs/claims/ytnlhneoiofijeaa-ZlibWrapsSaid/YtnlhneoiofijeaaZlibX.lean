/-
  burnishref07.Wrap and zlib.Wrap: what they end in.
-/
import Derived.Test.YtnlhneoiofijeaaZlibW
namespace Go.Proofs.Ytnlhneoiofijeaa
open Go.RowKit

/-- the second byte of the head -/
def fit (k : Nat) : Int := (31 - 256 * (16 * (k : Int) + 8) % 31) % 31
theorem fit_bd (k : Nat) : 0 ≤ fit k ∧ fit k ≤ 30 := by unfold fit; omega
/-- the bytes of a wrapped text -/
def wrapped (k : Nat) (packed text : List Int) : List Int := [16 * (k : Int) + 8, fit k] ++ packed ++ be 4 (adler text)
theorem adler_bd (l : List Int) : 0 ≤ adler l ∧ adler l < 4294967296 := by
  have := adlF_bd l
  unfold adler; omega
/-- what the two wrappers end in -/
def WrapEnd (good bad : Value) (packed text : List Int) (window : Int) (W : World) (e : Ending) (w' : World) : Prop :=
  ((∃ (k : Nat) (A : Option Addr) (c : Nat), k < 8 ∧ window = 256 * 2 ^ k ∧ e = .returned (.tuple #[.slice A (packed.length + 6) c, good]) ∧
      w'.ownsRow W.heap.size 5 1 (.slice A (packed.length + 6) c) (packed.length + 6) (bytesV (wrapped k packed text))) ∨
    ((∀ k : Nat, k < 8 → window ≠ 256 * 2 ^ k) ∧ e = .returned (.tuple #[.slice none 0 0, bad]))) ∧ Below W.heap.size W w'
theorem wrapEnd_good {good bad : Value} {packed text : List Int} {window : Int} {W w' : World} {k c : Nat} {A : Option Addr} (hk : k < 8) (hw : window = 256 * 2 ^ k)
    (hown : w'.ownsRow W.heap.size 5 1 (.slice A (packed.length + 6) c) (packed.length + 6) (bytesV (wrapped k packed text))) (hb : Below W.heap.size W w') :
    WrapEnd good bad packed text window W (.returned (.tuple #[.slice A (packed.length + 6) c, good])) w' := ⟨.inl ⟨k, A, c, hk, hw, rfl, hown⟩, hb⟩
theorem wrapEnd_bad {good bad : Value} {packed text : List Int} {window : Int} {W w' : World} (h : ∀ k : Nat, k < 8 → window ≠ 256 * 2 ^ k) (hb : Below W.heap.size W w') :
    WrapEnd good bad packed text window W (.returned (.tuple #[.slice none 0 0, bad])) w' := ⟨.inr ⟨h, rfl⟩, hb⟩

set_option maxRecDepth 100000 in
set_option maxHeartbeats 4000000 in
theorem refWrap_any (A B : Option Addr) (c d : Nat) (packed text : List Int) (window : Int) (W : World) (hr : Rd W W.heap.size 1 A packed.length (bytesV packed)) (ht : Rd W W.heap.size 1 B text.length (bytesV text))
    (hb : ∀ x ∈ text, isB x) (hp : packed.length ≤ 1000000) (htl : text.length ≤ 1000000) :
    Calls Try.prog 47 #[.slice A packed.length c, .slice B text.length d, .int .i64 window] W (WrapEnd (.bool true) (.bool false) packed text window W) := by
  have Hr := hid hr
  have Hadl := hid (refAdler_any B d text W W.heap.size ht hb (by omega))
  obtain ⟨i0, hi0, hz0, hz1, hz2⟩ := info_parts u8_info
  have Hi0 := hid hi0
  have Hz0 := hid hz0
  have Hz1 := hid hz1
  have Hz2 := hid hz2
  clear hi0 hz0 hz1 hz2 hr ht hb
  go_enter Try.func47, Try.ntmps47
  go_wp2
  go_loop [8] (fun i => ∃ k : Nat, k ≤ 8 ∧ i = .int .i64 k ∧ ∀ k' : Nat, k' < k → window ≠ 256 * 2 ^ k') (fun i => 8 - (intOf i).toNat)
  case atStart => exact ⟨0, by omega, rfl, fun k' h => absurd h (by omega)⟩
  case round =>
    obtain ⟨k, hk, rfl, hno⟩ := hrel
    have Hno := hid hno
    clear hno
    by_cases hlt : k < 8
    · go_wp2
      go_loop [9] (fun i => ∃ s : Nat, s ≤ 32 ∧ i = .int .i64 s ∧ (window = 256 * 2 ^ k → ∀ s' : Nat, s' < s → (256 * (16 * (k : Int) + 8) + s') % 31 ≠ 0)) (fun i => 32 - (intOf i).toNat)
      case atStart => exact ⟨0, by omega, rfl, fun _ s' h => absurd h (by omega)⟩
      case round =>
        obtain ⟨s, hs, rfl, hns⟩ := hrel
        have Hns := hid hns
        clear hns
        by_cases hlt2 : s < 32
        · have hw1 : IntKind.u8.wrap (16 * (k : Int) + 8) = 16 * (k : Int) + 8 := by rw [IntKind.wrap_u8]; omega
          have hw2 : IntKind.u8.wrap (s : Int) = s := by rw [IntKind.wrap_u8]; omega
          have hh := refHead_any (16 * (k : Int) + 8) s (by omega) (by omega) (by omega) (by omega) W
          by_cases hz : (256 * (16 * (k : Int) + 8) + s) % 31 = 0
          · have hhn : headN (16 * (k : Int) + 8) s = (256 * 2 ^ k, 0) := by
              unfold headN
              have hs0 : (s : Int) / 32 = 0 := by omega
              rw [if_neg (by omega), if_neg (by rw [hs0]; omega), show ((16 * (k : Int) + 8) / 16).toNat = k by omega]
            rw [hhn] at hh
            have Hh := hid hh
            clear hh hhn
            by_cases hwin : window = 256 * 2 ^ k
            · have Hwin := hid hwin
              have hfit : (s : Int) = fit k := by
                have h1 := Hns.out hwin
                have hf := fit_bd k
                have hz2 : (256 * (16 * (k : Int) + 8) + fit k) % 31 = 0 := by unfold fit; omega
                rcases (by omega : (s : Int) ≤ fit k ∨ fit k < s) with h2 | h2
                · omega
                · exfalso
                  refine h1 (fit k).toNat (by omega) ?_
                  rw [Int.toNat_of_nonneg hf.1]
                  exact hz2
              have Hfit := hid hfit
              have hq : (256 * (2 : Int) ^ k == window) = true := beq_iff_eq.2 hwin.symm
              obtain ⟨ad0, ad1⟩ := adler_bd text
              clear hz hwin hfit Hns
              go_wp2_with fail
              refine Hh.out.mono ?_
              rintro e w1 ⟨rfl, rfl⟩
              go_wp2_with fail
              refine Hadl.out.mono ?_
              rintro e w1 ⟨rfl, rfl⟩
              go_wp2_with fail
              refine (refNumber_any (adler text) (by omega) _).mono ?_
              rintro e w1 ⟨he, hb1⟩
              rw [if_neg (by omega)] at he
              obtain ⟨A1, c1, rfl, hown1⟩ := he
              have Hown1 := hid hown1
              have Hb1 := hid hb1
              have hz1 := hb1.size
              clear hown1 hb1
              go_wp2_with (first
                | (at_builtin; refine wpList_app _ rfl (.tmp 52) (.tmp 53) _ rfl W.heap.size 5 i0 (.int .u8 0) 1 1 Try.underlying68 Hi0.out Hz0.out Hz1.out Hz2.out rfl (by omega) _ 2 2 [.int .u8 (16 * (k : Int) + 8), .int .u8 s] rfl (World.ownsRow_lit w1 #[.int .u8 (16 * (k : Int) + 8), .int .u8 s] 2 hz1 (by simp [maxLen]) rfl) W.heap.size A packed.length c (bytesV packed) rfl ((Hr.out.below Hb1.out (Nat.le_refl _)).alloc hz1 _) (fun h => rd_nil Hr.out (by omega) h) bytesV_cells (by simp only [maxLen]; omega) (by omega) (by simp; omega) ?_; rintro A4 c4 w4 ⟨hown4, hgr4, hb4, _⟩; have Hown4 := hid hown4; have Hb4 := hid ((Hb1.out.alloc hz1 _).trans hb4); have Hgr4 := hid hgr4; have hz4 := hb4.size; clear hown4 hb4 hgr4)
                | (at_builtin; refine wpList_app _ rfl (.tmp 55) (.tmp 56) _ rfl W.heap.size 5 i0 (.int .u8 0) 1 1 Try.underlying68 Hi0.out Hz0.out Hz1.out Hz2.out rfl (by omega) A4 (2 + packed.length) c4 _ rfl Hown4.out w1.heap.size A1 4 c1 (bytesV (be 4 (adler text))) rfl (((own_rd Hown1.out).alloc (Nat.le_refl _) _).grown Hgr4.out (by simp) (by intro g hg; simp [Value.ownBlock] at hg; omega)) (fun h => rd_nil (own_rd Hown1.out) (by omega) h) bytesV_cells (by simp only [maxLen]; omega) (by omega) (by simp at hz4; omega) ?_; rintro A5 c5 w5 ⟨hown5, hgr5, hb5, _⟩))
              go_ret2
              have e6 : 2 + packed.length + 4 = packed.length + 6 := by omega
              rw [e6] at hown5
              show WrapEnd _ _ packed text window W (.returned (.tuple #[.slice A5 (2 + packed.length + 4) c5, .bool true])) w5
              rw [e6]
              exact wrapEnd_good hlt Hwin.out (by rw [Hfit.out] at hown5; simpa [bytesV, wrapped] using hown5) (Hb4.out.trans hb5)
            · have hq : (256 * (2 : Int) ^ k == window) = false := beq_eq_false_iff_ne.2 (fun h => hwin h.symm)
              have Hwin := hid hwin
              clear hz hwin Hns
              go_wp2_with fail
              refine Hh.out.mono ?_
              rintro e w1 ⟨rfl, rfl⟩
              go_wp2_with fail
              go_round
              case rel => exact ⟨s + 1, by omega, by go_num, fun h => absurd h Hwin.out⟩
              case measure => simp [intOf]; omega
          · have hhn : headN (16 * (k : Int) + 8) s = (0, 2) := by
              unfold headN
              rw [if_pos (.inr (.inr hz))]
            rw [hhn] at hh
            have Hh := hid hh
            have Hz := hid hz
            clear hh hhn hz
            go_wp2_with fail
            refine Hh.out.mono ?_
            rintro e w1 ⟨rfl, rfl⟩
            go_wp2_with fail
            go_round
            case rel =>
              refine ⟨s + 1, by omega, by go_num, fun h s' hs' => ?_⟩
              rcases (by omega : s' < s ∨ s' = s) with h1 | rfl
              · exact Hns.out h s' h1
              · exact Hz.out
            case measure => simp [intOf]; omega
        · have e : s = 32 := by omega
          subst e
          have Hk := hid (show window ≠ 256 * 2 ^ k from fun h => by
            have h1 := Hns.out h
            have hf := fit_bd k
            refine h1 (fit k).toNat (by omega) ?_
            rw [Int.toNat_of_nonneg hf.1]
            unfold fit; omega)
          go_wp2
          go_round
          case rel =>
            refine ⟨k + 1, by omega, by go_num, fun k' hk' => ?_⟩
            rcases (by omega : k' < k ∨ k' = k) with h1 | rfl
            · exact Hno.out k' h1
            · exact Hk.out
          case measure => simp [intOf]; omega
    · have e : k = 8 := by omega
      subst e
      go_wp2
      go_ret2
      exact wrapEnd_bad Hno.out (Below.refl _ _)

/-- which window has which number -/
def WinIs (window : Int) (k : Nat) : Prop := (k < 8 ∧ window = 256 * 2 ^ k) ∨ (k = 8 ∧ ∀ k' : Nat, k' < 8 → window ≠ 256 * 2 ^ k')

set_option maxRecDepth 100000 in
set_option maxHeartbeats 4000000 in
theorem progWrap_any (A B : Option Addr) (c d : Nat) (packed text : List Int) (window : Int) (W : World) (hr : Rd W W.heap.size 1 A packed.length (bytesV packed)) (ht : Rd W W.heap.size 1 B text.length (bytesV text))
    (hb : ∀ x ∈ text, isB x) (hp : packed.length ≤ 1000000) (htl : text.length ≤ 1000000) :
    Calls Try.prog 45 #[.slice A packed.length c, .slice B text.length d, .int .i64 window] W (WrapEnd .nilIface (.iface 47 (.int .i64 6)) packed text window W) := by
  have Hr := hid hr
  have Ht := hid ht
  have Hb := hid hb
  clear hr ht hb
  go_enter Try.func45, Try.ntmps45
  go_upto_block 0 with (fail)
  go_cut [8] from 11 to 46 (fun i w => ∃ k : Nat, i = .int .i64 k ∧ WinIs window k ∧ W = w)
  case first =>
    go_wp2_with fail
    go_loop [8] (fun i => ∃ k : Nat, k ≤ 8 ∧ i = .int .i64 k ∧ ∀ k' : Nat, k' < k → window ≠ 256 * 2 ^ k') (fun i => 8 - (intOf i).toNat)
    case atStart => exact ⟨0, by omega, rfl, fun k' h => absurd h (by omega)⟩
    case round =>
      obtain ⟨k, hk, rfl, hno⟩ := hrel
      have Hno := hid hno
      clear hno
      have hk8 : k = 0 ∨ k = 1 ∨ k = 2 ∨ k = 3 ∨ k = 4 ∨ k = 5 ∨ k = 6 ∨ k = 7 ∨ k = 8 := by omega
      clear hk
      rcases hk8 with rfl | rfl | rfl | rfl | rfl | rfl | rfl | rfl | rfl
      · by_cases hw : window = 256
        · have Hwin : Hid (WinIs window 0) := .inl ⟨by omega, by omega⟩
          subst hw
          go_wp2
          go_meet
          exact ⟨0, rfl, Hwin.out, rfl⟩
        · have hq : ((256 : Int) != window) = true := bne_iff_ne.2 (fun h => hw h.symm)
          have Hne := hid (show window ≠ 256 * 2 ^ 0 by omega)
          clear hw
          go_wp2
          go_round
          case rel =>
            refine ⟨1, by omega, by go_num, fun k' hk' => ?_⟩
            rcases (by omega : k' < 0 ∨ k' = 0) with h1 | rfl
            · exact Hno.out k' h1
            · exact Hne.out
          case measure => simp [intOf]
      · by_cases hw : window = 512
        · have Hwin : Hid (WinIs window 1) := .inl ⟨by omega, by omega⟩
          subst hw
          go_wp2
          go_meet
          exact ⟨1, rfl, Hwin.out, rfl⟩
        · have hq : ((512 : Int) != window) = true := bne_iff_ne.2 (fun h => hw h.symm)
          have Hne := hid (show window ≠ 256 * 2 ^ 1 by omega)
          clear hw
          go_wp2
          go_round
          case rel =>
            refine ⟨2, by omega, by go_num, fun k' hk' => ?_⟩
            rcases (by omega : k' < 1 ∨ k' = 1) with h1 | rfl
            · exact Hno.out k' h1
            · exact Hne.out
          case measure => simp [intOf]
      · by_cases hw : window = 1024
        · have Hwin : Hid (WinIs window 2) := .inl ⟨by omega, by omega⟩
          subst hw
          go_wp2
          go_meet
          exact ⟨2, rfl, Hwin.out, rfl⟩
        · have hq : ((1024 : Int) != window) = true := bne_iff_ne.2 (fun h => hw h.symm)
          have Hne := hid (show window ≠ 256 * 2 ^ 2 by omega)
          clear hw
          go_wp2
          go_round
          case rel =>
            refine ⟨3, by omega, by go_num, fun k' hk' => ?_⟩
            rcases (by omega : k' < 2 ∨ k' = 2) with h1 | rfl
            · exact Hno.out k' h1
            · exact Hne.out
          case measure => simp [intOf]
      · by_cases hw : window = 2048
        · have Hwin : Hid (WinIs window 3) := .inl ⟨by omega, by omega⟩
          subst hw
          go_wp2
          go_meet
          exact ⟨3, rfl, Hwin.out, rfl⟩
        · have hq : ((2048 : Int) != window) = true := bne_iff_ne.2 (fun h => hw h.symm)
          have Hne := hid (show window ≠ 256 * 2 ^ 3 by omega)
          clear hw
          go_wp2
          go_round
          case rel =>
            refine ⟨4, by omega, by go_num, fun k' hk' => ?_⟩
            rcases (by omega : k' < 3 ∨ k' = 3) with h1 | rfl
            · exact Hno.out k' h1
            · exact Hne.out
          case measure => simp [intOf]
      · by_cases hw : window = 4096
        · have Hwin : Hid (WinIs window 4) := .inl ⟨by omega, by omega⟩
          subst hw
          go_wp2
          go_meet
          exact ⟨4, rfl, Hwin.out, rfl⟩
        · have hq : ((4096 : Int) != window) = true := bne_iff_ne.2 (fun h => hw h.symm)
          have Hne := hid (show window ≠ 256 * 2 ^ 4 by omega)
          clear hw
          go_wp2
          go_round
          case rel =>
            refine ⟨5, by omega, by go_num, fun k' hk' => ?_⟩
            rcases (by omega : k' < 4 ∨ k' = 4) with h1 | rfl
            · exact Hno.out k' h1
            · exact Hne.out
          case measure => simp [intOf]
      · by_cases hw : window = 8192
        · have Hwin : Hid (WinIs window 5) := .inl ⟨by omega, by omega⟩
          subst hw
          go_wp2
          go_meet
          exact ⟨5, rfl, Hwin.out, rfl⟩
        · have hq : ((8192 : Int) != window) = true := bne_iff_ne.2 (fun h => hw h.symm)
          have Hne := hid (show window ≠ 256 * 2 ^ 5 by omega)
          clear hw
          go_wp2
          go_round
          case rel =>
            refine ⟨6, by omega, by go_num, fun k' hk' => ?_⟩
            rcases (by omega : k' < 5 ∨ k' = 5) with h1 | rfl
            · exact Hno.out k' h1
            · exact Hne.out
          case measure => simp [intOf]
      · by_cases hw : window = 16384
        · have Hwin : Hid (WinIs window 6) := .inl ⟨by omega, by omega⟩
          subst hw
          go_wp2
          go_meet
          exact ⟨6, rfl, Hwin.out, rfl⟩
        · have hq : ((16384 : Int) != window) = true := bne_iff_ne.2 (fun h => hw h.symm)
          have Hne := hid (show window ≠ 256 * 2 ^ 6 by omega)
          clear hw
          go_wp2
          go_round
          case rel =>
            refine ⟨7, by omega, by go_num, fun k' hk' => ?_⟩
            rcases (by omega : k' < 6 ∨ k' = 6) with h1 | rfl
            · exact Hno.out k' h1
            · exact Hne.out
          case measure => simp [intOf]
      · by_cases hw : window = 32768
        · have Hwin : Hid (WinIs window 7) := .inl ⟨by omega, by omega⟩
          subst hw
          go_wp2
          go_meet
          exact ⟨7, rfl, Hwin.out, rfl⟩
        · have hq : ((32768 : Int) != window) = true := bne_iff_ne.2 (fun h => hw h.symm)
          have Hne := hid (show window ≠ 256 * 2 ^ 7 by omega)
          clear hw
          go_wp2
          go_round
          case rel =>
            refine ⟨8, by omega, by go_num, fun k' hk' => ?_⟩
            rcases (by omega : k' < 7 ∨ k' = 7) with h1 | rfl
            · exact Hno.out k' h1
            · exact Hne.out
          case measure => simp [intOf]
      · go_wp2
        go_meet
        exact ⟨8, rfl, .inr ⟨rfl, Hno.out⟩, rfl⟩
  case rest =>
    obtain ⟨k, rfl, hwin, rfl⟩ := hcut
    rcases hwin with ⟨hk, hwin⟩ | ⟨rfl, hno⟩
    · have Hwin := hid hwin
      clear hwin
      have hj : bits .or .i64 ((k : Int) * 16) 8 = 16 * (k : Int) + 8 := by rw [i64_join 4 ((k : Int) * 16) 8 (by omega) (by omega) (by omega) (by omega) (by omega) (by omega)]; omega
      have hm1 : (16 * (k : Int) + 8) % 256 = 16 * (k : Int) + 8 := by omega
      have d7 : decide ((7 : Int) < (k : Int)) = false := decide_eq_false (by omega)
      have Hfit := hid (show -((16 * (k : Int) + 8) * 256 % 31) % 31 = fit k by unfold fit; omega)
      go_wp2_with fail
      rw [Hfit.out]
      have hl : ([16 * (k : Int) + 8, fit k] ++ packed).length = packed.length + 2 := by simp
      have hpc : PartsCB ((W.alloc (.cells #[.int .u8 (16 * (k : Int) + 8), .int .u8 (fit k)] 5)).alloc (.cells #[.slice (some ⟨W.heap.size, 0, none⟩) 2 2, .slice A packed.length c] 68)) (W.heap.size + 2) (W.heap.size + 1)
          [(some ⟨W.heap.size, 0, none⟩, 2, 2), (A, packed.length, c)] [[.int .u8 (16 * (k : Int) + 8), .int .u8 (fit k)], bytesV packed] := by
        refine ⟨?_, rfl, ?_⟩
        · have h := Blk.new (W.alloc (.cells #[.int .u8 (16 * (k : Int) + 8), .int .u8 (fit k)] 5)) 68 #[.slice (some ⟨W.heap.size, 0, none⟩) 2 2, .slice A packed.length c]
          rw [World.size_alloc] at h
          exact h
        · intro i s l hs hl
          match i with
          | 0 =>
            simp at hs hl
            subst hs hl
            exact ⟨((rd_two W _ _ _).alloc (by simp) _).more (by omega), by simp [Value.oneCell']⟩
          | 1 =>
            simp at hs hl
            subst hs hl
            exact ⟨((Hr.out.alloc (Nat.le_refl _) _).alloc (by simp) _).more (by omega), bytesV_cells⟩
          | i + 2 => simp at hs
      have hcat := concatB_any (W.heap.size + 1) 2 (packed.length + 2) [(some ⟨W.heap.size, 0, none⟩, 2, 2), (A, packed.length, c)] [[.int .u8 (16 * (k : Int) + 8), .int .u8 (fit k)], bytesV packed] ((W.alloc (.cells #[.int .u8 (16 * (k : Int) + 8), .int .u8 (fit k)] 5)).alloc (.cells #[.slice (some ⟨W.heap.size, 0, none⟩) 2 2, .slice A packed.length c] 68)) (by simpa using hpc) (by simp) (by simp [bytesV]) (by omega)
      refine hcat.mono ?_
      rintro e w3 ⟨A3, c3, rfl, hown3, hb3⟩
      have hfl : [[Value.int .u8 (16 * (k : Int) + 8), .int .u8 (fit k)], bytesV packed].flatten = bytesV ([16 * (k : Int) + 8, fit k] ++ packed) := by simp [bytesV]
      rw [hfl] at hown3
      have Hown3 := hid hown3
      have Hb3 := hid ((((Below.refl _ _).alloc (Nat.le_refl _) _).alloc (by simp) _).trans (hb3.mono (show W.heap.size ≤ _ by simp; omega)))
      have hz3 := Hb3.out.size
      clear hpc hcat hown3 hb3 hfl hj hm1
      go_wp2_with fail
      have hpa : Parts (w3.alloc (.cells #[.slice B text.length d] 68)) (w3.heap.size + 1) w3.heap.size [(B, text.length, d)] [text] := by
        refine ⟨Blk.new w3 _ _, rfl, ?_⟩
        intro i s l hs hl
        match i with
        | 0 =>
          simp at hs hl
          subst hs hl
          exact ⟨rfl, ((Ht.out.below Hb3.out (Nat.le_refl _)).alloc hz3 _).more (by omega)⟩
        | i + 1 => simp at hs
      refine (adler_any w3.heap.size 1 [(B, text.length, d)] [text] _ _ hpa (by intro l hl; simp at hl; subst hl; exact Hb.out) (by simp) (by intro l hl; simp at hl; subst hl; omega)).mono ?_
      rintro e w4 ⟨rfl, rfl⟩
      clear hpa
      go_wp2_with fail
      have hput := put4_any A3 c3 ([16 * (k : Int) + 8, fit k] ++ packed) (adler text) (w3.alloc (.cells #[.slice B text.length d] 68)) (by rw [hl]; exact ((own_rd Hown3.out).alloc (Nat.le_refl _) _).more (by simp)) (by intro h; subst h; exact own_nil Hown3.out) (by rw [hl]; omega)
      rw [hl] at hput
      refine hput.mono ?_
      rintro e w5 ⟨he, hb5⟩
      have had := adler_bd text
      rw [if_neg (by omega)] at he
      obtain ⟨A5, c5, rfl, hown5⟩ := he
      rw [hl] at hown5
      have hown6 := own_base hown5 (show W.heap.size ≤ _ by simp; omega)
      have hb6 := (Hb3.out.alloc hz3 (.cells #[.slice B text.length d] 68)).trans (hb5.mono (by simp; omega))
      clear hown5 hb5 hput had
      go_wp2_with fail
      go_ret2
      exact wrapEnd_good hk Hwin.out hown6 hb6
    · have Hno := hid hno
      clear hno
      go_wp2
      go_ret2
      exact wrapEnd_bad Hno.out (Below.refl _ _)

end Go.Proofs.Ytnlhneoiofijeaa
