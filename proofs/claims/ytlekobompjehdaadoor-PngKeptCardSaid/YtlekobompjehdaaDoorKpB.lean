/-
  chunk.Named, unicode.IsLower of letters, chunk.Safe; the reference's Named.
-/
import Derived.Test.YtlekobompjehdaaDoorKpA
namespace Go.Proofs.YtlekobompjehdaaDoor
open Go.RowKit

def litZ {H : Type} : DataW H → Int
  | .lit (.int _ n) => n
  | _ => 0
def propsZ : List Int := match (Rows.laid_unicode_properties : DataW Unit) with
  | .agg l => l.map litZ
  | _ => []
/-- the library's table of letters' kinds lies where it lies -/
structure PropsIn (W : World) : Prop where
  sz : 0 < W.heap.size
  cell : ∀ r, r < 128 → W.cell? ⟨0, r, none⟩ = some (.int .u8 (propsZ.getD r 0))
theorem PropsIn.below {W w : World} {n : Nat} (h : PropsIn W) (hb : Below n W w) (hn : 0 < n) : PropsIn w :=
  ⟨Nat.lt_of_lt_of_le h.sz hb.size, fun r hr => (hb.cell (p := ⟨0, r, none⟩) hn).trans (h.cell r hr)⟩
theorem props_low : ((List.range 128).all fun r => !(ltrI r) || ((bits .and .u8 (propsZ.getD r 0) 96 == 64) == smI r)) = true := by kernel_rfl
theorem isLower_any (r : Nat) (W : World) (h : PropsIn W) (hl : ltrI r = true) : Calls Tryd.prog 20 #[.int .i32 r] W fun e w' => e = .returned (.bool (smI r)) ∧ W = w' := by
  have hr := ltrI_lt hl
  have hc := h.cell r (by omega)
  have hp := List.all_eq_true.1 props_low r (List.mem_range.2 (by omega))
  rw [hl] at hp
  have hs : (bits .and .u8 (propsZ.getD r 0) 96 == 64) = smI r := by simpa using hp
  rw [← hs]
  generalize propsZ.getD r 0 = z at *
  have hr2 : (r : Int) ≤ 255 := by omega
  clear hp hs hl hr h
  go_enter Tryd.func20, Tryd.ntmps20
  go_wp2
  go_ret
  exact ⟨rfl, rfl⟩
theorem below_iter (W : World) (s : ByteArray) (pos : Nat) : Below W.heap.size W (W.iter s pos) := (Below.refl _ _).alloc (Nat.le_refl _) _
set_option maxRecDepth 100000 in
set_option maxHeartbeats 2000000 in
theorem named_any (s : ByteArray) (W : World) : Calls Tryd.prog 19 #[.string s] W fun e w' => e = .returned (.bool (named s)) ∧ Below W.heap.size W w' := by
  go_enter Tryd.func19, Tryd.ntmps19
  go_upto_region 2 with (fail)
  go_loopw [2] (fun v wr => ∃ pos : Nat, v = .bool false ∧ wr = W.iter s pos ∧ ∀ i, i < pos → i < s.size → ltrI (bt s i) = true) (fun _ w' => s.size - w'.iterPos W.heap.size)
  case atStart => exact ⟨0, rfl, rfl, fun i hi => by omega⟩
  case round =>
    obtain ⟨pos, rfl, rfl, hall⟩ := hrel
    have Hall := hid hall
    clear hall
    by_cases hp : pos < s.size
    · have hnx : ∀ ty, (Instr.next (.pointer (some ⟨W.heap.size, 0, none⟩)) true ty).run Tryd.prog (W.iter s pos) = _ := fun ty => run_next_any W s pos ty hp
      have hd := dec_let hp
      have hwd := dec_pos hp
      generalize hrr : (Utf8.decode s pos).1 = rr at *
      generalize hnn : (Utf8.decode s pos).2 = nn at *
      have Hd := hid hd
      clear hd
      go_wp2_with fail
      refine (letter_any _ _).mono ?_
      rintro e w1 ⟨rfl, rfl⟩
      rw [Hd.out.1]
      cases hl : ltrI (bt s pos)
      · have hn : named s = false := by
          cases e : named s
          · rfl
          · obtain ⟨h4, h5⟩ := named_let e
            have := h5 pos (by omega)
            rw [hl] at this
            cases this
        have Hn := hid hn
        clear hn
        go_wp2
        go_ret
        rw [Hn.out]
        exact ⟨rfl, below_iter W s _⟩
      · have hn1 : nn = 1 := by
          have := congrArg Prod.snd (Hd.out.2 hl)
          rw [hnn] at this
          exact this
        have Hl := hid hl
        clear hl
        subst hn1
        go_wp2
        go_roundw
        case rel =>
          refine ⟨pos + 1, rfl, rfl, fun i hi his => ?_⟩
          by_cases h : i < pos
          · exact Hall.out i h his
          · obtain rfl : i = pos := by omega
            exact Hl.out
        case measure => simp; omega
    · have hnx : ∀ ty, (Instr.next (.pointer (some ⟨W.heap.size, 0, none⟩)) true ty).run Tryd.prog (W.iter s pos) = _ := fun ty => run_next_end W s pos ty hp
      have hn : named s = decide (s.size = 4) := by
        by_cases h4 : s.size = 4
        · rw [decide_eq_true h4]
          exact named_of h4 (fun i hi => Hall.out i (by omega) (by omega))
        · rw [decide_eq_false h4]
          unfold named
          rw [decide_eq_false h4]
          rfl
      have Hn := hid hn
      clear hn
      go_wp2
      go_ret
      rw [Hn.out]
      exact ⟨ret_bool (by
        by_cases h4 : s.size = 4
        · simp [h4]
        · simp [h4]
          omega), below_iter W s _⟩
set_option maxRecDepth 100000 in
set_option maxHeartbeats 2000000 in
theorem safe_any (s : ByteArray) (W : World) (hP : PropsIn W) : Calls Tryd.prog 17 #[.string s, .int .i64 3] W fun e w' => e = .returned (.bool (safe s)) ∧ Below W.heap.size W w' := by
  have P := hid hP
  clear hP
  go_enter Tryd.func17, Tryd.ntmps17
  go_upto_region 2 with (fail)
  go_loopw [4] (fun v wr => ∃ pos : Nat, v = .bool false ∧ wr = W.iter s pos ∧ (named s = true → pos ≤ 3)) (fun _ w' => s.size - w'.iterPos W.heap.size)
  case atStart => exact ⟨0, rfl, rfl, fun _ => by omega⟩
  case round =>
    obtain ⟨pos, rfl, rfl, hall⟩ := hrel
    have Hall := hid hall
    clear hall
    by_cases hp : pos < s.size
    · have hnx : ∀ ty, (Instr.next (.pointer (some ⟨W.heap.size, 0, none⟩)) true ty).run Tryd.prog (W.iter s pos) = _ := fun ty => run_next_any W s pos ty hp
      have hd := dec_let hp
      have hwd := dec_pos hp
      generalize hrr : (Utf8.decode s pos).1 = rr at *
      generalize hnn : (Utf8.decode s pos).2 = nn at *
      have Hd := hid hd
      have Hrr := hid hrr
      have Hnn := hid hnn
      clear hd hrr hnn
      by_cases h3 : pos = 3
      · subst h3
        have B := hid (below_iter W s (3 + nn))
        have P2 := hid (P.out.below B.out P.out.sz)
        go_upto_region 5 with (fail)
        generalize W.iter s (3 + nn) = w1 at *
        go_wp2_with fail
        refine (named_any s _).mono ?_
        rintro e w2 ⟨rfl, hb2⟩
        have B2 := hid (B.out.trans (hb2.mono B.out.size))
        have P3 := hid (P2.out.below hb2 P2.out.sz)
        clear hb2
        cases hn : named s
        · have Hs := hid (show safe s = false by unfold safe; rw [hn]; rfl)
          clear hn
          go_wp2
          go_ret
          rw [Hs.out]
          exact ⟨rfl, B2.out⟩
        · have hl3 := (named_let hn).2 3 (by omega)
          have hr3 : rr = bt s 3 := by
            have h := congrArg Prod.fst (Hd.out.2 hl3)
            rw [Hrr.out] at h
            exact h
          have hlr : ltrI rr = true := by rw [Hd.out.1]; exact hl3
          have Hs := hid (show safe s = smI rr by unfold safe; rw [hn, hr3]; rfl)
          have Hlr := hid hlr
          clear hn hl3 hr3 hlr
          go_wp2_with fail
          refine (isLower_any rr _ P3.out Hlr.out).mono ?_
          rintro e w3 ⟨rfl, rfl⟩
          go_wp2
          go_ret
          rw [Hs.out]
          exact ⟨rfl, B2.out⟩
      · have d3 : ((pos : Int) == 3) = false := beq_eq_false_iff_ne.2 (by omega)
        have d4 : (pos == 3) = false := beq_eq_false_iff_ne.2 h3
        have H3 := hid h3
        clear h3
        go_wp2
        go_roundw
        case rel =>
          refine ⟨pos + nn, rfl, rfl, fun hn => ?_⟩
          have h1 := Hall.out hn
          have h2 := (named_let hn).2 pos (by have := H3.out; omega)
          have h := congrArg Prod.snd (Hd.out.2 h2)
          rw [Hnn.out] at h
          have h5 : nn = 1 := h
          have := H3.out
          omega
        case measure => simp; omega
    · have hnx : ∀ ty, (Instr.next (.pointer (some ⟨W.heap.size, 0, none⟩)) true ty).run Tryd.prog (W.iter s pos) = _ := fun ty => run_next_end W s pos ty hp
      have hn : safe s = false := by
        unfold safe
        cases e : named s
        · rfl
        · have h1 := Hall.out e
          have h2 := (named_let e).1
          omega
      have Hn := hid hn
      clear hn
      go_wp2
      go_ret
      rw [Hn.out]
      exact ⟨rfl, below_iter W s _⟩
theorem Safe_any (s : ByteArray) (W : World) (hP : PropsIn W) : Calls Tryd.prog 14 #[.string s] W fun e w' => e = .returned (.bool (safe s)) ∧ Below W.heap.size W w' := by
  go_enter Tryd.func14, Tryd.ntmps14
  go_wp2_with fail
  refine (safe_any s _ hP).mono ?_
  rintro e w1 ⟨rfl, hb⟩
  go_wp2
  go_ret
  exact ⟨rfl, hb⟩
set_option maxRecDepth 100000 in
set_option maxHeartbeats 2000000 in
theorem namedRef_any (s : ByteArray) (W : World) : Calls Tryd.prog 11 #[.string s] W fun e w' => e = .returned (.bool (named s)) ∧ W = w' := by
  by_cases h4 : s.size = 4
  · have d1 : ((s.size : Int) == 4) = true := by rw [h4]; rfl
    go_enter Tryd.func11, Tryd.ntmps11
    go_upto_region 4 with (fail)
    go_loop [3] (fun v => ∃ i : Nat, i ≤ 4 ∧ v = .int .i64 (i : Int) ∧ ∀ k, k < i → ltrI (bt s k) = true) (fun v => 4 - (intOf v).toNat)
    case atStart => exact ⟨0, by omega, rfl, fun k hk => by omega⟩
    case round =>
      obtain ⟨i, hi, rfl, hall⟩ := hrel
      have Hall := hid hall
      clear hall
      by_cases hlt : i < 4
      · have d2 : decide (i < 4) = true := decide_eq_true hlt
        have d3 : decide ((i : Int) < 4) = true := decide_eq_true (by omega)
        have his : i < s.size := by omega
        have hb := bt_at his
        go_wp2_with fail
        refine (letterB_any _ _).mono ?_
        rintro e w1 ⟨rfl, rfl⟩
        cases hl : ltrI (bt s i)
        · have hn : named s = false := by
            cases e : named s
            · rfl
            · have := (named_let e).2 i hlt
              rw [hl] at this
              cases this
          have Hn := hid hn
          clear hn hl
          go_wp2
          go_ret
          rw [Hn.out]
          exact ⟨rfl, rfl⟩
        · have Hl := hid hl
          clear hl
          go_wp2
          go_round
          case rel =>
            refine ⟨i + 1, by omega, by go_num, fun k hk => ?_⟩
            by_cases h : k < i
            · exact Hall.out k h
            · obtain rfl : k = i := by omega
              exact Hl.out
          case measure => simp [intOf]; omega
      · have d2 : decide (i < 4) = false := decide_eq_false hlt
        have d3 : decide ((i : Int) < 4) = false := decide_eq_false (by omega)
        obtain rfl : i = 4 := by omega
        have Hn := hid (named_of h4 Hall.out)
        go_wp2
        go_ret
        rw [Hn.out]
        exact ⟨rfl, rfl⟩
  · have d1 : ((s.size : Int) == 4) = false := beq_eq_false_iff_ne.2 (by omega)
    have hn : named s = false := by unfold named; rw [decide_eq_false h4]; rfl
    have Hn := hid hn
    clear hn
    go_enter Tryd.func11, Tryd.ntmps11
    go_wp2
    go_ret
    rw [Hn.out]
    exact ⟨rfl, rfl⟩
end Go.Proofs.YtlekobompjehdaaDoor
