/-
  BlockForms: for every case and every text the law returns true: which blocks are refused. No condition.
-/
import Derived.Test.YthhllollhjpheaaBkBe
import Derived.Test.YthhllollhjpheaaBkLw
import Derived.Test.YthhllollhjpheaaBkOp
import Derived.Test.YthhllollhjpheaaBkTs
import Derived.Deep.RegionHeld3
namespace Go.Proofs.Ythhllollhjpheaa.BlockForms
open Go.ChangeShapes Go.WideShapes Go.ChangeAt Go.RowKit Go.Proofs.Ythhllollhjpheaa
set_option maxRecDepth 100000 in
set_option maxHeartbeats 8000000 in
theorem walk_far (A X Y : Option Addr) (ca cx d : Nat) (b : List Int) (l : List (Int × Int)) (kind : Int) (last : Bool) (text : List Int) (W : World) (hf : ¬ (l.length ≤ 300 ∧ text.length ≤ 70000)) :
    Calls Try.prog 3 #[.agg #[.slice A b.length ca, .slice X l.length cx, .int .i64 kind, .bool last], .slice Y text.length d] W fun e w' => e = .returned (.bool true) ∧ Below W.heap.size W w' := by
  have hal := ((Below.refl W.heap.size W).alloc (Nat.le_refl _) (.cells #[.slice A b.length ca, .slice X l.length cx, .int .i64 kind, .bool last] 25))
  have ZB := hid (Blk.new W 25 #[.slice A b.length ca, .slice X l.length cx, .int .i64 kind, .bool last])
  have Hb := hid hal
  have Hf := hid hf
  clear hal hf
  go_enter Try.func3, Try.ntmps3
  go_upto_region 1 with (fail)
  generalize W.alloc (.cells #[.slice A b.length ca, .slice X l.length cx, .int .i64 kind, .bool last] 25) = w0 at *
  obtain ⟨g, hg⟩ : ∃ g, g = W.heap.size := ⟨_, rfl⟩
  rw [← hg] at ZB ⊢
  clear hg
  go_wp2_with fail
  refine (alive10 w0).mono ?_
  rintro e w1 ⟨rfl, hb1⟩
  have B1 := hid (Hb.out.trans (hb1.mono Hb.out.size))
  have Z1 := hid (ZB.out.below hb1 ZB.out.lt)
  clear hb1 Hb ZB
  have q0 := Z1.out.cell 0
  have q1 := Z1.out.cell 1
  have q2 := Z1.out.cell 2
  have q3 := Z1.out.cell 3
  simp only [List.getElem?_toArray, List.getElem?_cons_zero, List.getElem?_cons_succ] at q0 q1 q2 q3
  have hq := Z1.out.lt
  by_cases h1 : l.length ≤ 300
  · have h2 : 70000 < text.length := by have := Hf.out; omega
    have d1 : decide (300 < l.length) = false := decide_eq_false (by omega)
    have d2 : decide ((300 : Int) < (l.length : Int)) = false := decide_eq_false (by omega)
    have d3 : decide (70000 < text.length) = true := decide_eq_true (by omega)
    have d4 : decide ((70000 : Int) < (text.length : Int)) = true := decide_eq_true (by omega)
    go_wp2_with fail
    go_ret
    exact ⟨rfl, B1.out⟩
  · have d1 : decide (300 < l.length) = true := decide_eq_true (by omega)
    have d2 : decide ((300 : Int) < (l.length : Int)) = true := decide_eq_true (by omega)
    go_wp2_with fail
    go_ret
    exact ⟨rfl, B1.out⟩
def erG (g : Bool) : Value := match g with | true => .nilIface | false => .iface 40 (.int .i64 6)
theorem nb_false (k : Bool) : (k = true) = (k = true) := rfl
set_option maxRecDepth 100000 in
set_option maxHeartbeats 16000000 in
theorem walk_near (A X Y : Option Addr) (ca cx d : Nat) (b : List Int) (l : List (Int × Int)) (kind : Int) (last : Bool) (text : List Int) (W : World) (hx : Rd W W.heap.size 2 X l.length (l.flatMap encTok)) (ht : Rd W W.heap.size 1 Y text.length (bytesV text)) (hB : ∀ x ∈ text, isB x) (hok : ∀ t ∈ l, okTok t) (hzx : X = none → cx = 0) (hzt : Y = none → d = 0) (h1 : l.length ≤ 300) (h2 : text.length ≤ 70000) :
    Calls Try.prog 3 #[.agg #[.slice A b.length ca, .slice X l.length cx, .int .i64 kind, .bool last], .slice Y text.length d] W fun e w' => e = .returned (.bool true) ∧ Below W.heap.size W w' := by
  have hal := ((Below.refl W.heap.size W).alloc (Nat.le_refl _) (.cells #[.slice A b.length ca, .slice X l.length cx, .int .i64 kind, .bool last] 25))
  have ZB := hid (Blk.new W 25 #[.slice A b.length ca, .slice X l.length cx, .int .i64 kind, .bool last])
  have Hb := hid hal
  have Hx := hid hx
  have Ht := hid ht
  have HB := hid hB
  have Hok := hid hok
  have Hzx := hid hzx
  have Hzt := hid hzt
  have hm : l.length ≤ 1000000 := by omega
  have hm2 : text.length ≤ 1000000 := by omega
  clear hal hx ht hB hok hzx hzt
  go_enter Try.func3, Try.ntmps3
  go_upto_region 1 with (fail)
  generalize W.alloc (.cells #[.slice A b.length ca, .slice X l.length cx, .int .i64 kind, .bool last] 25) = w0 at *
  obtain ⟨g, hg⟩ : ∃ g, g = W.heap.size := ⟨_, rfl⟩
  rw [← hg] at ZB ⊢
  clear hg
  go_wp2_with fail
  refine (alive10 w0).mono ?_
  rintro e w1 ⟨rfl, hb1⟩
  have B1 := hid (Hb.out.trans (hb1.mono Hb.out.size))
  have Z1 := hid (ZB.out.below hb1 ZB.out.lt)
  clear hb1 Hb ZB
  have q0 := Z1.out.cell 0
  have q1 := Z1.out.cell 1
  have q2 := Z1.out.cell 2
  have q3 := Z1.out.cell 3
  simp only [List.getElem?_toArray, List.getElem?_cons_zero, List.getElem?_cons_succ] at q0 q1 q2 q3
  have hq := Z1.out.lt
  have d1 : decide (300 < l.length) = false := decide_eq_false (by omega)
  have d2 : decide ((300 : Int) < (l.length : Int)) = false := decide_eq_false (by omega)
  have d3 : decide (70000 < text.length) = false := decide_eq_false (by omega)
  have d4 : decide ((70000 : Int) < (text.length : Int)) = false := decide_eq_false (by omega)
  have hal := ((Below.refl w1.heap.size w1).alloc (Nat.le_refl _) (.cells #[.int .i64 kind, .slice X l.length cx, .slice Y text.length d] 28))
  have Y2 := hid (Blk.new w1 28 #[.int .i64 kind, .slice X l.length cx, .slice Y text.length d])
  have B2 := hid (B1.out.trans (hal.mono B1.out.size))
  have Z2 := hid (Z1.out.below hal Z1.out.lt)
  clear hal
  go_upto_region 6 with (fail)
  generalize w1.alloc (.cells #[.int .i64 kind, .slice X l.length cx, .slice Y text.length d] 28) = w2 at *
  obtain ⟨gy, hgy⟩ : ∃ g, g = w1.heap.size := ⟨_, rfl⟩
  rw [← hgy] at Y2 ⊢
  clear hgy B1 Z1 q0 q1 q2 q3 hq d1 d2 d3 d4
  go_wp2_with fail
  refine (newW_any false w2).mono ?_
  rintro e w3 ⟨rfl, hM, b3⟩
  have M3 := hid hM
  have B3 := hid (B2.out.trans (b3.mono B2.out.size))
  have Z3 := hid (Z2.out.below b3 Z2.out.lt)
  have Y3 := hid (Y2.out.below b3 Y2.out.lt)
  have hS2 := B2.out.size
  obtain ⟨gw, hgw⟩ : ∃ g, g = w2.heap.size := ⟨_, rfl⟩
  have hgw2 : W.heap.size ≤ gw := by omega
  have hgz := Z2.out.lt
  have hgyl := Y2.out.lt
  rw [← hgw] at M3 hgz hgyl ⊢
  clear hgw hM b3 B2 Z2 Y2 hS2
  have FT := hid (fits10_any X Y cx d l text w3 (rd_up Hx.out B3.out) (rd_up Ht.out B3.out) hm hm2 HB.out)
  have q0 := Z3.out.cell 0
  have q1 := Z3.out.cell 1
  have q2 := Z3.out.cell 2
  have q3 := Z3.out.cell 3
  simp only [List.getElem?_toArray, List.getElem?_cons_zero, List.getElem?_cons_succ] at q0 q1 q2 q3
  have hq := Z3.out.lt
  go_wp2_with fail
  refine FT.out.mono ?_
  rintro e w4 ⟨rfl, b4⟩
  have M4 := hid (M3.out.below' b4)
  have B4 := hid (B3.out.trans (b4.mono B3.out.size))
  have Z4 := hid (Z3.out.below b4 Z3.out.lt)
  have Y4 := hid (Y3.out.below b4 Y3.out.lt)
  clear b4 M3 B3 Z3 Y3 FT q0 q1 q2 q3 hq
  have q0 := Z4.out.cell 0
  have q1 := Z4.out.cell 1
  have q2 := Z4.out.cell 2
  have q3 := Z4.out.cell 3
  simp only [List.getElem?_toArray, List.getElem?_cons_zero, List.getElem?_cons_succ] at q0 q1 q2 q3
  have hq := Z4.out.lt
  obtain ⟨ft, hft⟩ : ∃ f, f = fitM text 0 l := ⟨_, rfl⟩
  obtain ⟨gd, hgd⟩ : ∃ f, f = blkGood kind l text := ⟨_, rfl⟩
  have Hft := hid hft
  have Hgd := hid hgd
  rw [← hft]
  have HG := hid (show gd = (decide (0 ≤ kind ∧ kind ≤ 2) && (ft && decide (kind = 0 → text.length ≤ 65535))) by rw [hgd, hft]; rfl)
  clear hft hgd
  go_upto_region 8 with (fail)
  go_cut [8] from 36 to 56 (fun v wq => v = .bool gd ∧ w4 = wq)
  case first =>
    clear M4 B4 Z4 Y4 Hft Hgd
    cases ft with
    | false =>
      have E := hid (show gd = false by rw [HG.out, Bool.false_and, Bool.and_false])
      clear HG
      go_wp2
      go_meet
      exact ⟨by rw [E.out], rfl⟩
    | true =>
      by_cases k0 : 0 ≤ kind
      · by_cases k2 : kind ≤ 2
        · by_cases kp : 0 < kind
          · have E := hid (show gd = true by rw [HG.out, Bool.true_and, decide_eq_true (show 0 ≤ kind ∧ kind ≤ 2 from ⟨k0, k2⟩), Bool.true_and, decide_eq_true (show kind = 0 → text.length ≤ 65535 from fun h => by omega)])
            clear HG
            go_wp2
            go_meet
            exact ⟨by rw [E.out], rfl⟩
          · by_cases kt : text.length ≤ 65535
            · have E := hid (show gd = true by rw [HG.out, Bool.true_and, decide_eq_true (show 0 ≤ kind ∧ kind ≤ 2 from ⟨k0, k2⟩), Bool.true_and, decide_eq_true (show kind = 0 → text.length ≤ 65535 from fun h => kt)])
              have e4 : decide ((text.length : Int) ≤ 65535) = true := decide_eq_true (by omega)
              clear HG
              go_wp2
              go_meet
              exact ⟨by rw [E.out], rfl⟩
            · have E := hid (show gd = false by rw [HG.out, Bool.true_and, decide_eq_true (show 0 ≤ kind ∧ kind ≤ 2 from ⟨k0, k2⟩), Bool.true_and, decide_eq_false (show ¬ (kind = 0 → text.length ≤ 65535) from fun h => kt (h (by omega)))])
              have e4 : decide ((text.length : Int) ≤ 65535) = false := decide_eq_false (by omega)
              clear HG
              go_wp2
              go_meet
              exact ⟨by rw [E.out], rfl⟩
        · have E := hid (show gd = false by rw [HG.out, Bool.true_and, decide_eq_false (show ¬ (0 ≤ kind ∧ kind ≤ 2) from fun h => k2 h.2), Bool.false_and])
          clear HG
          go_wp2
          go_meet
          exact ⟨by rw [E.out], rfl⟩
      · have E := hid (show gd = false by rw [HG.out, Bool.true_and, decide_eq_false (show ¬ (0 ≤ kind ∧ kind ≤ 2) from fun h => k0 h.1), Bool.false_and])
        clear HG
        go_wp2
        go_meet
        exact ⟨by rw [E.out], rfl⟩
  case rest =>
    obtain ⟨rfl, rfl⟩ := hcut
    clear q0 q1 q2 q3 hq HG
    have y0 := Y4.out.cell 0
    have y1 := Y4.out.cell 1
    have y2 := Y4.out.cell 2
    simp only [List.getElem?_toArray, List.getElem?_cons_zero, List.getElem?_cons_succ] at y0 y1 y2
    have hy := Y4.out.lt
    have BT := hid (bits10_any X Y cx d kind l text w4 (rd_up Hx.out B4.out) (rd_up Ht.out B4.out) hm hm2 Hok.out HB.out gd Hgd.out.symm)
    go_wp2_with fail
    refine BT.out.mono ?_
    rintro e w5 ⟨he, b5⟩
    obtain ⟨n, rfl⟩ : ∃ n : Int, e = .returned (.tuple #[.int .i64 n, erG gd]) := by
      rw [he]
      cases gd
      · exact ⟨0, rfl⟩
      · exact ⟨_, rfl⟩
    have M5 := hid (M4.out.below' b5)
    have B5 := hid (B4.out.trans (b5.mono B4.out.size))
    have Z5 := hid (Z4.out.below b5 Z4.out.lt)
    have Y5 := hid (Y4.out.below b5 Y4.out.lt)
    clear he b5 M4 B4 Z4 Y4 BT y0 y1 y2 hy
    have W10 : Calls Try.prog 10 #[.pointer (some ⟨gw, 0, none⟩), .agg #[.int .i64 kind, .slice X l.length cx, .slice Y text.length d], .bool last] w5 fun e w' => e = .returned (erG gd) ∧ ∃ A' c' L', WrS w' gw false A' c' gw L' ∧ (gd = true → 0 < L'.length) ∧ (gd = false → L' = []) ∧ Below gw w5 w' := by
      have hS := M5.out.blk.lt
      cases gd with
      | true =>
        refine (write_good gw none 0 gw [] X Y cx d kind last l text w5 (TextS.of_rd (Hx.out.below B5.out (Nat.le_refl _)) hgw2 M5.out (by omega)) (TextS.of_rd (Ht.out.below B5.out (Nat.le_refl _)) hgw2 M5.out (by omega)) hm hm2 Hok.out HB.out M5.out (by omega) (by decide) Hgd.out.symm).mono ?_
        rintro e w6 ⟨rfl, A', c', M6, T6⟩
        refine ⟨rfl, A', c', _, M6, fun _ => ?_, fun h => (by cases h), M5.out.low T6 (by omega)⟩
        obtain ⟨k0, k2, hf, _⟩ := good_parts Hgd.out.symm
        have := (wrB_bits (fit_good hf) 0 last text k0 k2).2.2
        rw [List.nil_append]
        exact Nat.lt_of_lt_of_le (by decide) this
      | false =>
        refine (write_bad (.pointer (some ⟨gw, 0, none⟩)) true X Y cx d kind last l text w5 (rd_up Hx.out B5.out) (rd_up Ht.out B5.out) hm hm2 Hok.out HB.out (fun w h => low_any false gw none 0 gw [] w (M5.out.below' h)) (.inl Hgd.out.symm)).mono ?_
        rintro e w6 ⟨rfl, b6⟩
        exact ⟨rfl, none, 0, [], M5.out.below' b6, fun h => (by cases h), fun _ => rfl, b6.mono (by omega)⟩
    have W10h := hid W10
    clear W10
    have q0 := Z5.out.cell 0
    have q1 := Z5.out.cell 1
    have q2 := Z5.out.cell 2
    have q3 := Z5.out.cell 3
    simp only [List.getElem?_toArray, List.getElem?_cons_zero, List.getElem?_cons_succ] at q0 q1 q2 q3
    have hq := Z5.out.lt
    have y0 := Y5.out.cell 0
    have y1 := Y5.out.cell 1
    have y2 := Y5.out.cell 2
    simp only [List.getElem?_toArray, List.getElem?_cons_zero, List.getElem?_cons_succ] at y0 y1 y2
    have hy := Y5.out.lt
    go_wp2_with fail
    refine W10h.out.mono ?_
    rintro e w6 ⟨rfl, A6, c6, L6, hM6, hL1, hL0, b6⟩
    have M6 := hid hM6
    have HL1 := hid hL1
    have HL0 := hid hL0
    have B6 := hid (B5.out.trans (b6.mono hgw2))
    have Z6 := hid (Z5.out.below b6 hgz)
    have Y6 := hid (Y5.out.below b6 hgyl)
    clear hM6 hL1 hL0 b6 M5 B5 Z5 Y5 W10h q0 q1 q2 q3 hq y0 y1 y2 hy
    have BE := hid (best10_any X Y cx d l text w6 (rd_up Hx.out B6.out) (rd_up Ht.out B6.out) Hzx.out Hzt.out hm hm2 Hok.out HB.out)
    have q0 := Z6.out.cell 0
    have q1 := Z6.out.cell 1
    have q2 := Z6.out.cell 2
    have q3 := Z6.out.cell 3
    simp only [List.getElem?_toArray, List.getElem?_cons_zero, List.getElem?_cons_succ] at q0 q1 q2 q3
    have hq := Z6.out.lt
    go_wp2_with fail
    refine BE.out.mono ?_
    rintro e w7 ⟨he, b7⟩
    obtain ⟨u0, u1, u2, rfl⟩ : ∃ (u0 : Int) (u1 u2 : Option Addr × Nat × Nat), e = .returned (.tuple #[.agg #[.int .i64 u0, .slice u1.1 u1.2.1 u1.2.2, .slice u2.1 u2.2.1 u2.2.2], erG ft]) := by
      rw [Hft.out]
      cases hh : fitM text 0 l with
      | true =>
        rw [if_pos hh] at he
        obtain ⟨a, b, c, d, rfl, _⟩ := he
        exact ⟨_, (_, _, _), (_, _, _), rfl⟩
      | false =>
        rw [if_neg (by rw [hh]; decide)] at he
        rw [he]
        exact ⟨_, (_, _, _), (_, _, _), rfl⟩
    obtain ⟨a1, n1, c1⟩ := u1
    obtain ⟨a2, n2, c2⟩ := u2
    simp only
    have B7 := hid (B6.out.trans (b7.mono B6.out.size))
    have M7 := hid (M6.out.below' b7)
    have Z7 := hid (Z6.out.below b7 Z6.out.lt)
    have Y7 := hid (Y6.out.below b7 Y6.out.lt)
    clear he b7 M6 B6 Z6 Y6 BE q0 q1 q2 q3 hq
    have hal := ((Below.refl w7.heap.size w7).alloc (Nat.le_refl _) (.cells #[.int .i64 u0, .slice a1 n1 c1, .slice a2 n2 c2] 28))
    have B8 := hid (B7.out.trans (hal.mono B7.out.size))
    have M8 := hid (M7.out.below' hal)
    have Z8 := hid (Z7.out.below hal Z7.out.lt)
    have Y8 := hid (Y7.out.below hal Y7.out.lt)
    clear hal B7 M7 Z7 Y7
    go_upto_region 12 with (fail)
    generalize w7.alloc (.cells #[.int .i64 u0, .slice a1 n1 c1, .slice a2 n2 c2] 28) = w8 at *
    have Hsd : Hid (w8.heap.size ≤ w8.drew.heap.size) := hid (by simp)
    have WN := hid (fun (w : World) (h : Below w8.drew.heap.size w8.drew w) => write_bad (.pointer none) false X Y cx d kind last l text w (rd_up Hx.out (B8.out.trans (((Below.refl w8.heap.size w8).drew.trans (h.mono Hsd.out)).mono B8.out.size))) (rd_up Ht.out (B8.out.trans (((Below.refl w8.heap.size w8).drew.trans (h.mono Hsd.out)).mono B8.out.size))) hm hm2 Hok.out HB.out (fun w _ => low_nil w) (.inr rfl))
    have WHi := hid (fun (w : World) (gh : Nat) (base : Nat) (h : Below w8.drew.heap.size w8.drew w) (hw : WrS w gh true none 0 base []) => write_bad (.pointer (some ⟨gh, 0, none⟩)) false X Y cx d kind last l text w (rd_up Hx.out (B8.out.trans (((Below.refl w8.heap.size w8).drew.trans (h.mono Hsd.out)).mono B8.out.size))) (rd_up Ht.out (B8.out.trans (((Below.refl w8.heap.size w8).drew.trans (h.mono Hsd.out)).mono B8.out.size))) hm hm2 Hok.out HB.out (fun w h2 => low_any true gh none 0 base [] w (hw.below' h2)) (.inr rfl))
    have Zd := hid Z8.out.drew
    have Yd := hid Y8.out.drew
    have q0 := Zd.out.cell 0
    have q1 := Zd.out.cell 1
    have q2 := Zd.out.cell 2
    have q3 := Zd.out.cell 3
    simp only [List.getElem?_toArray, List.getElem?_cons_zero, List.getElem?_cons_succ] at q0 q1 q2 q3
    have hq := Zd.out.lt
    have y0 := Yd.out.cell 0
    have y1 := Yd.out.cell 1
    have y2 := Yd.out.cell 2
    simp only [List.getElem?_toArray, List.getElem?_cons_zero, List.getElem?_cons_succ] at y0 y1 y2
    have hy := Yd.out.lt
    have hgz8 := Z8.out.lt
    have hgy8 := Y8.out.lt
    go_cut [88] from 74 to 88 (fun v wq => v = .bool false ∧ Hid (Below w8.heap.size w8 wq))
    case first =>
      have CB := hid (fun (w : World) (h : Below w8.drew.heap.size w8.drew w) => (show w.cell? ⟨g, 3, none⟩ = some (.bool last) ∧ w.cell? ⟨gy, 0, none⟩ = some (.int .i64 kind) ∧ w.cell? ⟨gy, 1, none⟩ = some (.slice X l.length cx) ∧ w.cell? ⟨gy, 2, none⟩ = some (.slice Y text.length d) from by
        have k3 := (Zd.out.below h Zd.out.lt).cell 3
        have m0 := (Yd.out.below h Yd.out.lt).cell 0
        have m1 := (Yd.out.below h Yd.out.lt).cell 1
        have m2 := (Yd.out.below h Yd.out.lt).cell 2
        simp only [List.getElem?_toArray, List.getElem?_cons_zero, List.getElem?_cons_succ] at k3 m0 m1 m2
        exact ⟨k3, m0, m1, m2⟩))
      go_region_held3 (fun w => w.cell? ⟨g, 3, none⟩ = some (.bool last) ∧ w.cell? ⟨gy, 0, none⟩ = some (.int .i64 kind) ∧ w.cell? ⟨gy, 1, none⟩ = some (.slice X l.length cx) ∧ w.cell? ⟨gy, 2, none⟩ = some (.slice Y text.length d)) (first | go_keep | exact ⟨q3, y0, y1, y2⟩ | exact K1.out | exact K2.out | exact K3.out) (first
        | (go_at_call 10; with_reducible refine (WN.out _ (Below.refl _ _)).mono ?_; rintro e wa ⟨rfl, ba⟩; have Ba := hid ba; have K1 := hid (CB.out wa ba); clear ba)
        | (go_at_call 12; with_reducible refine (is_no 6 6 (by decide) _).mono ?_; rintro e wb ⟨rfl, rfl⟩)
        | (go_at_call 7; with_reducible refine (newW_any true _).mono ?_; rintro e wc ⟨rfl, hwc, bc⟩; have Mc := hid hwc; have Bc := hid (Ba.out.trans (bc.mono Ba.out.size)); have K2 := hid (CB.out wc Bc.out); clear hwc bc)
        | (go_at_call 10; with_reducible refine (WHi.out _ _ _ Bc.out Mc.out).mono ?_; rintro e wd ⟨rfl, bd⟩; have Bd := hid (Bc.out.trans (bd.mono Bc.out.size)); have K3 := hid (CB.out wd Bd.out); clear bd))
      all_goals
        go_wp2
        go_meet
        exact ⟨rfl, hid ((Below.refl w8.heap.size w8).drew.trans (Bd.out.mono Hsd.out))⟩
    case rest =>
      obtain ⟨rfl, hb9⟩ := hcut
      have B9 := hid (B8.out.trans (hb9.out.mono B8.out.size))
      have M9 := hid (M8.out.below' hb9.out)
      clear hb9 B8 M8 Z8 Y8 WN WHi Zd Yd Hsd q0 q1 q2 q3 hq y0 y1 y2 hy hgz8 hgy8 Hgd Hft
      cases ft
      · cases gd
        · simp only [erG]
          have L0 := HL0.out rfl
          subst L0
          have LN := hid (lenS_any false gw A6 c6 gw [] wc M9.out)
          rw [show ([] : List Int).length = 0 from rfl] at LN
          clear HL0 HL1 M9
          go_wp2_with (first
            | (go_at_call 12; with_reducible refine (is_no 6 6 (by decide) _).mono ?_; rintro e wb ⟨rfl, rfl⟩)
            | (go_at_call 13; refine LN.out.mono ?_; rintro e wb ⟨rfl, rfl⟩))
          go_ret
          exact ⟨rfl, B9.out⟩
        · simp only [erG]
          have L1 := HL1.out rfl
          have LN := hid (lenS_any false gw A6 c6 gw L6 wc M9.out)
          clear HL0 HL1 M9
          generalize L6.length = n6 at *
          have e6 : decide ((0 : Int) < (n6 : Int)) = true := decide_eq_true (by omega)
          go_wp2_with (first
            | (go_at_call 12; with_reducible refine (is_no 6 6 (by decide) _).mono ?_; rintro e wb ⟨rfl, rfl⟩)
            | (go_at_call 13; refine LN.out.mono ?_; rintro e wb ⟨rfl, rfl⟩))
          go_ret
          exact ⟨rfl, B9.out⟩
      · cases gd
        · simp only [erG]
          have L0 := HL0.out rfl
          subst L0
          have LN := hid (lenS_any false gw A6 c6 gw [] wc M9.out)
          rw [show ([] : List Int).length = 0 from rfl] at LN
          clear HL0 HL1 M9
          go_wp2_with (first
            | (go_at_call 12; with_reducible refine (is_no 6 6 (by decide) _).mono ?_; rintro e wb ⟨rfl, rfl⟩)
            | (go_at_call 13; refine LN.out.mono ?_; rintro e wb ⟨rfl, rfl⟩))
          go_ret
          exact ⟨rfl, B9.out⟩
        · simp only [erG]
          have L1 := HL1.out rfl
          have LN := hid (lenS_any false gw A6 c6 gw L6 wc M9.out)
          clear HL0 HL1 M9
          generalize L6.length = n6 at *
          have e6 : decide ((0 : Int) < (n6 : Int)) = true := decide_eq_true (by omega)
          go_wp2_with (first
            | (go_at_call 12; with_reducible refine (is_no 6 6 (by decide) _).mono ?_; rintro e wb ⟨rfl, rfl⟩)
            | (go_at_call 13; refine LN.out.mono ?_; rintro e wb ⟨rfl, rfl⟩))
          go_ret
          exact ⟨rfl, B9.out⟩
set_option maxRecDepth 100000
theorem walk (A X Y : Option Addr) (ca cx d : Nat) (b : List Int) (l : List (Int × Int)) (kind : Int) (last : Bool) (text : List Int) (W : World) (hx : Rd W W.heap.size 2 X l.length (l.flatMap encTok)) (ht : Rd W W.heap.size 1 Y text.length (bytesV text)) (hB : ∀ x ∈ text, isB x) (hok : ∀ t ∈ l, okTok t) (hzx : X = none → cx = 0) (hzt : Y = none → d = 0) :
    Calls Try.prog 3 #[.agg #[.slice A b.length ca, .slice X l.length cx, .int .i64 kind, .bool last], .slice Y text.length d] W fun e w' => e = .returned (.bool true) ∧ Below W.heap.size W w' := by
  by_cases h : l.length ≤ 300 ∧ text.length ≤ 70000
  · exact walk_near A X Y ca cx d b l kind last text W hx ht hB hok hzx hzt h.1 h.2
  · exact walk_far A X Y ca cx d b l kind last text W h
set_option maxRecDepth 100000 in
theorem lifted (os : Os) (started : os.Started) (H : Type) (enc : TypeId × Value → H) :
    ReturnsInHanded {} Try.checked os 3 .any (Rows.blockFormsSpec.pre6 enc Try.prog Try.f3 Rows.blockFormsRow.domain false) (Rows.blockFormsSpec.post enc Try.prog Try.f3 false true false false) :=
  law_lifted own laidOut started (by kernel_rfl) Try.func3 rfl rfl Try.underlying4
    (by rw [Try.params3]; intro t ht; simp at ht; rcases ht with rfl | rfl <;> exact ⟨by kernel_rfl, of_decide_eq_true (by kernel_rfl)⟩)
    (by
      intro ds h
      match ds, h with
      | [_, _], _ => exact ⟨rfl, rfl, rfl⟩)
    (ChangeSpec.witness6 (enc := enc) (C := Try.checked) false ⟨#[], #[.agg #[.slice none 0 0, .slice none 0 0, .int .i64 0, .bool false], .slice none 0 0], []⟩ 8 (by kernel_rfl) (by kernel_rfl) (by kernel_rfl) (by kernel_rfl))
    (by
      intro W base args ds ps hval0 hA0
      have hval : ∀ (j : Nat) t v, Try.f3.params[j]? = some t → args[j]? = some v → Value.okWide Try.prog W .any base t v := hval0
      have hA : DataW.TrodAll enc Try.prog W 0 (fun _ => true) true Try.f3.params.toList args.toList ds ps := hA0
      clear hval0 hA0
      rw [Try.params3] at hA hval
      obtain ⟨v0, vs0, d0, ds0, p0, q0, hargs, rfl, rfl, h0, r0⟩ := trodAll_cons hA
      obtain ⟨v1, vs1, d1, ds1, p1, q1, rfl, rfl, rfl, h1, r1⟩ := trodAll_cons r0
      obtain ⟨rfl, rfl, rfl⟩ := trodAll_nil r1
      obtain rfl : args = #[v0, v1] := by cases args; simp_all
      obtain ⟨A0, ca0, b0, X0, cx0, l0, kind0, last0, rfl, hB0, hr0, hz0, hok0, hx0, hzx0, hk0⟩ := open_case (hval 0 25 v0 rfl rfl) h0
      obtain ⟨A1, c1, l1, rfl, hc1, hm1, hok1, hr1, hz1⟩ := open_bytes2 (hval 1 22 v1 rfl rfl) h1
      exact walk A0 X0 A1 ca0 cx0 c1 b0 l0 kind0 last0 l1 W hx0 hr1 hok1 hok0 hzx0 hz1)

theorem over : Rows.blockFormsRow.holds Try.pinned (OpenSpec.ofChange Rows.blockFormsSpec) :=
  OpenClaim.holds_of_wide 3 Try.f3 rfl rfl rfl rfl rfl rfl rfl ⟨rfl, rfl, rfl, rfl, rfl⟩ rfl rfl rfl rfl rfl (by kernel_rfl) Try.func3 (by kernel_rfl)
    (of_decide_eq_true (by kernel_rfl)) (by unfold Func.isWrapper; first | (rw [if_pos (by decide +kernel)]; kernel_rfl) | (rw [if_neg (by decide +kernel)]; exact ⟨rfl, rfl⟩))
    (fun os started H enc _ => lifted os started H enc)

theorem proved : Rows.BlockFormsSaid := over
#print axioms proved
end Go.Proofs.Ythhllollhjpheaa.BlockForms
