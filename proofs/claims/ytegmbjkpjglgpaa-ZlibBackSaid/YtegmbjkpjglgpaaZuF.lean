/-
  burnishlaw07.alive; ZlibUnwraps' law.
-/
import Derived.Test.YtegmbjkpjglgpaaZuE
namespace Go.Proofs.Ytegmbjkpjglgpaa
open Go.RowKit

theorem alive7_res : unzM [120, 1, 3, 0, 0, 0, 0, 1] 9 = .ok ([], 8) := by kernel_rfl
theorem alive7_bad : unzM [120, 1, 3, 0, 0, 0, 0, 2] 9 = .error 2 := by kernel_rfl
def AlF (W : World) (e : Ending) (w' : World) : Prop := ∃ A c, e = .returned (.tuple #[.slice A 0 c, .int .i64 8, .nilIface]) ∧ Below W.heap.size W w'
def al8 (t : Int) : Array Value := #[.int .u8 120, .int .u8 1, .int .u8 3, .int .u8 0, .int .u8 0, .int .u8 0, .int .u8 0, .int .u8 t]
theorem al8_rd (t : Int) (W : World) : Rd (w := W.alloc (.cells (al8 t) 5)) (W.alloc (.cells (al8 t) 5)).heap.size 1 (some ⟨W.heap.size, 0, none⟩) 8 (bytesV [120, 1, 3, 0, 0, 0, 0, t]) :=
  own_rd (own_of_blk (base := 0) (n := 8) (Blk.new W 5 (al8 t)) (Nat.zero_le _) rfl (by decide))
theorem al8_b (t : Int) (h : isB t) : ∀ x ∈ ([120, 1, 3, 0, 0, 0, 0, t] : List Int), isB x := by
  intro x hx
  simp only [List.mem_cons, List.not_mem_nil, or_false] at hx
  unfold isB at *
  omega
set_option maxRecDepth 100000 in
theorem alive7_first (W : World) : Calls Try.prog 31 #[.slice (some ⟨W.heap.size, 0, none⟩) 8 8, .int .i64 9] (W.alloc (.cells (al8 1) 5)) (AlF W) := by
  refine (unwrap_any (some ⟨W.heap.size, 0, none⟩) 8 [120, 1, 3, 0, 0, 0, 0, 1] 9 _ (al8_rd 1 W) (al8_b 1 (by unfold isB; omega)) (by decide) (fun h => by cases h) (by decide)).mono ?_
  rintro e w1 ⟨hbw, hE⟩
  rw [alive7_res] at hE
  obtain ⟨A1, c1, he, ho⟩ := hE
  exact ⟨A1, c1, he, (below_alloc1 W _).trans (hbw.mono (by simp))⟩
set_option maxRecDepth 100000 in
theorem alive7_second (W : World) : Calls Try.prog 31 #[.slice (some ⟨W.heap.size, 0, none⟩) 8 8, .int .i64 9] (W.alloc (.cells (al8 2) 5)) fun e w' => e = .returned (.tuple #[.slice none 0 0, .int .i64 0, .iface 40 (.int .i64 2)]) ∧ Below W.heap.size W w' := by
  refine (unwrap_any (some ⟨W.heap.size, 0, none⟩) 8 [120, 1, 3, 0, 0, 0, 0, 2] 9 _ (al8_rd 2 W) (al8_b 2 (by unfold isB; omega)) (by decide) (fun h => by cases h) (by decide)).mono ?_
  rintro e w1 ⟨hbw, hE⟩
  rw [alive7_bad] at hE
  exact ⟨hE, (below_alloc1 W _).trans (hbw.mono (by simp))⟩
theorem alive7_any (W : World) : Calls Try.prog 30 #[] W fun e w' => e = .returned (.bool true) ∧ Below W.heap.size W w' := by
  go_enter Try.func30, Try.ntmps30
  go_wp2_with fail
  refine (alive7_first W).mono ?_
  rintro e w1 ⟨A1, c1, rfl, hb⟩
  have B1 := hid hb
  clear hb
  go_wp2_with fail
  refine (alive7_second w1).mono ?_
  rintro e w2 ⟨rfl, hb⟩
  have B2 := hid (B1.out.trans (hb.mono B1.out.size))
  clear hb
  go_wp2_with fail
  refine (is_no 2 2 (by decide) w2).mono ?_
  rintro e w3 ⟨rfl, rfl⟩
  go_wp2_with fail
  go_ret
  exact ⟨rfl, B2.out⟩
set_option maxRecDepth 100000 in
theorem unwraps_far (A : Option Addr) (c : Nat) (b : List Int) (most : Int) (W : World) (h : 300 < b.length ∨ (20000 < most ∧ most ≤ 4194304)) :
    Calls Try.prog 9 #[.slice A b.length c, .int .i64 most] W fun e w' => e = .returned (.bool true) ∧ Below W.heap.size W w' := by
  obtain ⟨n, hn⟩ : ∃ n, n = b.length := ⟨_, rfl⟩
  rw [← hn] at h ⊢
  clear hn
  by_cases h1 : 300 < n
  · have d1 : decide (300 < n) = true := decide_eq_true h1
    have d2 : decide ((300 : Int) < (n : Int)) = true := decide_eq_true (by omega)
    clear h h1
    go_enter Try.func9, Try.ntmps9
    go_wp2_with fail
    refine (alive7_any W).mono ?_
    rintro e w1 ⟨rfl, hb1⟩
    go_wp2_with fail
    go_ret
    exact ⟨rfl, hb1⟩
  · have h2 : 20000 < most ∧ most ≤ 4194304 := by omega
    have d1 : decide (300 < n) = false := decide_eq_false h1
    have d2 : decide ((300 : Int) < (n : Int)) = false := decide_eq_false (by omega)
    have d3 : decide (20000 < most) = true := decide_eq_true h2.1
    have d4 : decide (most ≤ 4194304) = true := decide_eq_true h2.2
    clear h h1 h2
    go_enter Try.func9, Try.ntmps9
    go_wp2_with fail
    refine (alive7_any W).mono ?_
    rintro e w1 ⟨rfl, hb1⟩
    go_wp2_with fail
    go_ret
    exact ⟨rfl, hb1⟩
set_option maxRecDepth 100000 in
set_option maxHeartbeats 4000000 in
theorem unwraps_near (A : Option Addr) (c : Nat) (b : List Int) (most : Int) (W : World) (hr : Rd W W.heap.size 1 A b.length (bytesV b)) (hok : ∀ x ∈ b, isB x) (hz : A = none → c = 0) (hcap : b.length ≤ c) (h1 : b.length ≤ 300) (h2 : ¬ (20000 < most ∧ most ≤ 4194304)) :
    Calls Try.prog 9 #[.slice A b.length c, .int .i64 most] W fun e w' => e = .returned (.bool true) ∧ Below W.heap.size W w' := by
  have CP := hid (fun (w : World) (h : Below W.heap.size W w) => copy_any A c b w ((hr.below h (Nat.le_refl _)).more h.size) (by omega))
  have RT := hid (fun (w : World) (h : Below W.heap.size W w) => runwrap_any A c b most w ((hr.below h (Nat.le_refl _)).more h.size) hok hcap hz (by omega) (by omega))
  have TK := hid (fun (g : Nat) (w : World) (h : Blk w g 5 (bytesV b ++ [Value.int .u8 165, Value.int .u8 90]).toArray) => unwrap_any (some ⟨g, 0, none⟩) (b.length + 2) b most w (copied_rd h) hok (by omega) (fun h => by cases h) (by omega))
  have KE := hid (fun (g : Nat) (w : World) (h : Blk w g 5 (bytesV b ++ [Value.int .u8 165, Value.int .u8 90]).toArray) (hw : Below W.heap.size W w) => kept_any A c g b w w.heap.size h ((hr.below hw (Nat.le_refl _)).more hw.size) (by omega))
  have AP := hid (fun (g : Nat) (w : World) (hg : W.heap.size ≤ g) (h : Blk w g 5 (bytesV b ++ [Value.int .u8 165, Value.int .u8 90]).toArray) (A1 : Option Addr) (n1 c1 : Nat) (xs : List Value) (ha : w.ownsRow W.heap.size 5 1 (.slice A1 n1 c1) n1 xs) (hn : n1 ≤ 10000000) (hab : ∀ p, (Value.slice A1 n1 c1).ownBlock = some p → g < p) => apart2 ha hn hab h hg (by omega))
  have HBD := hid (unz_bd b most)
  obtain ⟨n, hn⟩ : ∃ n, n = b.length := ⟨_, rfl⟩
  unfold CopiedB at CP
  rw [← hn] at h1 CP RT TK KE AP ⊢
  have d1 : decide (300 < n) = false := decide_eq_false (by omega)
  have d2 : decide ((300 : Int) < (n : Int)) = false := decide_eq_false (by omega)
  have hd34 : decide (20000 < most) = false ∨ (decide (20000 < most) = true ∧ decide (most ≤ 4194304) = false) := by
    by_cases h : 20000 < most
    · exact .inr ⟨decide_eq_true h, decide_eq_false (by omega)⟩
    · exact .inl (decide_eq_false h)
  clear hr hok hn h2 hz hcap
  rcases hd34 with d3 | ⟨d3, d4⟩
  all_goals
    go_enter Try.func9, Try.ntmps9
    go_wp2_with fail
    refine (alive7_any W).mono ?_
    rintro e w1 ⟨rfl, hb1⟩
    have B1 := hid hb1
    clear hb1
    go_wp2_with fail
    refine (CP.out w1 B1.out).mono ?_
    rintro e w2 ⟨rfl, hk2, hb2⟩
    obtain ⟨g, hg⟩ : ∃ g, g = w1.heap.size := ⟨_, rfl⟩
    have Hg := hid (show W.heap.size ≤ g by rw [hg]; exact B1.out.size)
    rw [← hg] at hk2 ⊢
    have BK2 := hid hk2
    have B2 := hid (B1.out.trans (hb2.mono B1.out.size))
    clear hk2 hb2 hg
    go_wp2_with fail
    refine (TK.out g w2 BK2.out).mono ?_
    intro e w3 hE3
    obtain ⟨hb3, hE3⟩ := hE3
    have B3 := hid (B2.out.trans (hb3.mono B2.out.size))
    have BK3 := hid (BK2.out.below hb3 BK2.out.lt)
    have RW := hid (RT.out w3 B3.out)
    clear hb3
    cases hi : unzM b most with
    | error k =>
      rw [hi] at hE3
      have hE3 : e = .returned (.tuple #[.slice none 0 0, .int .i64 0, .iface 40 (.int .i64 k)]) := hE3
      subst hE3
      have Hi := hid hi
      clear hi
      go_wp2_with fail
      refine RW.out.mono ?_
      intro e w4 hE4
      obtain ⟨hb4, hE4⟩ := hE4
      rw [Hi.out] at hE4
      obtain ⟨hk0, rfl⟩ := hE4
      have B4 := hid (B3.out.trans (hb4.mono B3.out.size))
      have BK4 := hid (BK3.out.below hb4 BK3.out.lt)
      have HK0 := hid hk0
      clear hb4 hk0
      have SM := hid (same_refl none none 0 0 [] w4 0 Rd.nil Rd.nil)
      go_wp2_with fail
      refine SM.out.mono ?_
      rintro e w5 ⟨rfl, rfl⟩
      go_wp2_with fail
      refine (num_ne k HK0.out _).mono ?_
      rintro e w6 ⟨rfl, rfl⟩
      go_wp2_with fail
      refine (KE.out g _ BK4.out B4.out).mono ?_
      rintro e w6 ⟨rfl, rfl⟩
      go_wp2_with fail
      refine (AP.out g _ Hg.out BK4.out none 0 0 [] (World.ownsRow_nil _ _ _ _) (by decide) (fun p h => by cases h)).mono ?_
      rintro e w6 ⟨rfl, hb6⟩
      have B6 := hid (B4.out.trans hb6)
      clear hb6
      go_wp2_with fail
      go_ret
      exact ⟨rfl, B6.out⟩
    | ok q =>
      obtain ⟨os, tk⟩ := q
      rw [hi] at hE3
      obtain ⟨T, tc, he3, ho3⟩ := hE3
      have hm20 := HBD.out os tk hi
      have Hi := hid hi
      have HT := hid (show ∀ p, (Value.slice T os.length tc).ownBlock = some p → g < p from fun p hp => by
        rcases ho3.2 with ⟨e1, _⟩ | ⟨g', cap, cur, e1, hb', _⟩
        · rw [e1] at hp; cases hp
        · rw [e1] at hp
          have : g' = p := by simpa [Value.ownBlock] using hp
          have := BK2.out.lt
          omega)
      have he3 : e = .returned (.tuple #[.slice T os.length tc, .int .i64 (tk : Int), .nilIface]) := he3
      subst he3
      have O3 := hid ho3
      obtain ⟨no, hno⟩ : ∃ no, no = os.length := ⟨_, rfl⟩
      have Hno := hid hno
      rw [← hno] at HT hm20 ⊢
      clear hi ho3 hno
      go_wp2_with fail
      refine RW.out.mono ?_
      intro e w4 hE4
      obtain ⟨hb4, hE4⟩ := hE4
      rw [Hi.out] at hE4
      obtain ⟨T4, tc4, he4, ho4⟩ := hE4
      have he4 : e = .returned (.tuple #[.slice T4 os.length tc4, .int .i64 (tk : Int), .int .i64 0]) := he4
      subst he4
      have B4 := hid (B3.out.trans (hb4.mono B3.out.size))
      have BK4 := hid (BK3.out.below hb4 BK3.out.lt)
      have O34 := hid (own_below O3.out hb4 (Nat.le_refl _))
      have SM := hid (same_refl T T4 tc tc4 os w4 w4.heap.size (own_rd O34.out) (own_rd ho4))
      have OW := hid (show w4.ownsRow W.heap.size 5 1 (.slice T no tc) no (bytesV os) from by rw [Hno.out]; exact own_base O34.out B2.out.size)
      rw [← Hno.out] at SM ⊢
      clear hb4 ho4
      go_wp2_with fail
      refine SM.out.mono ?_
      rintro e w5 ⟨rfl, rfl⟩
      go_wp2_with fail
      refine (num_nil _).mono ?_
      rintro e w6 ⟨rfl, rfl⟩
      go_wp2_with fail
      refine (KE.out g _ BK4.out B4.out).mono ?_
      rintro e w6 ⟨rfl, rfl⟩
      go_wp2_with fail
      refine (AP.out g _ Hg.out BK4.out T no tc _ OW.out (by omega) HT.out).mono ?_
      rintro e w6 ⟨rfl, hb6⟩
      have B6 := hid (B4.out.trans hb6)
      clear hb6
      go_wp2_with fail
      go_ret
      exact ⟨rfl, B6.out⟩
theorem unwraps_law (A : Option Addr) (c : Nat) (b : List Int) (most : Int) (W : World) (hr : Rd W W.heap.size 1 A b.length (bytesV b)) (hok : ∀ x ∈ b, isB x) (hz : A = none → c = 0) (hcap : b.length ≤ c) :
    Calls Try.prog 9 #[.slice A b.length c, .int .i64 most] W fun e w' => e = .returned (.bool true) ∧ Below W.heap.size W w' := by
  by_cases h : 300 < b.length ∨ (20000 < most ∧ most ≤ 4194304)
  · exact unwraps_far A c b most W h
  · exact unwraps_near A c b most W hr hok hz hcap (by omega) (by omega)
end Go.Proofs.Ytegmbjkpjglgpaa
