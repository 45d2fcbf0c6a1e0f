/-
  burnishlaw06.InflateTokens: walked.
-/
import Derived.Test.YtegmbjkpjglgpaaRqL
import Derived.Test.YtegmbjkpjglgpaaRqP
import Derived.Test.YtegmbjkpjglgpaaRqX
import Derived.Test.YtegmbjkpjglgpaaInfAl
namespace Go.Proofs.Ytegmbjkpjglgpaa
open Go.RowKit

theorem rtok_any (A : Option Addr) (c : Nat) (bl : List Int) (most : Int) (W : World) (hr : Rd W W.heap.size 1 A bl.length (bytesV bl)) (hb : ∀ x ∈ bl, isB x) (hm : bl.length ≤ 10000) : Calls Try.prog 27 #[.slice A bl.length c, .int .i64 most] W (RTk bl most W) := by
  by_cases h : most < 0 ∨ 4194304 < most
  · exact rtok_range A c bl most W h
  · exact rtok_in (fun v w s h hL A D c d l m hl hd hlm hdm hll hdl => rsyms_any h hL A D c d l m hl hd hlm hdm hll hdl) A c bl most W hr hb hm (by omega) (by omega)
theorem copied_rd {w : World} {g : Nat} {l : List Int} (h : Blk w g 5 (bytesV l ++ [Value.int .u8 165, Value.int .u8 90]).toArray) : Rd w w.heap.size 1 (some ⟨g, 0, none⟩) l.length (bytesV l) := by
  refine ⟨by rw [bytesV_length, Nat.mul_one], fun _ => ⟨g, 0, rfl, h.lt, fun j u hu => ?_⟩⟩
  rw [Nat.zero_add, h.cell j, List.getElem?_toArray, List.getElem?_append_left (List.getElem?_eq_some_iff.1 hu).1]
  exact hu
theorem num_ne (n : Int) (hn : n ≠ 0) (w : World) : Calls Try.prog 23 #[.iface 40 (.int .i64 n)] w fun e w' => e = .returned (.int .i64 n) ∧ w = w' := by
  have h0 : (n == 0) = false := by rw [beq_eq_false_iff_ne]; exact hn
  have ta : ∀ w : World, (Instr.typeAssert (.iface 40 (.int .i64 n)) 34 40 true).run Try.prog w = .ok (.tuple #[.int .i64 n, .bool true]) w := fun _ => by kernel_rfl
  clear hn
  go_enter Try.func23, Try.ntmps23
  go_wp2
  go_ret
  exact ⟨rfl, rfl⟩
set_option maxRecDepth 100000 in
theorem tokens_far (A : Option Addr) (c : Nat) (b : List Int) (most : Int) (W : World) (h : 300 < b.length ∨ (20000 < most ∧ most ≤ 4194304)) :
    Calls Try.prog 7 #[.slice A b.length c, .int .i64 most] W fun e w' => e = .returned (.bool true) ∧ Below W.heap.size W w' := by
  obtain ⟨n, hn⟩ : ∃ n, n = b.length := ⟨_, rfl⟩
  rw [← hn] at h ⊢
  clear hn
  by_cases h1 : 300 < n
  · have d1 : decide (300 < n) = true := decide_eq_true h1
    have d2 : decide ((300 : Int) < (n : Int)) = true := decide_eq_true (by omega)
    clear h h1
    go_enter Try.func7, Try.ntmps7
    go_wp2_with fail
    refine (alive6_any W).mono ?_
    rintro e w1 ⟨rfl, hb1⟩
    go_wp2_with fail
    go_ret
    exact ⟨rfl, hb1⟩
  · have h2 : 20000 < most ∧ most ≤ 4194304 := by omega
    have d1 : decide (300 < n) = false := decide_eq_false h1
    have d2 : decide ((300 : Int) < (n : Int)) = false := decide_eq_false (by omega)
    have d3 : decide (20000 < most) = true := decide_eq_true h2.1
    have d4 : decide (most ≤ 4194304) = true := decide_eq_true h2.2
    clear h h1 h2
    go_enter Try.func7, Try.ntmps7
    go_wp2_with fail
    refine (alive6_any W).mono ?_
    rintro e w1 ⟨rfl, hb1⟩
    go_wp2_with fail
    go_ret
    exact ⟨rfl, hb1⟩
set_option maxRecDepth 100000 in
set_option maxHeartbeats 4000000 in
theorem tokens_near (A : Option Addr) (c : Nat) (b : List Int) (most : Int) (W : World) (hr : Rd W W.heap.size 1 A b.length (bytesV b)) (hok : ∀ x ∈ b, isB x) (h1 : b.length ≤ 300) (h2 : ¬ (20000 < most ∧ most ≤ 4194304)) :
    Calls Try.prog 7 #[.slice A b.length c, .int .i64 most] W fun e w' => e = .returned (.bool true) ∧ Below W.heap.size W w' := by
  have Hr := hid hr
  have CP := hid (fun (w : World) (h : Below W.heap.size W w) => copy_any A c b w ((hr.below h (Nat.le_refl _)).more h.size) (by omega))
  have RT := hid (fun (w : World) (h : Below W.heap.size W w) => rtok_any A c b most w ((hr.below h (Nat.le_refl _)).more h.size) hok (by omega))
  have TK := hid (fun (g : Nat) (w : World) (h : Blk w g 5 (bytesV b ++ [Value.int .u8 165, Value.int .u8 90]).toArray) => tokens_any (some ⟨g, 0, none⟩) (b.length + 2) b most w (copied_rd h) (fun h => by cases h) hok (by omega))
  have KE := hid (fun (g : Nat) (w : World) (h : Blk w g 5 (bytesV b ++ [Value.int .u8 165, Value.int .u8 90]).toArray) (hw : Below W.heap.size W w) => kept_any A c g b w w.heap.size h ((hr.below hw (Nat.le_refl _)).more hw.size) (by omega))
  obtain ⟨n, hn⟩ : ∃ n, n = b.length := ⟨_, rfl⟩
  have hh : (most < 0 ∨ 4194304 < most) ∨ most ≤ 20000 := by omega
  have HH := hid hh
  unfold CopiedB at CP
  rw [← hn] at h1 CP RT TK KE ⊢
  have d1 : decide (300 < n) = false := decide_eq_false (by omega)
  have d2 : decide ((300 : Int) < (n : Int)) = false := decide_eq_false (by omega)
  have hd34 : decide (20000 < most) = false ∨ (decide (20000 < most) = true ∧ decide (most ≤ 4194304) = false) := by
    by_cases h : 20000 < most
    · exact .inr ⟨decide_eq_true h, decide_eq_false (by omega)⟩
    · exact .inl (decide_eq_false h)
  clear hr hok hn h2 hh
  rcases hd34 with d3 | ⟨d3, d4⟩
  all_goals
    go_enter Try.func7, Try.ntmps7
    go_wp2_with fail
    refine (alive6_any W).mono ?_
    rintro e w1 ⟨rfl, hb1⟩
    have B1 := hid hb1
    clear hb1
    go_wp2_with fail
    refine (CP.out w1 B1.out).mono ?_
    rintro e w2 ⟨rfl, hk2, hb2⟩
    obtain ⟨g, hg⟩ : ∃ g, g = w1.heap.size := ⟨_, rfl⟩
    have Hg := hid hg
    rw [← hg] at hk2 ⊢
    have BK2 := hid hk2
    have B2 := hid (B1.out.trans (hb2.mono B1.out.size))
    clear hk2 hb2 hg
    go_wp2_with fail
    refine (TK.out g w2 BK2.out).mono ?_
    intro e w3 hE3
    obtain ⟨hb3, hE3⟩ := hE3
    have B3 := hid (B2.out.trans (hb3.mono B2.out.size))
    have BK3 := hid (BK2.out.below hb3 BK2.out.lt)
    have BB3 := hid hb3
    have RW := hid (RT.out w3 B3.out)
    clear hb3
    cases hi : infM (bitsL b) most with
    | error k =>
      rw [hi] at hE3
      subst hE3
      have Hi := hid hi
      clear hi
      go_wp2_with fail
      refine RW.out.mono ?_
      intro e w4 hE4
      obtain ⟨hb4, hE4⟩ := hE4
      rw [Hi.out] at hE4
      obtain ⟨hk0, rfl⟩ := hE4
      have B4 := hid (B3.out.trans (hb4.mono B3.out.size))
      have BK4 := hid (BK3.out.below hb4 BK3.out.lt)
      have HK0 := hid hk0
      clear hb4 hk0
      have TR := hid (tokens_reflB none none 0 0 [] w4 0 Rd.nil Rd.nil (by decide))
      go_wp2_with fail
      refine TR.out.mono ?_
      rintro e w5 ⟨rfl, nd, rfl⟩
      have B5 := hid (below_drewN B4.out nd)
      have BK5 := hid (show Blk (w4.drewN nd) g _ _ from BK4.out)
      go_wp2_with fail
      refine (num_ne k HK0.out _).mono ?_
      rintro e w6 ⟨rfl, rfl⟩
      go_wp2_with fail
      refine (KE.out g _ BK5.out B5.out).mono ?_
      rintro e w6 ⟨rfl, rfl⟩
      go_wp2_with fail
      go_ret
      exact ⟨rfl, B5.out⟩
    | ok s2 =>
      rw [hi] at hE3
      obtain ⟨T, tc, rfl, ho3⟩ := hE3
      have Hi := hid hi
      have O3 := hid ho3
      have hsn := infM_sound (bitsL_bit b) hi
      have hm20 : most ≤ 20000 := by have := HH.out; omega
      clear hi ho3
      obtain ⟨nt, hnt⟩ : ∃ nt, nt = s2.toks.length := ⟨_, rfl⟩
      have Hnt := hid hnt
      rw [← hnt]
      clear hnt hsn
      go_wp2_with fail
      refine RW.out.mono ?_
      intro e w4 hE4
      obtain ⟨hb4, hE4⟩ := hE4
      rw [Hi.out] at hE4
      obtain ⟨T4, tc4, rfl, ho4, hlen⟩ := hE4
      have B4 := hid (B3.out.trans (hb4.mono B3.out.size))
      have BK4 := hid (BK3.out.below hb4 BK3.out.lt)
      have hn20 : s2.toks.length ≤ 20000 := by omega
      have TR := hid (tokens_reflB T T4 tc tc4 s2.toks w4 w4.heap.size (own_rd (own_below O3.out hb4 (Nat.le_refl _))) (own_rd ho4) hn20)
      rw [← Hnt.out] at TR ⊢
      clear hb4 ho4 hlen hn20
      go_wp2_with fail
      refine TR.out.mono ?_
      rintro e w5 ⟨rfl, nd, rfl⟩
      have B5 := hid (below_drewN B4.out nd)
      have BK5 := hid (show Blk (w4.drewN nd) g _ _ from BK4.out)
      go_wp2_with fail
      refine (num_nil _).mono ?_
      rintro e w6 ⟨rfl, rfl⟩
      go_wp2_with fail
      refine (KE.out g _ BK5.out B5.out).mono ?_
      rintro e w6 ⟨rfl, rfl⟩
      go_wp2_with fail
      go_ret
      exact ⟨rfl, B5.out⟩
theorem tokens_law (A : Option Addr) (c : Nat) (b : List Int) (most : Int) (W : World) (hr : Rd W W.heap.size 1 A b.length (bytesV b)) (hok : ∀ x ∈ b, isB x) :
    Calls Try.prog 7 #[.slice A b.length c, .int .i64 most] W fun e w' => e = .returned (.bool true) ∧ Below W.heap.size W w' := by
  by_cases h : 300 < b.length ∨ (20000 < most ∧ most ≤ 4194304)
  · exact tokens_far A c b most W h
  · exact tokens_near A c b most W hr hok (by omega) (by omega)
end Go.Proofs.Ytegmbjkpjglgpaa
