/-
  InflateExpands: for every tokens and limit the law returns true: the program's bytes and error are the document's, and its tokens stay. No condition.
-/
import Derived.Test.YtnlhneoiofijeaaBytes
namespace Go.Proofs.Ytnlhneoiofijeaa.InflateExpands
open Go.ChangeShapes Go.WideShapes Go.ChangeAt Go.RowKit Go.Proofs.Ytnlhneoiofijeaa

theorem tok_of {H : Type} {enc : TypeId × Value → H} {w : World} {base : Nat} {spare : Nat → Bool} {held : Bool} (n : Nat) (cs : List Value) (y : DataW H × List MemPlace) (hl : cs.length = 2)
    (h : DataW.trod enc Try.prog w base spare held n 38 cs = some y) : ∃ t : Int × Int, cs = encTok t ∧ okTok t := by
  have L := leaf_at 1 38 n cs y (by kernel_rfl) (by rw [hl]; kernel_rfl) h
  obtain ⟨_, _, v0, e0, t0⟩ := L 0 3 (by kernel_rfl)
  obtain ⟨_, _, v1, e1, t1⟩ := L 1 3 (by kernel_rfl)
  obtain ⟨a, rfl, wa⟩ := leaf_int Try.underlying3 t0
  obtain ⟨b, rfl, wb⟩ := leaf_int Try.underlying3 t1
  match cs, hl with
  | [_, _], _ =>
    simp at e0 e1
    subst e0 e1
    exact ⟨(a, b), rfl, wa, wb⟩


theorem rd_block {w : World} {g n size : Nat} {t : TypeId} {xs : List Value} (h : Blk w g t xs.toArray) (hl : xs.length = n * size) : Rd w w.heap.size size (some ⟨g, 0, none⟩) n xs :=
  ⟨hl, fun _ => ⟨g, 0, rfl, h.lt, fun j u hu => by rw [h.cell (0 + j)]; simpa using hu⟩⟩
theorem rd_nil {w : World} {B size n : Nat} {A : Option Addr} {xs : List Value} (h : Rd w B size A n xs) (hs : 0 < size) (hA : A = none) : n = 0 := by
  rcases Nat.eq_zero_or_pos n with h0 | h0
  · exact h0
  · obtain ⟨b, off, hA', _⟩ := h.at_ (k := 0) h0 hs
    rw [hA] at hA'; cases hA'

theorem first_out : expRes 4 [(0, 7), (3, 1)] = 0 ∧ expOut 4 [(0, 7), (3, 1)] = [7, 7, 7, 7] := by decide
theorem first_any (W : World) : Calls Try.prog 35 #[.slice (some ⟨W.heap.size, 0, none⟩) 2 2, .int .i64 4] (W.alloc (.cells #[.int .i64 0, .int .i64 7, .int .i64 3, .int .i64 1] 38))
    fun e w' => ∃ A c, e = .returned (.tuple #[.slice A 4 c, .nilIface]) ∧ Rd w' w'.heap.size 1 A 4 (bytesV [7, 7, 7, 7]) ∧ Below W.heap.size W w' := by
  have hr : Rd (W.alloc (.cells #[.int .i64 0, .int .i64 7, .int .i64 3, .int .i64 1] 38)) (W.alloc (.cells #[.int .i64 0, .int .i64 7, .int .i64 3, .int .i64 1] 38)).heap.size 2 (some ⟨W.heap.size, 0, none⟩) [((0 : Int), (7 : Int)), (3, 1)].length ([((0 : Int), (7 : Int)), (3, 1)].flatMap encTok) :=
    rd_block (Blk.new W 38 _) rfl
  refine (progExpand_any _ 2 [(0, 7), (3, 1)] 4 _ hr (by simp)).mono fun e w' ⟨A, c, he, hown, hb⟩ => ?_
  obtain ⟨h1, h2⟩ := first_out
  rw [h1, h2] at he
  rw [h2] at hown
  exact ⟨A, c, he, own_rd hown, ((Below.refl _ _).alloc (Nat.le_refl _) _).trans (hb.mono (by simp))⟩

set_option maxRecDepth 100000 in
theorem walk_far (A : Option Addr) (c : Nat) (l : List (Int × Int)) (most : Int) (W : World) (hm : 2000 < l.length) :
    Calls Try.prog 9 #[.slice A l.length c, .int .i64 most] W fun e w' => e = .returned (.bool true) ∧ Below W.heap.size W w' := by
  go_enter Try.func9, Try.ntmps9
  go_wp2_with fail
  refine (first_any _).mono ?_
  rintro e w1 ⟨A1, c1, rfl, hr1, hb1⟩
  have k1 : (Go.convert 68 9 (.slice A1 4 c1)).run Try.prog w1 = .ok (.string ⟨#[7, 7, 7, 7]⟩) w1 := conv_bytes (l := [7, 7, 7, 7]) hr1
  clear hr1
  go_wp2_with fail
  go_ret
  exact ⟨rfl, hb1⟩

theorem empty_row (w : World) (t : TypeId) : (w.alloc (.cells #[] t)).ownsRow w.heap.size t 2 (.slice (some ⟨w.heap.size, 0, none⟩) 0 0) 0 [] :=
  ⟨rfl, .inr ⟨w.heap.size, 0, #[], rfl, Nat.le_refl _, Blk.new w t #[], Nat.le_refl _, by simp [maxLen], rfl, rfl⟩⟩

set_option maxRecDepth 100000 in
set_option maxHeartbeats 4000000 in
theorem walk_near (A : Option Addr) (c : Nat) (l : List (Int × Int)) (most : Int) (W : World) (hr : Rd W W.heap.size 2 A l.length (l.flatMap encTok)) (hm : l.length ≤ 2000) :
    Calls Try.prog 9 #[.slice A l.length c, .int .i64 most] W fun e w' => e = .returned (.bool true) ∧ Below W.heap.size W w' := by
  obtain ⟨i0, hi0, hz0, hz1, hz2⟩ := info_parts tok_info
  have Hi0 := hid hi0
  have Hz0 := hid hz0
  have Hz1 := hid hz1
  have Hz2 := hid hz2
  have Hr := hid hr
  have Hres := hid (show 0 ≤ expRes most l by
    unfold expRes
    split
    · omega
    · have : ∀ (r : List (Int × Int)) (s : Int), 0 ≤ scan most r s := by
        intro r
        induction r with
        | nil => intro s; exact Int.le_refl _
        | cons t r ih =>
          intro s
          show 0 ≤ if terr most s t = 0 then scan most r (s + tn t) else terr most s t
          split
          · exact ih _
          · unfold terr; (repeat' split) <;> omega
      exact this l 0)
  clear hi0 hz0 hz1 hz2 hr
  go_enter Try.func9, Try.ntmps9
  go_wp2_with fail
  refine (first_any _).mono ?_
  rintro e w1 ⟨A1, c1, rfl, hr1, hb1⟩
  have k1 : (Go.convert 68 9 (.slice A1 4 c1)).run Try.prog w1 = .ok (.string ⟨#[7, 7, 7, 7]⟩) w1 := conv_bytes (l := [7, 7, 7, 7]) hr1
  have Hb1 := hid hb1
  have hz := hb1.size
  clear hr1 hb1
  go_wp2_with (at_builtin; refine wpList_app _ rfl _ _ _ rfl W.heap.size 38 i0 (.agg #[.int .i64 0, .int .i64 0]) 2 16 Try.underlying35 Hi0.out Hz0.out Hz1.out Hz2.out rfl (by omega) _ _ _ _ rfl (own_base (empty_row _ _) hz) _ A l.length c (l.flatMap encTok) rfl ((Hr.out.below Hb1.out (Nat.le_refl _)).alloc hz _) (fun h => rd_nil Hr.out (by omega) h) (by intro u hu; obtain ⟨t, _, ht⟩ := List.mem_flatMap.1 hu; simp [encTok] at ht; rcases ht with rfl | rfl <;> rfl) (by simp only [maxLen]; omega) (by omega) (by simp; omega) ?_; rintro A3 c3 w3 ⟨hown3, hgr3, hb3, _⟩)
  simp only [Nat.zero_add, List.nil_append] at hown3
  have Hown3 := hid hown3
  have Hb3 := hid ((Hb1.out.alloc hz (.cells #[] 38)).trans hb3)
  have hz3 := Hb3.out.size
  clear hown3 hgr3 hb3
  refine (progExpand_any A3 c3 l most _ (own_rd Hown3.out) hm).mono ?_
  rintro e w4 ⟨A4, c4, rfl, hown4, hb4⟩
  have Hown4 := hid hown4
  have Hb4 := hid (Hb3.out.trans (hb4.mono hz3))
  have Hc4 := hid ((own_rd Hown3.out).below hb4 (Nat.le_refl _))
  have hz4 := hb4.size
  clear hown4 hb4
  go_wp2_with fail
  refine (refExpand_any A c l most _ ((Hr.out.below Hb4.out (Nat.le_refl _)).more (by omega)) hm).mono ?_
  rintro e w5 ⟨A5, c5, rfl, hown5, hb5⟩
  have Hb5 := hid (Hb4.out.trans (hb5.mono (by omega)))
  have Hc5 := hid (Hc4.out.below hb5 hz4)
  have Hr4 := hid ((own_rd Hown4.out).below hb5 (Nat.le_refl _))
  have Hr5 := hid (own_rd hown5)
  have hz5 := hb5.size
  clear hown5 hb5
  go_wp2_with fail
  refine (same_refl A4 A5 c4 c5 (expOut most l) _ w5.heap.size (Hr4.out.more (by omega)) Hr5.out).mono ?_
  rintro e w6 ⟨rfl, rfl⟩
  go_wp2_with fail
  refine (num_errv _ Hres.out _).mono ?_
  rintro e w6 ⟨rfl, rfl⟩
  go_wp2_with fail
  refine (tokens_refl A3 A c3 c l _ w5.heap.size (Hc5.out.more (by omega)) ((Hr.out.below Hb5.out (Nat.le_refl _)).more (by omega)) hm).mono ?_
  rintro e w6 ⟨rfl, nd, rfl⟩
  go_wp2_with fail
  go_ret
  exact ⟨rfl, below_drewN Hb5.out nd⟩

theorem walk (A : Option Addr) (c : Nat) (l : List (Int × Int)) (most : Int) (W : World) (hr : Rd W W.heap.size 2 A l.length (l.flatMap encTok)) :
    Calls Try.prog 9 #[.slice A l.length c, .int .i64 most] W fun e w' => e = .returned (.bool true) ∧ Below W.heap.size W w' := by
  by_cases h : l.length ≤ 2000
  · exact walk_near A c l most W hr h
  · exact walk_far A c l most W (by omega)

set_option maxRecDepth 100000 in
theorem lifted (os : Os) (started : os.Started) (H : Type) (enc : TypeId × Value → H) :
    ReturnsInHanded {} Try.checked os 9 .any (Rows.inflateExpandsSpec.pre6 enc Try.prog Try.f9 Rows.inflateExpandsRow.domain false) (Rows.inflateExpandsSpec.post enc Try.prog Try.f9 false true false false) :=
  law_lifted own laidOut started (by kernel_rfl) Try.func9 rfl rfl Try.underlying4
    (by rw [Try.params9]; intro t ht; simp at ht; rcases ht with rfl | rfl <;> exact ⟨by kernel_rfl, of_decide_eq_true (by kernel_rfl)⟩)
    (by
      intro ds h
      match ds, h with
      | [_, _], _ => exact ⟨rfl, rfl, rfl⟩)
    (ChangeSpec.witness6 (enc := enc) (C := Try.checked) false ⟨#[], #[.slice none 0 0, .int .i64 0], []⟩ 8 (by kernel_rfl) (by kernel_rfl) (by kernel_rfl) (by kernel_rfl))
    (by
      intro W base args ds ps hval0 hA0
      have hval : ∀ (j : Nat) t v, Try.f9.params[j]? = some t → args[j]? = some v → Value.okWide Try.prog W .any base t v := hval0
      have hA : DataW.TrodAll enc Try.prog W 0 (fun _ => true) true Try.f9.params.toList args.toList ds ps := hA0
      clear hval0 hA0
      rw [Try.params9] at hA hval
      obtain ⟨v0, vs0, d0, ds0, p0, q0, hargs, rfl, rfl, h0, r0⟩ := trodAll_cons hA
      obtain ⟨v1, vs1, d1, ds1, p1, q1, rfl, rfl, rfl, h1, r1⟩ := trodAll_cons r0
      obtain ⟨rfl, rfl, rfl⟩ := trodAll_nil r1
      obtain rfl : args = #[v0, v1] := by cases args; simp_all
      obtain ⟨fuel0, hf0⟩ := h0
      obtain ⟨A0, n0, m0, rfl⟩ := okWide_slice Try.underlying35 (hval 0 35 v0 rfl rfl)
      obtain ⟨A0, c0, l0, e0, hlc0, hcm0, hok0, hr0⟩ := open_slice_of encTok okTok 2 (by omega) Try.underlying35 (by kernel_rfl) tok_of (fun _ => rfl) (by simpa [Value.cells] using hf0)
      rw [e0]
      obtain ⟨a1, rfl, rfl, rfl, w1⟩ := open_int Try.underlying3 (hval 1 3 v1 rfl rfl) h1
      exact walk A0 c0 l0 a1 W hr0)

theorem over : Rows.inflateExpandsRow.holds Try.pinned (OpenSpec.ofChange Rows.inflateExpandsSpec) :=
  OpenClaim.holds_of_wide 9 Try.f9 rfl rfl rfl rfl rfl rfl rfl ⟨rfl, rfl, rfl, rfl, rfl⟩ rfl rfl rfl rfl rfl (by kernel_rfl) Try.func9 (by kernel_rfl)
    (of_decide_eq_true (by kernel_rfl)) (by unfold Func.isWrapper; first | (rw [if_pos (by decide +kernel)]; kernel_rfl) | (rw [if_neg (by decide +kernel)]; exact ⟨rfl, rfl⟩))
    (fun os started H enc _ => lifted os started H enc)

theorem proved : Rows.InflateExpandsSaid := over
#print axioms proved
end Go.Proofs.Ytnlhneoiofijeaa.InflateExpands
