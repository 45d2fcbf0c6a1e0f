/-
  WishFinds: for every list and name the law returns true. No condition.
-/
import Derived.Test.YtnlhneoiofijeaaWishes
namespace Go.Proofs.Ytnlhneoiofijeaa.WishFinds
open Go.ChangeShapes Go.WideShapes Go.ChangeAt Go.RowKit Go.Proofs.Ytnlhneoiofijeaa

theorem wi_of {H : Type} {enc : TypeId × Value → H} {w : World} {base : Nat} {spare : Nat → Bool} {held : Bool} (n : Nat) (cs : List Value) (y : DataW H × List MemPlace) (hl : cs.length = 5)
    (h : DataW.trod enc Try.prog w base spare held n 31 cs = some y) : ∃ t : Wi, cs = encWi t ∧ True := by
  have L := leaf_at 1 31 n cs y (by kernel_rfl) (by rw [hl]; kernel_rfl) h
  obtain ⟨_, _, v0, e0, t0⟩ := L 0 9 (by kernel_rfl)
  obtain ⟨_, _, v1, e1, t1⟩ := L 1 3 (by kernel_rfl)
  obtain ⟨_, _, v2, e2, t2⟩ := L 2 3 (by kernel_rfl)
  obtain ⟨_, _, v3, e3, t3⟩ := L 3 9 (by kernel_rfl)
  obtain ⟨_, _, v4, e4, t4⟩ := L 4 4 (by kernel_rfl)
  obtain ⟨a0, rfl, _⟩ := leaf_string Try.underlying9 t0
  obtain ⟨a1, rfl, _⟩ := leaf_int Try.underlying3 t1
  obtain ⟨a2, rfl, _⟩ := leaf_int Try.underlying3 t2
  obtain ⟨a3, rfl, _⟩ := leaf_string Try.underlying9 t3
  obtain ⟨a4, rfl⟩ := leaf_bool Try.underlying4 t4
  match cs, hl with
  | [_, _, _, _, _], _ =>
    simp at e0 e1 e2 e3 e4
    subst e0 e1 e2 e3 e4
    exact ⟨⟨a0, a1, a2, a3, a4⟩, rfl, trivial⟩

theorem rd_block {w : World} {g n size : Nat} {t : TypeId} {xs : List Value} (h : Blk w g t xs.toArray) (hl : xs.length = n * size) : Rd w w.heap.size size (some ⟨g, 0, none⟩) n xs :=
  ⟨hl, fun _ => ⟨g, 0, rfl, h.lt, fun j u hu => by rw [h.cell (0 + j)]; simpa using hu⟩⟩

theorem first_find (W : World) : Calls Try.prog 14 #[.slice (some ⟨W.heap.size, 0, none⟩) 1 1, .string ⟨#[97]⟩] (W.alloc (.cells #[.string ⟨#[97]⟩, .iface 3 (.int .i64 3)] 27))
    fun e w' => e = .returned (.tuple #[.iface 3 (.int .i64 3), .bool true]) ∧ Below W.heap.size W w' := by
  refine (find_any _ 1 [⟨⟨#[97]⟩, 1, 3, ByteArray.empty, false⟩] ⟨#[97]⟩ _ (rd_block (Blk.new W 27 _) rfl) (by simp)).mono fun e w' ⟨he, hb⟩ => ?_
  rw [show findW ⟨#[97]⟩ [⟨⟨#[97]⟩, 1, 3, ByteArray.empty, false⟩] = some ⟨⟨#[97]⟩, 1, 3, ByteArray.empty, false⟩ by simp [findW]] at he
  exact ⟨he, ((Below.refl _ _).alloc (Nat.le_refl _) _).trans (hb.mono (by simp))⟩
theorem first_is (W : World) : Calls Try.prog 15 #[.iface 3 (.int .i64 3), .agg #[.string ByteArray.empty, .int .i64 1, .int .i64 3, .string ByteArray.empty, .bool false]] W
    fun e w' => e = .returned (.bool true) ∧ Below W.heap.size W w' :=
  is_own ⟨ByteArray.empty, 1, 3, ByteArray.empty, false⟩ (.inl rfl) W

set_option maxRecDepth 100000 in
theorem walk_far (A : Option Addr) (c : Nat) (l : List Wi) (nm : ByteArray) (W : World) (hm : 1000 < l.length) :
    Calls Try.prog 3 #[.slice A l.length c, .string nm] W fun e w' => e = .returned (.bool true) ∧ Below W.heap.size W w' := by
  go_enter Try.func3, Try.ntmps3
  go_wp2_with fail
  refine (first_find _).mono ?_
  rintro e w1 ⟨rfl, hb1⟩
  go_wp2_with fail
  refine (first_is _).mono ?_
  rintro e w2 ⟨rfl, hb2⟩
  go_wp2_with fail
  go_ret
  exact ⟨rfl, hb1.trans (hb2.mono hb1.size)⟩

/-- the end of a search: what is found, or nothing -/
theorem findW_some {nm : ByteArray} {l : List Wi} {j : Nat} {x : Wi} (hj : j < l.length) (h : findW nm (l.drop j) = some x) (hq : (l[j].nm.toList == nm.toList) = true) : l[j] = x := by
  rw [findW_drop hj, if_pos hq] at h
  exact Option.some.inj h

set_option maxRecDepth 100000 in
set_option maxHeartbeats 4000000 in
theorem walk_none (A : Option Addr) (c : Nat) (l : List Wi) (nm : ByteArray) (W : World) (hr : Rd W W.heap.size 5 A l.length (l.flatMap encWi)) (hm : l.length ≤ 1000) (hn : findW nm l = none) :
    Calls Try.prog 3 #[.slice A l.length c, .string nm] W fun e w' => e = .returned (.bool true) ∧ Below W.heap.size W w' := by
  have Hr := hid hr
  have Hn := hid hn
  clear hr hn
  go_enter Try.func3, Try.ntmps3
  go_wp2_with fail
  refine (first_find _).mono ?_
  rintro e w1 ⟨rfl, hb1⟩
  go_wp2_with fail
  refine (first_is _).mono ?_
  rintro e w2 ⟨rfl, hb2⟩
  have Hb2 := hid (hb1.trans (hb2.mono hb1.size))
  have hs2 := Hb2.out.size
  clear hb1 hb2
  go_wp2_with fail
  refine (wishes_any A c l _ ((Hr.out.below Hb2.out (Nat.le_refl _)).more hs2) (by omega)).mono ?_
  rintro e w3 ⟨A3, c3, rfl, hown3, hb3⟩
  have Hown3 := hid hown3
  have Hb3 := hid (Hb2.out.trans (hb3.mono hs2))
  have hs3 := Hb3.out.size
  clear hown3 hb3
  go_wp2_with fail
  refine (find_any A3 c3 l nm _ (own_rd Hown3.out) (by omega)).mono ?_
  rintro e w4 ⟨he, hb4⟩
  rw [Hn.out] at he
  subst he
  have Hb4 := hid (Hb3.out.trans (hb4.mono hs3))
  clear hb4
  go_wp2_with fail
  go_loopw [40] (fun i wr => ∃ j : Nat, j ≤ l.length ∧ i = .int .i64 j ∧ findW nm (l.drop j) = none ∧ Below W.heap.size W wr) (fun i _ => l.length - (intOf i).toNat)
  case atStart => exact ⟨0, by omega, rfl, Hn.out, Hb4.out⟩
  case round =>
    obtain ⟨j, hj, rfl, hf, hb⟩ := hrel
    have Hb := hid hb
    have hsz := hb.size
    clear hb
    by_cases hlt : j < l.length
    · obtain ⟨b, off, rfl, hbb, q0, q1, q2, q3, q4⟩ := wi_at (Hr.out.below Hb.out (Nat.le_refl _)) hlt
      rw [findW_drop hlt] at hf
      cases hq : (l[j].nm.toList == nm.toList)
      · rw [if_neg (by simp [hq])] at hf
        have Hf := hid hf
        clear hf
        go_wp2
        go_roundw
        case rel => exact ⟨j + 1, by omega, by go_num, Hf.out, Hb.out.alloc hsz _⟩
        case measure => simp [intOf]; omega
      · rw [if_pos hq] at hf
        cases hf
    · go_wp2
      go_ret
      exact ⟨rfl, Hb.out⟩

set_option maxRecDepth 100000 in
set_option maxHeartbeats 4000000 in
theorem walk_some (A : Option Addr) (c : Nat) (l : List Wi) (nm : ByteArray) (W : World) (hr : Rd W W.heap.size 5 A l.length (l.flatMap encWi)) (hm : l.length ≤ 1000) (x : Wi) (hn : findW nm l = some x) :
    Calls Try.prog 3 #[.slice A l.length c, .string nm] W fun e w' => e = .returned (.bool true) ∧ Below W.heap.size W w' := by
  have Hr := hid hr
  have Hn := hid hn
  obtain ⟨T, u, hx⟩ := valv_iface x
  have Hx := hid hx
  clear hr hn hx
  go_enter Try.func3, Try.ntmps3
  go_wp2_with fail
  refine (first_find _).mono ?_
  rintro e w1 ⟨rfl, hb1⟩
  go_wp2_with fail
  refine (first_is _).mono ?_
  rintro e w2 ⟨rfl, hb2⟩
  have Hb2 := hid (hb1.trans (hb2.mono hb1.size))
  have hs2 := Hb2.out.size
  clear hb1 hb2
  go_wp2_with fail
  refine (wishes_any A c l _ ((Hr.out.below Hb2.out (Nat.le_refl _)).more hs2) (by omega)).mono ?_
  rintro e w3 ⟨A3, c3, rfl, hown3, hb3⟩
  have Hown3 := hid hown3
  have Hb3 := hid (Hb2.out.trans (hb3.mono hs2))
  have hs3 := Hb3.out.size
  clear hown3 hb3
  go_wp2_with fail
  refine (find_any A3 c3 l nm _ (own_rd Hown3.out) (by omega)).mono ?_
  rintro e w4 ⟨he, hb4⟩
  rw [Hn.out] at he
  simp only [Hx.out] at he
  subst he
  have Hb4 := hid (Hb3.out.trans (hb4.mono hs3))
  clear hb4
  go_wp2_with fail
  go_loopw [40] (fun i wr => ∃ j : Nat, j ≤ l.length ∧ i = .int .i64 j ∧ findW nm (l.drop j) = some x ∧ Below W.heap.size W wr) (fun i _ => l.length - (intOf i).toNat)
  case atStart => exact ⟨0, by omega, rfl, Hn.out, Hb4.out⟩
  case round =>
    obtain ⟨j, hj, rfl, hf, hb⟩ := hrel
    have Hb := hid hb
    have hsz := hb.size
    clear hb
    by_cases hlt : j < l.length
    · obtain ⟨b, off, rfl, hbb, q0, q1, q2, q3, q4⟩ := wi_at (Hr.out.below Hb.out (Nat.le_refl _)) hlt
      cases hq : (l[j].nm.toList == nm.toList)
      · rw [findW_drop hlt, if_neg (by simp [hq])] at hf
        have Hf := hid hf
        clear hf
        go_wp2
        go_roundw
        case rel => exact ⟨j + 1, by omega, by go_num, Hf.out, Hb.out.alloc hsz _⟩
        case measure => simp [intOf]; omega
      · have e := findW_some hlt hf hq
        rw [e] at q0 q1 q2 q3 q4 hq
        clear e hf
        by_cases hk : x.kind = 1 ∨ x.kind = 2 ∨ x.kind = 3
        · have d1 : decide (x.kind < 1) = false := decide_eq_false (by omega)
          have d2 : decide (3 < x.kind) = false := decide_eq_false (by omega)
          have Hi := hid (fun W => is_own x hk W)
          rw [Hx.out] at Hi
          go_wp2_with fail
          refine (Hi.out _).mono ?_
          rintro e w5 ⟨rfl, hb5⟩
          go_wp2
          go_ret
          exact ⟨rfl, (Hb.out.alloc hsz _).trans (hb5.mono (by simp; omega))⟩
        · have e7 : Value.iface T u = .iface 21 (.int .i32 7) := by
            rw [← Hx.out]
            unfold valv
            rw [if_neg (by omega), if_neg (by omega), if_neg (by omega)]
          injection e7 with e7 e8
          subst e7 e8
          have ta : ∀ w : World, (Instr.typeAssert (.iface 21 (.int .i32 7)) 23 21 true).run Try.prog w = .ok (.tuple #[.int .i32 7, .bool true]) w := fun _ => by kernel_rfl
          by_cases hk1 : x.kind < 1
          · have d1 : decide (x.kind < 1) = true := decide_eq_true hk1
            go_wp2
            go_ret
            exact ⟨rfl, Hb.out.alloc hsz _⟩
          · have d1 : decide (x.kind < 1) = false := decide_eq_false hk1
            have d2 : decide (3 < x.kind) = true := decide_eq_true (by omega)
            go_wp2
            go_ret
            exact ⟨rfl, Hb.out.alloc hsz _⟩
    · have e : j = l.length := by omega
      subst e
      rw [List.drop_length] at hf
      cases hf

theorem walk (A : Option Addr) (c : Nat) (l : List Wi) (nm : ByteArray) (W : World) (hr : Rd W W.heap.size 5 A l.length (l.flatMap encWi)) :
    Calls Try.prog 3 #[.slice A l.length c, .string nm] W fun e w' => e = .returned (.bool true) ∧ Below W.heap.size W w' := by
  by_cases h : l.length ≤ 1000
  · cases hf : findW nm l with
    | none => exact walk_none A c l nm W hr h hf
    | some x => exact walk_some A c l nm W hr h x hf
  · exact walk_far A c l nm W (by omega)

set_option maxRecDepth 100000 in
theorem lifted (os : Os) (started : os.Started) (H : Type) (enc : TypeId × Value → H) :
    ReturnsInHanded {} Try.checked os 3 .any (Rows.wishFindsSpec.pre6 enc Try.prog Try.f3 Rows.wishFindsRow.domain false) (Rows.wishFindsSpec.post enc Try.prog Try.f3 false true false false) :=
  law_lifted own laidOut started (by kernel_rfl) Try.func3 rfl rfl Try.underlying4
    (by rw [Try.params3]; intro t ht; simp at ht; rcases ht with rfl | rfl <;> exact ⟨by kernel_rfl, of_decide_eq_true (by kernel_rfl)⟩)
    (by
      intro ds h
      match ds, h with
      | [_, _], _ => exact ⟨rfl, rfl, rfl⟩)
    (ChangeSpec.witness6 (enc := enc) (C := Try.checked) false ⟨#[], #[.slice none 0 0, .string ByteArray.empty], []⟩ 8 (by kernel_rfl) (by kernel_rfl) (by kernel_rfl) (by kernel_rfl))
    (by
      intro W base args ds ps hval0 hA0
      have hval : ∀ (j : Nat) t v, Try.f3.params[j]? = some t → args[j]? = some v → Value.okWide Try.prog W .any base t v := hval0
      have hA : DataW.TrodAll enc Try.prog W 0 (fun _ => true) true Try.f3.params.toList args.toList ds ps := hA0
      clear hval0 hA0
      rw [Try.params3] at hA hval
      obtain ⟨v0, vs0, d0, ds0, p0, q0, hargs, rfl, rfl, h0, r0⟩ := trodAll_cons hA
      obtain ⟨v1, vs1, d1, ds1, p1, q1, rfl, rfl, rfl, h1, r1⟩ := trodAll_cons r0
      obtain ⟨rfl, rfl, rfl⟩ := trodAll_nil r1
      obtain rfl : args = #[v0, v1] := by cases args; simp_all
      obtain ⟨A0, n0, m0, rfl⟩ := okWide_slice Try.underlying22 (hval 0 22 v0 rfl rfl)
      obtain ⟨fuel0, hf0⟩ := h0
      obtain ⟨A0, c0, l0, e0, hlc0, hcm0, hok0, hr0⟩ := open_slice_of encWi (fun _ => True) 5 (by omega) Try.underlying22 (by kernel_rfl) wi_of (fun _ => rfl) (by simpa [Value.cells] using hf0)
      rw [e0]
      obtain ⟨a1, rfl, rfl, rfl, w1⟩ := Go.ChangeMaps.open_string Try.underlying9 (hval 1 9 v1 rfl rfl) h1
      exact walk A0 c0 l0 a1 W hr0)

theorem over : Rows.wishFindsRow.holds Try.pinned (OpenSpec.ofChange Rows.wishFindsSpec) :=
  OpenClaim.holds_of_wide 3 Try.f3 rfl rfl rfl rfl rfl rfl rfl ⟨rfl, rfl, rfl, rfl, rfl⟩ rfl rfl rfl rfl rfl (by kernel_rfl) Try.func3 (by kernel_rfl)
    (of_decide_eq_true (by kernel_rfl)) (by unfold Func.isWrapper; first | (rw [if_pos (by decide +kernel)]; kernel_rfl) | (rw [if_neg (by decide +kernel)]; exact ⟨rfl, rfl⟩))
    (fun os started H enc _ => lifted os started H enc)

theorem proved : Rows.WishFindsSaid := over
#print axioms proved
end Go.Proofs.Ytnlhneoiofijeaa.WishFinds
