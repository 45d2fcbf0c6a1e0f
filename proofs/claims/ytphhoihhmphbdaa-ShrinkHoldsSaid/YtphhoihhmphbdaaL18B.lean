/-
  burnishlaw18.alive.
-/
import Derived.Test.YtphhoihhmphbdaaBestB
import Derived.Test.YtphhoihhmphbdaaHolds
import Derived.Test.YtphhoihhmphbdaaL18P
import Derived.Deep.RegionHeld3
namespace Go.Proofs.Ytphhoihhmphbdaa
open Go.RowKit Go.Shelf

theorem two_best : bestOf (formsM 2 1 0 twoPx) = bare 2 1 1 0 0 := by kernel_rfl
theorem two_ok : rasOk 2 1 twoPx = true := by kernel_rfl
theorem two_size : sizeM (bare 2 1 1 0 0) = 2 := by kernel_rfl
theorem two_holds : holdsM (bare 2 1 1 0 0) 2 1 twoPx = true := by kernel_rfl
theorem size_two (b : Nat) (PA KA : Option Addr) (pc kc : Nat) (W : World) (h : FmOwn W b (bare 2 1 1 0 0) PA KA pc kc) :
    Calls Try.prog 63 #[.agg #[.int .i64 2, .int .i64 1, .int .i64 1, .int .i64 0, .int .i64 0, .slice PA 0 pc, .slice KA 0 kc]] W fun e w' => e = .returned (.int .i64 2) ∧ Below W.heap.size W w' :=
  (size_f (bare 2 1 1 0 0) PA KA pc kc W h.rdp h.rdi (by simp [bare]) (by simp [bare])).mono fun _ _ ⟨he, hb⟩ => ⟨by rw [he, two_size], hb⟩
theorem holds_two (b : Nat) (PA KA A : Option Addr) (pc kc c : Nat) (W : World) (h : FmOwn W b (bare 2 1 1 0 0) PA KA pc kc) (ha : RdP W W.heap.size A twoPx) :
    Calls Try.prog 26 #[.agg #[.int .i64 2, .int .i64 1, .int .i64 1, .int .i64 0, .int .i64 0, .slice PA 0 pc, .slice KA 0 kc], .agg #[.int .i64 2, .int .i64 1, .slice A 2 c]] W fun e w' => e = .returned (.bool true) ∧ Below W.heap.size W w' :=
  (holds_any (bare 2 1 1 0 0) PA KA pc kc 2 1 A c twoPx W two_ok h.rdp h.rdi (by simp [bare]) (by simp [bare]) ha (by simp [twoPx])).mono fun _ _ ⟨he, hb⟩ => ⟨by rw [he, two_holds], hb⟩
def BtEnd (W : World) (e : Ending) (w' : World) : Prop := ∃ PA KA pc kc, e = .returned (.tuple #[.agg #[.int .i64 2, .int .i64 1, .int .i64 1, .int .i64 0, .int .i64 0, .slice PA 0 pc, .slice KA 0 kc], .nilIface]) ∧ FmOwn w' W.heap.size (bare 2 1 1 0 0) PA KA pc kc ∧ Below W.heap.size W w'
theorem best_two (A : Option Addr) (c : Nat) (W : World) (ha : RdP W W.heap.size A twoPx) :
    Calls Try.prog 61 #[.agg #[.int .i64 2, .int .i64 1, .slice A 2 c], .int .i64 0] W (BtEnd W) :=
  (best_any 2 1 0 A c twoPx W ha (by simp [twoPx])).mono fun e w' h => by
    rw [show fformsM 2 1 0 twoPx = some (formsM 2 1 0 twoPx) from if_pos ⟨two_ok, by omega, by omega⟩] at h
    obtain ⟨⟨z, he, hz, ho⟩, hb⟩ := h
    obtain ⟨f, PA, KA, pc, kc⟩ := z
    simp only at he hz ho
    rw [two_best] at hz
    subst hz
    exact ⟨PA, KA, pc, kc, he, ho, hb⟩
/-- the form that was found, boxed -/
def AlW (w W : World) (g : Nat) (PA KA : Option Addr) (pc kc : Nat) : Prop := Blk w g 38 #[.int .i64 2, .int .i64 1, .int .i64 1, .int .i64 0, .int .i64 0, .slice PA 0 pc, .slice KA 0 kc] ∧ FmOwn w 0 (bare 2 1 1 0 0) PA KA pc kc ∧ Below W.heap.size W w
theorem AlW.below {w w' W : World} {g : Nat} {PA KA : Option Addr} {pc kc : Nat} (h : AlW w W g PA KA pc kc) (hb : Below w.heap.size w w') : AlW w' W g PA KA pc kc := ⟨h.1.below hb h.1.lt, h.2.1.below hb (Nat.le_refl _), h.2.2.trans (hb.mono h.2.2.size)⟩
set_option maxRecDepth 100000 in
set_option maxHeartbeats 4000000 in
theorem alive18_any (W : World) : Calls Try.prog 23 #[] W fun e w' => e = .returned (.bool true) ∧ Below W.heap.size W w' := by
  go_enter Try.func23, Try.ntmps23
  go_wp2_with fail
  refine (two_any _).mono ?_
  rintro e w1 ⟨A, rfl, hr, hb⟩
  have Hr := hid hr
  have Hb1 := hid hb
  clear hr hb
  go_wp2_with fail
  refine (best_two A 2 _ Hr.out).mono ?_
  rintro e w2 ⟨PA, KA, pc, kc, rfl, ho, hb⟩
  have HA : Hid (AlW (w2.alloc (.cells #[.int .i64 2, .int .i64 1, .int .i64 1, .int .i64 0, .int .i64 0, .slice PA 0 pc, .slice KA 0 kc] 38)) W w2.heap.size PA KA pc kc) := hid ⟨Blk.new _ _ _, (ho.lower (Nat.zero_le _)).alloc _, (Hb1.out.trans (hb.mono Hb1.out.size)).alloc (by have := Hb1.out.size; have := hb.size; omega) _⟩
  clear ho hb
  go_upto_region 2 with (fail)
  generalize w2.alloc (.cells #[.int .i64 2, .int .i64 1, .int .i64 1, .int .i64 0, .int .i64 0, .slice PA 0 pc, .slice KA 0 kc] 38) = w3 at *
  generalize w2.heap.size = g at *
  have HD : Hid (AlW w3.drew W g PA KA pc kc) := hid (HA.out.below (Below.refl _ _).drew)
  have q0 := HA.out.1.cell 0
  have q1 := HA.out.1.cell 1
  have q2 := HA.out.1.cell 2
  have q3 := HA.out.1.cell 3
  have q4 := HA.out.1.cell 4
  have q5 := HA.out.1.cell 5
  have q6 := HA.out.1.cell 6
  simp only [List.getElem?_toArray, List.getElem?_cons_zero, List.getElem?_cons_succ] at q0 q1 q2 q3 q4 q5 q6
  first | go_region_held3 (fun w' => w'.cell? ⟨g, 0, none⟩ = some (.int .i64 2) ∧ w'.cell? ⟨g, 1, none⟩ = some (.int .i64 1) ∧ w'.cell? ⟨g, 2, none⟩ = some (.int .i64 1) ∧ w'.cell? ⟨g, 3, none⟩ = some (.int .i64 0) ∧ w'.cell? ⟨g, 4, none⟩ = some (.int .i64 0) ∧ w'.cell? ⟨g, 5, none⟩ = some (.slice PA 0 pc) ∧ w'.cell? ⟨g, 6, none⟩ = some (.slice KA 0 kc)) (first | go_keep | exact ⟨q0, q1, q2, q3, q4, q5, q6⟩ | exact K1.out | exact K2.out | exact K3.out) (first
    | (go_at_call 63; refine (size_two 0 PA KA pc kc _ HD.out.2.1).mono ?_; rintro e1 v1 ⟨rfl, hb⟩; have H1 := hid (HD.out.below hb); have K1 : Hid (v1.cell? ⟨g, 0, none⟩ = some (.int .i64 2) ∧ v1.cell? ⟨g, 1, none⟩ = some (.int .i64 1) ∧ v1.cell? ⟨g, 2, none⟩ = some (.int .i64 1) ∧ v1.cell? ⟨g, 3, none⟩ = some (.int .i64 0) ∧ v1.cell? ⟨g, 4, none⟩ = some (.int .i64 0) ∧ v1.cell? ⟨g, 5, none⟩ = some (.slice PA 0 pc) ∧ v1.cell? ⟨g, 6, none⟩ = some (.slice KA 0 kc)) := hid ⟨H1.out.1.cell 0, H1.out.1.cell 1, H1.out.1.cell 2, H1.out.1.cell 3, H1.out.1.cell 4, H1.out.1.cell 5, H1.out.1.cell 6⟩; clear hb)
    | (go_at_call 62; refine (two_any _).mono ?_; rintro e2 v2 ⟨TA, rfl, hr, hb⟩; have H2 := hid (H1.out.below hb); have HT := hid hr; have K2 : Hid (v2.cell? ⟨g, 0, none⟩ = some (.int .i64 2) ∧ v2.cell? ⟨g, 1, none⟩ = some (.int .i64 1) ∧ v2.cell? ⟨g, 2, none⟩ = some (.int .i64 1) ∧ v2.cell? ⟨g, 3, none⟩ = some (.int .i64 0) ∧ v2.cell? ⟨g, 4, none⟩ = some (.int .i64 0) ∧ v2.cell? ⟨g, 5, none⟩ = some (.slice PA 0 pc) ∧ v2.cell? ⟨g, 6, none⟩ = some (.slice KA 0 kc)) := hid ⟨H2.out.1.cell 0, H2.out.1.cell 1, H2.out.1.cell 2, H2.out.1.cell 3, H2.out.1.cell 4, H2.out.1.cell 5, H2.out.1.cell 6⟩; clear hb hr)
    | (go_at_call 26; refine (holds_two 0 PA KA TA pc kc 2 _ H2.out.2.1 HT.out).mono ?_; rintro e3 v3 ⟨rfl, hb⟩; have H3 := hid (H2.out.below hb); have K3 : Hid (v3.cell? ⟨g, 0, none⟩ = some (.int .i64 2) ∧ v3.cell? ⟨g, 1, none⟩ = some (.int .i64 1) ∧ v3.cell? ⟨g, 2, none⟩ = some (.int .i64 1) ∧ v3.cell? ⟨g, 3, none⟩ = some (.int .i64 0) ∧ v3.cell? ⟨g, 4, none⟩ = some (.int .i64 0) ∧ v3.cell? ⟨g, 5, none⟩ = some (.slice PA 0 pc) ∧ v3.cell? ⟨g, 6, none⟩ = some (.slice KA 0 kc)) := hid ⟨H3.out.1.cell 0, H3.out.1.cell 1, H3.out.1.cell 2, H3.out.1.cell 3, H3.out.1.cell 4, H3.out.1.cell 5, H3.out.1.cell 6⟩; clear hb)) | fail
  all_goals
    go_wp2
    go_ret
    exact ⟨rfl, H3.out.2.2⟩

end Go.Proofs.Ytphhoihhmphbdaa
