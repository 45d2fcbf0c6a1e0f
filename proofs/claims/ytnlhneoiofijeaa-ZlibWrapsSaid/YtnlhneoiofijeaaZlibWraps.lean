/-
  ZlibWraps: for every packed bytes, text and window the law returns true: the program's wrapped bytes are the document's. No condition.
-/
import Derived.Test.YtnlhneoiofijeaaZlibX
import Derived.Test.YtnlhneoiofijeaaApart
import Derived.Test.YtnlhneoiofijeaaErr
namespace Go.Proofs.Ytnlhneoiofijeaa.ZlibWraps
open Go.ChangeShapes Go.WideShapes Go.ChangeAt Go.RowKit Go.Proofs.Ytnlhneoiofijeaa

def encB (n : Int) : List Value := [.int .u8 n]
theorem encB_eq (l : List Int) : l.flatMap encB = bytesV l := by
  induction l with
  | nil => rfl
  | cons a l ih => rw [List.flatMap_cons, ih]; rfl
theorem byte_of {H : Type} {enc : TypeId × Value → H} {w : World} {base : Nat} {spare : Nat → Bool} {held : Bool} (n : Nat) (cs : List Value) (y : DataW H × List MemPlace) (hl : cs.length = 1)
    (h : DataW.trod enc Try.prog w base spare held n 5 cs = some y) : ∃ t : Int, cs = encB t ∧ isB t := by
  match cs, hl with
  | [v], _ =>
    obtain ⟨a, rfl, wa⟩ := leaf_int Try.underlying5 h
    refine ⟨a, rfl, ?_⟩
    simp [Lit.wf, IntKind.min, IntKind.max, IntKind.signed, IntKind.bits] at wa
    unfold isB
    omega

theorem pow_inj : ∀ a b : Nat, a < 8 → b < 8 → (256 * 2 ^ a : Int) = 256 * 2 ^ b → a = b := by
  intro a b ha hb h
  have : ∀ a : Fin 8, ∀ b : Fin 8, (256 * 2 ^ a.val : Int) = 256 * 2 ^ b.val → a = b := by decide
  have := this ⟨a, ha⟩ ⟨b, hb⟩ h
  simpa using this
theorem own_copy {w : World} {base g : Nat} {l : List Int} (h : Blk w g 5 (bytesV l ++ [Value.int .u8 165, Value.int .u8 90]).toArray) (hb : base ≤ g) (hm : l.length ≤ 10000000) :
    w.ownsRow base 5 1 (.slice (some ⟨g, 0, none⟩) l.length (l.length + 2)) l.length (bytesV l) :=
  ⟨by simp [bytesV], .inr ⟨g, l.length + 2, _, rfl, hb, h, by omega, by unfold maxLen; omega, by simp [bytesV], by simp [bytesV]⟩⟩
theorem first_val : wrapped 7 [3, 0] [] = [120, 1, 3, 0, 0, 0, 0, 1] := by decide
theorem first_any (W : World) : Calls Try.prog 45 #[.slice (some ⟨W.heap.size, 0, none⟩) 2 2, .slice none 0 0, .int .i64 32768] (W.alloc (.cells #[.int .u8 3, .int .u8 0] 5))
    fun e w' => ∃ A c, e = .returned (.tuple #[.slice A 8 c, .nilIface]) ∧ Rd w' w'.heap.size 1 A 8 (bytesV [120, 1, 3, 0, 0, 0, 0, 1]) ∧ Below W.heap.size W w' := by
  refine (progWrap_any (some ⟨W.heap.size, 0, none⟩) none 2 0 [3, 0] [] 32768 _ (by have h := rd_two W 5 (.int .u8 3) (.int .u8 0); simpa [bytesV] using h) Rd.nil (by simp) (by simp) (by simp)).mono fun e w' ⟨he, hb⟩ => ?_
  rcases he with ⟨k, A, c, hk, hw, he, hown⟩ | ⟨hno, _⟩
  · obtain rfl : k = 7 := pow_inj k 7 hk (by omega) (by rw [← hw]; decide)
    rw [first_val] at hown
    exact ⟨A, c, he, own_rd hown, ((Below.refl _ _).alloc (Nat.le_refl _) _).trans (hb.mono (by simp))⟩
  · exact absurd rfl (hno 7 (by omega))

theorem dist3 {a b c : Sl} {p t : Nat} (ha : ∀ g, (slv a).ownBlock = some g → t < g) (hb : (slv b).ownBlock = some p) (hc : (slv c).ownBlock = some t) (hpt : p < t) : Dist [a, b, c] := by
  intro i j s u hs hu hij g hg
  match i, j with
  | 0, 0 => exact absurd rfl hij
  | 0, 1 => simp at hs hu; subst hs hu; have := ha g hg; rw [hb]; intro e; injection e; omega
  | 0, 2 => simp at hs hu; subst hs hu; have := ha g hg; rw [hc]; intro e; injection e; omega
  | 1, 0 => simp at hs hu; subst hs hu; rw [hb] at hg; injection hg with hg; intro e; have := ha g e; omega
  | 1, 1 => exact absurd rfl hij
  | 1, 2 => simp at hs hu; subst hs hu; rw [hb] at hg; injection hg with hg; rw [hc]; intro e; injection e; omega
  | 2, 0 => simp at hs hu; subst hs hu; rw [hc] at hg; injection hg with hg; intro e; have := ha g e; omega
  | 2, 1 => simp at hs hu; subst hs hu; rw [hc] at hg; injection hg with hg; rw [hb]; intro e; injection e; omega
  | 2, 2 => exact absurd rfl hij
  | i + 3, _ => simp at hs
  | _, j + 3 => simp at hu
def apX (xs : List Value) (p t : List Int) : Nat → List Value := fun i => if i = 0 then xs else if i = 1 then bytesV p else bytesV t
/-- the last question of the law: three rows are apart -/
theorem apart3 {w : World} {base n c gp gt : Nat} {A : Option Addr} {xs : List Value} {p t : List Int} (ha : w.ownsRow base 5 1 (.slice A n c) n xs) (hn : n ≤ 1000000) (hab : ∀ g, (Value.slice A n c).ownBlock = some g → gt < g)
    (hp : Blk w gp 5 (bytesV p ++ [Value.int .u8 165, Value.int .u8 90]).toArray) (ht : Blk w gt 5 (bytesV t ++ [Value.int .u8 165, Value.int .u8 90]).toArray) (hb : base ≤ gp) (hpt : gp < gt) (hpl : p.length ≤ 1000000) (htl : t.length ≤ 1000000) :
    Calls Try.prog 49 #[.slice (some ⟨w.heap.size, 0, none⟩) 3 3] (w.alloc (.cells #[.slice A n c, .slice (some ⟨gp, 0, none⟩) p.length (p.length + 2), .slice (some ⟨gt, 0, none⟩) t.length (t.length + 2)] 68)) fun e w' => e = .returned (.bool true) ∧ Below base w w' := by
  have hbw : base ≤ w.heap.size := by have := hp.lt; omega
  refine (apart_any w.heap.size 3 base [(A, n, c), (some ⟨gp, 0, none⟩, p.length, p.length + 2), (some ⟨gt, 0, none⟩, t.length, t.length + 2)] (apX xs p t) _ (Blk.new w _ _) ?_ (dist3 hab rfl rfl hpt) (by simp; omega) (by simp) ?_).mono fun e w' ⟨he, hw⟩ => ⟨he, ((Below.refl _ _).alloc hbw _).trans hw⟩
  · intro k s hs
    match k with
    | 0 => simp at hs; subst hs; exact ha.alloc _
    | 1 => simp at hs; subst hs; exact (own_copy hp hb (by omega)).alloc _
    | 2 => simp at hs; subst hs; exact (own_copy ht (by omega) (by omega)).alloc _
    | k + 3 => simp at hs
  · intro s hs
    simp at hs
    rcases hs with rfl | rfl | rfl <;> simp only <;> omega

set_option maxRecDepth 100000 in
theorem walk_far (A B : Option Addr) (c d : Nat) (packed text : List Int) (window : Int) (W : World) (hm : 65536 < packed.length ∨ 65536 < text.length) :
    Calls Try.prog 11 #[.slice A packed.length c, .slice B text.length d, .int .i64 window] W fun e w' => e = .returned (.bool true) ∧ Below W.heap.size W w' := by
  by_cases h1 : 65536 < packed.length
  · clear hm
    go_enter Try.func11, Try.ntmps11
    go_wp2_with fail
    refine (first_any _).mono ?_
    rintro e w1 ⟨A1, c1, rfl, hr1, hb1⟩
    have k1 : (Go.convert 68 9 (.slice A1 8 c1)).run Try.prog w1 = .ok (.string ⟨#[120, 1, 3, 0, 0, 0, 0, 1]⟩) w1 := conv_bytes (l := [120, 1, 3, 0, 0, 0, 0, 1]) hr1
    clear hr1
    go_wp2_with fail
    go_ret
    exact ⟨rfl, hb1⟩
  · have h2 : 65536 < text.length := by omega
    have d1 : decide ((65536 : Int) < (packed.length : Int)) = false := decide_eq_false (by omega)
    clear hm
    go_enter Try.func11, Try.ntmps11
    go_wp2_with fail
    refine (first_any _).mono ?_
    rintro e w1 ⟨A1, c1, rfl, hr1, hb1⟩
    have k1 : (Go.convert 68 9 (.slice A1 8 c1)).run Try.prog w1 = .ok (.string ⟨#[120, 1, 3, 0, 0, 0, 0, 1]⟩) w1 := conv_bytes (l := [120, 1, 3, 0, 0, 0, 0, 1]) hr1
    clear hr1
    go_wp2_with fail
    go_ret
    exact ⟨rfl, hb1⟩

set_option maxRecDepth 100000 in
set_option maxHeartbeats 4000000 in
theorem walk_near (A B : Option Addr) (c d : Nat) (packed text : List Int) (window : Int) (W : World) (hr : Rd W W.heap.size 1 A packed.length (bytesV packed)) (ht : Rd W W.heap.size 1 B text.length (bytesV text)) (hbt : ∀ x ∈ text, isB x) (hp : packed.length ≤ 65536) (htl : text.length ≤ 65536) :
    Calls Try.prog 11 #[.slice A packed.length c, .slice B text.length d, .int .i64 window] W fun e w' => e = .returned (.bool true) ∧ Below W.heap.size W w' := by
  have Hr := hid hr
  have Ht := hid ht
  have Hbt := hid hbt
  have d1 : decide ((65536 : Int) < (packed.length : Int)) = false := decide_eq_false (by omega)
  have d2 : decide ((65536 : Int) < (text.length : Int)) = false := decide_eq_false (by omega)
  clear hr ht hbt
  go_enter Try.func11, Try.ntmps11
  go_wp2_with fail
  refine (first_any _).mono ?_
  rintro e w1 ⟨A1, c1, rfl, hr1, hb1⟩
  have k1 : (Go.convert 68 9 (.slice A1 8 c1)).run Try.prog w1 = .ok (.string ⟨#[120, 1, 3, 0, 0, 0, 0, 1]⟩) w1 := conv_bytes (l := [120, 1, 3, 0, 0, 0, 0, 1]) hr1
  have Hb1 := hid hb1
  have hz1 := hb1.size
  clear hr1 hb1
  go_wp2_with fail
  clear k1
  refine (copy_any A c packed w1 ((Hr.out.below Hb1.out (Nat.le_refl _)).more hz1) (by omega)).mono ?_
  rintro e w2 ⟨rfl, hg2, hb2⟩
  have Hg2 := hid hg2
  have Hb2 := hid (Hb1.out.trans (hb2.mono hz1))
  have hz2 : w1.heap.size < w2.heap.size := hg2.lt
  clear hg2 hb2
  go_wp2_with fail
  refine (copy_any B d text w2 ((Ht.out.below Hb2.out (Nat.le_refl _)).more (by omega)) (by omega)).mono ?_
  rintro e w3 ⟨rfl, hg3, hb3⟩
  have Hg3 := hid hg3
  have Hgp3 := hid (Hg2.out.below hb3 hz2)
  have Hb3 := hid (Hb2.out.trans (hb3.mono (by omega)))
  have hz3 : w2.heap.size < w3.heap.size := hg3.lt
  clear hg3 hb3 Hg2
  go_wp2_with fail
  refine (progWrap_any (some ⟨w1.heap.size, 0, none⟩) (some ⟨w2.heap.size, 0, none⟩) (packed.length + 2) (text.length + 2) packed text window w3 (copyB_rd Hgp3.out) (copyB_rd Hg3.out) Hbt.out (by omega) (by omega)).mono ?_
  rintro e w4 ⟨he4, hb4⟩
  have Hgp4 := hid (Hgp3.out.below hb4 (by omega))
  have Hgt4 := hid (Hg3.out.below hb4 (by omega))
  have Hb4 := hid (Hb3.out.trans (hb4.mono (by omega)))
  have hz4 := hb4.size
  clear hb4 Hgp3 Hg3
  rcases he4 with ⟨k, A4, c4, hk, hwin, rfl, hown4⟩ | ⟨hno, rfl⟩
  · have Hown4 := hid hown4
    have Hwin := hid hwin
    clear hown4 hwin
    go_wp2_with fail
    refine (refWrap_any A B c d packed text window w4 ((Hr.out.below Hb4.out (Nat.le_refl _)).more (by omega)) ((Ht.out.below Hb4.out (Nat.le_refl _)).more (by omega)) Hbt.out (by omega) (by omega)).mono ?_
    rintro e w5 ⟨he5, hb5⟩
    obtain ⟨k', A5, c5, hk', hwin', rfl, hown5⟩ := he5.resolve_right (fun h => h.1 k hk Hwin.out)
    obtain rfl : k' = k := pow_inj k' k hk' hk (by rw [← hwin', ← Hwin.out])
    have Hown5 := hid hown5
    have Hrd4 := hid ((own_rd Hown4.out).below hb5 (Nat.le_refl _))
    have Hown45 := hid (own_below Hown4.out hb5 (Nat.le_refl _))
    have Hgp5 := hid (Hgp4.out.below hb5 (by omega))
    have Hgt5 := hid (Hgt4.out.below hb5 (by omega))
    have Hb5 := hid (Hb4.out.trans (hb5.mono (by omega)))
    have hz5 := hb5.size
    have Hlen := hid (show (wrapped k' packed text).length = packed.length + 6 by simp [wrapped, be_length])
    clear hown5 hb5 hwin' Hwin Hgp4 Hgt4 Hb4
    go_wp2_with fail
    have hsame := same_refl A4 A5 c4 c5 (wrapped k' packed text) w5 w5.heap.size (by rw [Hlen.out]; exact Hrd4.out.more hz5) (by rw [Hlen.out]; exact own_rd Hown5.out)
    rw [Hlen.out] at hsame
    refine hsame.mono ?_
    rintro e w6 ⟨rfl, rfl⟩
    clear hsame
    go_wp2_with fail
    refine (kept_any A c w1.heap.size packed w5 w5.heap.size Hgp5.out ((Hr.out.below Hb5.out (Nat.le_refl _)).more (by omega)) (by omega)).mono ?_
    rintro e w6 ⟨rfl, rfl⟩
    go_wp2_with fail
    refine (kept_any B d w2.heap.size text w5 w5.heap.size Hgt5.out ((Ht.out.below Hb5.out (Nat.le_refl _)).more (by omega)) (by omega)).mono ?_
    rintro e w6 ⟨rfl, rfl⟩
    go_wp2_with fail
    refine (apart3 (base := W.heap.size) (own_base Hown45.out (by omega)) (by omega) (fun g hg => by have := (Hown45.out.lt g hg).1; omega) Hgp5.out Hgt5.out hz1 hz2 (by omega) (by omega)).mono ?_
    rintro e w6 ⟨rfl, hb6⟩
    go_wp2_with fail
    go_ret
    exact ⟨rfl, Hb5.out.trans hb6⟩
  · have Hno := hid hno
    clear hno
    go_wp2_with fail
    refine (refWrap_any A B c d packed text window w4 ((Hr.out.below Hb4.out (Nat.le_refl _)).more (by omega)) ((Ht.out.below Hb4.out (Nat.le_refl _)).more (by omega)) Hbt.out (by omega) (by omega)).mono ?_
    rintro e w5 ⟨he5, hb5⟩
    obtain ⟨_, rfl⟩ := he5.resolve_left (fun ⟨k', _, _, hk', hwin', _⟩ => Hno.out k' hk' hwin')
    have Hgp5 := hid (Hgp4.out.below hb5 (by omega))
    have Hgt5 := hid (Hgt4.out.below hb5 (by omega))
    have Hb5 := hid (Hb4.out.trans (hb5.mono (by omega)))
    have hz5 := hb5.size
    clear hb5 Hgp4 Hgt4 Hb4 Hno
    go_wp2_with fail
    refine (same_refl none none 0 0 [] w5 0 Rd.nil Rd.nil).mono ?_
    rintro e w6 ⟨rfl, rfl⟩
    go_wp2_with fail
    refine (is_no 6 6 (by omega) _).mono ?_
    rintro e w6 ⟨rfl, rfl⟩
    go_wp2_with fail
    refine (kept_any A c w1.heap.size packed w5 w5.heap.size Hgp5.out ((Hr.out.below Hb5.out (Nat.le_refl _)).more (by omega)) (by omega)).mono ?_
    rintro e w6 ⟨rfl, rfl⟩
    go_wp2_with fail
    refine (kept_any B d w2.heap.size text w5 w5.heap.size Hgt5.out ((Ht.out.below Hb5.out (Nat.le_refl _)).more (by omega)) (by omega)).mono ?_
    rintro e w6 ⟨rfl, rfl⟩
    go_wp2_with fail
    refine (apart3 (base := W.heap.size) (World.ownsRow_nil w5 _ _ _) (by omega) (fun g hg => by simp [Value.ownBlock] at hg) Hgp5.out Hgt5.out hz1 hz2 (by omega) (by omega)).mono ?_
    rintro e w6 ⟨rfl, hb6⟩
    go_wp2_with fail
    go_ret
    exact ⟨rfl, Hb5.out.trans hb6⟩

theorem walk (A B : Option Addr) (c d : Nat) (packed text : List Int) (window : Int) (W : World) (hr : Rd W W.heap.size 1 A packed.length (bytesV packed)) (ht : Rd W W.heap.size 1 B text.length (bytesV text)) (hbt : ∀ x ∈ text, isB x) :
    Calls Try.prog 11 #[.slice A packed.length c, .slice B text.length d, .int .i64 window] W fun e w' => e = .returned (.bool true) ∧ Below W.heap.size W w' := by
  by_cases h1 : packed.length ≤ 65536
  · by_cases h2 : text.length ≤ 65536
    · exact walk_near A B c d packed text window W hr ht hbt h1 h2
    · exact walk_far A B c d packed text window W (by omega)
  · exact walk_far A B c d packed text window W (by omega)

set_option maxRecDepth 100000 in
theorem lifted (os : Os) (started : os.Started) (H : Type) (enc : TypeId × Value → H) :
    ReturnsInHanded {} Try.checked os 11 .any (Rows.zlibWrapsSpec.pre6 enc Try.prog Try.f11 Rows.zlibWrapsRow.domain false) (Rows.zlibWrapsSpec.post enc Try.prog Try.f11 false true false false) :=
  law_lifted own laidOut started (by kernel_rfl) Try.func11 rfl rfl Try.underlying4
    (by rw [Try.params11]; intro t ht; simp at ht; rcases ht with rfl | rfl | rfl <;> exact ⟨by kernel_rfl, of_decide_eq_true (by kernel_rfl)⟩)
    (by
      intro ds h
      match ds, h with
      | [_, _, _], _ => exact ⟨rfl, rfl, rfl⟩)
    (ChangeSpec.witness6 (enc := enc) (C := Try.checked) false ⟨#[], #[.slice none 0 0, .slice none 0 0, .int .i64 0], []⟩ 8 (by kernel_rfl) (by kernel_rfl) (by kernel_rfl) (by kernel_rfl))
    (by
      intro W base args ds ps hval0 hA0
      have hval : ∀ (j : Nat) t v, Try.f11.params[j]? = some t → args[j]? = some v → Value.okWide Try.prog W .any base t v := hval0
      have hA : DataW.TrodAll enc Try.prog W 0 (fun _ => true) true Try.f11.params.toList args.toList ds ps := hA0
      clear hval0 hA0
      rw [Try.params11] at hA hval
      obtain ⟨v0, vs0, d0, ds0, p0, q0, hargs, rfl, rfl, h0, r0⟩ := trodAll_cons hA
      obtain ⟨v1, vs1, d1, ds1, p1, q1, rfl, rfl, rfl, h1, r1⟩ := trodAll_cons r0
      obtain ⟨v2, vs2, d2, ds2, p2, q2, rfl, rfl, rfl, h2, r2⟩ := trodAll_cons r1
      obtain ⟨rfl, rfl, rfl⟩ := trodAll_nil r2
      obtain rfl : args = #[v0, v1, v2] := by cases args; simp_all
      obtain ⟨A0, n0, m0, rfl⟩ := okWide_slice Try.underlying68 (hval 0 68 v0 rfl rfl)
      obtain ⟨fuel0, hf0⟩ := h0
      obtain ⟨A0, c0, l0, e0, hlc0, hcm0, hok0, hr0⟩ := open_slice_of encB isB 1 (by omega) Try.underlying68 (by kernel_rfl) byte_of (fun _ => rfl) (by simpa [Value.cells] using hf0)
      rw [e0]
      rw [encB_eq] at hr0
      obtain ⟨A1, n1, m1, rfl⟩ := okWide_slice Try.underlying68 (hval 1 68 v1 rfl rfl)
      obtain ⟨fuel1, hf1⟩ := h1
      obtain ⟨A1, c1, l1, e1, hlc1, hcm1, hok1, hr1⟩ := open_slice_of encB isB 1 (by omega) Try.underlying68 (by kernel_rfl) byte_of (fun _ => rfl) (by simpa [Value.cells] using hf1)
      rw [e1]
      rw [encB_eq] at hr1
      obtain ⟨a2, rfl, rfl, rfl, w2⟩ := open_int Try.underlying3 (hval 2 3 v2 rfl rfl) h2
      exact walk A0 A1 c0 c1 l0 l1 a2 W hr0 hr1 hok1)

theorem over : Rows.zlibWrapsRow.holds Try.pinned (OpenSpec.ofChange Rows.zlibWrapsSpec) :=
  OpenClaim.holds_of_wide 11 Try.f11 rfl rfl rfl rfl rfl rfl rfl ⟨rfl, rfl, rfl, rfl, rfl⟩ rfl rfl rfl rfl rfl (by kernel_rfl) Try.func11 (by kernel_rfl)
    (of_decide_eq_true (by kernel_rfl)) (by unfold Func.isWrapper; first | (rw [if_pos (by decide +kernel)]; kernel_rfl) | (rw [if_neg (by decide +kernel)]; exact ⟨rfl, rfl⟩))
    (fun os started H enc _ => lifted os started H enc)

theorem proved : Rows.ZlibWrapsSaid := over
#print axioms proved

end Go.Proofs.Ytnlhneoiofijeaa.ZlibWraps
