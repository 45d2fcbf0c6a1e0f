/-
  BlockUnruns: for every symbols and extras the law returns true. No condition.
-/
import Derived.Test.YtnlhneoiofijeaaUnruns
namespace Go.Proofs.Ytnlhneoiofijeaa.BlockUnruns
open Go.ChangeShapes Go.WideShapes Go.ChangeAt Go.RowKit Go.Proofs.Ytnlhneoiofijeaa

theorem ints_refl (A B : Option Addr) (c d : Nat) (l : List Int) (W : World) (K : Nat) (h1 : RdI W K A l) (h2 : RdI W K B l) (hm : l.length ≤ 1000000) :
    Calls Try.prog 44 #[.slice A l.length c, .slice B l.length d] W fun e w' => e = .returned (.bool true) ∧ ∃ n, w' = W.drewN n := by
  have H1 := hid h1
  have H2 := hid h2
  clear h1 h2
  go_enter Try.func44, Try.ntmps44
  go_wp2
  go_loopw [13] (fun i wr => ∃ j n : Nat, j ≤ l.length ∧ i = .int .i64 j ∧ wr = W.drewN n) (fun i _ => l.length - (intOf i).toNat)
  case atStart => exact ⟨0, 0, by omega, rfl, rfl⟩
  case round =>
    obtain ⟨j, n, hj, rfl, rfl⟩ := hrel
    by_cases hlt : j < l.length
    · obtain ⟨b, off, rfl, hbb, q0⟩ := int_at H1.out hlt
      obtain ⟨b', off', rfl, hbb', p0⟩ := int_at H2.out hlt
      generalize l[j] = t at *
      go_wp2
      go_quiet (fail)
      go_wp2
      go_roundw
      case rel => exact ⟨j + 1, n + nq, by omega, by go_num, by simp⟩
      case measure => simp [intOf]; omega
    · go_wp2
      go_ret
      exact ⟨rfl, n, rfl⟩

theorem own_rdi {w : World} {base : Nat} {A : Option Addr} {c : Nat} {o : List Int} (h : w.ownsRow base 3 1 (.slice A o.length c) o.length (intsV o)) : RdI w w.heap.size A o := by
  have := own_rd h
  unfold RdI
  rw [intsV_eq]
  exact this

theorem own_base {w : World} {b b' : Nat} {e : TypeId} {size n : Nat} {v : Value} {xs : List Value} (h : w.ownsRow b' e size v n xs) (hb : b ≤ b') : w.ownsRow b e size v n xs := by
  refine ⟨h.1, ?_⟩
  rcases h.2 with hn | ⟨g, cap, cur, rfl, hg, rest⟩
  · exact .inl hn
  · exact .inr ⟨g, cap, cur, rfl, by omega, rest⟩
theorem first_val : unr [] [(5, 0), (16, 1)] = some [5, 5, 5, 5, 5] := by decide
theorem first_any (W : World) : Calls Try.prog 50 #[.slice (some ⟨W.heap.size, 0, none⟩) 2 2] (W.alloc (.cells #[.int .i64 5, .int .i64 0, .int .i64 16, .int .i64 1] 81))
    fun e w' => ∃ A c, e = .returned (.tuple #[.slice A 5 c, .nilIface]) ∧ RdI w' w'.heap.size A [5, 5, 5, 5, 5] ∧ Below W.heap.size W w' := by
  have hr : Rd (W.alloc (.cells #[.int .i64 5, .int .i64 0, .int .i64 16, .int .i64 1] 81)) (W.alloc (.cells #[.int .i64 5, .int .i64 0, .int .i64 16, .int .i64 1] 81)).heap.size 2 (some ⟨W.heap.size, 0, none⟩) [((5 : Int), (0 : Int)), (16, 1)].length ([((5 : Int), (0 : Int)), (16, 1)].flatMap encTok) :=
    rd_block (Blk.new W 81 _) rfl
  refine (unruns_any _ 2 [(5, 0), (16, 1)] _ hr (by simp)).mono fun e w' ⟨he, hb⟩ => ?_
  rw [first_val] at he
  obtain ⟨A, c, he, hown, _⟩ := he
  exact ⟨A, c, he, own_rdi hown, ((Below.refl _ _).alloc (Nat.le_refl _) _).trans (hb.mono (by simp))⟩
theorem five_any (w : World) (A : Option Addr) (c : Nat) (h : RdI w w.heap.size A [5, 5, 5, 5, 5]) :
    Calls Try.prog 44 #[.slice A 5 c, .slice (some ⟨w.heap.size, 0, none⟩) 5 5] (w.alloc (.cells #[.int .i64 5, .int .i64 5, .int .i64 5, .int .i64 5, .int .i64 5] 3)) fun e w' => e = .returned (.bool true) ∧ Below w.heap.size w w' := by
  refine (ints_refl A (some ⟨w.heap.size, 0, none⟩) c 5 [5, 5, 5, 5, 5] _ (w.heap.size + 1) ((h.alloc (Nat.le_refl _) _).more (by omega)) (RdI.new (by simp)) (by simp)).mono fun e w' ⟨he, n, hn⟩ => ⟨he, ?_⟩
  subst hn
  exact below_drewN ((Below.refl _ _).alloc (Nat.le_refl _) _) n

set_option maxRecDepth 100000 in
theorem walk_far (A B : Option Addr) (c d : Nat) (ls le : List Int) (W : World) (hm : 500 < ls.length) :
    Calls Try.prog 12 #[.slice A ls.length c, .slice B le.length d] W fun e w' => e = .returned (.bool true) ∧ Below W.heap.size W w' := by
  go_enter Try.func12, Try.ntmps12
  go_wp2_with fail
  refine (first_any _).mono ?_
  rintro e w1 ⟨A1, c1, rfl, hr1, hb1⟩
  go_wp2_with fail
  refine (five_any _ _ _ hr1).mono ?_
  rintro e w2 ⟨rfl, hb2⟩
  have Hb2 := hid (hb1.trans (hb2.mono hb1.size))
  have hs2 := Hb2.out.size
  clear hr1 hb1 hb2
  go_wp2_with fail
  go_ret
  exact ⟨rfl, Hb2.out⟩
set_option maxRecDepth 100000 in
theorem walk_less (A B : Option Addr) (c d : Nat) (ls le : List Int) (W : World) (hm : ls.length ≤ 500) (hl : le.length < ls.length) :
    Calls Try.prog 12 #[.slice A ls.length c, .slice B le.length d] W fun e w' => e = .returned (.bool true) ∧ Below W.heap.size W w' := by
  go_enter Try.func12, Try.ntmps12
  go_wp2_with fail
  refine (first_any _).mono ?_
  rintro e w1 ⟨A1, c1, rfl, hr1, hb1⟩
  go_wp2_with fail
  refine (five_any _ _ _ hr1).mono ?_
  rintro e w2 ⟨rfl, hb2⟩
  have Hb2 := hid (hb1.trans (hb2.mono hb1.size))
  have hs2 := Hb2.out.size
  clear hr1 hb1 hb2
  go_wp2_with fail
  go_ret
  exact ⟨rfl, Hb2.out⟩

theorem run_info : (Try.prog.info? 81).map (fun i => (i.zero, i.size, i.bytes)) = some (some (.agg #[.int .i64 0, .int .i64 0]), 2, 16) := by kernel_rfl
theorem empty_row (w : World) (t : TypeId) : (w.alloc (.cells #[] t)).ownsRow w.heap.size t 2 (.slice (some ⟨w.heap.size, 0, none⟩) 0 0) 0 [] :=
  ⟨rfl, .inr ⟨w.heap.size, 0, #[], rfl, Nat.le_refl _, Blk.new w t #[], Nat.le_refl _, by simp [maxLen], rfl, rfl⟩⟩

set_option maxRecDepth 100000 in
set_option maxHeartbeats 4000000 in
theorem walk_near (A B : Option Addr) (c d : Nat) (ls le : List Int) (W : World) (hr : RdI W W.heap.size A ls) (hr2 : RdI W W.heap.size B le) (hm : ls.length ≤ 500) (hl : ls.length ≤ le.length) :
    Calls Try.prog 12 #[.slice A ls.length c, .slice B le.length d] W fun e w' => e = .returned (.bool true) ∧ Below W.heap.size W w' := by
  obtain ⟨i0, hi0, hz0, hz1, hz2⟩ := info_parts run_info
  have Hi0 := hid hi0
  have Hz0 := hid hz0
  have Hz1 := hid hz1
  have Hz2 := hid hz2
  have Hr := hid hr
  have Hr2 := hid hr2
  have Hzl := hid (show (ls.zip le).length = ls.length by simp; omega)
  have d1 : decide (le.length < ls.length) = false := decide_eq_false (by omega)
  have d2 : decide ((500 : Int) < (ls.length : Int)) = false := decide_eq_false (by omega)
  clear hi0 hz0 hz1 hz2 hr hr2
  go_enter Try.func12, Try.ntmps12
  go_wp2_with fail
  refine (first_any _).mono ?_
  rintro e w1 ⟨A1, c1, rfl, hr1, hb1⟩
  go_wp2_with fail
  refine (five_any _ _ _ hr1).mono ?_
  rintro e w2 ⟨rfl, hb2⟩
  have Hb2 := hid (hb1.trans (hb2.mono hb1.size))
  have hs2 := Hb2.out.size
  clear hr1 hb1 hb2
  go_wp2_with fail
  go_loopw [7, 42] (fun o i wr => ∃ (j : Nat) (A' : Option Addr) (c' : Nat), j ≤ ls.length ∧ i = .int .i64 j ∧ o = .slice A' j c' ∧ wr.ownsRow W.heap.size 81 2 (.slice A' j c') j (((ls.zip le).take j).flatMap encTok) ∧ Below W.heap.size W wr) (fun _ i _ => ls.length - (intOf i).toNat)
  case atStart => exact ⟨0, _, _, by omega, rfl, rfl, own_base (empty_row _ _) hs2, Hb2.out.alloc hs2 _⟩
  case round =>
    obtain ⟨j, A', c', hj, rfl, rfl, hown, hb⟩ := hrel
    have Hown := hid hown
    have Hb := hid hb
    have hsz := hb.size
    by_cases hlt : j < ls.length
    · have hlt2 : j < le.length := by omega
      obtain ⟨b, off, rfl, hbb, q0⟩ := int_at (Hr.out.below hb (Nat.le_refl _)) hlt
      obtain ⟨b2, off2, rfl, hbb2, q1⟩ := int_at (Hr2.out.below hb (Nat.le_refl _)) hlt2
      have Htk : Hid ((ls.zip le).take (j + 1) = (ls.zip le).take j ++ [(ls[j], le[j])]) := by
        have h := List.take_succ_eq_append_getElem (l := ls.zip le) (i := j) (by rw [Hzl.out]; exact hlt)
        rw [List.getElem_zip] at h
        exact h
      clear hown hb
      generalize ls[j] = s at *
      generalize le[j] = e at *
      go_wp2_with (at_builtin; refine wpList_app _ rfl _ _ _ rfl W.heap.size 81 i0 (.agg #[.int .i64 0, .int .i64 0]) 2 16 Try.underlying77 Hi0.out Hz0.out Hz1.out Hz2.out rfl (by omega) _ j c' _ rfl (Hown.out.alloc _) _ _ 1 1 [.int .i64 s, .int .i64 e] rfl (rd_one _ _ _ _ (Blk.new _ _ _)) (by simp) (by intro u hu; simp at hu; rcases hu with rfl | rfl <;> rfl) (by simp only [maxLen]; omega) (by omega) (by simp; omega) ?_; rintro A3 c3 w3 ⟨hown3, hgr3, hb3, _⟩)
      go_roundw
      case rel => exact ⟨j + 1, A3, c3, by omega, by go_num, rfl, by rw [Htk.out, List.flatMap_append, List.flatMap_cons, List.flatMap_nil, List.append_nil]; exact hown3, (Hb.out.alloc hsz _).trans hb3⟩
      case measure => simp [intOf]; omega
    · have ej : j = ls.length := by omega
      subst ej
      have hown0 := hown
      rw [List.take_of_length_le (by rw [Hzl.out]; exact Nat.le_refl _)] at hown0
      have Hrl := hid (own_rd hown0)
      clear hown hb hown0
      go_wp2_with fail
      refine (show Calls _ _ #[.slice A' ls.length c'] _ (UnrEnd .nilIface (.iface 47 (.int .i64 6)) (ls.zip le) wr) by
        have h := unruns_any A' c' (ls.zip le) wr (by rw [Hzl.out]; exact Hrl.out) (by rw [Hzl.out]; omega)
        rw [Hzl.out] at h
        exact h).mono ?_
      rintro e3 w3 ⟨he3, hb3⟩
      have Hb3 := hid (Hb.out.trans (hb3.mono hsz))
      have hs3 := Hb3.out.size
      have href := refUnruns_any A B c d ls le w3 ((Hr.out.below Hb3.out (Nat.le_refl _)).more hs3) ((Hr2.out.below Hb3.out (Nat.le_refl _)).more hs3) (by omega) hl
      cases hu : unr [] (ls.zip le) with
      | none =>
        rw [hu] at he3
        obtain rfl : e3 = _ := he3
        unfold UnrEnd at href
        rw [hu] at href
        have Href := hid href
        clear href hb3
        go_wp2_with fail
        refine Href.out.mono ?_
        rintro e4 w4 ⟨rfl, hb4⟩
        have Hb4 := hid (Hb3.out.trans (hb4.mono hs3))
        clear hb4
        go_wp2_with fail
        refine (ints_refl none none 0 0 [] _ 0 RdI.nil RdI.nil (by simp)).mono ?_
        rintro e5 w5 ⟨rfl, nd, rfl⟩
        go_wp2_with fail
        refine (is_no 6 6 (by omega) _).mono ?_
        rintro e6 w6 ⟨rfl, rfl⟩
        go_wp2_with fail
        go_ret
        exact ⟨rfl, below_drewN Hb4.out nd⟩
      | some o =>
        rw [hu] at he3
        obtain ⟨A5, c5, rfl, hown5, hle5⟩ := he3
        unfold UnrEnd at href
        rw [hu] at href
        have Href := hid href
        have H5 := hid (own_rdi hown5)
        have hlen : o.length ≤ 1000000 := by rw [Hzl.out] at hle5; omega
        clear href hb3 hown5 hle5
        go_wp2_with fail
        refine Href.out.mono ?_
        rintro e4 w4 ⟨⟨A6, c6, rfl, hown6, _⟩, hb4⟩
        have Hb4 := hid (Hb3.out.trans (hb4.mono hs3))
        have H6 := hid (own_rdi hown6)
        have H5' := hid ((H5.out.below hb4 (Nat.le_refl _)).more hb4.size)
        clear hb4 hown6
        go_wp2_with fail
        refine (ints_refl A5 A6 c5 c6 o _ _ H5'.out H6.out hlen).mono ?_
        rintro e5 w5 ⟨rfl, nd, rfl⟩
        go_wp2_with fail
        go_ret
        exact ⟨rfl, below_drewN Hb4.out nd⟩

theorem walk (A B : Option Addr) (c d : Nat) (ls le : List Int) (W : World) (hr : RdI W W.heap.size A ls) (hr2 : RdI W W.heap.size B le) :
    Calls Try.prog 12 #[.slice A ls.length c, .slice B le.length d] W fun e w' => e = .returned (.bool true) ∧ Below W.heap.size W w' := by
  by_cases h : ls.length ≤ 500
  · by_cases h2 : ls.length ≤ le.length
    · exact walk_near A B c d ls le W hr hr2 h h2
    · exact walk_less A B c d ls le W h (by omega)
  · exact walk_far A B c d ls le W (by omega)

set_option maxRecDepth 100000 in
theorem lifted (os : Os) (started : os.Started) (H : Type) (enc : TypeId × Value → H) :
    ReturnsInHanded {} Try.checked os 12 .any (Rows.blockUnrunsSpec.pre6 enc Try.prog Try.f12 Rows.blockUnrunsRow.domain false) (Rows.blockUnrunsSpec.post enc Try.prog Try.f12 false true false false) :=
  law_lifted own laidOut started (by kernel_rfl) Try.func12 rfl rfl Try.underlying4
    (by rw [Try.params12]; intro t ht; simp at ht; rcases ht with rfl | rfl <;> exact ⟨by kernel_rfl, of_decide_eq_true (by kernel_rfl)⟩)
    (by
      intro ds h
      match ds, h with
      | [_, _], _ => exact ⟨rfl, rfl, rfl⟩)
    (ChangeSpec.witness6 (enc := enc) (C := Try.checked) false ⟨#[], #[.slice none 0 0, .slice none 0 0], []⟩ 8 (by kernel_rfl) (by kernel_rfl) (by kernel_rfl) (by kernel_rfl))
    (by
      intro W base args ds ps hval0 hA0
      have hval : ∀ (j : Nat) t v, Try.f12.params[j]? = some t → args[j]? = some v → Value.okWide Try.prog W .any base t v := hval0
      have hA : DataW.TrodAll enc Try.prog W 0 (fun _ => true) true Try.f12.params.toList args.toList ds ps := hA0
      clear hval0 hA0
      rw [Try.params12] at hA hval
      obtain ⟨v0, vs0, d0, ds0, p0, q0, hargs, rfl, rfl, h0, r0⟩ := trodAll_cons hA
      obtain ⟨v1, vs1, d1, ds1, p1, q1, rfl, rfl, rfl, h1, r1⟩ := trodAll_cons r0
      obtain ⟨rfl, rfl, rfl⟩ := trodAll_nil r1
      obtain rfl : args = #[v0, v1] := by cases args; simp_all
      obtain ⟨A0, n0, m0, rfl⟩ := okWide_slice Try.underlying56 (hval 0 56 v0 rfl rfl)
      obtain ⟨fuel0, hf0⟩ := h0
      obtain ⟨A0, c0, l0, e0, hlc0, hcm0, hok0, hr0⟩ := open_slice_of encI okI 1 (by omega) Try.underlying56 (by kernel_rfl) int_of (fun _ => rfl) (by simpa [Value.cells] using hf0)
      rw [e0]
      obtain ⟨A1, n1, m1, rfl⟩ := okWide_slice Try.underlying56 (hval 1 56 v1 rfl rfl)
      obtain ⟨fuel1, hf1⟩ := h1
      obtain ⟨A1, c1, l1, e1, hlc1, hcm1, hok1, hr1⟩ := open_slice_of encI okI 1 (by omega) Try.underlying56 (by kernel_rfl) int_of (fun _ => rfl) (by simpa [Value.cells] using hf1)
      rw [e1]
      exact walk A0 A1 c0 c1 l0 l1 W hr0 hr1)

theorem over : Rows.blockUnrunsRow.holds Try.pinned (OpenSpec.ofChange Rows.blockUnrunsSpec) :=
  OpenClaim.holds_of_wide 12 Try.f12 rfl rfl rfl rfl rfl rfl rfl ⟨rfl, rfl, rfl, rfl, rfl⟩ rfl rfl rfl rfl rfl (by kernel_rfl) Try.func12 (by kernel_rfl)
    (of_decide_eq_true (by kernel_rfl)) (by unfold Func.isWrapper; first | (rw [if_pos (by decide +kernel)]; kernel_rfl) | (rw [if_neg (by decide +kernel)]; exact ⟨rfl, rfl⟩))
    (fun os started H enc _ => lifted os started H enc)

theorem proved : Rows.BlockUnrunsSaid := over
#print axioms proved
end Go.Proofs.Ytnlhneoiofijeaa.BlockUnruns
