/-
  WishTexts' law walked.
-/
import Derived.Test.YtegmbjkpjglgpaaGreatWtH
import Derived.Test.YtegmbjkpjglgpaaGreatWpK
namespace Go.Proofs.YtegmbjkpjglgpaaGreat
open Go.RowKit Go.Lib

theorem rdW_up {w : World} {B C size n : Nat} {A : Option Addr} {xs : List Value} (h : Rd w B size A n xs) (hC : B ≤ C) : Rd w C size A n xs :=
  ⟨h.1, fun hn => by
    obtain ⟨b, off, e, hb, hc⟩ := h.2 hn
    exact ⟨b, off, e, Nat.lt_of_lt_of_le hb hC, hc⟩⟩
theorem toO_of {l : List Wi} {L : List Wsh} (h : l.map toO = L.map sm) : ∀ (k : Nat) (x : Wi) (y : Wsh), l[k]? = some x → L[k]? = some y → WiM x y := by
  intro k x y hx hy
  have h1 := congrArg (fun m => m[k]?) h
  simp only [List.getElem?_map, hx, hy, Option.map_some] at h1
  injection h1 with h1
  have e1 : x.nm = y.1 := congrArg Prod.fst h1
  have e2 : kvW x = some y.2 := congrArg Prod.snd h1
  refine ⟨e1, ?_⟩
  unfold kvW at e2
  split at e2
  · rename_i hk
    injection e2 with e2
    rw [← e2]
    exact ⟨hk, rfl⟩
  · split at e2
    · rename_i hk
      injection e2 with e2
      rw [← e2]
      exact ⟨hk, rfl⟩
    · split at e2
      · rename_i hk
        injection e2 with e2
        rw [← e2]
        exact ⟨hk, rfl⟩
      · cases e2
theorem kinds_of {l : List Wi} {L : List Wsh} (h : l.map toO = L.map sm) : ∀ x ∈ l, x.kind = 1 ∨ x.kind = 2 ∨ x.kind = 3 := by
  intro x hx
  have h1 : toO x ∈ L.map sm := by rw [← h]; exact List.mem_map_of_mem hx
  obtain ⟨y, hy, e⟩ := List.mem_map.1 h1
  have e2 : some y.2 = kvW x := congrArg Prod.snd e
  unfold kvW at e2
  split at e2
  · exact .inl (by assumption)
  · split at e2
    · exact .inr (.inl (by assumption))
    · split at e2
      · exact .inr (.inr (by assumption))
      · cases e2
theorem pText_small {l : List Wi} {L : List Wsh} (h : l.map toO = L.map sm) (hm : l.length ≤ 100) (hs : ∀ x ∈ l, x.nm.size ≤ 1000 ∧ x.s.size ≤ 1000) : (pText L).length ≤ 1000000 := by
  have hl : L.length = l.length := by
    have := congrArg List.length h
    rw [List.length_map, List.length_map] at this
    exact this.symm
  have := join_len (L.map paB) 3100 (fun x hx => by
    obtain ⟨y, hy, rfl⟩ := List.mem_map.1 hx
    obtain ⟨k, hk, rfl⟩ := List.getElem_of_mem hy
    have hkl : k < l.length := by omega
    have hw := toO_of h k l[k] L[k] (List.getElem?_eq_getElem hkl) (List.getElem?_eq_getElem hk)
    obtain ⟨h1, h2⟩ := hs _ (List.getElem_mem hkl)
    have h3 := shB_len L[k].2 1000 (fun y e => by
      have := hw.2
      rw [e] at this
      rw [← this.2]
      exact h2)
    have h4 : L[k].1.data.toList.length = L[k].1.size := rfl
    unfold paB
    rw [List.length_append, h4, ← hw.1]
    omega)
  rw [List.length_map, hl] at this
  unfold pText
  refine Nat.le_trans this ?_
  have : l.length * 3101 ≤ 100 * 3101 := Nat.mul_le_mul_right _ hm
  omega
set_option maxRecDepth 100000 in
set_option maxHeartbeats 8000000 in
theorem texts_any (A : Option Addr) (c n : Nat) (l : List Wi) (W : World) (hn : n = l.length) (h : Rd W W.heap.size 5 A l.length (l.flatMap encWi)) (hm : l.length ≤ maxLen) :
    Calls Tryz.prog 3 #[.slice A n c] W fun e w' => e = .returned (.bool true) ∧ Below W.heap.size W w' := by
  have H := hid h
  have HN := hid hn
  have hn1 : n ≤ maxLen := by omega
  simp only [maxLen] at hn1
  clear h hn hm
  go_enter Tryz.func3, Tryz.ntmps3
  go_wp2_with fail
  refine (alive_any _).mono ?_
  rintro e w1 ⟨rfl, hb1⟩
  have B1 := hid hb1
  clear hb1
  go_upto_region 5 with (fail)
  go_loopw [3, 13] (fun v i wr => ∃ k : Nat, k ≤ n ∧ k ≤ 100 ∧ v = .int .i64 (k : Int) ∧ i = .int .i64 (k : Int) ∧ Hid (∀ x ∈ l.take k, x.nm.size ≤ 1000 ∧ x.s.size ≤ 1000) ∧ Hid (Below W.heap.size W wr)) (fun _ i _ => n - (intOf i).toNat)
  case atStart => exact ⟨0, by omega, by omega, rfl, rfl, hid (by simp), B1⟩
  case round =>
    obtain ⟨k, hk, hk1, rfl, rfl, HS, Hw⟩ := hrel
    by_cases hlt : k < n
    · have d1 : decide (k < n) = true := decide_eq_true hlt
      have hkl : k < l.length := by have := HN.out; omega
      obtain ⟨b, off, rfl, hb, q0, q1, q2, q3, q4⟩ := wi_at (H.out.below Hw.out (Nat.le_refl _)) hkl
      have HT := hid (show l.take (k + 1) = l.take k ++ [l[k]] from List.take_succ_eq_append_getElem hkl)
      generalize l[k] = x at *
      obtain ⟨xn, xk, xz, xs, xb⟩ := x
      dsimp only at q0 q1 q2 q3 q4
      have B2 := hid (Hw.out.alloc Hw.out.size (.cells #[.string xn, .int .i64 xk, .int .i64 xz, .string xs, .bool xb] 25))
      by_cases c1 : 100 < k + 1
      · have e1 : decide ((100 : Int) < (k : Int) + 1) = true := decide_eq_true (by omega)
        go_wp2_with fail
        go_ret
        exact ⟨rfl, B2.out⟩
      have e1 : decide ((100 : Int) < (k : Int) + 1) = false := decide_eq_false (by omega)
      by_cases c2 : (1000 : Int) < (xn.size : Int)
      · have e2 : decide ((1000 : Int) < (xn.size : Int)) = true := decide_eq_true c2
        go_wp2_with fail
        go_ret
        exact ⟨rfl, B2.out⟩
      have e2 : decide ((1000 : Int) < (xn.size : Int)) = false := decide_eq_false c2
      by_cases c3 : (1000 : Int) < (xs.size : Int)
      · have e3 : decide ((1000 : Int) < (xs.size : Int)) = true := decide_eq_true c3
        go_wp2_with fail
        go_ret
        exact ⟨rfl, B2.out⟩
      · have e3 : decide ((1000 : Int) < (xs.size : Int)) = false := decide_eq_false c3
        have HS2 := hid (show ∀ x ∈ l.take (k + 1), x.nm.size ≤ 1000 ∧ x.s.size ≤ 1000 from by
          rw [HT.out]
          intro x hx
          rcases List.mem_append.1 hx with hx | hx
          · exact HS.out x hx
          · rcases List.mem_singleton.1 hx with rfl
            exact ⟨by show xn.size ≤ 1000; omega, by show xs.size ≤ 1000; omega⟩)
        go_wp2_with fail
        exact ⟨⟨k + 1, by omega, by omega, by push_cast; rfl, by push_cast; rfl, HS2, B2⟩, by simp [intOf]; omega⟩
    · have d1 : decide (k < n) = false := decide_eq_false hlt
      have hkn : k = n := by omega
      have HS2 := hid (show ∀ x ∈ l, x.nm.size ≤ 1000 ∧ x.s.size ≤ 1000 from by
        have := HS.out
        rwa [List.take_of_length_le (by have := HN.out; omega)] at this)
      have hn2 : n ≤ 100 := by omega
      subst hkn
      have hR := H.out.below Hw.out (Nat.le_refl _)
      have WA := hid (HN.out ▸ wishes_any A c l wr (rdW_up hR Hw.out.size) (by have := HN.out; omega))
      have HR := hid hR
      clear hR
      go_wp2_with fail
      refine WA.out.mono ?_
      rintro e w2 ⟨A2, c2, rfl, ho2, hb2⟩
      rw [← HN.out] at ho2 ⊢
      have B2 := hid (Hw.out.trans (hb2.mono Hw.out.size))
      have hR2 := HR.out.below hb2 Hw.out.size
      have HO2 := hid ho2
      have TX := hid (text_any A2 c2 w2.heap.size k (l.map toO) w2 (by rw [List.length_map]; exact HN.out) (by
          have h1 := own_rd ho2
          rw [rows_toO] at h1
          rw [List.length_map, ← HN.out]
          exact h1) (Nat.le_refl _) (by rw [List.length_map, ← HN.out]; omega) (fun x hx => by
          obtain ⟨y, hy, rfl⟩ := List.mem_map.1 hx
          obtain ⟨h1, h2⟩ := HS2.out y hy
          refine ⟨by show y.nm.size ≤ _; omega, fun z hz => ?_⟩
          have hz' : kvW y = some (.s z) := hz
          unfold kvW at hz'
          split at hz'
          · cases hz'
          · split at hz'
            · injection hz' with hz'
              injection hz' with hz'
              rw [← hz']
              omega
            · split at hz' <;> cases hz') (fun L hL => pText_small hL (by rw [← HN.out]; exact hn2) HS2.out))
      have hs6 : ∀ x ∈ l, x.nm.size ≤ 1000000 ∧ x.s.size ≤ 1000000 := fun x hx => by
        have := HS2.out x hx
        omega
      have LG := hid (fun (w3 : World) (hb3 : Below W.heap.size W w3) => lgood_any A c k W.heap.size l w3 HN.out (H.out.below hb3 (Nat.le_refl _)) hb3.size (by rw [← HN.out]; omega) hs6)
      clear ho2 hb2 hR2 hs6
      by_cases hG : ∃ L, l.map toO = L.map sm ∧ goodF [] L
      · obtain ⟨L, hL, hg⟩ := hG
        have TY := hid (TX.out.mono (R' := fun e w' => e = .returned (.tuple #[.string (runesBytes (txF true L)), .nilIface]) ∧ Below w2.heap.size w2 w') (fun e w' hh => by
          rcases hh with ⟨⟨M, hM, _, he⟩ | ⟨hno, _⟩, hb⟩
          · rw [sm_inj (hM.symm.trans hL)] at he
            exact ⟨he, hb⟩
          · exact absurd hg (hno L hL)))
        have LT := hid (fun (w3 : World) (hb3 : Below W.heap.size W w3) => (LG.out w3 hb3).mono (R' := fun e w' => e = .returned (.bool true) ∧ Below w3.heap.size w3 w') (fun e w' hh => by
          obtain ⟨⟨b2, he, hb2⟩, hb⟩ := hh
          have h1 : b2 = true := hb2.2 ((GoodP_iff l).2 ⟨L, hL, hg⟩)
          rw [he, h1]
          exact ⟨rfl, hb⟩))
        have hlL : l.length = L.length := by
          have := congrArg List.length hL
          rwa [List.length_map, List.length_map] at this
        have RTX := hid (fun (w3 : World) (hb3 : Below W.heap.size W w3) => rtext_any A c k W.heap.size l L w3 HN.out hlL (toO_of hL) hg (by
          have := pText_small hL (by rw [← HN.out]; exact hn2) HS2.out
          rwa [pText_eq hg] at this) (H.out.below hb3 (Nat.le_refl _)) hb3.size)
        have SM := hid (fun (w3 : World) (hb3 : Below W.heap.size W w3) (hb3' : Below w2.heap.size w2 w3) => lsame_any A A2 c c2 k W.heap.size w2.heap.size l w3 HN.out (H.out.below hb3 (Nat.le_refl _)) (by
          have h1 := own_rd HO2.out
          rw [HN.out] at h1
          exact h1.below hb3' (Nat.le_refl _)) hb3.size hb3'.size (by rw [← HN.out]; omega) (kinds_of hL))
        obtain ⟨tx, htx⟩ : ∃ tx, tx = runesBytes (txF true L) := ⟨_, rfl⟩
        rw [← htx] at TY RTX
        clear htx hL hg hlL
        go_wp2_with (first
          | (go_at_call 8; refine TY.out.mono ?_; rintro e w3 ⟨rfl, hb3⟩; have B3' := hid hb3; have B3 := hid (B2.out.trans (hb3.mono B2.out.size)); clear hb3)
          | (go_at_call 9; refine (LT.out _ B3.out).mono ?_; rintro e w4 ⟨rfl, hb4⟩; have B4' := hid (B3'.out.trans (hb4.mono B3'.out.size)); have B4 := hid (B3.out.trans (hb4.mono B3.out.size)); clear hb4)
          | (go_at_call 11; refine (RTX.out _ B4.out).mono ?_; rintro e w5 ⟨rfl, hb5⟩; have B5' := hid (B4'.out.trans (hb5.mono B4'.out.size)); have B5 := hid (B4.out.trans (hb5.mono B4.out.size)); clear hb5)
          | (go_at_call 12; refine (SM.out _ B5.out B5'.out).mono ?_; rintro e w6 ⟨rfl, hb6⟩; have B6 := hid (B5.out.trans (hb6.mono B5.out.size)); clear hb6))
        go_ret
        exact ⟨rfl, B6.out⟩
      · have TY := hid (TX.out.mono (R' := fun e w' => e = .returned (.tuple #[.string ⟨#[]⟩, .iface 34 (.int .i64 6)]) ∧ Below w2.heap.size w2 w') (fun e w' hh => by
          rcases hh with ⟨⟨M, hM, hg, _⟩ | ⟨_, he⟩, hb⟩
          · exact absurd ⟨M, hM, hg⟩ hG
          · exact ⟨he, hb⟩))
        have LT := hid (fun (w3 : World) (hb3 : Below W.heap.size W w3) => (LG.out w3 hb3).mono (R' := fun e w' => e = .returned (.bool false) ∧ Below w3.heap.size w3 w') (fun e w' hh => by
          obtain ⟨⟨b2, he, hb2⟩, hb⟩ := hh
          have h1 : b2 = false := by
            cases b2 with
            | false => rfl
            | true => exact absurd ((GoodP_iff l).1 (hb2.1 rfl)) hG
          rw [he, h1]
          exact ⟨rfl, hb⟩))
        clear hG
        go_wp2_with (first
          | (go_at_call 8; refine TY.out.mono ?_; rintro e w3 ⟨rfl, hb3⟩; have B3 := hid (B2.out.trans (hb3.mono B2.out.size)); clear hb3)
          | (go_at_call 9; refine (LT.out _ B3.out).mono ?_; rintro e w4 ⟨rfl, hb4⟩; have B4 := hid (B3.out.trans (hb4.mono B3.out.size)); clear hb4)
          | (go_at_call 10; refine (is_no 6 6 (by decide) _).mono ?_; rintro e w' ⟨rfl, rfl⟩))
        go_ret
        exact ⟨rfl, B4.out⟩
theorem wi_of {H : Type} {enc : TypeId × Value → H} {w : World} {base : Nat} {spare : Nat → Bool} {held : Bool} (n : Nat) (cs : List Value) (y : DataW H × List MemPlace) (hl : cs.length = 5)
    (h : DataW.trod enc Tryz.prog w base spare held n 25 cs = some y) : ∃ t : Wi, cs = encWi t ∧ True := by
  have L := leaf_at 1 25 n cs y (by kernel_rfl) (by rw [hl]; kernel_rfl) h
  obtain ⟨_, _, v0, e0, t0⟩ := L 0 9 (by kernel_rfl)
  obtain ⟨_, _, v1, e1, t1⟩ := L 1 3 (by kernel_rfl)
  obtain ⟨_, _, v2, e2, t2⟩ := L 2 3 (by kernel_rfl)
  obtain ⟨_, _, v3, e3, t3⟩ := L 3 9 (by kernel_rfl)
  obtain ⟨_, _, v4, e4, t4⟩ := L 4 4 (by kernel_rfl)
  obtain ⟨a0, rfl, _⟩ := leaf_string Tryz.underlying9 t0
  obtain ⟨a1, rfl, _⟩ := leaf_int Tryz.underlying3 t1
  obtain ⟨a2, rfl, _⟩ := leaf_int Tryz.underlying3 t2
  obtain ⟨a3, rfl, _⟩ := leaf_string Tryz.underlying9 t3
  obtain ⟨a4, rfl⟩ := leaf_bool Tryz.underlying4 t4
  match cs, hl with
  | [_, _, _, _, _], _ =>
    simp at e0 e1 e2 e3 e4
    subst e0 e1 e2 e3 e4
    exact ⟨⟨a0, a1, a2, a3, a4⟩, rfl, trivial⟩

end Go.Proofs.YtegmbjkpjglgpaaGreat
