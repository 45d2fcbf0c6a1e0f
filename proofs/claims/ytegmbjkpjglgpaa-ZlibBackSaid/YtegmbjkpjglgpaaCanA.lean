/-
  canon.Free, canon.order, slices.Clone of ints.
-/
import Derived.Test.YtegmbjkpjglgpaaCod
import Derived.Test.YtegmbjkpjglgpaaBits
import Derived.Test.YtegmbjkpjglgpaaPut
import Derived.Deep.DeepCutAuto
import Derived.Deep.CutRange
import Derived.Deep.CutBlock
import Derived.Deep.RegionHeld3
import Derived.BigRegion
import Derived.Laws.Cover4
namespace Go.Proofs.Ytegmbjkpjglgpaa
open Go.RowKit

theorem half_pow (m : Nat) (h : m ≤ 16) : (65536 : Int) / 2 ^ m = 2 ^ (16 - m) := by
  have : ∀ k : Fin 17, (65536 : Int) / 2 ^ k.val = 2 ^ (16 - k.val) := by decide
  exact this ⟨m, by omega⟩
theorem kraft_snoc (l : List Int) (x : Int) : kraft (l ++ [x]) = kraft l + (if 0 < x then (2 : Int) ^ (16 - x.toNat) else 0) := by unfold kraft; simp
theorem kraft_bd : ∀ (l : List Int), 0 ≤ kraft l ∧ kraft l ≤ 32768 * l.length
  | [] => ⟨by decide, by decide⟩
  | x :: l => by
    have ih := kraft_bd l
    have e : kraft (x :: l) = (if 0 < x then (2 : Int) ^ (16 - x.toNat) else 0) + kraft l := by unfold kraft; simp
    rw [e, List.length_cons]
    split
    · rename_i h
      have h1 := pow_mono (show 16 - x.toNat ≤ 15 by omega)
      have h2 : (2 : Int) ^ 15 = 32768 := by decide
      have h3 : (0 : Int) < 2 ^ (16 - x.toNat) := Int.pow_pos (by omega)
      omega
    · omega
def FreeEnd (l : List Int) (W : World) (e : Ending) (w' : World) : Prop := w' = W ∧ ((lensB l = true ∧ e = .returned (.tuple #[.int .i64 (65536 - kraft l), .nilIface])) ∨ (lensB l = false ∧ e = .returned (.tuple #[.int .i64 0, .iface 40 (.int .i64 6)])))
theorem lens_no {l : List Int} {p : Prop} (hn : ¬ p) (hp : lensB l = true → p) : lensB l = false := by
  cases hb : lensB l
  · rfl
  · exact absurd (hp hb) hn
set_option maxRecDepth 100000 in
set_option maxHeartbeats 2000000 in
theorem free_any (A : Option Addr) (c : Nat) (l : List Int) (W : World) (h : RdI W W.heap.size A l) (hm : l.length ≤ maxLen) : Calls Try.prog 149 #[.slice A l.length c] W (FreeEnd l W) := by
  have H := hid h
  unfold maxLen at hm
  clear h
  obtain ⟨n, hn⟩ : ∃ n, n = l.length := ⟨_, rfl⟩
  have Hn := hid hn
  rw [← hn] at hm ⊢
  by_cases hbig : 512 < n
  · have d1 : decide (512 < n) = true := decide_eq_true hbig
    have d2 : decide ((512 : Int) < (n : Int)) = true := decide_eq_true (by omega)
    have HF := hid (show lensB l = false from lens_no (p := l.length ≤ 512) (by omega) (fun h => (lensB_iff.1 h).1))
    clear hn hbig
    go_enter Try.func149, Try.ntmps149
    go_wp2
    go_ret2
    exact ⟨rfl, .inr ⟨HF.out, rfl⟩⟩
  · have d1 : decide (512 < n) = false := decide_eq_false hbig
    have d2 : decide ((512 : Int) < (n : Int)) = false := decide_eq_false (by omega)
    have hn512 : n ≤ 512 := by omega
    clear hn hbig
    go_enter Try.func149, Try.ntmps149
    go_wp2_with fail
    go_loop [4, 13] (fun v i => ∃ j : Nat, j ≤ n ∧ v = .int .i64 (65536 - kraft (l.take j)) ∧ i = .int .i64 (j : Int) ∧ Hid (∀ x ∈ l.take j, 0 ≤ x ∧ x ≤ 16)) (fun _ i => n - (intOf i).toNat)
    case atStart => exact ⟨0, by omega, rfl, rfl, hid (by simp)⟩
    case round =>
      obtain ⟨j, hj, rfl, rfl, HA⟩ := hrel
      have hkb := kraft_bd (l.take j)
      have hkl : (l.take j).length ≤ j := List.length_take_le _ _
      by_cases hlt : j < n
      · have hjl : j < l.length := by rw [← Hn.out]; exact hlt
        obtain ⟨b, off, hA, hb, hc⟩ := int_at H.out hjl
        subst hA
        have htk : l.take (j + 1) = l.take j ++ [l[j]] := List.take_succ_eq_append_getElem hjl
        have hmem : l[j] ∈ l := List.getElem_mem hjl
        obtain ⟨x, hx⟩ : ∃ x, x = l[j] := ⟨_, rfl⟩
        rw [← hx] at hc htk hmem
        have Htk := hid htk
        have Hmem := hid hmem
        clear htk hmem hx
        by_cases h0 : x < 0
        · have HF := hid (show lensB l = false from lens_no (p := 0 ≤ x) (by omega) (fun h => ((lensB_iff.1 h).2.1 x Hmem.out).1))
          go_wp2
          go_ret2
          exact ⟨rfl, .inr ⟨HF.out, rfl⟩⟩
        · by_cases h16 : 16 < x
          · have HF := hid (show lensB l = false from lens_no (p := x ≤ 16) (by omega) (fun h => ((lensB_iff.1 h).2.1 x Hmem.out).2))
            go_wp2
            go_ret2
            exact ⟨rfl, .inr ⟨HF.out, rfl⟩⟩
          · have HA2 := hid (show ∀ y ∈ l.take (j + 1), 0 ≤ y ∧ y ≤ 16 from by
              rw [Htk.out]
              intro y hy
              rw [List.mem_append] at hy
              rcases hy with hy | hy
              · exact HA.out y hy
              · rw [List.mem_singleton.1 hy]; omega)
            obtain ⟨K, hK⟩ : ∃ K, K = kraft (l.take j) := ⟨_, rfl⟩
            have HK := hid hK
            rw [← hK] at hkb ⊢
            clear hK
            by_cases hp : 0 < x
            · obtain ⟨m, rfl⟩ : ∃ m : Nat, x = (m : Int) := ⟨x.toNat, by omega⟩
              have hsh := half_pow m (by omega)
              have hpw := pow_mono (show 16 - m ≤ 16 by omega)
              have hp16 : (2 : Int) ^ 16 = 65536 := by decide
              have hp0 : (0 : Int) < 2 ^ (16 - m) := Int.pow_pos (by omega)
              have hpm : 0 < m := by omega
              have hm16 : m ≤ 16 := by omega
              have HKs := hid (show kraft (l.take (j + 1)) = K + 2 ^ (16 - m) by rw [Htk.out, kraft_snoc, if_pos hp, ← HK.out]; rfl)
              rw [hp16] at hpw
              have Hsh := hid hsh
              obtain ⟨pm, hpm2⟩ : ∃ pm : Int, pm = 2 ^ (16 - m) := ⟨_, rfl⟩
              rw [← hpm2] at hpw hp0 HKs hsh
              have tw : wrap64 (65536 - K - pm) = 65536 - K - pm := by unfold wrap64; omega
              have tw2 : IntKind.i64.wrap (65536 - K - pm) = 65536 - K - pm := IntWalk.i64_in _ (by omega)
              clear hpm2 hp16 h0 h16 Hsh
              have dp : decide ((0 : Int) < (m : Int)) = true := decide_eq_true (by omega)
              have dp2 : decide (0 < m) = true := decide_eq_true (by omega)
              go_wp2
              all_goals
                go_round
                case rel => exact ⟨j + 1, by omega, by rw [HKs.out]; congr 1; omega, by go_num, HA2⟩
                case measure => simp [intOf]; omega
            · have HKs := hid (show kraft (l.take (j + 1)) = K by rw [Htk.out, kraft_snoc, if_neg hp, ← HK.out]; omega)
              have dp : decide (0 < x) = false := decide_eq_false hp
              go_wp2
              all_goals
                go_round
                case rel => exact ⟨j + 1, by omega, by rw [HKs.out], by go_num, HA2⟩
                case measure => simp [intOf]; omega
      · have hje : l.take j = l := List.take_of_length_le (by rw [← Hn.out]; omega)
        rw [hje] at hkb HA ⊢
        have hn3 : l.length ≤ 512 := by rw [← Hn.out]; exact hn512
        by_cases hneg : 65536 - kraft l < 0
        · have HF := hid (show lensB l = false from lens_no (p := kraft l ≤ 65536) (by omega) (fun h => (lensB_iff.1 h).2.2))
          have dp : decide (65536 - kraft l < 0) = true := decide_eq_true hneg
          clear hje hneg hn3
          generalize kraft l = K at *
          go_wp2
          go_ret2
          exact ⟨rfl, .inr ⟨HF.out, rfl⟩⟩
        · have HT := hid (show lensB l = true from lensB_iff.2 ⟨hn3, HA.out, by omega⟩)
          have dp : decide (65536 - kraft l < 0) = false := decide_eq_false hneg
          obtain ⟨K, hK⟩ : ∃ K, K = kraft l := ⟨_, rfl⟩
          have HK := hid hK
          rw [← hK] at dp hneg ⊢
          clear hje hn3 hkb hK
          go_wp2
          go_ret2
          exact ⟨rfl, .inl ⟨HT.out, by rw [← HK.out]; rfl⟩⟩
end Go.Proofs.Ytegmbjkpjglgpaa
