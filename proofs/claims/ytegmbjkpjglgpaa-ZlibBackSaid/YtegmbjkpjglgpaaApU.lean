/-
  burnishnum.Apart: rows of the call's own, each in a block of its own, are apart.
-/
import Derived.Test.YtegmbjkpjglgpaaApUA
import Derived.Laws.BitsLemmas
import Derived.Deep.QuietTactic
import Derived.BigQuiet
import Derived.Deep.DeepCutAuto
namespace Go.Proofs.Ytegmbjkpjglgpaa
open Go.RowKit

theorem sl_info : (Try.prog.info? 42).map (fun i => (i.zero, i.size, i.bytes)) = some (some (.slice none 0 0), 1, 24) := by kernel_rfl
theorem wrap_mk (k j : Nat) : IntKind.u8.wrap (29 * (k : Int) + 5 * (j : Int) + 3) = mk k j := by
  rw [IntKind.wrap_u8]
  unfold mk
  omega

def lenN : Value → Nat
  | .slice _ n _ => n
  | _ => 0

set_option maxRecDepth 100000 in
set_option maxHeartbeats 8000000 in
theorem apart_any (gl mc base : Nat) (R : List SlU) (X : Nat → List Value) (W : World) (hl : Lists W gl R) (hR : BRows W base R X) (hd : Dist R) (hb : base ≤ W.heap.size) (hm : R.length ≤ 100) (hn : ∀ s ∈ R, s.2.1 ≤ 10000000) :
    Calls Try.prog 25 #[.slice (some ⟨gl, 0, none⟩) R.length mc] W fun e w' => e = .returned (.bool true) ∧ Below base W w' := by
  have Hl := hid hl
  have HR := hid hR
  have Hd := hid hd
  have Hn := hid hn
  obtain ⟨i0, hi0, hz0, hz1, hz2⟩ := info_parts u8_info
  have Hi0 := hid hi0
  have Hz0 := hid hz0
  have Hz1 := hid hz1
  have Hz2 := hid hz2
  clear hi0 hz0 hz1 hz2
  obtain ⟨i1, hi0, hz0, hz1, hz2⟩ := info_parts sl_info
  have Ii0 := hid hi0
  have Iz0 := hid hz0
  have Iz1 := hid hz1
  have Iz2 := hid hz2
  clear hi0 hz0 hz1 hz2
  clear hl hR hd hn
  go_enter Try.func25, Try.ntmps25
  go_wp2
  go_loopw [15] (fun i wr => ∃ k : Nat, k ≤ R.length ∧ i = .int .i64 k ∧ Lists wr gl R ∧ Below base W wr ∧ BRows wr base R (ahead X k)) (fun i _ => R.length - (intOf i).toNat)
  case atStart => exact ⟨0, by omega, rfl, Hl.out, Below.refl _ _, HR.out.to (fun k s _ => by simp [ahead])⟩
  case round =>
    obtain ⟨k, hk, rfl, hl, hbw, hr⟩ := hrel
    have Hlr := hid hl
    have Hbw := hid hbw
    have Hr := hid hr
    have hsz := hbw.size
    clear hl hbw hr
    by_cases hlt : k < R.length
    · have q0 := Hlr.out.cell k
      obtain ⟨s, hs⟩ : ∃ s, R[k]? = some s := ⟨R[k], List.getElem?_eq_getElem hlt⟩
      have Hs := hid hs
      have hn := Hn.out s (List.mem_of_getElem? hs)
      rw [List.getElem?_toArray, List.getElem?_map, hs] at q0
      clear hs
      obtain ⟨A, n, c⟩ := s
      simp only [slvU, Option.map_some] at q0 hn
      go_wp2
      go_loopw [22] (fun i wi => ∃ j : Nat, j ≤ n ∧ i = .int .i64 j ∧ Lists wi gl R ∧ Below base W wi ∧ BRows wi base R (mid X k j)) (fun i _ => n - (intOf i).toNat)
      case atStart => exact ⟨0, by omega, rfl, Hlr.out, Hbw.out, rows_start Hr.out⟩
      case round =>
        obtain ⟨j, hj, rfl, hl, hbw, hr⟩ := hrel
        have Hl2 := hid hl
        have Hb2 := hid hbw
        have Hr2 := hid hr
        have hsz2 := hbw.size
        clear hl hbw hr
        by_cases hlt2 : j < n
        · obtain ⟨g, u, rfl, hg1, hg2, _, p0⟩ := own_cell (Hr2.out k _ Hs.out) hlt2
          have p1 := World.ownsRow.frozenAt (Hr2.out k _ Hs.out) j
          have Hst := hid (rows_step Hr2.out Hd.out Hs.out hlt2)
          have Hlg : Hid (gl ≠ g) := fun e => own_blk_ne (Hr2.out k _ Hs.out) Hl2.out (by decide) (by rw [e]; rfl)
          have hw := wrap_mk k j
          go_wp2
          go_roundw
          case rel => exact ⟨j + 1, by omega, by go_num, Hl2.out.far Hlg.out _, Hb2.out.setCell hg1 _, Hst.out⟩
          case measure => simp [intOf]; omega
        · have e : j = n := by omega
          subst e
          have Hlen := hid (((HR.out k _ Hs.out).1).trans (Nat.mul_one _))
          have Hend := hid (rows_end Hr2.out Hs.out Hlen.out)
          go_wp2
          go_roundw
          case rel => exact ⟨k + 1, by omega, by go_num, Hl2.out, Hb2.out, Hend.out⟩
          case measure => simp [intOf]; omega
    · have e : k = R.length := by omega
      subst e
      have Hrow : Hid (∀ (i : Nat) (s : SlU), R[i]? = some s → wr.ownsRow base 5 1 (slvU s) s.2.1 (marks i s.2.1)) := fun i s hs => by
        have h1 := Hr.out i s hs
        have h2 := (HR.out i s hs).1
        have h3 := (List.getElem?_eq_some_iff.1 hs).1
        rw [Nat.mul_one] at h2
        simp only [ahead, if_pos h3, h2] at h1
        exact h1
      have Hlow : Hid (∀ (i : Nat) (s : SlU) (g : Nat), R[i]? = some s → (slvU s).ownBlock = some g → g < wr.heap.size) := fun i s g hs hg => ((Hrow.out i s hs).lt g hg).2
      have Hgl : Hid (gl < wr.heap.size) := Hlr.out.lt
      have Hbase : Hid (base ≤ wr.heap.size) := by show base ≤ wr.heap.size; omega
      clear Hr HR hlt hk
      have Hg0 := hid (grow_start Hlr.out Hrow.out Hbase.out)
      generalize hW0 : wr = W0 at *
      clear hW0
      go_wp2
      go_loopw [6, 40] (fun gv i wr => ∃ (k : Nat) (R' : List SlU) (G : Option Addr) (gc : Nat), k ≤ R.length ∧ i = .int .i64 k ∧ gv = .slice G k gc ∧ Grow W0 wr base gl R R' k G gc) (fun _ i _ => R.length - (intOf i).toNat)
      case atStart => exact ⟨0, [], _, _, by omega, rfl, rfl, Hg0.out⟩
      case round =>
        obtain ⟨k, R', G, gc, hk, rfl, rfl, hg⟩ := hrel
        have Hg := hid hg
        have hwk := hg.2.2.2.2.2.size
        clear hg
        by_cases hlt : k < R.length
        · have q0 := Hg.out.1.1.cell k
          obtain ⟨s, hs⟩ : ∃ s, R[k]? = some s := ⟨R[k], List.getElem?_eq_getElem hlt⟩
          have Hs := hid hs
          have hn := Hn.out s (List.mem_of_getElem? hs)
          rw [List.getElem?_toArray, List.getElem?_map, hs] at q0
          have Hw1 := hid (grow1_start (Hg.out.2.2.2.1 k s hs (Nat.le_refl _)))
          have Hbk : Hid (base ≤ wr.heap.size) := Nat.le_trans Hbase.out hwk
          clear hs
          obtain ⟨A, n, c⟩ := s
          simp only [slvU, Option.map_some] at q0 hn
          generalize hwk : wr = wk at *
          clear hwk
          go_wp2
          go_loopw [8] (fun lv wi => ∃ (t : Nat) (A' : Option Addr) (c' : Nat), t ≤ 10 ∧ lv = .slice A' (n + t) c' ∧ Grow1 wk wi base k (A, n, c) A' c' t) (fun lv _ => (n + 10) - lenN lv)
          case atStart => exact ⟨0, A, c, by omega, rfl, Hw1.out⟩
          case round =>
            obtain ⟨t, A', c', ht, rfl, hg1⟩ := hrel
            have Hg1 := hid hg1
            have hwi := hg1.2.2.2.2.size
            clear hg1
            by_cases hlt2 : t < 10
            · have hw := wrap_mk k (n + t)
              simp only [Int.natCast_add] at hw
              go_wp2_with (at_builtin; refine wpList_app1 _ rfl (.tmp 52) (.tmp 61) _ rfl base 5 i0 (.int .u8 0) 1 Try.underlying42 Hi0.out Hz0.out Hz1.out Hz2.out rfl A' (n + t) c' (marks k (n + t)) rfl (Hg1.out.2.1.alloc _) _ 1 (.int .u8 (mk k (n + t))) rfl ((Blk.new _ _ _).cell 0) rfl (by simp only [maxLen]; omega) (by omega) (by have := Hbk.out; simp; omega) ?_; intro A2 c2 w2 ha; have Ha := hid ha; clear ha)
              go_roundw
              case rel => exact ⟨t + 1, A2, c2, by omega, rfl, grow1_step Hg1.out Hbk.out _ Ha.out⟩
              case measure => simp only [lenN]; omega
            · have e : t = 10 := by omega
              subst e
              have hw0 := Hg.out.2.2.2.2.2.size
              have HG := hid (grow_own Hg.out (Hlow.out k _ · Hs.out) Hg1.out)
              go_wp2_with (at_builtin; refine wpList_app1 _ rfl (.tmp 63) (.tmp 65) _ rfl W0.heap.size 42 i1 (.slice none 0 0) 24 Try.underlying51 Ii0.out Iz0.out Iz1.out Iz2.out rfl G k gc (R'.map slvU) rfl (HG.out.alloc _) _ 1 (.slice A' (n + 10) c') rfl ((Blk.new _ _ _).cell 0) rfl (by simp only [maxLen]; omega) (by omega) (by simp; omega) ?_; intro G2 gc2 w2 ha; have Ha := hid ha; clear ha)
              go_roundw
              case rel => exact ⟨k + 1, R' ++ [(A', n + 10, c')], G2, gc2, by omega, by go_num, rfl, grow_step Hd.out Hlow.out Hgl.out Hbase.out Hg.out Hs.out Hg1.out _ Ha.out.1⟩
              case measure => simp [intOf]; omega
        · have e : k = R.length := by omega
          subst e
          generalize hwf : wr = wf at *
          clear hwf
          go_wp2
          go_loopw [70] (fun i wr => ∃ k n : Nat, k ≤ R.length ∧ i = .int .i64 k ∧ wr = wf.drewN n) (fun i _ => R.length - (intOf i).toNat)
          case atStart => exact ⟨0, 0, by omega, rfl, rfl⟩
          case round =>
            obtain ⟨k, nd, hk, rfl, rfl⟩ := hrel
            by_cases hlt : k < R.length
            · obtain ⟨gb, u, rfl, _, _, hu, q0⟩ := own_cell Hg.out.1.2.2 hlt
              obtain ⟨s', hs'⟩ : ∃ s', R'[k]? = some s' := ⟨R'[k]'(by have := Hg.out.1.2.1; omega), List.getElem?_eq_getElem _⟩
              rw [List.getElem?_map, hs'] at hu
              obtain rfl : slvU s' = u := by simpa using hu
              clear hu
              obtain ⟨s, hs, hn10, hown, _⟩ := Hg.out.2.1 k s' hs'
              have p0 := Hg.out.1.1.cell k
              rw [List.getElem?_toArray, List.getElem?_map, hs] at p0
              have Hown := hid hown
              have Hs := hid hs
              have Horig := hid (fun g => Hg.out.2.2.2.2.1 k s g hs)
              have hn := Hn.out s (List.mem_of_getElem? hs)
              clear hs hs' hown
              obtain ⟨A, n, c⟩ := s
              obtain ⟨A', n', c'⟩ := s'
              simp only at hn10
              subst hn10
              simp only [slvU, Option.map_some] at p0 hn q0
              go_wp2
              go_loopw [77] (fun i wr => ∃ j n2 : Nat, j ≤ n + 10 ∧ i = .int .i64 j ∧ wr = wf.drewN n2) (fun i _ => (n + 10) - (intOf i).toNat)
              case atStart => exact ⟨0, nd, by omega, rfl, rfl⟩
              case round =>
                obtain ⟨j, nd2, hj, rfl, rfl⟩ := hrel
                by_cases hlt2 : j < n + 10
                · obtain ⟨g', u, rfl, _, _, hu, r0⟩ := own_cell Hown.out hlt2
                  rw [marks_at k (n + 10) j hlt2] at hu
                  injection hu with hu
                  subst hu
                  have hw := wrap_mk k j
                  have e1 : IntKind.i64.wrap (29 * (k : Int)) = 29 * (k : Int) := by rw [IntKind.wrap_i64]; omega
                  have e2 : IntKind.i64.wrap (5 * (j : Int)) = 5 * (j : Int) := by rw [IntKind.wrap_i64]; omega
                  have e3 : IntKind.i64.wrap (29 * (k : Int) + 5 * (j : Int)) = 29 * (k : Int) + 5 * (j : Int) := by rw [IntKind.wrap_i64]; omega
                  have e4 : IntKind.i64.wrap (29 * (k : Int) + 5 * (j : Int) + 3) = 29 * (k : Int) + 5 * (j : Int) + 3 := by rw [IntKind.wrap_i64]; omega
                  by_cases hjn : j < n
                  · obtain ⟨g, _, rfl, _, _, _, _⟩ := own_cell (Hrow.out k _ Hs.out) hjn
                    have r1 := Horig.out g rfl j hjn
                    have d1 : decide (j < n) = true := decide_eq_true hjn
                    have d2 : decide ((j : Int) < (n : Int)) = true := decide_eq_true (by omega)
                    go_upto_region 25 with (fail)
                    go_quiet (fail)
                    clear e1 e2 e3 e4 hw
                    go_wp2
                    go_roundw
                    case rel => exact ⟨j + 1, nd2 + nq, by omega, by go_num, by simp⟩
                    case measure => simp [intOf]; omega
                  · have d1 : decide (j < n) = false := decide_eq_false hjn
                    have d2 : decide ((j : Int) < (n : Int)) = false := decide_eq_false (by omega)
                    go_upto_region 25 with (fail)
                    go_quiet (fail)
                    clear e1 e2 e3 e4 hw
                    go_wp2
                    go_roundw
                    case rel => exact ⟨j + 1, nd2 + nq, by omega, by go_num, by simp⟩
                    case measure => simp [intOf]; omega
                · go_wp2
                  go_roundw
                  case rel => exact ⟨k + 1, nd2, by omega, by go_num, rfl⟩
                  case measure => simp [intOf]; omega
            · go_wp2
              go_ret
              exact ⟨rfl, below_drewN (Hbw.out.trans Hg.out.2.2.2.2.2) nd⟩

end Go.Proofs.Ytegmbjkpjglgpaa
