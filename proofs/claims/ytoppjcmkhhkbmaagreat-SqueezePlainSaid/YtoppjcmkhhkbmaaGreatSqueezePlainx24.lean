/-
  burnishnum.Apart: rows of the call's own, each in a block of its own, are apart.
  burnishlaw11.SqueezePlain, walked: it answers true at any bytes: what Plain and Fixed write is what the document says, the text is kept, and the bytes lie apart from it.
  Parameters of a law, opened: rows of ints and of bytes.
  Parameters of a law, opened: rows of bytes.
  Parameters of a law, opened: rows of bytes, the empty ones without room.
-/
import Derived.Test.YtoppjcmkhhkbmaaGreatSqueezePlainx1
import Derived.Test.YtoppjcmkhhkbmaaGreatSqueezePlainx4
import Derived.Test.YtoppjcmkhhkbmaaGreatSqueezePlainx19
import Derived.Test.YtoppjcmkhhkbmaaGreatSqueezePlainx20
import Derived.Test.YtoppjcmkhhkbmaaGreatSqueezePlainx23
import Derived.Laws.BitsLemmas
import Derived.Deep.QuietTactic
import Derived.BigQuiet
import Derived.Deep.DeepCutAuto
import Derived.Lib.SlBytesConst
namespace Go.Proofs.YtoppjcmkhhkbmaaGreat
open Go.RowKit

theorem sl_info : (Tryz.prog.info? 22).map (fun i => (i.zero, i.size, i.bytes)) = some (some (.slice none 0 0), 1, 24) := by kernel_rfl
theorem wrap_mk (k j : Nat) : IntKind.u8.wrap (29 * (k : Int) + 5 * (j : Int) + 3) = mk k j := by
  rw [IntKind.wrap_u8]
  unfold mk
  omega

def lenN : Value → Nat
  | .slice _ n _ => n
  | _ => 0

set_option maxRecDepth 100000 in
set_option maxHeartbeats 8000000 in
theorem apart_any (gl mc base : Nat) (R : List SlU) (X : Nat → List Value) (W : World) (hl : Lists W gl R) (hR : BRows W base R X) (hd : Dist R) (hb : base ≤ W.heap.size) (hm : R.length ≤ 100) (hn : ∀ s ∈ R, s.2.1 ≤ 10000000) :
    Calls Tryz.prog 16 #[.slice (some ⟨gl, 0, none⟩) R.length mc] W fun e w' => e = .returned (.bool true) ∧ Below base W w' := by
  have Hl := hid hl
  have HR := hid hR
  have Hd := hid hd
  have Hn := hid hn
  obtain ⟨i0, hi0, hz0, hz1, hz2⟩ := info_parts u8_info
  have Hi0 := hid hi0
  have Hz0 := hid hz0
  have Hz1 := hid hz1
  have Hz2 := hid hz2
  clear hi0 hz0 hz1 hz2
  obtain ⟨i1, hi0, hz0, hz1, hz2⟩ := info_parts sl_info
  have Ii0 := hid hi0
  have Iz0 := hid hz0
  have Iz1 := hid hz1
  have Iz2 := hid hz2
  clear hi0 hz0 hz1 hz2
  clear hl hR hd hn
  go_enter Tryz.func16, Tryz.ntmps16
  go_wp2
  go_loopw [15] (fun i wr => ∃ k : Nat, k ≤ R.length ∧ i = .int .i64 k ∧ Lists wr gl R ∧ Below base W wr ∧ BRows wr base R (ahead X k)) (fun i _ => R.length - (intOf i).toNat)
  case atStart => exact ⟨0, by omega, rfl, Hl.out, Below.refl _ _, HR.out.to (fun k s _ => by simp [ahead])⟩
  case round =>
    obtain ⟨k, hk, rfl, hl, hbw, hr⟩ := hrel
    have Hlr := hid hl
    have Hbw := hid hbw
    have Hr := hid hr
    have hsz := hbw.size
    clear hl hbw hr
    by_cases hlt : k < R.length
    · have q0 := Hlr.out.cell k
      obtain ⟨s, hs⟩ : ∃ s, R[k]? = some s := ⟨R[k], List.getElem?_eq_getElem hlt⟩
      have Hs := hid hs
      have hn := Hn.out s (List.mem_of_getElem? hs)
      rw [List.getElem?_toArray, List.getElem?_map, hs] at q0
      clear hs
      obtain ⟨A, n, c⟩ := s
      simp only [slvU, Option.map_some] at q0 hn
      go_wp2
      go_loopw [22] (fun i wi => ∃ j : Nat, j ≤ n ∧ i = .int .i64 j ∧ Lists wi gl R ∧ Below base W wi ∧ BRows wi base R (mid X k j)) (fun i _ => n - (intOf i).toNat)
      case atStart => exact ⟨0, by omega, rfl, Hlr.out, Hbw.out, rows_start Hr.out⟩
      case round =>
        obtain ⟨j, hj, rfl, hl, hbw, hr⟩ := hrel
        have Hl2 := hid hl
        have Hb2 := hid hbw
        have Hr2 := hid hr
        have hsz2 := hbw.size
        clear hl hbw hr
        by_cases hlt2 : j < n
        · obtain ⟨g, u, rfl, hg1, hg2, _, p0⟩ := own_cell (Hr2.out k _ Hs.out) hlt2
          have p1 := World.ownsRow.frozenAt (Hr2.out k _ Hs.out) j
          have Hst := hid (rows_step Hr2.out Hd.out Hs.out hlt2)
          have Hlg : Hid (gl ≠ g) := fun e => own_blk_ne (Hr2.out k _ Hs.out) Hl2.out (by decide) (by rw [e]; rfl)
          have hw := wrap_mk k j
          go_wp2
          go_roundw
          case rel => exact ⟨j + 1, by omega, by go_num, Hl2.out.far Hlg.out _, Hb2.out.setCell hg1 _, Hst.out⟩
          case measure => simp [intOf]; omega
        · have e : j = n := by omega
          subst e
          have Hlen := hid (((HR.out k _ Hs.out).1).trans (Nat.mul_one _))
          have Hend := hid (rows_end Hr2.out Hs.out Hlen.out)
          go_wp2
          go_roundw
          case rel => exact ⟨k + 1, by omega, by go_num, Hl2.out, Hb2.out, Hend.out⟩
          case measure => simp [intOf]; omega
    · have e : k = R.length := by omega
      subst e
      have Hrow : Hid (∀ (i : Nat) (s : SlU), R[i]? = some s → wr.ownsRow base 5 1 (slvU s) s.2.1 (marks i s.2.1)) := fun i s hs => by
        have h1 := Hr.out i s hs
        have h2 := (HR.out i s hs).1
        have h3 := (List.getElem?_eq_some_iff.1 hs).1
        rw [Nat.mul_one] at h2
        simp only [ahead, if_pos h3, h2] at h1
        exact h1
      have Hlow : Hid (∀ (i : Nat) (s : SlU) (g : Nat), R[i]? = some s → (slvU s).ownBlock = some g → g < wr.heap.size) := fun i s g hs hg => ((Hrow.out i s hs).lt g hg).2
      have Hgl : Hid (gl < wr.heap.size) := Hlr.out.lt
      have Hbase : Hid (base ≤ wr.heap.size) := by show base ≤ wr.heap.size; omega
      clear Hr HR hlt hk
      have Hg0 := hid (grow_start Hlr.out Hrow.out Hbase.out)
      generalize hW0 : wr = W0 at *
      clear hW0
      go_wp2
      go_loopw [6, 40] (fun gv i wr => ∃ (k : Nat) (R' : List SlU) (G : Option Addr) (gc : Nat), k ≤ R.length ∧ i = .int .i64 k ∧ gv = .slice G k gc ∧ Grow W0 wr base gl R R' k G gc) (fun _ i _ => R.length - (intOf i).toNat)
      case atStart => exact ⟨0, [], _, _, by omega, rfl, rfl, Hg0.out⟩
      case round =>
        obtain ⟨k, R', G, gc, hk, rfl, rfl, hg⟩ := hrel
        have Hg := hid hg
        have hwk := hg.2.2.2.2.2.size
        clear hg
        by_cases hlt : k < R.length
        · have q0 := Hg.out.1.1.cell k
          obtain ⟨s, hs⟩ : ∃ s, R[k]? = some s := ⟨R[k], List.getElem?_eq_getElem hlt⟩
          have Hs := hid hs
          have hn := Hn.out s (List.mem_of_getElem? hs)
          rw [List.getElem?_toArray, List.getElem?_map, hs] at q0
          have Hw1 := hid (grow1_start (Hg.out.2.2.2.1 k s hs (Nat.le_refl _)))
          have Hbk : Hid (base ≤ wr.heap.size) := Nat.le_trans Hbase.out hwk
          clear hs
          obtain ⟨A, n, c⟩ := s
          simp only [slvU, Option.map_some] at q0 hn
          generalize hwk : wr = wk at *
          clear hwk
          go_wp2
          go_loopw [8] (fun lv wi => ∃ (t : Nat) (A' : Option Addr) (c' : Nat), t ≤ 10 ∧ lv = .slice A' (n + t) c' ∧ Grow1 wk wi base k (A, n, c) A' c' t) (fun lv _ => (n + 10) - lenN lv)
          case atStart => exact ⟨0, A, c, by omega, rfl, Hw1.out⟩
          case round =>
            obtain ⟨t, A', c', ht, rfl, hg1⟩ := hrel
            have Hg1 := hid hg1
            have hwi := hg1.2.2.2.2.size
            clear hg1
            by_cases hlt2 : t < 10
            · have hw := wrap_mk k (n + t)
              simp only [Int.natCast_add] at hw
              go_wp2_with (at_builtin; refine wpList_app1 _ rfl (.tmp 52) (.tmp 61) _ rfl base 5 i0 (.int .u8 0) 1 Tryz.underlying22 Hi0.out Hz0.out Hz1.out Hz2.out rfl A' (n + t) c' (marks k (n + t)) rfl (Hg1.out.2.1.alloc _) _ 1 (.int .u8 (mk k (n + t))) rfl ((Blk.new _ _ _).cell 0) rfl (by simp only [maxLen]; omega) (by omega) (by have := Hbk.out; simp; omega) ?_; intro A2 c2 w2 ha; have Ha := hid ha; clear ha)
              go_roundw
              case rel => exact ⟨t + 1, A2, c2, by omega, rfl, grow1_step Hg1.out Hbk.out _ Ha.out⟩
              case measure => simp only [lenN]; omega
            · have e : t = 10 := by omega
              subst e
              have hw0 := Hg.out.2.2.2.2.2.size
              have HG := hid (grow_own Hg.out (Hlow.out k _ · Hs.out) Hg1.out)
              go_wp2_with (at_builtin; refine wpList_app1 _ rfl (.tmp 63) (.tmp 65) _ rfl W0.heap.size 22 i1 (.slice none 0 0) 24 Tryz.underlying30 Ii0.out Iz0.out Iz1.out Iz2.out rfl G k gc (R'.map slvU) rfl (HG.out.alloc _) _ 1 (.slice A' (n + 10) c') rfl ((Blk.new _ _ _).cell 0) rfl (by simp only [maxLen]; omega) (by omega) (by simp; omega) ?_; intro G2 gc2 w2 ha; have Ha := hid ha; clear ha)
              go_roundw
              case rel => exact ⟨k + 1, R' ++ [(A', n + 10, c')], G2, gc2, by omega, by go_num, rfl, grow_step Hd.out Hlow.out Hgl.out Hbase.out Hg.out Hs.out Hg1.out _ Ha.out.1⟩
              case measure => simp [intOf]; omega
        · have e : k = R.length := by omega
          subst e
          generalize hwf : wr = wf at *
          clear hwf
          go_wp2
          go_loopw [70] (fun i wr => ∃ k n : Nat, k ≤ R.length ∧ i = .int .i64 k ∧ wr = wf.drewN n) (fun i _ => R.length - (intOf i).toNat)
          case atStart => exact ⟨0, 0, by omega, rfl, rfl⟩
          case round =>
            obtain ⟨k, nd, hk, rfl, rfl⟩ := hrel
            by_cases hlt : k < R.length
            · obtain ⟨gb, u, rfl, _, _, hu, q0⟩ := own_cell Hg.out.1.2.2 hlt
              obtain ⟨s', hs'⟩ : ∃ s', R'[k]? = some s' := ⟨R'[k]'(by have := Hg.out.1.2.1; omega), List.getElem?_eq_getElem _⟩
              rw [List.getElem?_map, hs'] at hu
              obtain rfl : slvU s' = u := by simpa using hu
              clear hu
              obtain ⟨s, hs, hn10, hown, _⟩ := Hg.out.2.1 k s' hs'
              have p0 := Hg.out.1.1.cell k
              rw [List.getElem?_toArray, List.getElem?_map, hs] at p0
              have Hown := hid hown
              have Hs := hid hs
              have Horig := hid (fun g => Hg.out.2.2.2.2.1 k s g hs)
              have hn := Hn.out s (List.mem_of_getElem? hs)
              clear hs hs' hown
              obtain ⟨A, n, c⟩ := s
              obtain ⟨A', n', c'⟩ := s'
              simp only at hn10
              subst hn10
              simp only [slvU, Option.map_some] at p0 hn q0
              go_wp2
              go_loopw [77] (fun i wr => ∃ j n2 : Nat, j ≤ n + 10 ∧ i = .int .i64 j ∧ wr = wf.drewN n2) (fun i _ => (n + 10) - (intOf i).toNat)
              case atStart => exact ⟨0, nd, by omega, rfl, rfl⟩
              case round =>
                obtain ⟨j, nd2, hj, rfl, rfl⟩ := hrel
                by_cases hlt2 : j < n + 10
                · obtain ⟨g', u, rfl, _, _, hu, r0⟩ := own_cell Hown.out hlt2
                  rw [marks_at k (n + 10) j hlt2] at hu
                  injection hu with hu
                  subst hu
                  have hw := wrap_mk k j
                  have e1 : IntKind.i64.wrap (29 * (k : Int)) = 29 * (k : Int) := by rw [IntKind.wrap_i64]; omega
                  have e2 : IntKind.i64.wrap (5 * (j : Int)) = 5 * (j : Int) := by rw [IntKind.wrap_i64]; omega
                  have e3 : IntKind.i64.wrap (29 * (k : Int) + 5 * (j : Int)) = 29 * (k : Int) + 5 * (j : Int) := by rw [IntKind.wrap_i64]; omega
                  have e4 : IntKind.i64.wrap (29 * (k : Int) + 5 * (j : Int) + 3) = 29 * (k : Int) + 5 * (j : Int) + 3 := by rw [IntKind.wrap_i64]; omega
                  by_cases hjn : j < n
                  · obtain ⟨g, _, rfl, _, _, _, _⟩ := own_cell (Hrow.out k _ Hs.out) hjn
                    have r1 := Horig.out g rfl j hjn
                    have d1 : decide (j < n) = true := decide_eq_true hjn
                    have d2 : decide ((j : Int) < (n : Int)) = true := decide_eq_true (by omega)
                    go_upto_region 25 with (fail)
                    go_quiet (fail)
                    clear e1 e2 e3 e4 hw
                    go_wp2
                    go_roundw
                    case rel => exact ⟨j + 1, nd2 + nq, by omega, by go_num, by simp⟩
                    case measure => simp [intOf]; omega
                  · have d1 : decide (j < n) = false := decide_eq_false hjn
                    have d2 : decide ((j : Int) < (n : Int)) = false := decide_eq_false (by omega)
                    go_upto_region 25 with (fail)
                    go_quiet (fail)
                    clear e1 e2 e3 e4 hw
                    go_wp2
                    go_roundw
                    case rel => exact ⟨j + 1, nd2 + nq, by omega, by go_num, by simp⟩
                    case measure => simp [intOf]; omega
                · go_wp2
                  go_roundw
                  case rel => exact ⟨k + 1, nd2, by omega, by go_num, rfl⟩
                  case measure => simp [intOf]; omega
            · go_wp2
              go_ret
              exact ⟨rfl, below_drewN (Hbw.out.trans Hg.out.2.2.2.2.2) nd⟩

end Go.Proofs.YtoppjcmkhhkbmaaGreat

namespace Go.Proofs.YtoppjcmkhhkbmaaGreat
open Go.RowKit

theorem dist2z {a b : SlU} {p : Nat} (ha : ∀ g, (slvU a).ownBlock = some g → p < g) (hb : (slvU b).ownBlock = some p) : Dist [a, b] := by
  intro i j s u hs hu hij g hg
  match i, j with
  | 0, 0 => exact absurd rfl hij
  | 0, 1 => simp at hs hu; subst hs hu; have := ha g hg; rw [hb]; intro e; injection e; omega
  | 1, 0 => simp at hs hu; subst hs hu; rw [hb] at hg; injection hg with hg; intro e; have := ha g e; omega
  | 1, 1 => exact absurd rfl hij
  | i + 2, _ => simp at hs
  | _, j + 2 => simp at hu
theorem own_copyz {w : World} {base g : Nat} {l : List Int} (h : Blk w g 5 (bytesV l ++ [Value.int .u8 165, Value.int .u8 90]).toArray) (hb : base ≤ g) (hm : l.length ≤ 10000000) :
    w.ownsRow base 5 1 (.slice (some ⟨g, 0, none⟩) l.length (l.length + 2)) l.length (bytesV l) :=
  ⟨by simp [bytesV], .inr ⟨g, l.length + 2, _, rfl, hb, h, by omega, by unfold maxLen; omega, by simp [bytesV], by simp [bytesV]⟩⟩
def apXz (xs : List Value) (p : List Int) : Nat → List Value := fun i => if i = 0 then xs else bytesV p
theorem apart2z {w : World} {base n c gp : Nat} {A : Option Addr} {xs : List Value} {p : List Int} (ha : w.ownsRow base 5 1 (.slice A n c) n xs) (hn : n ≤ 10000000) (hab : ∀ g, (Value.slice A n c).ownBlock = some g → gp < g)
    (hp : Blk w gp 5 (bytesV p ++ [Value.int .u8 165, Value.int .u8 90]).toArray) (hb : base ≤ gp) (hpl : p.length ≤ 1000000) :
    Calls Tryz.prog 16 #[.slice (some ⟨w.heap.size, 0, none⟩) 2 2] (w.alloc (.cells #[.slice A n c, .slice (some ⟨gp, 0, none⟩) p.length (p.length + 2)] 22)) fun e w' => e = .returned (.bool true) ∧ Below base w w' := by
  have hbw : base ≤ w.heap.size := by have := hp.lt; omega
  refine (apart_any w.heap.size 2 base [(A, n, c), (some ⟨gp, 0, none⟩, p.length, p.length + 2)] (apXz xs p) _ (Blk.new w _ _) ?_ (dist2z hab rfl) (by simp; omega) (by simp) ?_).mono fun e w' ⟨he, hw⟩ => ⟨he, ((Below.refl _ _).alloc hbw _).trans hw⟩
  · intro k s hs
    match k with
    | 0 => simp at hs; subst hs; exact ha.alloc _
    | 1 => simp at hs; subst hs; exact (own_copyz hp hb (by omega)).alloc _
    | k + 2 => simp at hs
  · intro s hs
    simp at hs
    rcases hs with rfl | rfl <;> simp only <;> omega

/-- what Plain makes of the one byte 97 -/
theorem plain_one (W : World) : Calls Tryz.prog 9 #[.slice (some ⟨W.heap.size, 0, none⟩) 1 1] (W.alloc (.cells #[.int .u8 97] 5 (1, 2))) fun e w' => ∃ A c, e = .returned (.tuple #[.slice A 6 c, .nilIface]) ∧ (Go.convert 22 9 (.slice A 6 c)).run Tryz.prog w' = .ok (.string (strOfNums [1, 1, 0, 254, 255, 97])) w' ∧ Below W.heap.size W w' := by
  have hr : Rd (W.alloc (.cells #[.int .u8 97] 5 (1, 2))) (W.alloc (.cells #[.int .u8 97] 5 (1, 2))).heap.size 1 (some ⟨W.heap.size, 0, none⟩) ([97] : List Int).length (bytesV [97]) :=
    ⟨rfl, fun _ => ⟨W.heap.size, 0, rfl, by rw [World.size_alloc]; omega, fun j u hu => by
      rw [World.cell?_alloc_mark, Nat.zero_add, List.getElem?_toArray]
      exact hu⟩⟩
  refine (plain_any (some ⟨W.heap.size, 0, none⟩) 1 [97] _ hr (by decide) (by decide) (by unfold isB; simp)).mono ?_
  rintro e w' ⟨A, c, he, ho, hb⟩
  have hp := plain_bytes (text := [97]) (by unfold isB; simp)
  have hq : rpA [97] 0 = [1, 1, 0, 254, 255, 97] := by decide
  rw [hq] at hp
  rw [hp] at he ho
  exact ⟨A, c, he, conv_bytes (l := [1, 1, 0, 254, 255, 97]) (own_rd ho), ((Below.refl W.heap.size W).alloc (Nat.le_refl _) _).trans (hb.mono (by rw [World.size_alloc]; omega))⟩
theorem str_one : ((strOfNums [1, 1, 0, 254, 255, 97]).toList == [1, 1, 0, 254, 255, 97]) = true := by
  have e : strOfNums [1, 1, 0, 254, 255, 97] = ByteArray.mk #[1, 1, 0, 254, 255, 97] := rfl
  rw [e]
  simp

set_option maxRecDepth 100000 in
theorem plain_far (A : Option Addr) (c : Nat) (b : List Int) (W : World) (h : 200000 < b.length) :
    Calls Tryz.prog 3 #[.slice A b.length c] W fun e w' => e = .returned (.bool true) ∧ Below W.heap.size W w' := by
  obtain ⟨n, hn⟩ : ∃ n, n = b.length := ⟨_, rfl⟩
  rw [← hn] at h ⊢
  clear hn
  have d1 : decide (200000 < n) = true := decide_eq_true h
  have d2 : decide ((200000 : Int) < (n : Int)) = true := decide_eq_true (by omega)
  have hs := str_one
  generalize hsx : strOfNums [1, 1, 0, 254, 255, 97] = sx at hs
  have P1 := hid (plain_one W)
  rw [hsx] at P1
  have kc := Lib.run_convert_bytes_const (P := Tryz.prog) W 22 5 #[.int .u8 97] 1 1 Tryz.underlying22 Tryz.underlying5
  rw [show (#[Value.int .u8 97] : Array Value).size = 1 from rfl] at kc
  clear h hsx
  go_enter Tryz.func3, Tryz.ntmps3
  go_wp2_with fail
  refine P1.out.mono ?_
  rintro e w1 ⟨A1, c1, rfl, k1, hb1⟩
  have B1 := hid hb1
  clear hb1
  go_wp2_with fail
  go_ret
  exact ⟨rfl, B1.out⟩

/-- bytes of a text with marks: an owner's row of the same bytes lies behind -/
theorem own_farz {w : World} {base n c g : Nat} {T : Option Addr} {xs : List Value} (h : w.ownsRow base 5 1 (.slice T n c) n xs) (hg : g < base) : ∀ p, (Value.slice T n c).ownBlock = some p → g < p := by
  intro p hp
  rcases h.2 with ⟨e1, _⟩ | ⟨g', cap, cur, e1, hb', _⟩
  · rw [e1] at hp; cases hp
  · rw [e1] at hp
    have : g' = p := by simpa [Value.ownBlock] using hp
    omega
theorem fixed_lenz {text : List Int} (hm : text.length ≤ 300) (hB : ∀ x ∈ text, isB x) : (pkS false (fillS false (wrB 0 true 1 (grM text) text))).length ≤ 10000000 := by
  have h1 := (wrB_bits (fit_good (grM_fit hB)) 0 true (kind := 1) text (by omega) (by omega)).1
  have h2 := bits_smallQ (grM_good hB)
  have h3 := fill_len8 (wrB 0 true 1 (grM text) text)
  have h4 := pkS_len false (fillS false (wrB 0 true 1 (grM text) text))
  have h5 := fit_le (grM_fit hB)
  omega
set_option maxRecDepth 100000 in
set_option maxHeartbeats 4000000 in
theorem plain_near (A : Option Addr) (c : Nat) (b : List Int) (W : World) (hr : Rd W W.heap.size 1 A b.length (bytesV b)) (hc : b.length ≤ c) (hA : A = none → c = 0) (hok : ∀ x ∈ b, isB x) (h1 : b.length ≤ 200000) :
    Calls Tryz.prog 3 #[.slice A b.length c] W fun e w' => e = .returned (.bool true) ∧ Below W.heap.size W w' := by
  have hpb := plain_bytes hok
  obtain ⟨pb, hpbe⟩ : ∃ pb, pb = rpA b 0 := ⟨_, rfl⟩
  obtain ⟨np, hnp⟩ : ∃ np, np = pb.length := ⟨_, rfl⟩
  have CP := hid (fun (w : World) (h : Below W.heap.size W w) => copy_any A c b w ((hr.below h (Nat.le_refl _)).more h.size) (by omega))
  have RP := hid (fun (w : World) (h : Below W.heap.size W w) => rplain_any A c b w ((hr.below h (Nat.le_refl _)).more h.size) hc hA (by omega))
  have PL := hid (fun (g : Nat) (w : World) (h : Blk w g 5 (bytesV b ++ [Value.int .u8 165, Value.int .u8 90]).toArray) => plain_any (some ⟨g, 0, none⟩) (b.length + 2) b w (copyB_rd h) (by omega) (by omega) hok)
  have KE := hid (fun (g : Nat) (w : World) (h : Blk w g 5 (bytesV b ++ [Value.int .u8 165, Value.int .u8 90]).toArray) (hw : Below W.heap.size W w) => kept_any A c g b w w.heap.size h ((hr.below hw (Nat.le_refl _)).more hw.size) (by omega))
  have AP := hid (fun (g : Nat) (w : World) (hg : W.heap.size ≤ g) (h : Blk w g 5 (bytesV b ++ [Value.int .u8 165, Value.int .u8 90]).toArray) (A1 : Option Addr) (n1 c1 : Nat) (xs : List Value) (ha : w.ownsRow W.heap.size 5 1 (.slice A1 n1 c1) n1 xs) (hn : n1 ≤ 10000000) (hab : ∀ p, (Value.slice A1 n1 c1).ownBlock = some p → g < p) => apart2z ha hn hab h hg (by omega))
  have FX := hid (fun (h3 : b.length ≤ 300) (g : Nat) (w : World) (h : Blk w g 5 (bytesV b ++ [Value.int .u8 165, Value.int .u8 90]).toArray) => fixed11_any (some ⟨g, 0, none⟩) (b.length + 2) b w (copyB_rd h) (by omega) (fun h => by cases h) (by omega) hok)
  have RF := hid (fun (h3 : b.length ≤ 300) (w : World) (h : Below W.heap.size W w) => rfixed_any A c b w ((hr.below h (Nat.le_refl _)).more h.size) (by omega) hok)
  have FL := hid (fun (h3 : b.length ≤ 300) => fixed_lenz h3 hok)
  obtain ⟨fb, hfb⟩ : ∃ fb, fb = pkS false (fillS false (wrB 0 true 1 (grM b) b)) := ⟨_, rfl⟩
  obtain ⟨nf, hnf⟩ : ∃ nf, nf = fb.length := ⟨_, rfl⟩
  unfold WroteEnd at PL FX
  have hfe : wrAll 0 [⟨1, grM b, b⟩] = wrB 0 true 1 (grM b) b := by
    show wrB 0 true 1 (grM b) b ++ [] = _
    rw [List.append_nil]
  rw [hfe, ← hfb, ← hnf] at FX
  rw [← hfb, ← hnf] at RF
  rw [← hfb, ← hnf] at FL
  rw [hpb, ← hpbe, ← hnp] at PL
  rw [← hpbe, ← hnp] at RP
  clear hfe hfb hpb hpbe
  unfold CopiedB at CP
  have Hnp := hid hnp
  have Hnf := hid hnf
  obtain ⟨n, hn⟩ : ∃ n, n = b.length := ⟨_, rfl⟩
  rw [← hn] at h1 CP RP PL KE AP FX RF FL ⊢
  have d1 : decide (200000 < n) = false := decide_eq_false (by omega)
  have d2 : decide ((200000 : Int) < (n : Int)) = false := decide_eq_false (by omega)
  have hs := str_one
  generalize hsx : strOfNums [1, 1, 0, 254, 255, 97] = sx at hs
  have P1 := hid (plain_one W)
  rw [hsx] at P1
  have kc := Lib.run_convert_bytes_const (P := Tryz.prog) W 22 5 #[.int .u8 97] 1 1 Tryz.underlying22 Tryz.underlying5
  rw [show (#[Value.int .u8 97] : Array Value).size = 1 from rfl] at kc
  clear hsx hr hok hn hnp hnf hc hA
  have h3 : 300 < n ∨ n ≤ 300 := by omega
  rcases h3 with h3 | h3
  · have d3 : decide (300 < n) = true := decide_eq_true h3
    have d4 : decide ((300 : Int) < (n : Int)) = true := decide_eq_true (by omega)
    clear FX RF FL h1 h3
    go_enter Tryz.func3, Tryz.ntmps3
    go_wp2_with fail
    refine P1.out.mono ?_
    rintro e w1 ⟨A1, c1, rfl, k1, hb1⟩
    have B1 := hid hb1
    clear hb1 P1
    go_wp2_with fail
    refine (CP.out w1 B1.out).mono ?_
    rintro e w2 ⟨rfl, hk2, hb2⟩
    obtain ⟨g, hg⟩ : ∃ g, g = w1.heap.size := ⟨_, rfl⟩
    have Hg := hid (show W.heap.size ≤ g by rw [hg]; exact B1.out.size)
    rw [← hg] at hk2 ⊢
    have BK2 := hid hk2
    have B2 := hid (B1.out.trans (hb2.mono B1.out.size))
    clear hk2 hb2 hg k1 kc
    go_wp2_with fail
    refine (PL.out g w2 BK2.out).mono ?_
    rintro e w3 ⟨A3, c3, rfl, o3, b3⟩
    have O3 := hid o3
    have B3 := hid (B2.out.trans (b3.mono B2.out.size))
    have BK3 := hid (BK2.out.below b3 BK2.out.lt)
    clear o3 b3
    go_wp2_with fail
    refine (RP.out w3 B3.out).mono ?_
    rintro e w4 ⟨A4, c4, rfl, o4, b4⟩
    have B4 := hid (B3.out.trans (b4.mono B3.out.size))
    have BK4 := hid (BK3.out.below b4 BK3.out.lt)
    have O34 := hid (own_below O3.out b4 (Nat.le_refl _))
    have SM := hid (same_refl A3 A4 c3 c4 pb w4 w4.heap.size (by rw [← Hnp.out]; exact own_rd O34.out) (by rw [← Hnp.out]; exact own_rd o4))
    rw [← Hnp.out] at SM
    clear o4 b4
    go_wp2_with fail
    refine SM.out.mono ?_
    rintro e w5 ⟨rfl, rfl⟩
    clear SM
    go_wp2_with fail
    refine (KE.out g _ BK4.out B4.out).mono ?_
    rintro e w6 ⟨rfl, rfl⟩
    go_wp2_with fail
    go_ret
    exact ⟨rfl, B4.out⟩
  · have d3 : decide (300 < n) = false := decide_eq_false (by omega)
    have d4 : decide ((300 : Int) < (n : Int)) = false := decide_eq_false (by omega)
    have H3 := hid h3
    clear h1 h3
    go_enter Tryz.func3, Tryz.ntmps3
    go_wp2_with fail
    refine P1.out.mono ?_
    rintro e w1 ⟨A1, c1, rfl, k1, hb1⟩
    have B1 := hid hb1
    clear hb1 P1
    go_wp2_with fail
    refine (CP.out w1 B1.out).mono ?_
    rintro e w2 ⟨rfl, hk2, hb2⟩
    obtain ⟨g, hg⟩ : ∃ g, g = w1.heap.size := ⟨_, rfl⟩
    have Hg := hid (show W.heap.size ≤ g by rw [hg]; exact B1.out.size)
    rw [← hg] at hk2 ⊢
    have BK2 := hid hk2
    have B2 := hid (B1.out.trans (hb2.mono B1.out.size))
    clear hk2 hb2 hg k1 kc
    go_wp2_with fail
    refine (PL.out g w2 BK2.out).mono ?_
    rintro e w3 ⟨A3, c3, rfl, o3, b3⟩
    have O3 := hid o3
    have B3 := hid (B2.out.trans (b3.mono B2.out.size))
    have BK3 := hid (BK2.out.below b3 BK2.out.lt)
    clear o3 b3
    go_wp2_with fail
    refine (RP.out w3 B3.out).mono ?_
    rintro e w4 ⟨A4, c4, rfl, o4, b4⟩
    have B4 := hid (B3.out.trans (b4.mono B3.out.size))
    have BK4 := hid (BK3.out.below b4 BK3.out.lt)
    have O34 := hid (own_below O3.out b4 (Nat.le_refl _))
    have SM := hid (same_refl A3 A4 c3 c4 pb w4 w4.heap.size (by rw [← Hnp.out]; exact own_rd O34.out) (by rw [← Hnp.out]; exact own_rd o4))
    rw [← Hnp.out] at SM
    clear o4 b4
    go_wp2_with fail
    refine SM.out.mono ?_
    rintro e w5 ⟨rfl, rfl⟩
    clear SM
    go_wp2_with fail
    refine (KE.out g _ BK4.out B4.out).mono ?_
    rintro e w6 ⟨rfl, rfl⟩
    go_wp2_with fail
    refine (FX.out H3.out g _ BK4.out).mono ?_
    rintro e w5 ⟨A5, c5, rfl, o5, b5⟩
    have O5 := hid o5
    have B5 := hid (B4.out.trans (b5.mono B4.out.size))
    have BK5 := hid (BK4.out.below b5 BK4.out.lt)
    clear b5 o5
    go_wp2_with fail
    refine (RF.out H3.out _ B5.out).mono ?_
    rintro e w6 ⟨A6, c6, rfl, o6, b6⟩
    have B6 := hid (B5.out.trans (b6.mono B5.out.size))
    have BK6 := hid (BK5.out.below b6 BK5.out.lt)
    have O56 := hid (own_below O5.out b6 (Nat.le_refl _))
    have SM := hid (same_refl A5 A6 c5 c6 fb w6 w6.heap.size (by rw [← Hnf.out]; exact own_rd O56.out) (by rw [← Hnf.out]; exact own_rd o6))
    rw [← Hnf.out] at SM
    have OW := hid (own_base O56.out B4.out.size)
    have HT := hid (own_farz O56.out BK4.out.lt)
    clear o6 b6
    go_wp2_with fail
    refine SM.out.mono ?_
    rintro e w7 ⟨rfl, rfl⟩
    go_wp2_with fail
    refine (KE.out g _ BK6.out B6.out).mono ?_
    rintro e w7 ⟨rfl, rfl⟩
    go_wp2_with fail
    refine (AP.out g _ Hg.out BK6.out A5 nf c5 _ OW.out (FL.out H3.out) HT.out).mono ?_
    rintro e w8 ⟨rfl, hb8⟩
    have B8 := hid (B6.out.trans hb8)
    clear hb8
    go_wp2_with fail
    go_ret
    exact ⟨rfl, B8.out⟩

theorem plain_lawz (A : Option Addr) (c : Nat) (b : List Int) (W : World) (hr : Rd W W.heap.size 1 A b.length (bytesV b)) (hc : b.length ≤ c) (hA : A = none → c = 0) (hok : ∀ x ∈ b, isB x) :
    Calls Tryz.prog 3 #[.slice A b.length c] W fun e w' => e = .returned (.bool true) ∧ Below W.heap.size W w' := by
  by_cases h : 200000 < b.length
  · exact plain_far A c b W h
  · exact plain_near A c b W hr hc hA hok (by omega)
end Go.Proofs.YtoppjcmkhhkbmaaGreat

namespace Go.Proofs.YtoppjcmkhhkbmaaGreat
open Go.ChangeShapes Go.WideShapes Go.ChangeAt Go.RowKit
end Go.Proofs.YtoppjcmkhhkbmaaGreat

namespace Go.Proofs.YtoppjcmkhhkbmaaGreat
open Go.ChangeShapes Go.WideShapes Go.ChangeAt Go.RowKit

def encB (n : Int) : List Value := [.int .u8 n]
theorem encB_eq (l : List Int) : l.flatMap encB = bytesV l := by
  induction l with
  | nil => rfl
  | cons a l ih => rw [List.flatMap_cons, ih]; rfl
theorem byte_of {H : Type} {enc : TypeId × Value → H} {w : World} {base : Nat} {spare : Nat → Bool} {held : Bool} (n : Nat) (cs : List Value) (y : DataW H × List MemPlace) (hl : cs.length = 1)
    (h : DataW.trod enc Tryz.prog w base spare held n 5 cs = some y) : ∃ t : Int, cs = encB t ∧ isB t := by
  match cs, hl with
  | [v], _ =>
    obtain ⟨a, rfl, wa⟩ := leaf_int Tryz.underlying5 h
    refine ⟨a, rfl, ?_⟩
    simp [Lit.wf, IntKind.min, IntKind.max, IntKind.signed, IntKind.bits] at wa
    unfold isB
    omega

set_option maxRecDepth 100000 in
theorem open_bytes' {H : Type} {enc : TypeId × Value → H} {w : World} {v : Value} {x : DataW H} {ps : List MemPlace} {r : Reach} {b0 : Nat}
    (hv : Value.okWide Tryz.prog w r b0 22 v) (h : DataW.Trod enc Tryz.prog w 0 (fun _ => true) true 22 v x ps) :
    ∃ (A : Option Addr) (c : Nat) (l : List Int), v = .slice A l.length c ∧ l.length ≤ c ∧ c ≤ maxLen ∧ (∀ a ∈ l, isB a) ∧ Rd w w.heap.size 1 A l.length (bytesV l) := by
  obtain ⟨fuel, hf⟩ := h
  obtain ⟨A, n, m, rfl⟩ := okWide_slice Tryz.underlying22 hv
  obtain ⟨A, c, l, e, hlc, hcm, hok, hr⟩ := open_slice_of encB isB 1 (by omega) Tryz.underlying22 (by kernel_rfl) byte_of (fun _ => rfl) (by simpa [Value.cells] using hf)
  rw [encB_eq] at hr
  exact ⟨A, c, l, e, hlc, hcm, hok, hr⟩
end Go.Proofs.YtoppjcmkhhkbmaaGreat

namespace Go.Proofs.YtoppjcmkhhkbmaaGreat
open Go.ChangeShapes Go.WideShapes Go.ChangeAt Go.RowKit

set_option maxRecDepth 100000 in
theorem open_bytes2 {H : Type} {enc : TypeId × Value → H} {w : World} {v : Value} {x : DataW H} {ps : List MemPlace} {r : Reach} {b0 : Nat}
    (hv : Value.okWide Tryz.prog w r b0 22 v) (h : DataW.Trod enc Tryz.prog w 0 (fun _ => true) true 22 v x ps) :
    ∃ (A : Option Addr) (c : Nat) (l : List Int), v = .slice A l.length c ∧ l.length ≤ c ∧ c ≤ maxLen ∧ (∀ a ∈ l, isB a) ∧ Rd w w.heap.size 1 A l.length (bytesV l) ∧ (A = none → c = 0) := by
  obtain ⟨A, c, l, e, h1, h2, h3, h4⟩ := open_bytes' hv h
  refine ⟨A, c, l, e, h1, h2, h3, h4, fun hA => ?_⟩
  obtain ⟨fuel, hf⟩ := h
  subst e
  have hf2 : DataW.trod enc Tryz.prog w 0 (fun _ => true) true fuel 22 [.slice A l.length c] = some (x, ps) := by simpa [Value.cells] using hf
  rcases Go.Deep.open_slice Tryz.underlying22 hf2 with ⟨hc, _⟩ | ⟨a, len, cap, m, n, D, Pl, hc, _⟩
  · simp at hc
    exact hc.2.2
  · simp at hc
    rw [hA] at hc
    cases hc.1
end Go.Proofs.YtoppjcmkhhkbmaaGreat
