/-
  burnishref02.Runes: the whole runes that a text begins with, and whether it is all of it.
-/
import Derived.Test.YtfcppchjikmioaaGreatWpM
namespace Go.Proofs.YtfcppchjikmioaaGreat
open Go.RowKit Go.Lib

/-- does the rune for faults stand there, written out? -/
def okBy (s : ByteArray) (i : Nat) : Bool := decide (i + 3 ≤ s.size) && ((s.data.toList.getD i 0 == 239) && ((s.data.toList.getD (i + 1) 0 == 191) && (s.data.toList.getD (i + 2) 0 == 189)))
theorem take3 {l : List UInt8} {i : Nat} (h : i + 3 ≤ l.length) : (l.drop i).take 3 = [l.getD i 0, l.getD (i + 1) 0, l.getD (i + 2) 0] := by
  have e : ∀ j, j < l.length → l.getD j 0 = l[j]?.getD 0 := fun j _ => by simp [List.getD_eq_getElem?_getD]
  apply List.ext_getElem
  · simp; omega
  · intro k h1 h2
    simp at h2
    rcases k with _ | _ | _ | k
    · simp [List.getElem_take, List.getElem_drop, List.getD_eq_getElem?_getD, List.getElem?_eq_getElem (show i < l.length by omega)]
    · simp [List.getElem_take, List.getElem_drop, List.getD_eq_getElem?_getD, List.getElem?_eq_getElem (show i + 1 < l.length by omega)]
    · simp [List.getElem_take, List.getElem_drop, List.getD_eq_getElem?_getD, List.getElem?_eq_getElem (show i + 2 < l.length by omega)]
    · omega
theorem hasPx_okBy (s : ByteArray) (i : Nat) (hi : i ≤ s.size) : hasPx (s.extract i s.size) fffd = okBy s i := by
  unfold hasPx okBy
  have e1 : (s.extract i s.size).size = s.size - i := by simp
  have e2 : fffd.size = 3 := rfl
  rw [e1, e2]
  by_cases h : i + 3 ≤ s.size
  · rw [decide_eq_true (show 3 ≤ s.size - i by omega), decide_eq_true h]
    have hl : s.data.toList.length = s.size := rfl
    have e3 : ((s.extract i s.size).extract 0 3).toList = [s.data.toList.getD i 0, s.data.toList.getD (i + 1) 0, s.data.toList.getD (i + 2) 0] := by
      have := take3 (l := s.data.toList) (i := i) (by rw [hl]; exact h)
      rw [← this, ByteArray.toList_eq]
      simp [List.extract_eq_take_drop]
      omega
    rw [e3]
    show (true && _) = (true && _)
    simp [fffd]
  · rw [decide_eq_false (show ¬ 3 ≤ s.size - i by omega), decide_eq_false h]
    rfl
theorem getD_byte (s : ByteArray) (i : Nat) (h : i < s.size) : s.data.toList.getD i 0 = s[i] := by
  rw [List.getD_eq_getElem?_getD, List.getElem?_eq_getElem (by simpa using h)]
  rfl
theorem u8_eq (b : UInt8) (k : Nat) (hk : k < 256) : (b == UInt8.ofNat k) = ((b.toNat : Int) == (k : Int)) := by
  rw [Bool.eq_iff_iff, beq_iff_eq, beq_iff_eq]
  constructor
  · intro h
    rw [h]
    simp
    omega
  · intro h
    have : b.toNat = k := by omega
    rw [← this]
    simp
theorem okAt_by (s : ByteArray) (i : Nat) (hi : i ≤ s.size) : okAt s i = (!(((Utf8.decode s i).1 : Int) == 65533) || okBy s i) := by
  unfold okAt
  rw [hasPx_okBy s i hi]
/-- whether the runes are all of the text -/
def rnW (s : ByteArray) : Nat → Nat → Bool
  | 0, _ => true
  | f + 1, pos => if pos < s.size then (if okAt s pos = true then rnW s f (pos + (Utf8.decode s pos).2) else false) else true
def rnWhole (s : ByteArray) : Bool := rnW s (s.size + 1) 0
def RunesEnd (s : ByteArray) (W : World) (e : Ending) (w' : World) : Prop := ∃ A c, e = .returned (.tuple #[.slice A (rnL s).length c, .bool (rnWhole s)]) ∧ w'.ownsRow W.heap.size 21 1 (.slice A (rnL s).length c) (rnL s).length (runesV (rnL s)) ∧ Below W.heap.size W w'
def lenL : List Int → Nat := List.length
theorem okBy_out {s : ByteArray} {i : Nat} (h : i + 3 ≤ s.size) : okBy s i = (((s[i].toNat : Int) == 239) && (((s[i + 1].toNat : Int) == 191) && ((s[i + 2].toNat : Int) == 189))) := by
  unfold okBy
  rw [decide_eq_true h, getD_byte s i (by omega), getD_byte s (i + 1) (by omega), getD_byte s (i + 2) (by omega)]
  have e1 := u8_eq s[i] 239 (by omega)
  have e2 := u8_eq s[i + 1] 191 (by omega)
  have e3 := u8_eq s[i + 2] 189 (by omega)
  rw [show ((239 : Nat) : Int) = 239 from rfl] at e1
  rw [show ((191 : Nat) : Int) = 191 from rfl] at e2
  rw [show ((189 : Nat) : Int) = 189 from rfl] at e3
  rw [← e1, ← e2, ← e3]
  rfl
set_option maxRecDepth 100000 in
set_option maxHeartbeats 4000000 in
theorem refRunes_any (s : ByteArray) (hm : s.size ≤ 1000000) (W : World) : Calls Tryz.prog 56 #[.string s] W (RunesEnd s W) := by
  go_enter Tryz.func56, Tryz.ntmps56
  go_upto_region 3 with (fail)
  obtain ⟨i0, hi0, hz0, hz1, hz2⟩ := info_parts rune_info
  have Hi0 := hid hi0
  have Hz0 := hid hz0
  have Hz1 := hid hz1
  have Hz2 := hid hz2
  clear hi0 hz0 hz1 hz2
  obtain ⟨L, hL⟩ : ∃ L, L = rnL s := ⟨_, rfl⟩
  have hLm : L.length ≤ s.size := by rw [hL]; exact rnL_len s
  have HL := hid hL
  clear hL
  have hit : (W.iter s 0).heap[W.heap.size]? = some (.stringIter s 0) := World.alloc_heap_new W _
  have hb0 : Below W.heap.size W (W.iter s 0) := (Below.refl _ _).alloc (Nat.le_refl _) (.stringIter s 0)
  obtain ⟨gi, hgi⟩ : ∃ gi, gi = W.heap.size := ⟨_, rfl⟩
  have Hgi := hid hgi
  have hgi2 : W.heap.size ≤ gi := by rw [hgi]; exact Nat.le_refl _
  rw [← hgi] at hit ⊢
  have Hit := hid hit
  have Hb0 := hid hb0
  generalize W.iter s 0 = w0 at *
  clear hgi hit hb0
  go_loopw [4] (fun v wr => ∃ (k pos f : Nat) (A' : Option Addr) (c' : Nat), v = .slice A' k c' ∧ k ≤ L.length ∧ s.size - pos < f ∧ Hid (L.drop k = rnFrom s f pos) ∧ Hid (rnWhole s = rnW s f pos) ∧ Hid (wr.heap[gi]? = some (.stringIter s pos)) ∧ Hid (wr.ownsRow W.heap.size 21 1 (.slice A' k c') k (runesV (L.take k))) ∧ Hid (Below W.heap.size W wr)) (fun v _ => L.length - lenV v)
  case atStart => exact ⟨0, 0, s.size + 1, none, 0, rfl, by omega, by omega, hid HL.out, hid rfl, Hit, hid (World.ownsRow_nil _ _ _ _), Hb0⟩
  case round =>
    obtain ⟨k, pos, f, A', c', rfl, hk, hf, HR, HW, Hi, O, B⟩ := hrel
    obtain ⟨f1, hf1⟩ : ∃ f1, f = f1 + 1 := ⟨f - 1, by omega⟩
    by_cases hp : pos < s.size
    · obtain ⟨rr, hrr⟩ : ∃ rr : Int, rr = ((Utf8.decode s pos).1 : Int) := ⟨_, rfl⟩
      obtain ⟨np, hnp⟩ : ∃ np, np = pos + (Utf8.decode s pos).2 := ⟨_, rfl⟩
      obtain ⟨w1, hw1⟩ : ∃ w1, w1 = wr.iterAt gi s np := ⟨_, rfl⟩
      have hnx : ∀ ty, (Instr.next (.pointer (some ⟨gi, 0, none⟩)) true ty).run Tryz.prog wr = .ok (.tuple #[.bool true, .int .i64 pos, .int .i32 rr]) w1 := fun ty => by
        rw [hw1, hnp, hrr]
        exact run_next_any_at wr gi s pos ty Hi.out hp
      have hit1 := hid (show w1.heap[gi]? = some (.stringIter s np) by rw [hw1]; exact iterAt_heap wr gi s pos np Hi.out)
      have hg1 : wr.grownBy w1 (some gi) := by rw [hw1]; exact ⟨rfl, rfl, rfl, by rw [iterAt_size]; exact Nat.le_refl _, fun i _ hne => iterAt_other wr gi i s np (fun e => hne (by rw [e]))⟩
      have O1 := hid (own_other O.out hg1 (fun r e => by injection e with e; rw [← e]; exact ⟨_, Hi.out, rfl⟩))
      have B1 := hid (below_other B.out hg1 B.out.size (fun r e => by injection e with e; omega))
      have hps := dec_pos hp
      have hmo : okAt s pos = true → k < L.length ∧ L[k]?.getD 0 = rr ∧ L.drop (k + 1) = rnFrom s f1 np ∧ rnWhole s = rnW s f1 np := fun ho => by
        have h := HR.out
        rw [hf1] at h
        have := rn_more h ⟨hp, ho⟩
        rw [hrr, hnp]
        refine ⟨this.1, this.2.1, this.2.2, ?_⟩
        rw [HW.out, hf1, rnW, if_pos hp, if_pos ho]
      have hsp : okAt s pos = false → k = L.length ∧ rnWhole s = false := fun ho => ⟨rn_stop HR.out (fun h => by rw [ho] at h; cases h.2) hk, by rw [HW.out, hf1, rnW, if_pos hp, ho]; rfl⟩
      obtain ⟨ok, hok⟩ : ∃ ok, ok = okAt s pos := ⟨_, rfl⟩
      rw [← hok] at hmo hsp
      have hok2 : ok = (!(rr == 65533) || okBy s pos) := by rw [hok, okAt_by s pos (by omega), hrr]
      have hnf : s.size - np < f1 := by omega
      have HMo := hid hmo
      have HSp := hid hsp
      have Hok := hid hok2
      have Hw1 := hid hw1
      clear hmo hsp hok hok2 hrr hnp hg1 hf1 hf HR HW Hi O B hps hw1
      go_upto_region 5 with (fail)
      go_cut [42] from 13 to 42 (fun v wq => v = .bool (!ok) ∧ w1 = wq)
      case first =>
        by_cases e1 : rr = 65533
        · have d1 : (rr == 65533) = true := beq_iff_eq.2 e1
          by_cases e2 : pos + 3 ≤ s.size
          · have HB := hid (show ok = (((s[pos].toNat : Int) == 239) && (((s[pos + 1].toNat : Int) == 191) && ((s[pos + 2].toNat : Int) == 189))) by rw [Hok.out, d1, okBy_out e2]; rfl)
            have d2 : decide ((pos : Int) + 3 ≤ (s.size : Int)) = true := decide_eq_true (by omega)
            have hp1 : pos + 1 < s.size := by omega
            have hp2 : pos + 2 < s.size := by omega
            clear e1 Hok
            cases f0 : ((s[pos].toNat : Int) == 239)
            · have HB2 := hid (show ok = false by rw [HB.out, f0]; rfl)
              go_wp2_with fail
              go_meet
              exact ⟨by rw [HB2.out]; rfl, rfl⟩
            · cases f1 : ((s[pos + 1].toNat : Int) == 191)
              · have HB2 := hid (show ok = false by rw [HB.out, f0, f1]; rfl)
                go_wp2_with fail
                go_meet
                exact ⟨by rw [HB2.out]; rfl, rfl⟩
              · cases f2 : ((s[pos + 2].toNat : Int) == 189)
                · have HB2 := hid (show ok = false by rw [HB.out, f0, f1, f2]; rfl)
                  go_wp2_with fail
                  go_meet
                  exact ⟨by rw [HB2.out]; rfl, rfl⟩
                · have HB2 := hid (show ok = true by rw [HB.out, f0, f1, f2]; rfl)
                  go_wp2_with fail
                  go_meet
                  exact ⟨by rw [HB2.out]; rfl, rfl⟩
          · have HB := hid (show ok = false by rw [Hok.out, d1]; unfold okBy; rw [decide_eq_false e2]; rfl)
            have d2 : decide ((pos : Int) + 3 ≤ (s.size : Int)) = false := decide_eq_false (by omega)
            clear e1 e2 Hok
            go_wp2_with fail
            go_meet
            exact ⟨by rw [HB.out]; rfl, rfl⟩
        · have d1 : (rr == 65533) = false := beq_eq_false_iff_ne.2 e1
          have HB := hid (show ok = true by rw [Hok.out, d1]; rfl)
          clear e1 Hok
          go_wp2_with fail
          go_meet
          exact ⟨by rw [HB.out]; rfl, rfl⟩
      case rest =>
      obtain ⟨rfl, rfl⟩ := hcut
      cases ok
      · have hs := HSp.out rfl
        have Hs := hid hs
        clear hs
        go_wp2_with fail
        go_ret2
        refine ⟨A', c', by rw [← HL.out, ← Hs.out.1, Hs.out.2]; rfl, ?_, B1.out⟩
        have h := O1.out
        rw [Hs.out.1, List.take_length] at h
        rw [← HL.out]
        exact h
      · have hm := HMo.out rfl
        have hkl := hm.1
        have Hm := hid hm
        have hW1 := B1.out.size
        clear hm
        go_wp2_with (at_builtin; refine wpList_app _ rfl _ _ _ rfl W.heap.size 21 i0 (.int .i32 0) 1 4 Tryz.underlying64 Hi0.out Hz0.out Hz1.out Hz2.out rfl (by omega) A' k c' _ rfl (own_below O1.out ((Below.refl _ _).alloc (Nat.le_refl _) _) (Nat.le_refl _)) _ _ 1 1 [.int .i32 rr] rfl (rd_one _ _ _ _ (Blk.new _ _ _)) (by simp) (by simp [Value.oneCell']) (by simp only [maxLen]; omega) (by omega) (by simp; omega) ?_; intro A4 c4 w4 ha4; have Ha4 := hid ha4; clear ha4)
        go_roundw
        case rel =>
          have ha := Ha4.out
          refine ⟨k + 1, np, f1, A4, c4, rfl, by omega, hnf, hid Hm.out.2.2.1, hid Hm.out.2.2.2, hid ?_, hid ?_, hid (B1.out.trans (((Below.refl _ _).alloc hW1 _).trans ha.2.2.1))⟩
          · have h2 : w1.heap[gi]? = some (.stringIter s np) := hit1.out
            have hlt := (Array.getElem?_eq_some_iff.1 h2).1
            refine ((keeps_own (own_below O1.out ((Below.refl _ _).alloc (Nat.le_refl _) _) (Nat.le_refl _)) ha.2.1).same gi _ ((Below.heap_alloc _ _ gi hlt).trans h2) rfl)
          · have h1 := ha.1
            have e1 : runesV (L.take k) ++ [Value.int .i32 rr] = runesV (L.take (k + 1)) := by
              rw [List.take_succ_eq_append_getElem hkl]
              have := Hm.out.2.1
              rw [List.getElem?_eq_getElem hkl] at this
              have h3 : L[k] = rr := this
              rw [h3]
              unfold runesV
              rw [List.map_append]
              rfl
            rw [e1] at h1
            exact h1
        case measure => simp [lenV]; omega
    · have hnx : ∀ ty, (Instr.next (.pointer (some ⟨gi, 0, none⟩)) true ty).run Tryz.prog wr = _ := fun ty => run_next_end_at wr gi s pos ty Hi.out hp
      have hkL := hid (rn_stop HR.out (fun h => hp h.1) hk)
      have hwt := hid (show rnWhole s = true by rw [HW.out, hf1, rnW, if_neg hp])
      go_wp2_with fail
      go_ret2
      refine ⟨A', c', by rw [← HL.out, ← hkL.out, hwt.out]; rfl, ?_, B.out⟩
      have h := O.out
      rw [hkL.out, List.take_length] at h
      rw [← HL.out]
      exact h
end Go.Proofs.YtfcppchjikmioaaGreat
