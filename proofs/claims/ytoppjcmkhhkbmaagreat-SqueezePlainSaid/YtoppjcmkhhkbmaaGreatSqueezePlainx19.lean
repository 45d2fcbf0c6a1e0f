/-
  A text plainly packed, plainly: blocks of kind 0 are these bytes.
  match.common: how many bytes from two places on are the same.
  The Finder's map: of three bytes the last place ahead at which they stand.
  match.NewFinder.
-/
import Derived.Test.YtoppjcmkhhkbmaaGreatSqueezePlainx1
import Derived.Test.YtoppjcmkhhkbmaaGreatSqueezePlainx2
import Derived.Test.YtoppjcmkhhkbmaaGreatSqueezePlainx4
import Derived.Test.YtoppjcmkhhkbmaaGreatSqueezePlainx8
import Derived.Test.YtoppjcmkhhkbmaaGreatSqueezePlainx17
import Derived.Test.YtoppjcmkhhkbmaaGreatSqueezePlainx18
import Derived.BigQuiet
import Derived.Deep.Cut
import Derived.DeepKeys4
import Derived.WideKeyPair
import Derived.Maps.OwnSet
import Derived.Laws.Cover3
import Derived.Deep.DeepCutAuto
import Derived.Deep.CutRange
namespace Go.Proofs.YtoppjcmkhhkbmaaGreat
open Go.RowKit Cd

theorem bitsL_cons (c : Int) (l : List Int) : bitsL (c :: l) = dgS false c 8 ++ bitsL l := by
  refine List.ext_getElem (by rw [bitsL_length, List.length_append, dgS_len, bitsL_length, List.length_cons]; omega) fun i h1 h2 => ?_
  have hi : i < 8 * (c :: l).length := by rw [bitsL_length] at h1; exact h1
  rw [getD_at h1, bitsL_at _ _ hi]
  unfold bitA
  by_cases h : i < 8
  · rw [List.getElem_append_left (by rw [dgS_len]; exact h)]
    unfold dgS
    rw [List.getElem_map, List.getElem_range, show i / 8 = 0 by omega, show i % 8 = i by omega]
    rfl
  · rw [List.getElem_append_right (by rw [dgS_len]; omega)]
    have h3 : i - 8 < 8 * l.length := by rw [List.length_cons] at hi; omega
    rw [getD_at, dgS_len, bitsL_at _ _ h3]
    unfold bitA
    rw [show i / 8 = (i - 8) / 8 + 1 by omega, show (i - 8) % 8 = i % 8 by omega]
    rfl
theorem bitsL_nilQ : bitsL [] = [] := rfl
theorem bitsL_app : ∀ (a b : List Int), bitsL (a ++ b) = bitsL a ++ bitsL b
  | [], b => rfl
  | c :: a, b => by rw [List.cons_append, bitsL_cons, bitsL_cons, bitsL_app a b, List.append_assoc]
theorem bytB_bits : ∀ t : List Int, bytB t = bitsL t
  | [] => rfl
  | c :: t => by
    rw [bitsL_cons, ← bytB_bits t]
    unfold bytB
    rw [List.flatMap_cons]
theorem dg_lowQ (n : Int) : ∀ i, i < 8 → (n % 256) / 2 ^ i % 2 = n / 2 ^ i % 2 := by
  intro i hi
  rcases (show i = 0 ∨ i = 1 ∨ i = 2 ∨ i = 3 ∨ i = 4 ∨ i = 5 ∨ i = 6 ∨ i = 7 by omega) with rfl | rfl | rfl | rfl | rfl | rfl | rfl | rfl
  · show n % 256 / 1 % 2 = n / 1 % 2; omega
  · show n % 256 / 2 % 2 = n / 2 % 2; omega
  · show n % 256 / 4 % 2 = n / 4 % 2; omega
  · show n % 256 / 8 % 2 = n / 8 % 2; omega
  · show n % 256 / 16 % 2 = n / 16 % 2; omega
  · show n % 256 / 32 % 2 = n / 32 % 2; omega
  · show n % 256 / 64 % 2 = n / 64 % 2; omega
  · show n % 256 / 128 % 2 = n / 128 % 2; omega
theorem dg_highQ (n : Int) : ∀ i, i < 8 → (n / 256) / 2 ^ i % 2 = n / 2 ^ (8 + i) % 2 := by
  intro i hi
  rcases (show i = 0 ∨ i = 1 ∨ i = 2 ∨ i = 3 ∨ i = 4 ∨ i = 5 ∨ i = 6 ∨ i = 7 by omega) with rfl | rfl | rfl | rfl | rfl | rfl | rfl | rfl
  · show n / 256 / 1 % 2 = n / 256 % 2; omega
  · show n / 256 / 2 % 2 = n / 512 % 2; omega
  · show n / 256 / 4 % 2 = n / 1024 % 2; omega
  · show n / 256 / 8 % 2 = n / 2048 % 2; omega
  · show n / 256 / 16 % 2 = n / 4096 % 2; omega
  · show n / 256 / 32 % 2 = n / 8192 % 2; omega
  · show n / 256 / 64 % 2 = n / 16384 % 2; omega
  · show n / 256 / 128 % 2 = n / 32768 % 2; omega
theorem dg_two (n : Int) : dgS false n 16 = dgS false (n % 256) 8 ++ dgS false (n / 256) 8 := by
  unfold dgS
  rw [show (16 : Nat) = 8 + 8 from rfl, List.range_add, List.map_append, List.map_map]
  congr 1
  · refine List.map_congr_left fun i hi => ?_
    exact (dg_lowQ n i (List.mem_range.1 hi)).symm
  · refine List.map_congr_left fun i hi => ?_
    exact (dg_highQ n i (List.mem_range.1 hi)).symm
theorem head_byte (b : Bool) : dgS false (2 * 0 + (if b then 1 else 0)) 3 ++ List.replicate 5 (0 : Int) = dgS false (if b then 1 else 0) 8 := by
  cases b
  · decide
  · decide
theorem wrB_plain {k : Nat} (hk : k % 8 = 0) (last : Bool) (l : List (Int × Int)) (t : List Int) : wrB k last 0 l t = bitsL (hdB (if last then 1 else 0) t.length ++ t) := by
  unfold wrB stB padB
  rw [if_pos rfl, show (8 - (k + 3) % 8) % 8 = 5 by omega, ← List.append_assoc, head_byte, bytB_bits, dg_two, dg_two]
  have e1 : (65535 - (t.length : Int)) % 256 = 255 - (t.length : Int) % 256 := by omega
  have e2 : (65535 - (t.length : Int)) / 256 = 255 - (t.length : Int) / 256 := by omega
  rw [e1, e2, bitsL_app]
  unfold hdB
  rw [bitsL_cons, bitsL_cons, bitsL_cons, bitsL_cons, bitsL_cons, bitsL_nilQ]
  simp only [List.append_assoc, List.append_nil]
theorem wr_from {text : List Int} : ∀ (d j k : Nat), j + d + 1 = plN text → k % 8 = 0 → wrAll k (((List.range (plN text)).drop j).map (plC text)) = bitsL (rpA text (j * 65535))
  | d, j, k, hd, hk => by
    have hjl : j < plN text := by omega
    have hl := plT_len text j
    have e : (List.range (plN text)).drop j = j :: (List.range (plN text)).drop (j + 1) := by
      rw [List.drop_eq_getElem_cons (by rw [List.length_range]; exact hjl), List.getElem_range]
    rw [e, List.map_cons, wrAll]
    have hw : ∀ b, wrB k b (plC text j).kind (plC text j).l (plC text j).text = bitsL (hdB (if b then 1 else 0) (plT text j).length ++ plT text j) := fun b => wrB_plain hk b _ _
    rw [hw]
    cases d with
    | zero =>
      have e2 : (List.range (plN text)).drop (j + 1) = [] := List.drop_of_length_le (by rw [List.length_range]; omega)
      have h1 : text.length - j * 65535 ≤ 65535 := by unfold plN at hd; omega
      rw [e2, List.map_nil, wrAll, List.append_nil, rpA_last h1]
      have h2 : (plT text j).length = text.length - j * 65535 := by rw [hl]; omega
      have h3 : plT text j = (text.drop (j * 65535)).take (text.length - j * 65535) := by unfold plT; rw [show min 65535 (text.length - j * 65535) = text.length - j * 65535 by omega]
      rw [h2, h3]
      rfl
    | succ d =>
      have h1 : 65535 < text.length - j * 65535 := by unfold plN at hd; omega
      have h2 : (plT text j).length = 65535 := by rw [hl]; omega
      have h3 : plT text j = (text.drop (j * 65535)).take 65535 := by unfold plT; rw [show min 65535 (text.length - j * 65535) = 65535 by omega]
      have he : (((List.range (plN text)).drop (j + 1)).map (plC text)).isEmpty = false := by
        rw [List.isEmpty_eq_false_iff_exists_mem]
        refine ⟨plC text (j + 1), List.mem_map.2 ⟨j + 1, ?_, rfl⟩⟩
        rw [List.drop_eq_getElem_cons (by rw [List.length_range]; omega), List.getElem_range]
        exact List.mem_cons_self
      rw [wr_from d (j + 1) _ (by omega) (by rw [bitsL_length]; omega), he, rpA_more h1, h2, ← h3, show (j + 1) * 65535 = j * 65535 + 65535 by omega, bitsL_app (hdB 0 65535 ++ plT text j)]
      rfl
theorem wr_plain (text : List Int) : wrAll 0 (plQ text) = bitsL (rpA text 0) := by
  unfold plQ
  by_cases h : text.length = 0
  · rw [if_pos h]
    have : text = [] := List.eq_nil_of_length_eq_zero h
    subst this
    rw [wrAll, wrAll, List.append_nil, wrB_plain rfl _ _ _, rpA_last (by show 0 - 0 ≤ 65535; omega)]
    rfl
  · rw [if_neg h]
    have hN : 0 < plN text := by unfold plN; omega
    have := wr_from (text := text) (plN text - 1) 0 0 (by omega) rfl
    rw [List.drop_zero, Nat.zero_mul] at this
    exact this
theorem hdB_isB {last : Int} (hl : last = 0 ∨ last = 1) {n : Nat} (hn : n ≤ 65535) : ∀ x ∈ hdB last n, isB x := by
  intro x hx
  unfold hdB at hx
  unfold isB
  simp only [List.mem_cons, List.not_mem_nil, or_false] at hx
  omega
theorem rpF_isB {text : List Int} (hB : ∀ x ∈ text, isB x) : ∀ f p, ∀ x ∈ rpF text f p, isB x
  | 0, _, x, h => by cases h
  | f + 1, p, x, h => by
    rw [rpF] at h
    split at h
    next h1 =>
      rcases List.mem_append.1 h with h | h
      · exact hdB_isB (.inr rfl) h1 x h
      · exact hB x (List.mem_of_mem_drop (List.mem_of_mem_take h))
    next h1 =>
      rcases List.mem_append.1 h with h | h
      · rcases List.mem_append.1 h with h | h
        · exact hdB_isB (.inl rfl) (Nat.le_refl _) x h
        · exact hB x (List.mem_of_mem_drop (List.mem_of_mem_take h))
      · exact rpF_isB hB f _ x h
theorem pk_bitsQ {b : List Int} (hB : ∀ x ∈ b, isB x) : pkS false (bitsL b) = b := by
  refine List.ext_getElem (by rw [pkS_len, bitsL_length]; omega) fun j h1 h2 => ?_
  have hx : isB (b.getD j 0) := getD_isB hB j
  have hbj : ∀ i, i < 8 → (bitsL b).getD (8 * j + i) 0 = b.getD j 0 / 2 ^ i % 2 := fun i hi => by
    rw [bitsL_at _ _ (by omega)]
    unfold bitA
    rw [show (8 * j + i) / 8 = j by omega, show (8 * j + i) % 8 = i by omega]
  have ep : (pkS false (bitsL b))[j] = byS false (bitsL b) j 8 := by
    rw [getD_at h1]
    unfold pkS
    rw [List.getD_eq_getElem?_getD, List.getElem?_map, List.getElem?_range (by rw [bitsL_length]; omega)]
    rfl
  rw [ep, getD_at h2]
  have hs : ∀ n, shS false n = n := fun n => rfl
  have e : byS false (bitsL b) j 8 = (bitsL b).getD (8 * j + 0) 0 + (bitsL b).getD (8 * j + 1) 0 * 2 + (bitsL b).getD (8 * j + 2) 0 * 4 + (bitsL b).getD (8 * j + 3) 0 * 8 + (bitsL b).getD (8 * j + 4) 0 * 16 + (bitsL b).getD (8 * j + 5) 0 * 32 + (bitsL b).getD (8 * j + 6) 0 * 64 + (bitsL b).getD (8 * j + 7) 0 * 128 := by
    simp only [byS, hs]
    omega
  rw [e, hbj 0 (by omega), hbj 1 (by omega), hbj 2 (by omega), hbj 3 (by omega), hbj 4 (by omega), hbj 5 (by omega), hbj 6 (by omega), hbj 7 (by omega)]
  generalize b.getD j 0 = x at *
  obtain ⟨h3, h4⟩ := hx
  show x / 1 % 2 + x / 2 % 2 * 2 + x / 4 % 2 * 4 + x / 8 % 2 * 8 + x / 16 % 2 * 16 + x / 32 % 2 * 32 + x / 64 % 2 * 64 + x / 128 % 2 * 128 = x
  omega
theorem fill_bitsL (b : List Int) : fillS false (bitsL b) = bitsL b := by
  unfold fillS
  rw [bitsL_length, show (8 - 8 * b.length % 8) % 8 = 0 by omega]
  rfl
/-- the bytes that a text is plainly packed to -/
theorem plain_bytes {text : List Int} (hB : ∀ x ∈ text, isB x) : pkS false (fillS false (wrAll 0 (plQ text))) = rpA text 0 := by
  rw [wr_plain, fill_bitsL]
  exact pk_bitsQ (rpF_isB hB _ _)
end Go.Proofs.YtoppjcmkhhkbmaaGreat

namespace Go.Proofs.YtoppjcmkhhkbmaaGreat
open Go.ChangeShapes Go.WideShapes Go.ChangeAt Go.RowKit Go.Proofs.YtoppjcmkhhkbmaaGreat
theorem cmF_stop {f : Nat → Int} {L a b k n : Nat} (h : ¬ (b + n < L ∧ f (a + n) = f (b + n))) : cmF f L a b k n = n := by
  cases k with
  | zero => rfl
  | succ k => rw [cmF, if_neg h]
theorem cmF_on {f : Nat → Int} {L a b n : Nat} (hn : n < 258) (h : b + n < L ∧ f (a + n) = f (b + n)) : cmF f L a b (258 - n) n = cmF f L a b (258 - (n + 1)) (n + 1) := by
  rw [show 258 - n = (258 - (n + 1)) + 1 by omega, cmF, if_pos h]
set_option maxRecDepth 100000 in
set_option maxHeartbeats 4000000 in
theorem common_any (A : Option Addr) (c : Nat) (l : List Int) (a b : Nat) (W : World) (h : Rd W W.heap.size 1 A l.length (bytesV l)) (hm : l.length ≤ 2000000) (hab : a < b) (hb : b ≤ l.length) :
    Calls Tryz.prog 148 #[.slice A l.length c, .int .i64 (a : Int), .int .i64 (b : Int)] W fun e w' => e = .returned (.int .i64 ((lcpM (fun i => l.getD i 0) l.length a b : Nat) : Int)) ∧ Below W.heap.size W w' := by
  have H := hid h
  clear h
  go_enter Tryz.func148, Tryz.ntmps148
  go_wp2
  go_loopw [7] (fun i wr => ∃ n : Nat, n ≤ 258 ∧ i = .int .i64 (n : Int) ∧ Hid (lcpM (fun i => l.getD i 0) l.length a b = cmF (fun i => l.getD i 0) l.length a b (258 - n) n) ∧ Hid (Below W.heap.size W wr)) (fun i _ => 258 - (intOf i).toNat)
  case atStart => exact ⟨0, by omega, rfl, hid rfl, hid (Below.refl _ _)⟩
  case round =>
    obtain ⟨n, hn, rfl, HE, HB⟩ := hrel
    by_cases h1 : n < 258
    · have d1 : decide (n < 258) = true := decide_eq_true h1
      have d1i : decide ((n : Int) < 258) = true := decide_eq_true (by omega)
      have HON := hid (fun h => HE.out.trans (cmF_on (f := fun i => l.getD i 0) (L := l.length) (a := a) (b := b) h1 h))
      have HOFF := hid (fun h => HE.out.trans (cmF_stop (f := fun i => l.getD i 0) (L := l.length) (a := a) (b := b) (k := 258 - n) (n := n) h))
      clear HE
      by_cases h2 : b + n < l.length
      · have d2 : decide ((b : Int) + (n : Int) < (l.length : Int)) = true := decide_eq_true (by omega)
        obtain ⟨bk, off, rfl, _, q1⟩ := byte_at (H.out.below HB.out (Nat.le_refl _)) (j := a + n) (by omega)
        obtain ⟨bk2, off2, e, _, q2⟩ := byte_at (H.out.below HB.out (Nat.le_refl _)) (j := b + n) h2
        injection e with e
        injection e with e1 e2
        subst e1 e2
        by_cases h3 : l.getD (a + n) 0 = l.getD (b + n) 0
        · have HE2 := hid (HON.out ⟨h2, h3⟩)
          rw [← h3] at q2
          generalize l.getD (a + n) 0 = x at *
          clear HON HOFF h3
          go_upto_region 2 with (fail)
          go_quiet (fail)
          go_wp2
          go_roundw
          case rel => exact ⟨n + 1, by omega, by go_num, HE2, hid (below_drewN HB.out _)⟩
          case measure => simp [intOf]; omega
        · have HE2 := hid (HOFF.out fun h => h3 h.2)
          have HR := hid (show Ending.returned (Value.int .i64 (n : Int)) = Ending.returned (.int .i64 ((lcpM (fun i => l.getD i 0) l.length a b : Nat) : Int)) by rw [HE2.out])
          generalize l.getD (a + n) 0 = x at *
          generalize l.getD (b + n) 0 = y at *
          have d3 : (x == y) = false := by rw [beq_eq_false_iff_ne]; exact h3
          clear HON HOFF h3
          go_upto_region 2 with (fail)
          go_quiet (fail)
          go_wp2
          go_ret
          exact ⟨HR.out, below_drewN HB.out _⟩
      · have d2 : decide ((b : Int) + (n : Int) < (l.length : Int)) = false := decide_eq_false (by omega)
        have HE2 := hid (HOFF.out fun h => h2 h.1)
        have HR := hid (show Ending.returned (Value.int .i64 (n : Int)) = Ending.returned (.int .i64 ((lcpM (fun i => l.getD i 0) l.length a b : Nat) : Int)) by rw [HE2.out])
        clear HON HOFF
        go_upto_region 2 with (fail)
        go_quiet (fail)
        go_wp2
        go_ret
        exact ⟨HR.out, below_drewN HB.out _⟩
    · have d1 : decide (n < 258) = false := decide_eq_false h1
      obtain rfl : n = 258 := by omega
      have HE2 := hid (HE.out.trans (rfl : _ = 258))
      have HR := hid (show Ending.returned (Value.int .i64 (258 : Int)) = Ending.returned (.int .i64 ((lcpM (fun i => l.getD i 0) l.length a b : Nat) : Int)) by rw [HE2.out]; rfl)
      clear HE
      go_upto_region 2 with (fail)
      go_quiet (fail)
      go_wp2
      go_ret
      exact ⟨HR.out, below_drewN HB.out _⟩
end Go.Proofs.YtoppjcmkhhkbmaaGreat

namespace Go.Proofs.YtoppjcmkhhkbmaaGreat
open Go.ChangeShapes Go.WideShapes Go.ChangeAt Go.RowKit Go.WideMaps Go.Proofs.YtoppjcmkhhkbmaaGreat

theorem arr3 : ArrKey Tryz.prog 177 5 3 := ⟨Tryz.underlying177, by kernel_rfl, by kernel_rfl, by kernel_rfl⟩
theorem law_arr {P : Program} {k e : TypeId} {n : Nat} (hl : laidOutB P = true) (h : P.underlying k = some (.array n e)) (hrow : k < P.types.size) (hk : P.keyTypeAt 2 k = true) : KeyLaw P k := deep_law_laid hl (m := 2) (by omega) hrow hk (by rw [h])
theorem row3 : (177 : TypeId) < Tryz.prog.types.size := of_decide_eq_true (by kernel_rfl)
theorem kt3 : Tryz.prog.keyTypeAt 2 177 = true := by kernel_rfl
theorem keyed3 : Go.Maps.Keyed Tryz.prog 177 := Go.Maps.Keyed.of_law (law_arr laidOut arr3.hu row3 kt3)
def key3 (a b c : Int) : Value := .agg #[.int .u8 a, .int .u8 b, .int .u8 c]
def lit3 (a b c : Int) : Lit := .string (keyBytes [.int .u8 a, .int .u8 b, .int .u8 c])
theorem wf_u8 {a : Int} (h : isB a) : (Lit.int .u8 a).wf = true := by
  obtain ⟨h1, h2⟩ := h
  simp only [Lit.wf, Bool.and_eq_true, decide_eq_true_eq]
  exact ⟨h1, h2⟩
theorem keyOf3 {a b c : Int} (ha : isB a) (hb : isB b) (hc : isB c) : keyOf Tryz.prog 177 (key3 a b c) = some (lit3 a b c) := by
  have A := arr3
  have hsz : ∃ m, Tryz.prog.types.size = m + 1 := ⟨Tryz.prog.types.size - 1, by have : 0 < Tryz.prog.types.size := of_decide_eq_true (by kernel_rfl); omega⟩
  have hkt := A.keyType hsz
  have he := Tryz.underlying5
  have wa := wf_u8 ha
  have wb := wf_u8 hb
  have wc := wf_u8 hc
  obtain ⟨m, hm⟩ := hsz
  unfold keyOf key3 lit3
  simp only [A.hu]
  rw [if_pos (by simp [hkt, Value.formed, A.hu, A.size]), hm]
  unfold Program.keyLits
  simp only [A.hu, Value.cells]
  rw [if_pos (by rw [A.size]; rfl), show List.range 3 = [0, 1, 2] from rfl, List.mapM_cons, List.mapM_cons, List.mapM_cons, List.mapM_nil]
  simp [A.one, Program.keyLits, he, wa, wb, wc]
theorem lit3_ne {a b c x y z : Int} (ha : isB a) (hb : isB b) (hc : isB c) (hx : isB x) (hy : isB y) (hz : isB z) (h : ¬ (x = a ∧ y = b ∧ z = c)) : lit3 x y z ≠ lit3 a b c := fun e => by
  have h1 := keyOf3 ha hb hc
  have h2 := keyOf3 hx hy hz
  rw [e] at h2
  have h3 := keyed3.inj h2 h1
  unfold key3 at h3
  simp only [Value.agg.injEq, Array.mk.injEq, List.cons.injEq, Value.int.injEq, true_and, and_true] at h3
  exact h h3
/-- a map of such keys: φ says one more than the place, or 0: none -/
def MapV (w : World) (g n : Nat) (φ : Int → Int → Int → Nat) : Prop :=
  ∃ D : DataW Unit, w.ownsMap Tryz.prog 177 (plainElem Tryz.prog 3) g n D ∧ Maps.IsMap D ∧ ∀ a b c, isB a → isB b → isB c →
    Maps.has D (lit3 a b c) = decide (φ a b c ≠ 0) ∧ (φ a b c ≠ 0 → D.atKey (lit3 a b c) (.lit (.int .i64 0)) = .lit (.int .i64 ((φ a b c : Int) - 1)))
theorem MapV.made (w : World) : MapV (w.alloc (.map #[] 0)) w.heap.size 0 (fun _ _ _ => 0) :=
  ⟨.map [], World.ownsMap_made w _ _ _, Maps.isMap_empty, fun _ _ _ _ _ _ => ⟨rfl, fun h => absurd rfl h⟩⟩
theorem MapV.lt {w : World} {g n : Nat} {φ : Int → Int → Int → Nat} (h : MapV w g n φ) : g < w.heap.size := by
  obtain ⟨D, h1, _⟩ := h
  exact h1.lt
theorem MapV.kept {w w' : World} {g n : Nat} {φ : Int → Int → Int → Nat} {row : Option Nat} (h : MapV w g n φ) (hg : w.grownBy w' row) (hne : some g ≠ row) : MapV w' g n φ := by
  obtain ⟨D, h1, h2⟩ := h
  exact ⟨D, h1.kept hg hne, h2⟩
theorem zero3 (w : World) : (zeroValue 3).run Tryz.prog w = .ok (.int .i64 0) w := by kernel_rfl
theorem MapV.look {w : World} {g n : Nat} {φ : Int → Int → Int → Nat} (h : MapV w g n φ) {a b c : Int} (ha : isB a) (hb : isB b) (hc : isB c) :
    ∃ v, (Instr.lookup 176 (.map (some g)) (key3 a b c) true).run Tryz.prog w = .ok (.tuple #[.int .i64 v, .bool (decide (φ a b c ≠ 0))]) w ∧ (φ a b c ≠ 0 → v = (φ a b c : Int) - 1) := by
  obtain ⟨D, h1, h2, h3⟩ := h
  have hz := zero3 w
  obtain ⟨v, ps, hrun, hv⟩ := h1.look_ok (t := 176) keyed3 Tryz.underlying176 hz (plainElem_int Tryz.underlying3 (by decide)) (keyOf3 ha hb hc)
  obtain ⟨x, rfl, hx, _⟩ := plainElem_int_inv Tryz.underlying3 hv
  obtain ⟨h4, h5⟩ := h3 a b c ha hb hc
  rw [h4] at hrun
  refine ⟨x, hrun, fun h0 => ?_⟩
  have e := h5 h0
  simp only [Prod.mk.injEq] at hx
  have hx := hx.1
  rw [e] at hx
  simp only [DataW.lit.injEq, Lit.int.injEq, true_and] at hx
  exact hx.symm
theorem MapV.store {w : World} {g n : Nat} {φ : Int → Int → Int → Nat} (h : MapV w g n φ) (hn : n < 1000000) {a b c : Int} (ha : isB a) (hb : isB b) (hc : isB c) (m : Nat) (hm : m ≤ 2000000) :
    ∃ w', (Instr.mapUpdate 176 (.map (some g)) (key3 a b c) (.int .i64 (m : Int))).run Tryz.prog w = .ok () w' ∧ MapV w' g (n + 1) (fun x y z => if x = a ∧ y = b ∧ z = c then m + 1 else φ x y z) ∧ w.grownBy w' (some g) := by
  obtain ⟨D, h1, h2, h3⟩ := h
  obtain ⟨w', hrun, O, G⟩ := h1.update (t := 176) keyed3 Tryz.underlying176 (by unfold maxLen; omega) (keyOf3 ha hb hc) (plainElem_int (a := (m : Int)) Tryz.underlying3 (WalkArith.wf_i64 ⟨by omega, by omega⟩))
  refine ⟨w', hrun, ⟨_, O, h2.put _ _, fun x y z hx hy hz => ?_⟩, G⟩
  by_cases e : x = a ∧ y = b ∧ z = c
  · obtain ⟨rfl, rfl, rfl⟩ := e
    simp only [and_self, if_true]
    refine ⟨?_, fun _ => ?_⟩
    · rw [Maps.has_put_same h2 (show WideAt.IsKeyLit (lit3 x y z) from trivial), decide_eq_true (Nat.succ_ne_zero m)]
    · rw [Maps.atKey_put_same h2 (show WideAt.IsKeyLit (lit3 x y z) from trivial)]
      rw [show ((m + 1 : Nat) : Int) - 1 = (m : Int) by omega]
  · simp only [e, if_false]
    have hne := lit3_ne ha hb hc hx hy hz e
    rw [Maps.has_put_other hne, Maps.atKey_put_other hne]
    exact h3 x y z hx hy hz
/-- one more than the last place ahead of m with these three bytes -/
def lastK (f : Nat → Int) (a b c : Int) : Nat → Nat
  | 0 => 0
  | m + 1 => if a = f m ∧ b = f (m + 1) ∧ c = f (m + 2) then m + 1 else lastK f a b c m
theorem last_pv {f : Nat → Int} {L p : Nat} (h : p + 3 ≤ L) : ∀ m, lastK f (f p) (f (p + 1)) (f (p + 2)) m = pvF f L p m
  | 0 => rfl
  | m + 1 => by
    rw [lastK, pvF, last_pv h m]
    by_cases e : same3 f L m p
    · rw [if_pos e, if_pos ⟨e.2.1.symm, e.2.2.1.symm, e.2.2.2.symm⟩]
    · rw [if_neg e, if_neg fun ⟨a, b, c⟩ => e ⟨h, a.symm, b.symm, c.symm⟩]
theorem pv_none {f : Nat → Int} {L p : Nat} (h : ¬ p + 3 ≤ L) : pvM f L p = 0 := by
  unfold pvM
  have key : ∀ m, pvF f L p m = 0 := fun m => by
    induction m with
    | zero => rfl
    | succ m ih => rw [pvF, if_neg (fun e => h e.1), ih]
  exact key p
theorem pv_le (f : Nat → Int) (L p : Nat) : pvM f L p ≤ p := (pvF_spec f L p p).1
end Go.Proofs.YtoppjcmkhhkbmaaGreat

namespace Go.Proofs.YtoppjcmkhhkbmaaGreat
open Go.ChangeShapes Go.WideShapes Go.ChangeAt Go.RowKit Go.Proofs.YtoppjcmkhhkbmaaGreat

/-- the places ahead, as far as they are known -/
def pvRow (l : List Int) (j : Nat) : List Int := (List.range l.length).map fun i => if i < j then (pvM (txF l) l.length i : Int) - 1 else 0
theorem pvRow_len (l : List Int) (j : Nat) : (pvRow l j).length = l.length := by unfold pvRow; rw [List.length_map, List.length_range]
theorem pvRow_zero (l : List Int) : intsV (pvRow l 0) = List.replicate l.length (.int .i64 0) := by
  refine List.ext_getElem (by rw [intsV_length, pvRow_len, List.length_replicate]) fun i h1 h2 => ?_
  unfold intsV pvRow
  simp
theorem pvRow_get (l : List Int) (j : Nat) {i : Nat} (hi : i < l.length) : (intsV (pvRow l j))[i]? = some (.int .i64 (if i < j then (pvM (txF l) l.length i : Int) - 1 else 0)) := by
  unfold intsV pvRow
  rw [List.getElem?_map, List.getElem?_map, List.getElem?_range hi]
  rfl
theorem pvRow_at (l : List Int) (j : Nat) {i : Nat} (hi : i < l.length) : (intsV (pvRow l j)).toArray[i]? = some (.int .i64 (if i < j then (pvM (txF l) l.length i : Int) - 1 else 0)) := by
  rw [List.getElem?_toArray, pvRow_get l j hi]
theorem pvRow_set (l : List Int) {j : Nat} (u : Int) (hu : u = (pvM (txF l) l.length j : Int) - 1) : (intsV (pvRow l j)).toArray.setIfInBounds j (.int .i64 u) = (intsV (pvRow l (j + 1))).toArray := by
  rw [List.setIfInBounds_toArray]
  congr 1
  refine List.ext_getElem? fun i => ?_
  rw [List.getElem?_set]
  have hl : (intsV (pvRow l j)).length = l.length := by rw [intsV_length, pvRow_len]
  have hl2 : (intsV (pvRow l (j + 1))).length = l.length := by rw [intsV_length, pvRow_len]
  by_cases hi : i < l.length
  · rw [pvRow_get l j hi, pvRow_get l (j + 1) hi]
    by_cases e : j = i
    · subst e
      rw [if_pos rfl, if_pos (by omega), if_pos (Nat.lt_succ_self j), hu]
    · rw [if_neg e]
      by_cases e2 : i < j
      · rw [if_pos e2, if_pos (by omega)]
      · rw [if_neg e2, if_neg (by omega)]
  · rw [List.getElem?_eq_none (by omega), List.getElem?_eq_none (by omega)]
    split
    next h => rw [if_neg (by omega)]
    next h => rfl
/-- the text's own bytes within the blocks from B to T -/
def TxB (w : World) (B T : Nat) (A : Option Addr) (l : List Int) : Prop := l = [] ∨ ∃ (g : Nat) (cur : Array Value), A = some ⟨g, 0, none⟩ ∧ B ≤ g ∧ g < T ∧ Blk w g 5 cur ∧ ∀ (j : Nat) (u : Value), (bytesV l)[j]? = some u → cur[j]? = some u
theorem TxB.rd {w : World} {B T : Nat} {A : Option Addr} {l : List Int} (h : TxB w B T A l) : Rd w T 1 A l.length (bytesV l) := by
  refine ⟨by simp [bytesV], fun hp => ?_⟩
  rcases h with rfl | ⟨g, cur, hA, _, hg, hb, hc⟩
  · exact absurd hp (Nat.lt_irrefl 0)
  · exact ⟨g, 0, hA, hg, fun j u hu => by rw [Nat.zero_add, hb.cell j]; exact hc j u hu⟩
theorem TxB.of_own {w : World} {B c : Nat} {A : Option Addr} {l : List Int} (h : w.ownsRow B 5 1 (.slice A l.length c) l.length (bytesV l)) : TxB w B w.heap.size A l := by
  rcases h.2 with ⟨_, h0⟩ | ⟨g, cap, cur, hv, hb, hh, _, _, hs, ht⟩
  · exact .inl (List.eq_nil_of_length_eq_zero h0)
  · injection hv with hv _ _
    refine .inr ⟨g, cur, hv, hb, (Array.getElem?_eq_some_iff.1 hh).1, hh, fun j u hu => ?_⟩
    have hj : j < l.length := by rw [← bytesV_length l]; exact (List.getElem?_eq_some_iff.1 hu).1
    rw [← ht, List.getElem?_take_of_lt (by omega), Array.getElem?_toList] at hu
    exact hu
/-- the blocks from B to T have not turned -/
def KpR (B T : Nat) (w w' : World) : Prop := ∀ k, B ≤ k → k < T → w'.heap[k]? = w.heap[k]?
theorem KpR.refl (B T : Nat) (w : World) : KpR B T w w := fun _ _ _ => rfl
theorem KpR.trans {B T : Nat} {a b c : World} (h : KpR B T a b) (k : KpR B T b c) : KpR B T a c := fun i h1 h2 => (k i h1 h2).trans (h i h1 h2)
theorem KpR.below {B T C : Nat} {a b : World} (h : Below C a b) (hC : T ≤ C) : KpR B T a b := fun i _ h2 => h.block i (by omega)
/-- a Finder within the blocks from B to T -/
def FnR (w : World) (B T g : Nat) (l : List Int) : Prop := ∃ A c gp, (B ≤ g ∧ g < T ∧ B ≤ gp ∧ gp < T ∧ l.length ≤ c ∧ (A = none → c = 0)) ∧ Blk w g 175 #[.slice A l.length c, .slice (some ⟨gp, 0, none⟩) l.length l.length] ∧ Blk w gp 3 (intsV (pvRow l l.length)).toArray ∧ TxB w B T A l
theorem FnR.keep {w w' : World} {B T g : Nat} {l : List Int} (h : FnR w B T g l) (hk : KpR B T w w') : FnR w' B T g l := by
  obtain ⟨A, c, gp, h0, h1, h2, h3⟩ := h
  refine ⟨A, c, gp, h0, (hk g h0.1 h0.2.1).trans h1, (hk gp h0.2.2.1 h0.2.2.2.1).trans h2, ?_⟩
  rcases h3 with h3 | ⟨ga, cur, hA, hb, hg, hbl, hc⟩
  · exact .inl h3
  · exact .inr ⟨ga, cur, hA, hb, hg, (hk ga hb hg).trans hbl, hc⟩
theorem room_int (n : Nat) (hn : n ≤ 2000000) : ∀ w : World, (Instr.makeSlice 65 (.int .i64 (n : Int)) (.int .i64 (n : Int))).run Tryz.prog w = .ok (.slice (some ⟨w.heap.size, 0, none⟩) n n) (w.alloc (.cells (List.replicate n (Value.int .i64 0)).toArray 3)) := by
  intro w
  obtain ⟨i0, hi0, hz0, hz1, hz2⟩ := info_parts int_info
  have h := run_make (P := Tryz.prog) w 65 3 i0 (.int .i64 0) Tryz.underlying65 hi0 hz0 .i64 .i64 (n : Int) (n : Int) (by omega) (by omega) (by rw [hz2]; omega) (by omega)
  rw [hz1, Int.toNat_natCast, made_list _ _ rfl] at h
  exact h
theorem set_twice (a : Array Value) (i : Nat) (u v : Value) : (a.setIfInBounds i u).setIfInBounds i v = a.setIfInBounds i v := by simp
/-- what NewFinder's loop holds -/
structure FnS (W w : World) (A0 A : Option Addr) (c g gp gm : Nat) (l : List Int) (pr : Array Value) (m : Nat) : Prop where
  src : Rd w W.heap.size 1 A0 l.length (bytesV l)
  box : Blk w g 175 #[.slice A l.length c, .slice (some ⟨gp, 0, none⟩) l.length l.length]
  prev : Blk w gp 3 pr
  text : w.ownsRow W.heap.size 5 1 (.slice A l.length c) l.length (bytesV l)
  map : m + 2 ≤ l.length → MapV w gm m (fun x y z => lastK (txF l) x y z m)
  lt : gm < w.heap.size
  below : Below W.heap.size W w
theorem FnS.step {W w w' : World} {A0 A : Option Addr} {c g gp gm : Nat} {l : List Int} {pr pr' : Array Value} {m m' : Nat} {row : Option Nat} (h : FnS W w A0 A c g gp gm l pr m) (hg : w.grownBy w' row) (hr : ∀ k, row = some k → W.heap.size ≤ k ∧ k ≠ g) (ht : Value.ownBlock (.slice A l.length c) ≠ row ∨ Value.ownBlock (.slice A l.length c) = none)
    (hp : Blk w' gp 3 pr') (hm : m' + 2 ≤ l.length → MapV w' gm m' (fun x y z => lastK (txF l) x y z m')) : FnS W w' A0 A c g gp gm l pr' m' :=
  ⟨h.src.grown hg h.below.size (fun k e => (hr k e).1), h.box.grown hg (fun e => (hr g e.symm).2 rfl), hp, h.text.kept hg (ht.symm), hm, Nat.lt_of_lt_of_le h.lt hg.size,
   h.below.trans ⟨hg.os, hg.tape, hg.output, hg.size, fun k hk => hg.block k (Nat.lt_of_lt_of_le hk h.below.size) (fun e => by have := (hr k e.symm).1; omega)⟩⟩
theorem setCell_grown (W : World) (b i : Nat) (v : Value) : W.grownBy (W.setCell ⟨b, i, none⟩ v) (some b) :=
  ⟨rfl, rfl, rfl, by rw [World.size_setCell]; exact Nat.le_refl _, fun k _ hk => Below.heap_setCell W ⟨b, i, none⟩ v k (fun e => hk (by rw [e]))⟩
theorem own_map_ne {w : World} {B e size n g k : Nat} {v : Value} {xs : List Value} {φ : Int → Int → Int → Nat} (h : w.ownsRow B e size v n xs) (hm : MapV w g k φ) : v.ownBlock ≠ some g := fun he => by
  obtain ⟨D, ⟨es, clock, hb, _⟩, _⟩ := hm
  rcases h.2 with ⟨h1, _⟩ | ⟨p, cap, cur, h1, _, hh, _⟩
  · rw [h1] at he; cases he
  · rw [h1] at he
    have he : some p = some g := he
    injection he with he
    subst he
    rw [hb] at hh
    cases hh
theorem blk_neQ {w : World} {g h : Nat} {t u : TypeId} {cs ds : Array Value} (a : Blk w g t cs) (b : Blk w h u ds) (ht : t ≠ u) : g ≠ h := fun e => by
  subst e
  have h2 := a.symm.trans b
  injection h2 with h2
  injection h2 with _ h2
  exact ht h2
theorem FnS.store {W w : World} {A0 A : Option Addr} {c g gp gm : Nat} {l : List Int} {pr : Array Value} {m : Nat} (h : FnS W w A0 A c g gp gm l pr m) (hgp : W.heap.size ≤ gp) (hgm : gp ≠ gm) (i : Nat) (u : Value) : FnS W (w.setCell ⟨gp, i, none⟩ u) A0 A c g gp gm l (pr.setIfInBounds i u) m :=
  h.step (setCell_grown w gp i u) (fun k e => by injection e with e; subst e; exact ⟨hgp, blk_neQ h.prev h.box (by decide)⟩) (.inl (own_blk_ne h.text h.prev (by decide)).symm) (h.prev.set_ i u) (fun h2 => (h.map h2).kept (setCell_grown w gp i u) (fun e => by injection e with e; exact hgm e.symm))
theorem FnS.alloc {W w : World} {A0 A : Option Addr} {c g gp gm : Nat} {l : List Int} {pr : Array Value} {m : Nat} (h : FnS W w A0 A c g gp gm l pr m) {w' : World} (hb : Below w.heap.size w w') : FnS W w' A0 A c g gp gm l pr m :=
  h.step (row := none) ⟨hb.os, hb.tape, hb.output, hb.size, fun k hk _ => hb.block k hk⟩ (fun _ e => by cases e) (by cases hv : Value.ownBlock (.slice A l.length c) with | none => exact .inr rfl | some x => exact .inl (by simp)) (h.prev.below hb h.prev.lt) (fun h2 => (h.map h2).kept (row := none) ⟨hb.os, hb.tape, hb.output, hb.size, fun k hk _ => hb.block k hk⟩ (by simp))
set_option maxRecDepth 100000 in
set_option maxHeartbeats 8000000 in
theorem finder_any (A : Option Addr) (c : Nat) (l : List Int) (W : World) (h : Rd W W.heap.size 1 A l.length (bytesV l)) (hc : l.length ≤ c) (hA : A = none → c = 0) (hm : l.length ≤ 1000000) (hB : ∀ x ∈ l, isB x) :
    Calls Tryz.prog 71 #[.slice A l.length c] W fun e w' => ∃ g, e = .returned (.tuple #[.pointer (some ⟨g, 0, none⟩), .nilIface]) ∧ FnR w' W.heap.size w'.heap.size g l ∧ Below W.heap.size W w' := by
  have H := hid h
  have HB := hid hB
  have HcA := hid hA
  have hmk := room_int l.length (by omega)
  have CL := hid (fun (w : World) (hb : Below W.heap.size W w) => clone_any A c l w (Rd.more (h.below hb (Nat.le_refl _)) hb.size) hA (by omega))
  have d0 : decide ((1048576 : Int) < (l.length : Int)) = false := decide_eq_false (by omega)
  clear h hB hA
  obtain ⟨n, hn⟩ : ∃ n, n = l.length := ⟨_, rfl⟩
  go_enter Tryz.func71, Tryz.ntmps71
  go_upto_region 3 with (fail)
  refine set_lit (S := (((Option Addr × Nat) × Nat) × Nat) × World) [1, 4, 6]
    (fun x i => [.slice A l.length c, .slice x.1.1.1.1 l.length x.1.1.1.2, .slice A l.length c, .int .i64 (l.length : Int), .slice (some ⟨x.1.1.2, 0, none⟩) l.length l.length, .agg #[.slice x.1.1.1.1 l.length x.1.1.1.2, .slice (some ⟨x.1.1.2, 0, none⟩) l.length l.length], .pointer (some ⟨x.1.2, 0, none⟩), .pointer (some ⟨x.1.2, 0, none⟩)].getD i undef)
    (fun x => x.2) (fun lz x => Below W.heap.size W x.2 ∧ (lz.getD 0 false = true → x.2.ownsRow W.heap.size 5 1 (.slice x.1.1.1.1 l.length x.1.1.1.2) l.length (bytesV l)) ∧ (lz.getD 1 false = true → W.heap.size ≤ x.1.1.2 ∧ Blk x.2 x.1.1.2 3 (List.replicate l.length (Value.int .i64 0)).toArray) ∧ (lz.getD 2 false = true → (lz.getD 0 false = true ∧ lz.getD 1 false = true) ∧ W.heap.size ≤ x.1.2 ∧ Blk x.2 x.1.2 175 #[.slice x.1.1.1.1 l.length x.1.1.1.2, .slice (some ⟨x.1.1.2, 0, none⟩) l.length l.length]))
    (fun i => if i = 5 then [1, 4] else if i = 6 then [1, 4] else if i = 7 then [6, 1, 4] else []) ?af (((((none, 0), 0), 0), W.drew)) (by kernel_rfl) (by kernel_rfl) (by kernel_rfl) (by kernel_rfl) (by kernel_rfl) rfl ?hR0 ?haf ?hy ?hQ
  case haf =>
    intro x
    simp only [actOf, dstAt, List.length_cons, List.length_nil, Nat.reduceAdd, List.getElem?_cons_zero, List.getElem?_cons_succ, Option.bind_some, if_true, List.getD_cons_zero, List.getD_cons_succ, Act.put, List.setIfInBounds_toArray, List.set_cons_zero, List.set_cons_succ]
    rfl
  case hR0 => exact ⟨(Below.refl _ _).drew, fun h => absurd h (by decide), fun h => absurd h (by decide), fun h => absurd h (by decide)⟩
  case hy =>
    intro s xw hR
    obtain ⟨⟨⟨⟨AX, cX⟩, gp⟩, g⟩, wx⟩ := xw
    obtain ⟨hb, r1, r4, r6⟩ := hR
    have hb : Below W.heap.size W wx := hb
    have r1 : s 1 = true → wx.ownsRow W.heap.size 5 1 (.slice AX l.length cX) l.length (bytesV l) := r1
    have r4 : s 4 = true → W.heap.size ≤ gp ∧ Blk wx gp 3 (List.replicate l.length (Value.int .i64 0)).toArray := r4
    have r6 : s 6 = true → (s 1 = true ∧ s 4 = true) ∧ W.heap.size ≤ g ∧ Blk wx g 175 #[.slice AX l.length cX, .slice (some ⟨gp, 0, none⟩) l.length l.length] := r6
    have hsz := hb.size
    simp only [AllY]
    refine ⟨?_, ?_, ?_, ?_, ?_, ?_, ?_, ?_, trivial⟩
    case refine_2 =>
      intro h1 hd
      refine .inr (.inr ⟨57, #[.slice A l.length c], wx, by simp [go_sem, Act.eval], ?_⟩)
      refine (CL.out wx hb).mono ?_
      rintro e w5 ⟨A5, c5, rfl, ho5, hb5⟩
      refine ⟨_, rfl, ((((A5, c5), gp), g), w5), ⟨hb.trans (hb5.mono hsz), fun _ => own_base ho5 hsz, fun h => ?_, fun h => ?_⟩, rfl, rfl, fun j hj hc hne => ?_⟩
      · have h : (s 4 || 4 == 1) = true := h
        simp at h
        exact ⟨(r4 h).1, (r4 h).2.below hb5 (r4 h).2.lt⟩
      · have h : (s 6 || 6 == 1) = true := h
        simp at h
        exact absurd (r6 h).1.1 (by rw [h1]; decide)
      · have hj : j < 8 := hj
        rcases (show j = 0 ∨ j = 1 ∨ j = 2 ∨ j = 3 ∨ j = 4 ∨ j = 5 ∨ j = 6 ∨ j = 7 by omega) with rfl | rfl | rfl | rfl | rfl | rfl | rfl | rfl <;> first | rfl | exact absurd rfl hne | exact absurd hc (by decide)
    case refine_5 =>
      intro h4 hd
      refine .inl ⟨.slice (some ⟨wx.heap.size, 0, none⟩) l.length l.length, wx.alloc (.cells (List.replicate l.length (Value.int .i64 0)).toArray 3), by simp [execOp, go_sem, Act.eval, hmk], ((((AX, cX), wx.heap.size), g), wx.alloc (.cells (List.replicate l.length (Value.int .i64 0)).toArray 3)), ⟨hb.alloc hsz _, fun h => ?_, fun _ => ⟨hsz, Blk.new _ _ _⟩, fun h => ?_⟩, rfl, rfl, fun j hj hc hne => ?_⟩
      · have h : (s 1 || 1 == 4) = true := h
        simp at h
        exact (r1 h).alloc _
      · have h : (s 6 || 6 == 4) = true := h
        simp at h
        exact absurd (r6 h).1.2 (by rw [h4]; decide)
      · have hj : j < 8 := hj
        rcases (show j = 0 ∨ j = 1 ∨ j = 2 ∨ j = 3 ∨ j = 4 ∨ j = 5 ∨ j = 6 ∨ j = 7 by omega) with rfl | rfl | rfl | rfl | rfl | rfl | rfl | rfl <;> first | rfl | exact absurd rfl hne | exact absurd hc (by decide)
    case refine_7 =>
      intro h6 hd
      have h1 := hd 1 (by decide)
      have h4 := hd 4 (by decide)
      refine .inl ⟨.pointer (some ⟨wx.heap.size, 0, none⟩), wx.alloc (.cells #[.slice AX l.length cX, .slice (some ⟨gp, 0, none⟩) l.length l.length] 175), by simp [execOp, go_sem, Act.eval], ((((AX, cX), gp), wx.heap.size), wx.alloc (.cells #[.slice AX l.length cX, .slice (some ⟨gp, 0, none⟩) l.length l.length] 175)), ⟨hb.alloc hsz _, fun _ => (r1 h1).alloc _, fun _ => ⟨(r4 h4).1, (r4 h4).2.alloc _⟩, fun _ => ⟨⟨by show (s 1 || 1 == 6) = true; rw [h1]; rfl, by show (s 4 || 4 == 6) = true; rw [h4]; rfl⟩, hsz, Blk.new _ _ _⟩⟩, rfl, rfl, fun j hj hc hne => ?_⟩
      · have hj : j < 8 := hj
        rcases (show j = 0 ∨ j = 1 ∨ j = 2 ∨ j = 3 ∨ j = 4 ∨ j = 5 ∨ j = 6 ∨ j = 7 by omega) with rfl | rfl | rfl | rfl | rfl | rfl | rfl | rfl <;> first | rfl | exact absurd rfl hne | exact absurd hc (by decide)
    all_goals exact fun _ _ => .inl (by simp [execOp, go_sem, Act.eval])
  case hQ =>
    rintro ⟨⟨⟨⟨A5, c5⟩, gp⟩, g⟩, w1⟩ hR
    obtain ⟨b1, r1, r4, r6⟩ := hR
    have b1 : Below W.heap.size W w1 := b1
    have T1 := hid (r1 rfl)
    have P1 := hid (r4 rfl)
    obtain ⟨_, hg2, kF⟩ := r6 rfl
    have F1 := hid kF
    have hg := P1.out.1
    have M1 := hid (MapV.made w1)
    have b2 := b1.alloc b1.size (.map #[] 0)
    have B2 := hid b2
    have T2 := hid (T1.out.alloc (.map #[] 0))
    have P2 := hid (P1.out.2.alloc (.map #[] 0))
    have F2 := hid (F1.out.alloc (.map #[] 0))
    have hgp := P1.out.2.lt
    have hgl := F1.out.lt
    clear b1 r1 r4 r6 kF b2
    have mkm := @run_makeMap Tryz.prog
    go_upto_region 5 with (fail)
    generalize w1.alloc (.map #[] 0) = w2 at *
    obtain ⟨gm, hgm⟩ : ∃ k, k = w1.heap.size := ⟨_, rfl⟩
    rw [← hgm] at M1 hgp hgl ⊢
    have hge := B2.out.size
    have hgmW : W.heap.size ≤ gm := by rw [hgm]; omega
    clear T1 P1 F1 hgm mkm
    have q0 := F2.out.cell 0
    have q1 := F2.out.cell 1
    simp only [List.getElem?_toArray, List.getElem?_cons_zero, List.getElem?_cons_succ] at q0 q1
    have lF := F2.out.lt
    have S0 : Hid (FnS W w2 A A5 c5 g gp gm l (intsV (pvRow l 0)).toArray 0) := hid ⟨H.out.below B2.out (Nat.le_refl _), F2.out, by rw [pvRow_zero]; exact P2.out, T2.out, fun _ => M1.out.kept (World.grownBy.refl w2 none) (by simp), M1.out.lt, B2.out⟩
    clear T2 P2 F2 M1 B2
    go_wp2_with fail
    go_loopw [27] (fun i wr => ∃ m : Nat, m ≤ l.length ∧ i = .int .i64 (m : Int) ∧ Hid (FnS W wr A A5 c5 g gp gm l (intsV (pvRow l m)).toArray m)) (fun i _ => l.length - (intOf i).toNat)
    case atStart => exact ⟨0, by omega, rfl, S0⟩
    case round =>
      obtain ⟨m, hmn, rfl, HS⟩ := hrel
      clear S0 q0 q1 lF
      by_cases h1 : m < l.length
      · have d1 : decide (m < l.length) = true := decide_eq_true h1
        have q0 := HS.out.box.cell 0
        have q1 := HS.out.box.cell 1
        simp only [List.getElem?_toArray, List.getElem?_cons_zero, List.getElem?_cons_succ] at q0 q1
        have lF := HS.out.box.lt
        have lP := HS.out.prev.lt
        have p0 := (HS.out.prev.cell m).trans (pvRow_at l m h1)
        rw [if_neg (Nat.lt_irrefl m)] at p0
        have fp := HS.out.prev.frozen m
        go_upto_region 9 with (fail)
        have H3 := hid (HS.out.store hg (by omega) m (.int .i64 (-1)))
        have f3 : (wr.setCell ⟨gp, m, none⟩ (.int .i64 (-1))).heap.size = wr.heap.size := World.size_setCell ..
        generalize wr.setCell ⟨gp, m, none⟩ (.int .i64 (-1)) = w3 at *
        clear HS q0 q1 lF lP p0 fp
        by_cases h2 : m + 3 ≤ l.length
        · have d2 : decide ((l.length : Int) < (m : Int) + 3) = false := decide_eq_false (by omega)
          obtain ⟨A3, hs3, r3, _⟩ := slcB_l l (m : Int) m (l.length - m) rfl rfl (by omega) hc HcA.out H3.out.src
          rw [show l.length - m = (l.drop m).length by rw [List.length_drop]] at r3
          have hlm : (l.drop m).length = l.length - m := List.length_drop
          have hget : ∀ j, (l.drop m).getD j 0 = l.getD (m + j) 0 := fun j => by rw [List.getD_eq_getElem?_getD, List.getElem?_drop, ← List.getD_eq_getElem?_getD]
          obtain ⟨bk, off, rfl, hbk, k0⟩ := byte_at r3 (j := 0) (by omega)
          obtain ⟨bk1, off1, e1, _, k1⟩ := byte_at r3 (j := 1) (by omega)
          obtain ⟨bk2, off2, e2, _, k2⟩ := byte_at r3 (j := 2) (by omega)
          injection e1 with e1
          injection e1 with e1 e1'
          injection e2 with e2
          injection e2 with e2 e2'
          subst e1 e1' e2 e2'
          rw [hget] at k0 k1 k2
          rw [Nat.add_zero] at k0
          have hat := fun (w : World) => run_arrayAt (P := Tryz.prog) w 177 5 3 (some ⟨bk, off, none⟩) (l.length - m) (c - m) Tryz.underlying177 (by omega)
          have b0 := getD_isB HB.out m
          have b1 := getD_isB HB.out (m + 1)
          have b2 := getD_isB HB.out (m + 2)
          have hla : ∀ x, lastK (txF l) (l.getD m 0) (l.getD (m + 1) 0) (l.getD (m + 2) 0) x = pvF (txF l) l.length m x := fun x => last_pv h2 x
          have Hla := hid hla
          clear hla hget r3
          have Hx := hid (show ∀ y z u, (fun x y z => lastK (txF l) x y z (m + 1)) y z u = if y = l.getD m 0 ∧ z = l.getD (m + 1) 0 ∧ u = l.getD (m + 2) 0 then m + 1 else lastK (txF l) y z u m from fun _ _ _ => rfl)
          generalize l.getD m 0 = x0 at *
          generalize l.getD (m + 1) 0 = x1 at *
          generalize l.getD (m + 2) 0 = x2 at *
          go_upto_region 11 with (first | (simp only [hat]) | fail)
          have H5 := hid (H3.out.alloc ((Below.refl _ w3).alloc (Nat.le_refl _) (.cells #[.int .u8 x0, .int .u8 x1, .int .u8 x2] 177)))
          have KB := hid (Blk.new w3 177 #[.int .u8 x0, .int .u8 x1, .int .u8 x2])
          generalize w3.alloc (.cells #[.int .u8 x0, .int .u8 x1, .int .u8 x2] 177) = w5 at *
          rw [f3] at KB
          obtain ⟨kb, hkb⟩ : ∃ k, k = wr.heap.size := ⟨_, rfl⟩
          rw [← hkb] at KB ⊢
          clear H3 f3 hkb k0 k1 k2 hs3 hat
          obtain ⟨v, hr5, hv⟩ := (H5.out.map (by omega)).look b0 b1 b2
          have hr5 : (Instr.lookup 176 (.map (some gm)) (.agg #[.int .u8 x0, .int .u8 x1, .int .u8 x2]) true).run Tryz.prog w5 = .ok (.tuple #[.int .i64 v, .bool (decide (lastK (txF l) x0 x1 x2 m ≠ 0))]) w5 := hr5
          have hv : lastK (txF l) x0 x1 x2 m ≠ 0 → v = (lastK (txF l) x0 x1 x2 m : Int) - 1 := hv
          have q0 := KB.out.cell 0
          have q1 := KB.out.cell 1
          have q2 := KB.out.cell 2
          simp only [List.getElem?_toArray, List.getElem?_cons_zero, List.getElem?_cons_succ] at q0 q1 q2
          have HLA := hid (show lastK (txF l) x0 x1 x2 m = pvM (txF l) l.length m from Hla.out m)
          have hpl := pv_le (txF l) l.length m
          rw [HLA.out] at hr5 hv
          clear Hla HLA
          generalize hpv : pvM (txF l) l.length m = pv at *
          have HPV := hid hpv
          clear hpv
          by_cases hp : pv = 0
          · have d3 : decide (pv ≠ 0) = false := decide_eq_false (fun h => h hp)
            rw [d3] at hr5
            have HU := hid (show (-1 : Int) = (pvM (txF l) l.length m : Int) - 1 by rw [HPV.out, hp]; rfl)
            have PP := hid H5.out.prev
            have H6 := H5
            clear H5 d3 hv HPV
            obtain ⟨w7, hr7, MV7, G7⟩ := (H6.out.map (by omega)).store (n := m) (by omega) b0 b1 b2 m (by omega)
            have hr7 : (Instr.mapUpdate 176 (.map (some gm)) (.agg #[.int .u8 x0, .int .u8 x1, .int .u8 x2]) (.int .i64 (m : Int))).run Tryz.prog w5 = .ok () w7 := hr7
            have H7 := hid (show FnS W w7 A A5 c5 g gp gm l (intsV (pvRow l (m + 1))).toArray (m + 1) from
              H6.out.step G7 (fun k e => by injection e with e; subst e; exact ⟨hgmW, by omega⟩) (.inl (own_map_ne H6.out.text (H6.out.map (by omega)))) (by rw [← pvRow_set l (-1) HU.out]; exact PP.out.grown G7 (by intro e; injection e with e; omega)) (fun _ => by rw [show (fun x y z => lastK (txF l) x y z (m + 1)) = fun y z u => if y = x0 ∧ z = x1 ∧ u = x2 then m + 1 else lastK (txF l) y z u m from funext fun y => funext fun z => funext fun u => Hx.out y z u]; exact MV7))
            clear H6 MV7 G7 Hx HU
            go_wp2
            go_roundw
            case rel => exact ⟨m + 1, by omega, by go_num, H7⟩
            case measure => simp [intOf]; omega

          · have d3 : decide (pv ≠ 0) = true := decide_eq_true hp
            rw [d3] at hr5
            have hv1 := hv hp
            have HU := hid (show v = (pvM (txF l) l.length m : Int) - 1 by rw [HPV.out]; exact hv1)
            clear hv1 hv
            have p1 := (H5.out.prev.cell m)
            rw [Array.getElem?_setIfInBounds_self, if_pos (by rw [List.size_toArray, intsV_length, pvRow_len]; exact h1)] at p1
            have fp := H5.out.prev.frozen m
            have q5 := H5.out.box.cell 0
            have q6 := H5.out.box.cell 1
            simp only [List.getElem?_toArray, List.getElem?_cons_zero, List.getElem?_cons_succ] at q5 q6
            have lF := H5.out.box.lt
            have lP := H5.out.prev.lt
            have hkP : kb ≠ gp := blk_neQ KB.out H5.out.prev (by decide)
            go_upto_region 14 with (fail)
            have H6 := hid (H5.out.store hg (by omega) m (.int .i64 v))
            have KB6 := hid (KB.out.far hkP (.int .i64 v) (p := ⟨gp, m, none⟩))
            have PP := hid H6.out.prev
            generalize w5.setCell ⟨gp, m, none⟩ (.int .i64 v) = w6 at *
            clear H5 d3 HPV q0 q1 q2 q5 q6 p1 fp lF lP KB
            have q0 := KB6.out.cell 0
            have q1 := KB6.out.cell 1
            have q2 := KB6.out.cell 2
            simp only [List.getElem?_toArray, List.getElem?_cons_zero, List.getElem?_cons_succ] at q0 q1 q2
            obtain ⟨w7, hr7, MV7, G7⟩ := (H6.out.map (by omega)).store (n := m) (by omega) b0 b1 b2 m (by omega)
            have hr7 : (Instr.mapUpdate 176 (.map (some gm)) (.agg #[.int .u8 x0, .int .u8 x1, .int .u8 x2]) (.int .i64 (m : Int))).run Tryz.prog w6 = .ok () w7 := hr7
            have H7 := hid (show FnS W w7 A A5 c5 g gp gm l (intsV (pvRow l (m + 1))).toArray (m + 1) from
              H6.out.step G7 (fun k e => by injection e with e; subst e; exact ⟨hgmW, by omega⟩) (.inl (own_map_ne H6.out.text (H6.out.map (by omega)))) (by rw [← pvRow_set l v HU.out]; rw [← set_twice]; exact PP.out.grown G7 (by intro e; injection e with e; omega)) (fun _ => by rw [show (fun x y z => lastK (txF l) x y z (m + 1)) = fun y z u => if y = x0 ∧ z = x1 ∧ u = x2 then m + 1 else lastK (txF l) y z u m from funext fun y => funext fun z => funext fun u => Hx.out y z u]; exact MV7))
            clear H6 MV7 G7 Hx HU
            go_wp2
            go_roundw
            case rel => exact ⟨m + 1, by omega, by go_num, H7⟩
            case measure => simp [intOf]; omega
        · have d2 : decide ((l.length : Int) < (m : Int) + 3) = true := decide_eq_true (by omega)
          have e0 := pv_none (f := txF l) (L := l.length) (p := m) h2
          have H4 := hid (show FnS W w3 A A5 c5 g gp gm l (intsV (pvRow l (m + 1))).toArray (m + 1) from
            H3.out.step (World.grownBy.refl w3 none) (fun _ e => by cases e) (by cases hv : Value.ownBlock (.slice A5 l.length c5) with | none => exact .inr rfl | some x => exact .inl (by simp)) (by rw [← pvRow_set l (-1) (by rw [e0]; rfl)]; exact H3.out.prev) (fun h => by omega))
          clear H3 e0
          go_wp2
          go_roundw
          case rel => exact ⟨m + 1, by omega, by go_num, H4⟩
          case measure => simp [intOf]; omega
      · obtain rfl : m = l.length := by omega
        have d1 : decide (l.length < l.length) = false := decide_eq_false (Nat.lt_irrefl _)
        go_wp2
        go_ret2
        exact ⟨g, rfl, ⟨A5, c5, gp, ⟨hg2, HS.out.box.lt, hg, HS.out.prev.lt, by obtain ⟨_, _, ha, hb⟩ := own_form HS.out.text; injection ha with _ _ ha; omega, fun e => own_nil (e ▸ HS.out.text)⟩, HS.out.box, HS.out.prev, TxB.of_own HS.out.text⟩, HS.out.below⟩
end Go.Proofs.YtoppjcmkhhkbmaaGreat
