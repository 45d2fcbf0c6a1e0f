/-
  The program's text of wishes in form, byte by byte, is that of their runes (plain).
-/
import Derived.Test.YtfcppchjikmioaaGreatUtC
import Derived.Test.YtfcppchjikmioaaGreatRpE
import Derived.Test.YtfcppchjikmioaaGreatRpF
import Derived.Test.YtfcppchjikmioaaGreatRpG
namespace Go.Proofs.YtfcppchjikmioaaGreat
open Go.RowKit Go.Lib

theorem idx_all (s : ByteArray) : ∀ (f g pos : Nat), s.size ≤ pos + f → s.size < g + 1 + pos → rnW s (g + 1) pos = true →
    decide (0 ≤ Lib.idxFuncFrom (fun x => !isSm (x : Int)) true s f pos) = !(rnFrom s (g + 1) pos).all isSm
  | 0, g, pos, h1, h2, hw => by
    unfold rnFrom
    rw [if_neg (fun h => by omega)]
    rfl
  | f + 1, g, pos, h1, h2, hw => by
    unfold rnFrom Lib.idxFuncFrom
    unfold rnW at hw
    by_cases hp : pos < s.size
    · rw [if_pos hp] at hw ⊢
      by_cases ho : okAt s pos = true
      · rw [if_pos ho] at hw
        rw [show (if pos < s.size ∧ okAt s pos = true then ((Utf8.decode s pos).1 : Int) :: rnFrom s g (pos + (Utf8.decode s pos).2) else []) = ((Utf8.decode s pos).1 : Int) :: rnFrom s g (pos + (Utf8.decode s pos).2) from if_pos ⟨hp, ho⟩, List.all_cons]
        cases hs : isSm ((Utf8.decode s pos).1 : Int)
        · rw [if_pos (by rfl)]
          simp
        · rw [if_neg (by simp), Bool.true_and]
          have hd := dec_pos hp
          obtain ⟨g, rfl⟩ : ∃ g', g = g' + 1 := by
            refine ⟨g - 1, ?_⟩
            omega
          exact idx_all s f g _ (by omega) (by omega) hw
      · rw [if_neg ho] at hw
        cases hw
    · rw [if_neg hp, if_neg (fun h => hp h.1)]
      rfl
theorem size_bl {x : ByteArray} (h : rnWhole x = true) : x.size = bl (rnL x) := by
  conv => lhs; rw [← whole_bytes x h]
  show (runesBytes (rnL x)).data.toList.length = _
  rw [rb_list]
  rfl
theorem beq_runes {x : ByteArray} (h : rnWhole x = true) (t : List Int) (ht : ∀ c ∈ t, vr c) : (x.toList == (runesBytes t).toList) = (rnL x == t) := by
  cases he : (rnL x == t) with
  | true =>
    rw [beq_iff_eq] at he
    rw [← he, whole_bytes x h]
    simp
  | false =>
    rw [beq_eq_false_iff_ne] at he
    exact ba_ne (whole_bytes x h) (rnL_vr x) ht he
theorem bl_ge (l : List Int) : l.length ≤ bl l := by
  induction l with
  | nil => exact Nat.le_refl _
  | cons c l ih => rw [bl_cons, List.length_cons]; have := bl_one c; omega
theorem plain_eq {x : ByteArray} (h : rnWhole x = true) : plainS x = plainR (rnL x) := by
  have hi := idx_all x x.size x.size 0 (by omega) (by omega) h
  replace hi : decide (0 ≤ Lib.idxFunc (fun x => !isSm (x : Int)) true x) = !(rnL x).all isSm := hi
  have ht : (x.toList == trueS) = (rnL x == trueR) := by
    have := beq_runes h trueR (nm_vr trueR_sm)
    rwa [true_b] at this
  have hf : (x.toList == falseS) = (rnL x == falseR) := by
    have := beq_runes h falseR (nm_vr falseR_sm)
    rwa [false_b] at this
  unfold plainS plainR
  rw [hi, ht, hf, size_bl h, Bool.not_not]
  cases hs : (rnL x).all isSm
  · simp
  · have hall : ∀ c ∈ rnL x, isSm c = true := List.all_eq_true.1 hs
    rw [bl_lows (fun c hc => sm_low (hall c hc))]
    have e1 : decide (0 < ((rnL x).length : Int)) = decide (1 ≤ (rnL x).length) := by
      by_cases h0 : 1 ≤ (rnL x).length
      · rw [decide_eq_true h0, decide_eq_true (by omega)]
      · rw [decide_eq_false h0, decide_eq_false (by omega)]
    have e2 : decide (((rnL x).length : Int) ≤ 16) = decide ((rnL x).length ≤ 16) := by
      by_cases h0 : (rnL x).length ≤ 16
      · rw [decide_eq_true h0, decide_eq_true (by omega)]
      · rw [decide_eq_false h0, decide_eq_false (by omega)]
    rw [e1, e2]
    cases decide (1 ≤ (rnL x).length) <;> cases decide ((rnL x).length ≤ 16) <;> cases (rnL x == trueR) <;> cases (rnL x == falseR) <;> rfl
theorem enc_dig {k : Nat} (h : k < 10) : enc (48 + (k : Int)) = [UInt8.ofNat (48 + k)] := by
  rw [show (48 + (k : Int)) = ((48 + k : Nat) : Int) from by omega, enc_one (by omega)]
theorem digs_bytes (n : Nat) : (digs n).flatMap enc = decL n := by
  induction n using Nat.strongRecOn with
  | ind n ih =>
    by_cases h : n < 10
    · rw [digs_small h, decL_small n h, List.flatMap_cons, List.flatMap_nil, enc_dig h]
      rfl
    · rw [digs_big h, List.flatMap_append, ih _ (by omega), decL_big n h, decL_small (n % 10) (by omega), List.flatMap_cons, List.flatMap_nil, enc_dig (by omega)]
      rfl
theorem qL_high {l : List UInt8} (h : ∀ b ∈ l, 128 ≤ b.toNat) : qL l = l := by
  refine qL_id l ?_
  unfold nQ
  rw [List.length_eq_zero_iff, List.filter_eq_nil_iff]
  intro b hb hq
  have := h b hb
  unfold isQ at hq
  simp at hq
  rcases hq with rfl | rfl
  · exact absurd this (by decide)
  · exact absurd this (by decide)
theorem qL_enc (c : Int) (h : vr c) : qL (enc c) = (if c = 34 ∨ c = 126 then enc 126 ++ enc c else enc c) := by
  obtain ⟨n, rfl⟩ : ∃ n : Nat, c = (n : Int) := ⟨c.toNat, by have := h.1; omega⟩
  obtain ⟨h0, h1, h2⟩ := h
  by_cases a : n < 128
  · rw [enc_one a]
    by_cases h34 : n = 34
    · subst h34; rfl
    by_cases h126 : n = 126
    · subst h126; rfl
    rw [if_neg (by omega)]
    unfold qL
    rw [List.flatMap_cons, List.flatMap_nil, List.append_nil]
    unfold qB
    rw [if_neg, if_neg]
    · intro e
      have := congrArg UInt8.toNat e
      rw [u8n (by omega)] at this
      exact h126 this
    · intro e
      have := congrArg UInt8.toNat e
      rw [u8n (by omega)] at this
      exact h34 this
  · rw [if_neg (by omega)]
    refine qL_high ?_
    intro b hb
    by_cases c2 : n < 2048
    · rw [enc_two (by omega) c2] at hb
      simp only [List.mem_cons, List.not_mem_nil, or_false] at hb
      rcases hb with rfl | rfl <;> rw [u8n (by omega)] <;> omega
    by_cases c3 : n < 65536
    · rw [enc_three (by omega) c3 (by omega)] at hb
      simp only [List.mem_cons, List.not_mem_nil, or_false] at hb
      rcases hb with rfl | rfl | rfl <;> rw [u8n (by omega)] <;> omega
    · rw [enc_four (by omega) (by omega)] at hb
      simp only [List.mem_cons, List.not_mem_nil, or_false] at hb
      rcases hb with rfl | rfl | rfl | rfl <;> rw [u8n (by omega)] <;> omega
theorem qL_runes : ∀ (l : List Int), (∀ c ∈ l, vr c) → qL (l.flatMap enc) = (tilR l).flatMap enc
  | [], _ => rfl
  | c :: l, h => by
    rw [List.flatMap_cons, qL_app, qL_enc c (h c List.mem_cons_self), qL_runes l (fun x hx => h x (List.mem_cons_of_mem _ hx)), tilR_cons, List.flatMap_append]
    congr 1
    split <;> simp
/-- the bytes behind a name -/
def shB : WV → List UInt8
  | .t true => []
  | .t false => 61 :: falseS
  | .n z => 61 :: decZ z
  | .s x => if plainS x = true then 61 :: x.data.toList else 61 :: 34 :: (qL x.data.toList ++ [34])
theorem whole_list {x : ByteArray} (h : rnWhole x = true) : (rnL x).flatMap enc = x.data.toList := by
  rw [← rb_list, whole_bytes x h]
theorem shB_eq {v : WV} (h : gVal v) : shB v = (txV v).flatMap enc := by
  match v, h with
  | .t true, _ => rfl
  | .t false, _ => rfl
  | .n z, h =>
    have h1 : -999999999 ≤ z := h.1
    have h2 : z ≤ 999999999 := h.2
    show 61 :: decZ z = (61 :: ((if z < 0 then [45] else []) ++ digs z.natAbs)).flatMap enc
    unfold decZ
    rw [if_neg (by omega)]
    by_cases hz : z < 0
    · rw [if_pos hz, if_pos hz, List.flatMap_cons, List.flatMap_append, digs_bytes]
      rfl
    · rw [if_neg hz, if_neg hz, List.flatMap_cons, List.flatMap_append, digs_bytes]
      rfl
  | .s x, h =>
    have h : rnWhole x = true := h
    show (if plainS x = true then 61 :: x.data.toList else 61 :: 34 :: (qL x.data.toList ++ [34])) = _
    rw [txV_s, plain_eq h]
    split
    · rw [List.flatMap_cons, whole_list h]
      rfl
    · rw [List.flatMap_cons, List.flatMap_cons, List.flatMap_append, ← qL_runes _ (rnL_vr x), whole_list h]
      rfl
def paB (x : Wsh) : List UInt8 := x.1.data.toList ++ shB x.2
def pText (L : List Wsh) : List UInt8 := Lib.join (L.map paB) [44]
theorem tail_eq : ∀ (P t : List Wsh), goodF P t → Lib.joinTail [44] (t.map paB) = (txF false t).flatMap enc
  | P, [], _ => rfl
  | P, x :: t, h => by
    have ih := tail_eq _ t h.2
    unfold Lib.joinTail at ih ⊢
    rw [List.map_cons, List.map_cons, List.flatten_cons, ih, txF, if_neg Bool.false_ne_true, List.flatMap_append, List.flatMap_append, List.flatMap_append]
    unfold paB
    rw [shB_eq h.1.2.1]
    have e : (rnL x.1).flatMap enc = x.1.data.toList := by
      rw [← rb_list, (name_r h.1.1).2]
    rw [e]
    rfl
theorem pText_eq {L : List Wsh} (h : goodF [] L) : pText L = (txF true L).flatMap enc := by
  match L, h with
  | [], _ => rfl
  | x :: t, h =>
    unfold pText
    rw [List.map_cons, Lib.join_cons, tail_eq _ t h.2, txF, if_pos rfl, List.nil_append, List.flatMap_append, List.flatMap_append]
    unfold paB
    rw [shB_eq h.1.2.1]
    have e : (rnL x.1).flatMap enc = x.1.data.toList := by
      rw [← rb_list, (name_r h.1.1).2]
    rw [e]
theorem pText_bytes {L : List Wsh} (h : goodF [] L) : (⟨(pText L).toArray⟩ : ByteArray) = runesBytes (txF true L) := by
  refine ba_ext ?_
  rw [rb_list, ← pText_eq h]
/-- the program's text of wishes in form is read as them; of any others it is not -/
theorem pText_back (L : List Wsh) : refP ⟨(pText L).toArray⟩ = some L ↔ goodF [] L := by
  constructor
  · intro h
    exact (parse_good h).1
  · intro h
    rw [pText_bytes h]
    exact text_back L h
end Go.Proofs.YtfcppchjikmioaaGreat
