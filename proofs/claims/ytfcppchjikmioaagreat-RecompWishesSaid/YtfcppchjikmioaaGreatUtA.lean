/-
  UTF-8: what is encoded is decoded, and the whole runes of a text (plain).
-/
import Derived.Test.YtfcppchjikmioaaGreatWpQ
import Derived.Lib.MapLaws
import Derived.Lib.TrimUEq
namespace Go.Proofs.YtfcppchjikmioaaGreat
open Go.RowKit Go.Lib

/-- a rune that stands for itself -/
def vr (x : Int) : Prop := 0 ≤ x ∧ (x < 55296 ∨ 57344 ≤ x) ∧ x ≤ 1114111
def enc (x : Int) : List UInt8 := (Utf8.encode x).data.toList
theorem rb_fold (l : List Int) : ∀ s : ByteArray, (l.foldl (fun r n => r ++ Utf8.encode n) s).data.toList = s.data.toList ++ l.flatMap enc := by
  induction l with
  | nil => intro s; simp
  | cons x l ih =>
    intro s
    rw [List.foldl_cons, ih, ByteArray.data_append, Array.toList_append, List.flatMap_cons, List.append_assoc]
    rfl
theorem rb_list (l : List Int) : (runesBytes l).data.toList = l.flatMap enc := by
  unfold runesBytes
  rw [rb_fold]
  rfl
theorem ba_ext {a b : ByteArray} (h : a.data.toList = b.data.toList) : a = b := by
  cases a; cases b
  congr 1
  exact Array.toList_inj.1 h
theorem valid_of {n : Nat} (h : n < 55296 ∨ (57344 ≤ n ∧ n ≤ 1114111)) : Utf8.valid (n : Int) = true := by
  unfold Utf8.valid
  rcases h with h | h
  · rw [decide_eq_true (show (0 : Int) ≤ (n : Int) from by omega), decide_eq_true (show (n : Int) < 55296 from by omega)]
    rfl
  · rw [decide_eq_true (show (57344 : Int) ≤ (n : Int) from by omega), decide_eq_true (show (n : Int) ≤ 1114111 from by omega), Bool.and_self, Bool.or_true]
theorem encode_of {r : Int} (hv : Utf8.valid r = true) (c : Nat) (hc : r.toNat = c) : enc r = if c < 128 then [UInt8.ofNat c] else if c < 2048 then [UInt8.ofNat (192 + c / 64), UInt8.ofNat (128 + c % 64)] else if c < 65536 then [UInt8.ofNat (224 + c / 4096), UInt8.ofNat (128 + c / 64 % 64), UInt8.ofNat (128 + c % 64)] else [UInt8.ofNat (240 + c / 262144), UInt8.ofNat (128 + c / 4096 % 64), UInt8.ofNat (128 + c / 64 % 64), UInt8.ofNat (128 + c % 64)] := by
  unfold enc Utf8.encode
  rw [if_pos hv, hc]
  dsimp only
  split
  · rfl
  split
  · rfl
  split <;> rfl
theorem enc_one {n : Nat} (h : n < 128) : enc (n : Int) = [UInt8.ofNat n] := by
  rw [encode_of (valid_of (by omega)) n rfl, if_pos (by omega)]
theorem enc_two {n : Nat} (h : 128 ≤ n) (h2 : n < 2048) : enc (n : Int) = [UInt8.ofNat (192 + n / 64), UInt8.ofNat (128 + n % 64)] := by
  rw [encode_of (valid_of (by omega)) n rfl, if_neg (by omega), if_pos (by omega)]
theorem enc_three {n : Nat} (h : 2048 ≤ n) (h2 : n < 65536) (hs : n < 55296 ∨ 57344 ≤ n) : enc (n : Int) = [UInt8.ofNat (224 + n / 4096), UInt8.ofNat (128 + n / 64 % 64), UInt8.ofNat (128 + n % 64)] := by
  rw [encode_of (valid_of (by omega)) n rfl, if_neg (by omega), if_neg (by omega), if_pos (by omega)]
theorem enc_four {n : Nat} (h : 65536 ≤ n) (h2 : n ≤ 1114111) : enc (n : Int) = [UInt8.ofNat (240 + n / 262144), UInt8.ofNat (128 + n / 4096 % 64), UInt8.ofNat (128 + n / 64 % 64), UInt8.ofNat (128 + n % 64)] := by
  rw [encode_of (valid_of (by omega)) n rfl, if_neg (by omega), if_neg (by omega), if_neg (by omega)]
theorem enc_rune (n : Nat) (h : vr (n : Int)) : enc (n : Int) = encodeRune (n : Int) := by
  obtain ⟨h0, h1, h2⟩ := h
  unfold encodeRune
  by_cases a : n < 128
  · rw [enc_one a, encodeRuneZ_one (by omega) (by omega)]
    simp
  by_cases b : n < 2048
  · rw [enc_two (by omega) b, encodeRuneZ_two (by omega) (by omega)]
    simp only [List.map_cons, List.map_nil]
    rw [show ((192 : Int) + (n : Int) / 64).toNat = 192 + n / 64 from by omega, show ((128 : Int) + (n : Int) % 64).toNat = 128 + n % 64 from by omega]
  by_cases c : n < 65536
  · rw [enc_three (by omega) c (by omega), encodeRuneZ_three (by omega)]
    simp only [List.map_cons, List.map_nil]
    rw [show ((224 : Int) + (n : Int) / 4096).toNat = 224 + n / 4096 from by omega, show ((128 : Int) + (n : Int) / 64 % 64).toNat = 128 + n / 64 % 64 from by omega, show ((128 : Int) + (n : Int) % 64).toNat = 128 + n % 64 from by omega]
  · rw [enc_four (by omega) (by omega), encodeRuneZ_four (by omega) (by omega)]
    simp only [List.map_cons, List.map_nil]
    rw [show ((240 : Int) + (n : Int) / 262144).toNat = 240 + n / 262144 from by omega, show ((128 : Int) + (n : Int) / 4096 % 64).toNat = 128 + n / 4096 % 64 from by omega, show ((128 : Int) + (n : Int) / 64 % 64).toNat = 128 + n / 64 % 64 from by omega, show ((128 : Int) + (n : Int) % 64).toNat = 128 + n % 64 from by omega]
theorem u8n {k : Nat} (h : k < 256) : (UInt8.ofNat k).toNat = k := by simp; omega
set_option maxHeartbeats 2000000 in
theorem dec_enc (x : Int) (h : vr x) (t : List UInt8) : decodeL (enc x ++ t) = (x.toNat, (enc x).length) := by
  obtain ⟨n, rfl⟩ : ∃ n : Nat, x = (n : Int) := ⟨x.toNat, by have := h.1; omega⟩
  obtain ⟨h0, h1, h2⟩ := h
  rw [decodeL_N, Int.toNat_natCast]
  by_cases a : n < 128
  · rw [enc_one a]
    simp only [List.cons_append, List.nil_append, List.getD_cons_zero, List.length_cons, List.length_nil]
    rw [decodeN_ascii _ _ _ _ _ (by rw [u8n (by omega)]; omega), u8n (by omega)]
  by_cases b : n < 2048
  · rw [enc_two (by omega) b]
    simp only [List.cons_append, List.nil_append, List.getD_cons_zero, List.getD_cons_succ, List.length_cons, List.length_nil]
    rw [u8n (by omega), u8n (by omega)]
    generalize (t.getD 0 0).toNat = c2
    generalize (t.getD 1 0).toNat = c3
    rcases decodeN_shape (t.length + 1 + 1) (192 + n / 64) (128 + n % 64) c2 c3 with ⟨c, e⟩ | ⟨c1, c4, c5, cv, e⟩ | ⟨c1, c4, c5, c6, cv, cs, e⟩ | ⟨c1, c4, c5, c6, c7, cv, cw, e⟩ | e
    · omega
    · rw [e]; congr 1; omega
    · omega
    · omega
    · exfalso
      unfold decodeN at e
      rw [if_neg (by omega), if_pos (by omega)] at e
      rw [if_pos (by omega)] at e
      injection e with e1 e2
      omega
  by_cases c : n < 65536
  · rw [enc_three (by omega) c (by omega)]
    simp only [List.cons_append, List.nil_append, List.getD_cons_zero, List.getD_cons_succ, List.length_cons, List.length_nil]
    rw [u8n (by omega), u8n (by omega), u8n (by omega)]
    generalize (t.getD 0 0).toNat = c3
    rcases decodeN_shape (t.length + 1 + 1 + 1) (224 + n / 4096) (128 + n / 64 % 64) (128 + n % 64) c3 with ⟨c, e⟩ | ⟨c1, c4, c5, cv, e⟩ | ⟨c1, c4, c5, c6, cv, cs, e⟩ | ⟨c1, c4, c5, c6, c7, cv, cw, e⟩ | e
    · omega
    · omega
    · rw [e]; congr 1; omega
    · omega
    · exfalso
      unfold decodeN at e
      rw [if_neg (by omega), if_neg (by omega), if_pos (by omega)] at e
      rw [if_pos (by omega)] at e
      injection e with e1 e2
      omega
  · rw [enc_four (by omega) (by omega)]
    simp only [List.cons_append, List.nil_append, List.getD_cons_zero, List.getD_cons_succ, List.length_cons, List.length_nil]
    rw [u8n (by omega), u8n (by omega), u8n (by omega), u8n (by omega)]
    rcases decodeN_shape (t.length + 1 + 1 + 1 + 1) (240 + n / 262144) (128 + n / 4096 % 64) (128 + n / 64 % 64) (128 + n % 64) with ⟨c, e⟩ | ⟨c1, c4, c5, cv, e⟩ | ⟨c1, c4, c5, c6, cv, cs, e⟩ | ⟨c1, c4, c5, c6, c7, cv, cw, e⟩ | e
    · omega
    · omega
    · omega
    · rw [e]; congr 1; omega
    · exfalso
      unfold decodeN at e
      rw [if_neg (by omega), if_neg (by omega), if_neg (by omega), if_pos (by omega)] at e
      rw [if_pos (by omega)] at e
      injection e with e1 e2
      omega
theorem enc_len (x : Int) : 1 ≤ (enc x).length := by
  unfold enc Utf8.encode
  simp only
  repeat' split
  all_goals simp
theorem enc_fffd : enc 65533 = [239, 191, 189] := by rfl
/-- is a whole rune in front? -/
def okD (l : List UInt8) : Bool := !(((decodeL l).1 : Int) == 65533) || (l.take 3 == [239, 191, 189])
def rnG : Nat → List UInt8 → List Int × Bool
  | 0, _ => ([], true)
  | f + 1, l => if l = [] then ([], true) else if okD l = true then ((((decodeL l).1 : Int)) :: (rnG f (l.drop (decodeL l).2)).1, (rnG f (l.drop (decodeL l).2)).2) else ([], false)
theorem rnG_nil (f : Nat) : rnG f [] = ([], true) := by cases f <;> rfl
theorem okAt_okD (s : ByteArray) (pos : Nat) (h : pos ≤ s.size) : okAt s pos = okD (s.data.toList.drop pos) := by
  rw [okAt_by s pos h]
  unfold okD
  rw [decodeL_drop]
  congr 1
  unfold okBy
  have hl : s.data.toList.length = s.size := rfl
  by_cases h3 : pos + 3 ≤ s.size
  · rw [decide_eq_true h3, take3 (by omega)]
    simp only [Bool.true_and]
    show _ = ([_, _, _] == [_, _, _])
    simp [List.cons_beq_cons]
  · rw [decide_eq_false h3]
    have : ((s.data.toList.drop pos).take 3 == [239, 191, 189]) = false := by
      rw [beq_eq_false_iff_ne]
      intro e
      have := congrArg List.length e
      simp at this
      omega
    rw [this]
    rfl
theorem rn_rnG (s : ByteArray) : ∀ f pos, rnG f (s.data.toList.drop pos) = (rnFrom s f pos, rnW s f pos)
  | 0, pos => rfl
  | f + 1, pos => by
    have hl : s.data.toList.length = s.size := rfl
    unfold rnG rnFrom rnW
    by_cases hp : pos < s.size
    · rw [if_neg (by intro e; have := List.drop_eq_nil_iff.1 e; omega), if_pos hp, okAt_okD s pos (by omega)]
      by_cases ho : okD (s.data.toList.drop pos) = true
      · rw [if_pos ho, if_pos ⟨hp, ho⟩, if_pos ho, List.drop_drop, decodeL_drop, rn_rnG s f]
      · rw [if_neg ho, if_neg (fun h => ho h.2), if_neg ho]
    · rw [if_pos (List.drop_eq_nil_iff.2 (by omega)), if_neg (fun h => hp h.1), if_neg hp]
theorem rn_all (s : ByteArray) : rnG (s.size + 1) s.data.toList = (rnL s, rnWhole s) := by
  have := rn_rnG s (s.size + 1) 0
  rw [List.drop_zero] at this
  exact this
theorem rnG_enc : ∀ (xs : List Int) (f : Nat), (∀ x ∈ xs, vr x) → (xs.flatMap enc).length < f → rnG f (xs.flatMap enc) = (xs, true)
  | [], f, _, _ => rnG_nil f
  | x :: xs, f, hv, hf => by
    obtain ⟨f, rfl⟩ : ∃ f', f = f' + 1 := ⟨f - 1, by omega⟩
    have hx := hv x (List.mem_cons_self)
    have hd := dec_enc x hx (xs.flatMap enc)
    have h1 := enc_len x
    rw [List.flatMap_cons] at hf ⊢
    rw [List.length_append] at hf
    have hok : okD (enc x ++ xs.flatMap enc) = true := by
      unfold okD
      rw [hd]
      by_cases e : x = 65533
      · subst e
        rw [enc_fffd]
        simp
      · have : (((x.toNat : Nat) : Int) == 65533) = false := by rw [beq_eq_false_iff_ne]; have := hx.1; omega
        rw [this]
        rfl
    unfold rnG
    rw [if_neg (by intro e; have := congrArg List.length e; rw [List.length_append, List.length_nil] at this; omega), if_pos hok, hd]
    simp only
    rw [List.drop_left, rnG_enc xs f (fun y hy => hv y (List.mem_cons_of_mem _ hy)) (by show (List.flatMap enc xs).length < f; omega)]
    simp only
    rw [Int.toNat_of_nonneg hx.1]
theorem rn_bytes (xs : List Int) (h : ∀ x ∈ xs, vr x) : rnL (runesBytes xs) = xs ∧ rnWhole (runesBytes xs) = true := by
  have h1 := rn_all (runesBytes xs)
  rw [rb_list, rnG_enc xs _ h (by rw [← rb_list]; exact Nat.lt_succ_self _)] at h1
  injection h1 with h1 h2
  exact ⟨h1.symm, h2.symm⟩
theorem dec_vr (l : List UInt8) : vr ((decodeL l).1 : Int) := by
  rw [decodeL_N]
  have h0 := (l.getD 0 0).toNat_lt
  have hl := decodeN_rune_le l.length (l.getD 0 0).toNat (l.getD 1 0).toNat (l.getD 2 0).toNat (l.getD 3 0).toNat h0
  have := decodeN_shape l.length (l.getD 0 0).toNat (l.getD 1 0).toNat (l.getD 2 0).toNat (l.getD 3 0).toNat
  unfold vr
  rcases this with ⟨c, e⟩ | ⟨c1, c2, c3, cv, e⟩ | ⟨c1, c2, c3, c4, cv, cs, e⟩ | ⟨c1, c2, c3, c4, c5, cv, cw, e⟩ | e <;> rw [e] at hl ⊢ <;> simp only at hl ⊢ <;> omega
theorem rnG_back : ∀ (f : Nat) (l : List UInt8) (xs : List Int) (b : Bool), l.length < f → rnG f l = (xs, b) → (∀ x ∈ xs, vr x) ∧ ∃ t, l = xs.flatMap enc ++ t ∧ (b = true → t = [])
  | 0, l, xs, b, hf, _ => by omega
  | f + 1, l, xs, b, hf, h => by
    unfold rnG at h
    by_cases hl : l = []
    · rw [if_pos hl] at h
      injection h with h1 h2
      subst h1
      exact ⟨by simp, [], by simp [hl], fun _ => rfl⟩
    rw [if_neg hl] at h
    by_cases ho : okD l = true
    · rw [if_pos ho] at h
      injection h with h1 h2
      subst h1
      have hw := decodeL_width l
      have hle := decodeL_le l hl
      obtain ⟨hv, t, ht, hb⟩ := rnG_back f (l.drop (decodeL l).2) _ _ (by rw [List.length_drop]; have := List.length_pos_iff.2 hl; omega) rfl
      have hv0 := dec_vr l
      refine ⟨fun x hx => ?_, t, ?_, fun e => hb (h2.trans e)⟩
      · rcases List.mem_cons.1 hx with rfl | hx
        · exact hv0
        · exact hv x hx
      · rw [List.flatMap_cons, enc_rune _ hv0, encode_decode l hl, List.append_assoc, ← ht, List.take_append_drop]
        rintro ⟨e1, e2⟩
        unfold okD at ho
        rw [e1] at ho
        simp at ho
        have h3 : (decodeL l).2 = 3 := by
          have h4 : decodeL l = (65533, 3) := by
            have := dec_enc 65533 ⟨by decide, by decide, by decide⟩ (l.drop 3)
            rw [enc_fffd, ← ho, List.take_append_drop] at this
            rw [this, ho]
            rfl
          rw [h4]
        omega
    · rw [if_neg ho] at h
      injection h with h1 h2
      subst h1
      exact ⟨by simp, l, by simp, fun e => by rw [← h2] at e; cases e⟩
theorem rnL_vr (s : ByteArray) : ∀ x ∈ rnL s, vr x := (rnG_back _ _ _ _ (Nat.lt_succ_self _) (rn_all s)).1
theorem whole_bytes (s : ByteArray) (h : rnWhole s = true) : runesBytes (rnL s) = s := by
  obtain ⟨_, t, ht, hb⟩ := rnG_back _ _ _ _ (Nat.lt_succ_self _) (rn_all s)
  refine ba_ext ?_
  rw [rb_list, ht, hb h, List.append_nil]
theorem rb_app (a b : List Int) : runesBytes (a ++ b) = runesBytes a ++ runesBytes b := by
  refine ba_ext ?_
  rw [ByteArray.data_append, Array.toList_append, rb_list, rb_list, rb_list, List.flatMap_append]
theorem rb_inj {a b : List Int} (ha : ∀ x ∈ a, vr x) (hb : ∀ x ∈ b, vr x) (h : runesBytes a = runesBytes b) : a = b := by
  rw [← (rn_bytes a ha).1, h, (rn_bytes b hb).1]
end Go.Proofs.YtfcppchjikmioaaGreat
