/-
  wish.Text: the text of wishes, or that they are none.
-/
import Derived.Test.YtfcppchjikmioaaGreatRpJ
import Derived.Test.YtfcppchjikmioaaGreatWpJ
namespace Go.Proofs.YtfcppchjikmioaaGreat
open Go.RowKit

/-- a wish's value, or one of no kind -/
def ovV : Option WV → Value
  | some v => wvV v
  | none => .iface 21 (.int .i32 7)
def encO (x : ByteArray × Option WV) : List Value := [.string x.1, ovV x.2]
def sm (x : Wsh) : ByteArray × Option WV := (x.1, some x.2)
theorem ow_at {w : World} {B : Nat} {A : Option Addr} {L : List (ByteArray × Option WV)} (h : Rd w B 2 A L.length (L.flatMap encO)) {j : Nat} (hj : j < L.length) : ∃ b off, A = some ⟨b, off, none⟩ ∧ b < B ∧ w.cell? ⟨b, off + j * 2, none⟩ = some (.string L[j].1) ∧ w.cell? ⟨b, off + j * 2 + 1, none⟩ = some (ovV L[j].2) := by
  obtain ⟨b, off, rfl, hb, hcl⟩ := h.at_ (k := j) hj (by omega)
  exact ⟨b, off, rfl, hb, hcl (j * 2 + 0) _ ((flat_at encO 2 L (fun _ _ => rfl) j 0 L[j] (List.getElem?_eq_getElem hj) (by omega)).trans rfl), hcl (j * 2 + 1) _ ((flat_at encO 2 L (fun _ _ => rfl) j 1 L[j] (List.getElem?_eq_getElem hj) (by omega)).trans rfl)⟩
theorem decL_len2 (k : Nat) : ∀ n : Nat, n < 10 ^ (k + 1) → (decL n).length ≤ k + 1 := by
  induction k with
  | zero => intro n hn; rw [decL_small n (by omega)]; simp
  | succ k ih =>
    intro n hn
    by_cases h : n < 10
    · rw [decL_small n h]; simp
    · rw [decL_big n h, List.length_append, decL_small (n % 10) (by omega)]
      have := ih (n / 10) (by rw [Nat.pow_succ] at hn; omega)
      simp
      omega
theorem decZ_len2 (z : Int) : (decZ z).length ≤ 10 := by
  unfold decZ
  split
  · simp
  · rename_i h
    have := decL_len2 8 z.natAbs (by omega)
    split
    · simp; omega
    · omega
theorem shB_len (v : WV) (m : Nat) (h : ∀ y, v = .s y → y.size ≤ m) : (shB v).length ≤ 2 * m + 11 := by
  match v with
  | .t true => show 0 ≤ _; omega
  | .t false => show 6 ≤ _; omega
  | .n z => have := decZ_len2 z; show (decZ z).length + 1 ≤ _; omega
  | .s x =>
    have h1 := h x rfl
    have h2 : x.data.toList.length = x.size := rfl
    have h3 := qL_len x.data.toList
    have h4 := nQ_le x.data.toList
    show (if plainS x = true then 61 :: x.data.toList else 61 :: 34 :: (qL x.data.toList ++ [34])).length ≤ _
    split
    · simp; omega
    · rw [List.length_cons, List.length_cons, List.length_append]
      simp only [List.length_cons, List.length_nil]
      omega
/-- what show, and the look at a bool, say of a value -/
theorem show_of (x : Option WV) (hx : ∀ y, x = some (.s y) → y.size ≤ 1000000) : ∃ ty u t ok bb isb, ovV x = .iface ty u ∧ (∀ w, (Instr.typeAssert (.iface ty u) 39 4 true).run Tryz.prog w = .ok (.tuple #[.bool bb, .bool isb]) w) ∧
    (∀ W, Calls Tryz.prog 24 #[.iface ty u] W fun e w' => e = .returned (.tuple #[.string ⟨List.toArray t⟩, .bool ok]) ∧ Below W.heap.size W w') ∧
    ((isb = true ∧ bb = true ∧ x = some (.t true)) ∨ (isb = true ∧ bb = false ∧ ok = true ∧ x = some (.t false) ∧ t = shB (.t false)) ∨ (isb = false ∧ bb = false ∧ ok = true ∧ ∃ v, x = some v ∧ t = shB v) ∨ (isb = false ∧ bb = false ∧ ok = false ∧ x = none)) ∧ t.length ≤ 3000000 := by
  match x, hx with
  | none, _ => exact ⟨_, _, [], false, false, false, rfl, fun _ => by kernel_rfl, fun W => show_odd 7 W, .inr (.inr (.inr ⟨rfl, rfl, rfl, rfl⟩)), by simp⟩
  | some (.t true), _ => exact ⟨_, _, _, _, true, true, rfl, fun _ => by kernel_rfl, fun W => show_truth true W, .inl ⟨rfl, rfl, rfl⟩, by decide⟩
  | some (.t false), _ => exact ⟨_, _, _, _, false, true, rfl, fun _ => by kernel_rfl, fun W => show_truth false W, .inr (.inl ⟨rfl, rfl, rfl, rfl, rfl⟩), by decide⟩
  | some (.n z), _ => exact ⟨_, _, 61 :: decZ z, true, false, false, rfl, fun _ => by kernel_rfl, fun W => show_num z W, .inr (.inr (.inl ⟨rfl, rfl, rfl, _, rfl, rfl⟩)), by have := decZ_len2 z; simp; omega⟩
  | some (.s y), hx => exact ⟨_, _, shB (.s y), true, false, false, rfl, fun _ => by kernel_rfl, fun W => show_word y (hx y rfl) W, .inr (.inr (.inl ⟨rfl, rfl, rfl, _, rfl, rfl⟩)), by have := shB_len (.s y) 1000000 (fun z e => by injection e with e; rw [← e]; exact hx y rfl); omega⟩
def paV (x : Wsh) : Value := .string ⟨(paB x).toArray⟩
theorem paV_eq (nm : ByteArray) (v : WV) (t : List UInt8) (h : t = shB v) : paV (nm, v) = .string (nm ++ ⟨t.toArray⟩) := by
  subst h
  unfold paV paB
  congr 1
def TextEnd (l : List (ByteArray × Option WV)) (W : World) (e : Ending) (w' : World) : Prop :=
  ((∃ L, l = L.map sm ∧ goodF [] L ∧ e = .returned (.tuple #[.string (runesBytes (txF true L)), .nilIface])) ∨ ((∀ L, l = L.map sm → ¬ goodF [] L) ∧ e = .returned (.tuple #[.string ⟨#[]⟩, .iface 34 (.int .i64 6)]))) ∧ Below W.heap.size W w'
theorem sm_inj {L M : List Wsh} (h : L.map sm = M.map sm) : L = M := by
  induction L generalizing M with
  | nil => cases M with
    | nil => rfl
    | cons y M => cases h
  | cons x L ih => cases M with
    | nil => cases h
    | cons y M =>
      rw [List.map_cons, List.map_cons] at h
      injection h with h1 h2
      rw [ih h2]
      obtain ⟨x1, x2⟩ := x
      obtain ⟨y1, y2⟩ := y
      unfold sm at h1
      injection h1 with h3 h4
      injection h4 with h4
      dsimp only at h3 h4
      rw [h3, h4]
theorem fw_sm (L : List Wsh) : (L.map sm).flatMap encO = fw L := by
  unfold fw
  rw [List.flatMap_map]
  rfl
theorem goodF_len {L : List Wsh} (h : goodF [] L) : L.length ≤ 16 := by
  have : ∀ (L P : List Wsh), goodF P L → P.length ≤ 16 → (P ++ L).length ≤ 16 := by
    intro L
    induction L with
    | nil => intro P _ h; simpa using h
    | cons x L ih =>
      intro P h hP
      have := ih (P ++ [x]) h.2 (by have := h.1.2.2.2; simp; omega)
      simpa using this
  simpa using this L [] h (by simp)
theorem eq_text (A3 A : Option Addr) (c3 c B0 : Nat) (M P : List Wsh) (k : Nat) (W w3 : World) {B2 : Nat} (hk : k = P.length) (ho : w3.ownsRow B2 41 2 (.slice A3 M.length c3) M.length (fw M)) (h : Rd W B0 2 A (P.map sm).length ((P.map sm).flatMap encO)) (hb : Below W.heap.size W w3) (hB0 : B0 ≤ W.heap.size) (hM : M.length ≤ 1000000) :
    Calls Tryz.prog 26 #[.slice A3 M.length c3, .slice A k c] w3 fun e w' => (∃ b, e = .returned (.bool b) ∧ (b = true ↔ M = P)) ∧ Below w3.heap.size w3 w' := by
  subst hk
  rw [fw_sm, List.length_map] at h
  have h2 : Rd w3 B0 2 A P.length (fw P) := h.below hb hB0
  exact equalW_any A3 A c3 c _ B0 M P w3 (own_rd ho) h2 hM
set_option maxRecDepth 100000 in
set_option maxHeartbeats 4000000 in
theorem text_any (A : Option Addr) (c B0 n : Nat) (l : List (ByteArray × Option WV)) (W : World) (hn : n = l.length) (h : Rd W B0 2 A l.length (l.flatMap encO)) (hB0 : B0 ≤ W.heap.size) (hm : l.length ≤ 1000) (hs : ∀ x ∈ l, x.1.size ≤ 1000000 ∧ ∀ y, x.2 = some (.s y) → y.size ≤ 1000000) (hp : ∀ L, l = L.map sm → (pText L).length ≤ 1000000) :
    Calls Tryz.prog 8 #[.slice A n c] W (TextEnd l W) := by
  obtain ⟨i0, hi0, hz0, hz1, hz2⟩ := info_parts str_info
  have Hi0 := hid hi0
  have Hz0 := hid hz0
  have Hz1 := hid hz1
  have Hz2 := hid hz2
  clear hi0 hz0 hz1 hz2
  have H := hid h
  have HS := hid hs
  have HP := hid hp
  have HN := hid hn
  have hn1 : n ≤ 1000 := by omega
  clear h hs hp hm hn
  go_enter Tryz.func8, Tryz.ntmps8
  go_wp2_with fail
  go_loopw [4, 17] (fun p i wr => ∃ (k : Nat) (A' : Option Addr) (c' : Nat) (P : List Wsh), k ≤ n ∧ i = .int .i64 (k : Int) ∧ p = .slice A' k c' ∧ Hid (l.take k = P.map sm) ∧ Hid (wr.ownsRow W.heap.size 9 1 (.slice A' k c') k (P.map paV)) ∧ Hid (Below W.heap.size W wr)) (fun _ i _ => n - (intOf i).toNat)
  case atStart => exact ⟨0, none, 0, [], by omega, rfl, rfl, hid rfl, hid ⟨rfl, .inl ⟨rfl, rfl⟩⟩, hid (Below.refl _ _)⟩
  case round =>
    obtain ⟨k, A', c', P, hk, rfl, rfl, Ht, Ho, Hw⟩ := hrel
    by_cases hlt : k < n
    · have d1 : decide (k < n) = true := decide_eq_true hlt
      have hkl : k < l.length := by have := HN.out; omega
      obtain ⟨b, off, rfl, hb, c0, c1⟩ := ow_at H.out hkl
      replace c0 := (Hw.out.cell (p := ⟨b, off + k * 2, none⟩) (by show b < W.heap.size; omega)).trans c0
      replace c1 := (Hw.out.cell (p := ⟨b, off + k * 2 + 1, none⟩) (by show b < W.heap.size; omega)).trans c1
      have HX := hid (show l[k]? = some l[k] from List.getElem?_eq_getElem hkl)
      obtain ⟨hs1, hs2⟩ := HS.out _ (List.getElem_mem hkl)
      generalize l[k] = x at *
      obtain ⟨nm, xv⟩ := x
      dsimp only at hs1 hs2 c0 c1
      obtain ⟨ty, u, t, ok, bb, isb, he, ta, hsh, hf, htl⟩ := show_of xv hs2
      rw [he] at c1
      have HF := hid hf
      have SH := hid hsh
      clear he hf hsh hs2
      have hcat : ¬ 9223372036854775807 < nm.size + t.length := by omega
      rcases HF.out with ⟨rfl, rfl, hv⟩ | ⟨rfl, rfl, rfl, hv, ht⟩ | ⟨rfl, rfl, rfl, v, hv, ht⟩ | ⟨rfl, rfl, rfl, hv⟩
      · subst hv
        clear HF
        go_wp2_with (first
          | (go_at_call 24; refine (SH.out _).mono ?_; rintro e w1 ⟨rfl, hb1⟩; have e0 := (hb1.cell (p := ⟨wr.heap.size, 0, none⟩) (by simp)).trans ((Blk.new wr 41 #[.string nm, .iface ty u]).cell 0); have e1 := (hb1.cell (p := ⟨wr.heap.size, 1, none⟩) (by simp)).trans ((Blk.new wr 41 #[.string nm, .iface ty u]).cell 1); simp only [List.getElem?_toArray, List.getElem?_cons_zero, List.getElem?_cons_succ] at e0 e1; have g1 : wr.heap.size < w1.heap.size := (by have := hb1.size; simp at this; omega); have BB := hid (show Below wr.heap.size wr w1 from ((Below.refl _ _).alloc (Nat.le_refl _) _).trans (hb1.mono (by simp))); clear hb1)
          | (at_builtin; ((refine wpList_app _ rfl _ _ _ rfl W.heap.size 9 i0 (.string ⟨#[]⟩) 1 16 Tryz.underlying58 Hi0.out Hz0.out Hz1.out Hz2.out rfl (by omega) A' k c' (P.map paV) rfl (own_below Ho.out (BB.out.alloc (Nat.le_of_lt g1) _) (Nat.le_refl _)) _ _ 1 1 [.string (nm ++ ⟨#[]⟩)] rfl (rd_one _ _ _ _ (Blk.new w1 _ _)) (by simp) (by simp [Value.oneCell']) (by simp [maxLen] <;> omega) (by omega) (by have := Hw.out.size; simp <;> omega) ?_; intro A4 c4 w4 ha4; obtain ⟨o4, _, b4, _⟩ := ha4; have O4 := hid o4; have B4 := hid ((Hw.out.trans ((BB.out.alloc (Nat.le_of_lt g1) _).mono Hw.out.size)).trans b4); clear o4 b4))))
        go_roundw
        case rel =>
          refine ⟨k + 1, A4, c4, P ++ [(nm, .t true)], by omega, by go_num, rfl, hid ?_, hid ?_, B4⟩
          · rw [List.take_add_one, Ht.out, HX.out, List.map_append]
            rfl
          · rw [List.map_append, show [(nm, .t true)].map paV = [.string (nm ++ ⟨#[]⟩)] from congrArg (fun v => [v]) (paV_eq nm _ _ rfl)]
            exact O4.out
        case measure => simp [intOf]; omega
      · subst hv
        have HT := hid ht
        clear HF ht
        go_wp2_with (first
          | (go_at_call 24; refine (SH.out _).mono ?_; rintro e w1 ⟨rfl, hb1⟩; have e0 := (hb1.cell (p := ⟨wr.heap.size, 0, none⟩) (by simp)).trans ((Blk.new wr 41 #[.string nm, .iface ty u]).cell 0); have e1 := (hb1.cell (p := ⟨wr.heap.size, 1, none⟩) (by simp)).trans ((Blk.new wr 41 #[.string nm, .iface ty u]).cell 1); simp only [List.getElem?_toArray, List.getElem?_cons_zero, List.getElem?_cons_succ] at e0 e1; have g1 : wr.heap.size < w1.heap.size := (by have := hb1.size; simp at this; omega); have BB := hid (show Below wr.heap.size wr w1 from ((Below.refl _ _).alloc (Nat.le_refl _) _).trans (hb1.mono (by simp))); clear hb1)
          | (at_builtin; ((refine wpList_app _ rfl _ _ _ rfl W.heap.size 9 i0 (.string ⟨#[]⟩) 1 16 Tryz.underlying58 Hi0.out Hz0.out Hz1.out Hz2.out rfl (by omega) A' k c' (P.map paV) rfl (own_below Ho.out (BB.out.alloc (Nat.le_of_lt g1) _) (Nat.le_refl _)) _ _ 1 1 [.string (nm ++ ⟨t.toArray⟩)] rfl (rd_one _ _ _ _ (Blk.new w1 _ _)) (by simp) (by simp [Value.oneCell']) (by simp [maxLen] <;> omega) (by omega) (by have := Hw.out.size; simp <;> omega) ?_; intro A4 c4 w4 ha4; obtain ⟨o4, _, b4, _⟩ := ha4; have O4 := hid o4; have B4 := hid ((Hw.out.trans ((BB.out.alloc (Nat.le_of_lt g1) _).mono Hw.out.size)).trans b4); clear o4 b4))))
        go_roundw
        case rel =>
          refine ⟨k + 1, A4, c4, P ++ [(nm, .t false)], by omega, by go_num, rfl, hid ?_, hid ?_, B4⟩
          · rw [List.take_add_one, Ht.out, HX.out, List.map_append]
            rfl
          · rw [List.map_append, show [(nm, .t false)].map paV = [.string (nm ++ ⟨t.toArray⟩)] from congrArg (fun v => [v]) (paV_eq nm _ _ HT.out)]
            exact O4.out
        case measure => simp [intOf]; omega
      · subst hv
        have HT := hid ht
        clear HF ht
        go_wp2_with (first
          | (go_at_call 24; refine (SH.out _).mono ?_; rintro e w1 ⟨rfl, hb1⟩; have e0 := (hb1.cell (p := ⟨wr.heap.size, 0, none⟩) (by simp)).trans ((Blk.new wr 41 #[.string nm, .iface ty u]).cell 0); have e1 := (hb1.cell (p := ⟨wr.heap.size, 1, none⟩) (by simp)).trans ((Blk.new wr 41 #[.string nm, .iface ty u]).cell 1); simp only [List.getElem?_toArray, List.getElem?_cons_zero, List.getElem?_cons_succ] at e0 e1; have g1 : wr.heap.size < w1.heap.size := (by have := hb1.size; simp at this; omega); have BB := hid (show Below wr.heap.size wr w1 from ((Below.refl _ _).alloc (Nat.le_refl _) _).trans (hb1.mono (by simp))); clear hb1)
          | (at_builtin; ((refine wpList_app _ rfl _ _ _ rfl W.heap.size 9 i0 (.string ⟨#[]⟩) 1 16 Tryz.underlying58 Hi0.out Hz0.out Hz1.out Hz2.out rfl (by omega) A' k c' (P.map paV) rfl (own_below Ho.out (BB.out.alloc (Nat.le_of_lt g1) _) (Nat.le_refl _)) _ _ 1 1 [.string (nm ++ ⟨t.toArray⟩)] rfl (rd_one _ _ _ _ (Blk.new w1 _ _)) (by simp) (by simp [Value.oneCell']) (by simp [maxLen] <;> omega) (by omega) (by have := Hw.out.size; simp <;> omega) ?_; intro A4 c4 w4 ha4; obtain ⟨o4, _, b4, _⟩ := ha4; have O4 := hid o4; have B4 := hid ((Hw.out.trans ((BB.out.alloc (Nat.le_of_lt g1) _).mono Hw.out.size)).trans b4); clear o4 b4))))
        go_roundw
        case rel =>
          refine ⟨k + 1, A4, c4, P ++ [(nm, v)], by omega, by go_num, rfl, hid ?_, hid ?_, B4⟩
          · rw [List.take_add_one, Ht.out, HX.out, List.map_append]
            rfl
          · rw [List.map_append, show [(nm, v)].map paV = [.string (nm ++ ⟨t.toArray⟩)] from congrArg (fun v => [v]) (paV_eq nm _ _ HT.out)]
            exact O4.out
        case measure => simp [intOf]; omega
      · subst hv
        clear HF
        go_wp2_with (first
          | (go_at_call 24; refine (SH.out _).mono ?_; rintro e w1 ⟨rfl, hb1⟩; have e0 := (hb1.cell (p := ⟨wr.heap.size, 0, none⟩) (by simp)).trans ((Blk.new wr 41 #[.string nm, .iface ty u]).cell 0); have e1 := (hb1.cell (p := ⟨wr.heap.size, 1, none⟩) (by simp)).trans ((Blk.new wr 41 #[.string nm, .iface ty u]).cell 1); simp only [List.getElem?_toArray, List.getElem?_cons_zero, List.getElem?_cons_succ] at e0 e1; have g1 : wr.heap.size < w1.heap.size := (by have := hb1.size; simp at this; omega); have BB := hid (show Below wr.heap.size wr w1 from ((Below.refl _ _).alloc (Nat.le_refl _) _).trans (hb1.mono (by simp))); clear hb1))
        go_ret2
        refine ⟨.inr ⟨fun L hL => ?_, rfl⟩, ?_⟩
        · have h1 := HX.out
          rw [hL, List.getElem?_map] at h1
          cases h2 : L[k]? with
          | none => rw [h2] at h1; cases h1
          | some y =>
            rw [h2] at h1
            injection h1 with h1
            cases (congrArg Prod.snd h1)
        · exact Hw.out.trans (BB.out.mono Hw.out.size)
    · have d1 : decide (k < n) = false := decide_eq_false hlt
      have hkn : k = n := by omega
      have hl : l = P.map sm := by
        have e := Ht.out
        rwa [List.take_of_length_le (by have := HN.out; omega)] at e
      have hlP : n = P.length := by rw [HN.out, hl, List.length_map]
      subst hkn
      subst hl
      have hpl : (pText P).length ≤ 1000000 := HP.out P rfl
      obtain ⟨s, hs⟩ : ∃ s : ByteArray, s = ⟨(pText P).toArray⟩ := ⟨_, rfl⟩
      have hsz : s.size ≤ 1000000 := by rw [hs]; exact hpl
      have HSS := hid hs
      have JJ := hid (show Calls Tryz.prog 25 #[.slice A' k c', .string ⟨#[44]⟩] wr (fun e w' => e = .returned (.string s) ∧ Below wr.heap.size wr w') from by
        rw [hs]
        rcases Nat.eq_zero_or_pos k with h0 | h0
        · obtain rfl : P = [] := List.eq_nil_of_length_eq_zero (by omega)
          rw [h0]
          exact (strings_Join_none A' c' _ wr).mono (fun e w' h => ⟨h.1, by rw [h.2]; exact Below.refl _ _⟩)
        · obtain ⟨g, rfl, hg1, hg2⟩ := own_block Ho.out h0
          have hcap : k ≤ c' := by
            rcases Ho.out.2 with ⟨_, h1⟩ | ⟨g', cap, cur, hv, _, _, hnc, _⟩
            · omega
            · injection hv with _ _ h3
              omega
          have := strings_Join g 0 c' (P.map (fun x => (⟨(paB x).toArray⟩ : ByteArray))) ⟨#[44]⟩ wr (fun j x hx => by
            rw [List.getElem?_map] at hx
            cases hy : P[j]? with
            | none => rw [hy] at hx; cases hx
            | some y =>
              rw [hy] at hx
              injection hx with hx
              have hj : j < k := by rw [hlP]; exact (List.getElem?_eq_some_iff.1 hy).1
              obtain ⟨g', u, e1, _, _, e2, e3⟩ := own_cell Ho.out hj
              injection e1 with e1
              injection e1 with e1
              rw [Nat.zero_add, e1, e3, ← e2, List.getElem?_map, hy, ← hx]
              rfl) hg2 (by rw [List.length_map]; omega) (by rw [List.length_map]; omega) (by
            rw [List.map_map]
            have : (pText P).length ≤ 140737488355328 := by omega
            exact this)
          rw [List.length_map, ← hlP, List.map_map] at this
          exact this)
      clear hs
      have HLP := hid hlP
      clear hlP
      go_wp2_with (first
        | (go_at_call 25; refine JJ.out.mono ?_; rintro e w2 ⟨rfl, hj⟩))
      have HJ := hid hj
      clear hj
      refine (parse_any s _ rfl (by have := rnL_len s; omega) w2).mono ?_
      have hrf := refP_eq s
      rintro e w3 (⟨hbad, rfl, hB⟩ | ⟨hgood, A3, c3, rfl, ho3, hB3⟩)
      · rw [if_pos hbad] at hrf
        have HR := hid hrf
        clear hrf
        go_wp2_with fail
        go_ret2
        refine ⟨.inr ⟨fun L hL => ?_, rfl⟩, ?_⟩
        · have := sm_inj hL
          subst this
          intro hg
          have h2 := (pText_back P).2 hg
          rw [← HSS.out, HR.out] at h2
          cases h2
        · exact (Hw.out.trans (HJ.out.mono Hw.out.size)).trans (hB.mono (Nat.le_trans Hw.out.size HJ.out.size))
      · rw [if_neg (by rw [hgood]; decide)] at hrf
        have HR := hid hrf
        have HO := hid ho3
        have HB := hid hB3
        clear hrf ho3 hB3
        obtain ⟨M, hM⟩ : ∃ M, M = (parseP s).1 := ⟨_, rfl⟩
        rw [← hM] at HR HO ⊢
        clear hM
        have b1 : Below W.heap.size W w3 := (Hw.out.trans (HJ.out.mono Hw.out.size)).trans (HB.out.mono (Nat.le_trans Hw.out.size HJ.out.size))
        have hMl : M.length ≤ 1000000 := by have := goodF_len (parse_good HR.out).1; omega
        have HQ := hid (eq_text A3 A c3 c B0 M P k W w3 HLP.out HO.out H.out b1 hB0 hMl)
        have B1 := hid b1
        clear b1 hMl
        by_cases hMP : M = P
        · have HE := hid hMP
          have HT := hid (HQ.out.mono (R' := fun e w' => e = .returned (.bool true) ∧ Below w3.heap.size w3 w') (fun e w' ⟨⟨b2, h1, h2⟩, h3⟩ => ⟨by rw [h1, h2.2 hMP], h3⟩))
          clear hMP HQ
          go_wp2_with (first
            | (go_at_call 26; refine HT.out.mono ?_; rintro e w4 ⟨rfl, hB4⟩))
          go_ret2
          refine ⟨.inl ⟨P, rfl, ?_, ?_⟩, ?_⟩
          · have h1 := HR.out
            rw [HE.out] at h1
            exact (parse_good h1).1
          · have h1 := HR.out
            rw [HE.out] at h1
            rw [← pText_bytes (parse_good h1).1, ← HSS.out]
            rfl
          · exact B1.out.trans (hB4.mono B1.out.size)
        · have HE := hid hMP
          have HT := hid (HQ.out.mono (R' := fun e w' => e = .returned (.bool false) ∧ Below w3.heap.size w3 w') (fun e w' ⟨⟨b2, h1, h2⟩, h3⟩ => ⟨by
            rw [h1]
            cases b2 with
            | false => rfl
            | true => exact absurd (h2.1 rfl) hMP, h3⟩))
          clear hMP HQ
          go_wp2_with (first
            | (go_at_call 26; refine HT.out.mono ?_; rintro e w4 ⟨rfl, hB4⟩))
          go_ret2
          refine ⟨.inr ⟨fun L hL => ?_, rfl⟩, ?_⟩
          · have := sm_inj hL
            subst this
            intro hg
            have h2 := (pText_back P).2 hg
            rw [← HSS.out, HR.out] at h2
            injection h2 with h2
            exact HE.out h2
          · exact B1.out.trans (hB4.mono B1.out.size)
end Go.Proofs.YtfcppchjikmioaaGreat
