/-
  A text's runes as []rune gives them; burnishref02.known and Good of the law's wishes.
-/
import Derived.Test.YtfcppchjikmioaaGreatWtA
import Derived.Test.YtfcppchjikmioaaGreatUtC
import Derived.Laws.IdiomStrings
import Derived.Deep.QuietTactic
import Derived.BigQuiet
namespace Go.Proofs.YtfcppchjikmioaaGreat
open Go.RowKit Go.Lib

def ruFrom (s : ByteArray) : Nat → Nat → List Int
  | 0, _ => []
  | f + 1, pos => if pos < s.size then ((Utf8.decode s pos).1 : Int) :: ruFrom s f (pos + (Utf8.decode s pos).2) else []
def ruL (s : ByteArray) : List Int := ruFrom s s.size 0
theorem runesFrom_eq (s : ByteArray) : ∀ (f pos : Nat) (acc : Array Value), (Conv.runesFrom s f pos acc).toList = acc.toList ++ runesV (ruFrom s f pos)
  | 0, pos, acc => by simp [Conv.runesFrom, ruFrom, runesV]
  | f + 1, pos, acc => by
    unfold Conv.runesFrom ruFrom
    by_cases h : pos < s.size
    · rw [if_pos h, if_pos h]
      show (Conv.runesFrom s f _ _).toList = _
      rw [runesFrom_eq s f, Array.toList_push, List.append_assoc]
      rfl
    · rw [if_neg h, if_neg h]
      simp [runesV]
theorem ruFrom_len (s : ByteArray) : ∀ f pos, (ruFrom s f pos).length ≤ f
  | 0, _ => Nat.le_refl _
  | f + 1, pos => by
    unfold ruFrom
    split
    · have := ruFrom_len s f (pos + (Utf8.decode s pos).2)
      simp; omega
    · simp
theorem ruL_len (s : ByteArray) : (ruL s).length ≤ s.size := ruFrom_len s _ _
theorem conv_ru (s : ByteArray) (hs : s.size ≤ 1000000) (w : World) : ∃ g c w', (Go.convert 9 64 (.string s)).run Tryz.prog w = .ok (.slice (some ⟨g, 0, none⟩) (ruL s).length c) w' ∧ (∀ j v, (runesV (ruL s))[j]? = some v → w'.cell? ⟨g, j, none⟩ = some v) ∧ g < w'.heap.size ∧ w.heap.size ≤ g ∧ Below w.heap.size w w' := by
  have e := runesFrom_eq s s.size 0 #[]
  have el : (Conv.runesFrom s s.size 0 #[]).size = (ruL s).length := by
    have := congrArg List.length e
    show _ = (ruFrom s s.size 0).length
    simpa [runesV] using this
  have h := run_runes_of_string (P := Tryz.prog) w 9 64 21 s Tryz.underlying9 Tryz.underlying64 Tryz.underlying21 (by rw [el]; have := ruL_len s; omega)
  refine ⟨_, _, _, by rw [← el]; exact h, fun j v hv => ?_, by show w.heap.size < (w.heap.push _).size; simp, Nat.le_refl _, ((Below.refl _ w).drew).alloc (Nat.le_refl _) _⟩
  have hj : j < (ruL s).length := by
    have := (List.getElem?_eq_some_iff.1 hv).1
    simpa [runesV] using this
  have e1 := Blk.new w.drew 21 (Conv.runesFrom s s.size 0 #[] ++ Array.replicate (grownCap w (Conv.runesFrom s s.size 0 #[]).size 0 21 - (Conv.runesFrom s s.size 0 #[]).size) (.int .i32 0))
  have e2 := e1.cell j
  refine e2.trans ?_
  rw [Array.getElem?_append_left (by rw [el]; exact hj), ← Array.getElem?_toList, e]
  have hv' : (runesV (ruFrom s s.size 0))[j]? = some v := hv
  simpa using hv'
/-- a row of runes that can be read, as a text -/
theorem conv_back {w : World} {g c n : Nat} {o : List Int} (h : ∀ j v, (runesV o)[j]? = some v → w.cell? ⟨g, j, none⟩ = some v) (hn : n = o.length) :
    (Go.convert 64 9 (.slice (some ⟨g, 0, none⟩) n c)).run Tryz.prog w = .ok (.string (runesBytes o)) w := by
  subst hn
  have h2 := run_convert_runes (P := Tryz.prog) w 64 9 21 ⟨g, 0, none⟩ o.length c o (Nat.le_refl _) Tryz.underlying64 Tryz.underlying21 Tryz.underlying9 (fun j hj => by
    rw [show (⟨g, 0, none⟩ : Addr).add j = ⟨g, 0 + j, none⟩ from Addr.add_mid g 0 j, Nat.zero_add]
    exact h j _ (by simp [runesV, hj]))
  rw [List.take_length] at h2
  exact h2
def knownI (nm : ByteArray) (L : List Wi) : Bool := L.any (fun x => x.nm.toList == nm.toList)
set_option maxRecDepth 100000 in
set_option maxHeartbeats 2000000 in
theorem knownI_any (A : Option Addr) (c d g B0 n nl : Nat) (L : List Wi) (nm : List Int) (W : World) (hN : n = L.length) (hnl : nl = nm.length) (h : Rd W B0 5 A L.length (L.flatMap encWi)) (hB : B0 ≤ W.heap.size) (hm : L.length ≤ 1000000) (hn : ∀ j v, (runesV nm)[j]? = some v → W.cell? ⟨g, j, none⟩ = some v) (hg : g < W.heap.size) :
    Calls Tryz.prog 54 #[.slice A n c, .slice (some ⟨g, 0, none⟩) nl d] W fun e w' => e = .returned (.bool (knownI (runesBytes nm) L)) ∧ Below W.heap.size W w' := by
  have H := hid h
  have cn : ∀ w, Below W.heap.size W w → (Go.convert 64 9 (.slice (some ⟨g, 0, none⟩) nl d)).run Tryz.prog w = .ok (.string (runesBytes nm)) w := fun w hw => conv_back (fun j v hv => (hw.cell (p := ⟨g, j, none⟩) hg).trans (hn j v hv)) hnl
  have CN := hid cn
  have HN := hid hN
  clear h hn cn hN hnl
  generalize runesBytes nm = nb at *
  go_enter Tryz.func54, Tryz.ntmps54
  go_wp2_with fail
  go_loopw [5] (fun iv wr => ∃ i : Nat, i ≤ n ∧ iv = .int .i64 (i : Int) ∧ Hid (∀ k, k < i → ∀ x, L[k]? = some x → (x.nm.toList == nb.toList) = false) ∧ Hid (Below W.heap.size W wr)) (fun i _ => n - (intOf i).toNat)
  case atStart => exact ⟨0, by omega, rfl, hid (fun k hk => by omega), hid (Below.refl _ _)⟩
  case round =>
    obtain ⟨i, hi, rfl, Hall, B⟩ := hrel
    by_cases hlt : i < n
    · have d1 : decide (i < n) = true := decide_eq_true hlt
      have d2 : decide ((i : Int) < (n : Int)) = true := decide_eq_true (by omega)
      have hiL : i < L.length := by have := HN.out; omega
      obtain ⟨b, off, rfl, hb, c0, _⟩ := wi_at (H.out.below (hb := B.out) (by omega)) hiL
      have Hx := hid (show L[i]? = some L[i] from List.getElem?_eq_getElem hiL)
      have cw : ∀ k, (Go.convert 64 9 (.slice (some ⟨g, 0, none⟩) nl d)).run Tryz.prog (wr.drewN k) = .ok (.string nb) (wr.drewN k) := fun k => CN.out (wr.drewN k) (below_drewN B.out k)
      generalize L[i] = x at *
      generalize hxn : x.nm = xn at *
      have Hxn := hid hxn
      clear hxn
      go_upto_region 4 with (fail)
      first | go_quiet (fail) | fail
      have B1 := hid (show Below W.heap.size W (wr.drewN nq) from below_drewN B.out nq)
      cases hq : (xn.toList == nb.toList)
      · have Hq := hid hq
        clear hq
        go_wp2
        go_roundw
        case rel =>
          refine ⟨i + 1, by omega, by go_num, hid (fun k hk y hy => ?_), B1⟩
          by_cases h : k < i
          · exact Hall.out k h y hy
          · obtain rfl : k = i := by omega
            rw [Hx.out] at hy
            injection hy with hy
            rw [← hy, Hxn.out]
            exact Hq.out
        case measure => simp [intOf]; omega
      · have Ha := hid (show knownI nb L = true from List.any_eq_true.2 ⟨_, List.mem_of_getElem? Hx.out, by rw [Hxn.out]; exact hq⟩)
        clear hq
        go_wp2
        go_ret
        exact ⟨by rw [Ha.out]; rfl, B1.out⟩
    · have d1 : decide (i < n) = false := decide_eq_false hlt
      have d2 : decide ((i : Int) < (n : Int)) = false := decide_eq_false (by omega)
      have Ha := hid (show knownI nb L = false from List.any_eq_false.2 fun x hx => by
        obtain ⟨k, hk, rfl⟩ := List.getElem_of_mem hx
        have := Hall.out k (by have := HN.out; omega) _ (List.getElem?_eq_getElem hk)
        rw [this]
        exact Bool.false_ne_true)
      go_wp2
      go_ret
      exact ⟨by rw [Ha.out]; rfl, B.out⟩
theorem rsm_any (c : Int) (W : World) : Calls Tryz.prog 55 #[.int .i32 c] W fun e w' => e = .returned (.bool (isSm c)) ∧ W = w' := by
  unfold isSm
  by_cases h1 : 97 ≤ c
  · have d1 : decide (97 ≤ c) = true := decide_eq_true h1
    go_enter Tryz.func55, Tryz.ntmps55
    go_wp2
    go_ret
    exact ⟨ret_bool (by simp [d1]), rfl⟩
  · have d1 : decide (97 ≤ c) = false := decide_eq_false h1
    go_enter Tryz.func55, Tryz.ntmps55
    go_wp2
    go_ret
    exact ⟨ret_bool (by simp), rfl⟩
end Go.Proofs.YtfcppchjikmioaaGreat
