/-
  slices.Equal of wishes.
-/
import Derived.Test.YtfcppchjikmioaaGreatRpI
import Derived.Test.YtfcppchjikmioaaGreatWpF
import Derived.Laws.StructEq
import Derived.BigRegion
namespace Go.Proofs.YtfcppchjikmioaaGreat
open Go.RowKit

theorem wish_at {w : World} {B : Nat} {A : Option Addr} {L : List Wsh} (h : Rd w B 2 A L.length (fw L)) {j : Nat} (hj : j < L.length) : ∃ b off, A = some ⟨b, off, none⟩ ∧ b < B ∧ w.cell? ⟨b, off + j * 2, none⟩ = some (.string L[j].1) ∧ w.cell? ⟨b, off + j * 2 + 1, none⟩ = some (wvV L[j].2) := by
  obtain ⟨b, off, rfl, hb, hcl⟩ := h.at_ (k := j) hj (by omega)
  exact ⟨b, off, rfl, hb, hcl (j * 2 + 0) _ ((flat_at encWv 2 L (fun _ _ => rfl) j 0 L[j] (List.getElem?_eq_getElem hj) (by omega)).trans rfl), hcl (j * 2 + 1) _ ((flat_at encWv 2 L (fun _ _ => rfl) j 1 L[j] (List.getElem?_eq_getElem hj) (by omega)).trans rfl)⟩
def eqV : WV → WV → Bool
  | .n a, .n b => a == b
  | .s a, .s b => a.toList == b.toList
  | .t a, .t b => a == b
  | _, _ => false
def eqW (x y : Wsh) : Bool := (x.1.toList == y.1.toList) && eqV x.2 y.2
theorem tl_eq {a b : ByteArray} : (a.toList == b.toList) = true ↔ a = b := by
  rw [beq_iff_eq, ByteArray.toList_eq, ByteArray.toList_eq]
  exact ⟨ba_ext, fun h => by rw [h]⟩
theorem eqV_iff (a b : WV) : eqV a b = true ↔ a = b := by
  cases a <;> cases b
  case s.s a b => rw [show eqV (.s a) (.s b) = (a.toList == b.toList) from rfl, tl_eq]; simp
  all_goals simp [eqV]
theorem eqW_iff (x y : Wsh) : eqW x y = true ↔ x = y := by
  obtain ⟨x1, x2⟩ := x
  obtain ⟨y1, y2⟩ := y
  unfold eqW
  rw [Bool.and_eq_true, tl_eq, eqV_iff]
  simp
theorem iface_eq (d : Nat) (a b : WV) (w : World) : (Op.equalIn (d + 2) 39 (wvV a) (wvV b)).run Tryz.prog w = .ok (eqV a b) w := by
  have hi : Tryz.prog.underlying 39 = some (.interface #[]) := by kernel_rfl
  have u1 : Tryz.prog.underlying 3 = some (.int .i64) := Tryz.underlying3
  have u2 : Tryz.prog.underlying 9 = some .string := Tryz.underlying9
  have u3 : Tryz.prog.underlying 4 = some .bool := Tryz.underlying4
  have c1 : (Tryz.prog.info? 3).map (·.comparable) = some true := by kernel_rfl
  have c2 : (Tryz.prog.info? 9).map (·.comparable) = some true := by kernel_rfl
  have c3 : (Tryz.prog.info? 4).map (·.comparable) = some true := by kernel_rfl
  have e : ∀ (T : TypeId) (x y : Value) (r : Bool), (Tryz.prog.info? T).map (·.comparable) = some true → (Op.equalIn (d + 1) T x y).run Tryz.prog w = .ok r w → (Op.equalIn (d + 2) 39 (.iface T x) (.iface T y)).run Tryz.prog w = .ok r w := by
    intro T x y r hc h
    cases hT : Tryz.prog.info? T with
    | none => simp [hT] at hc
    | some i =>
      have hcc : i.comparable = true := by simpa [hT] using hc
      rw [Op.equalIn]
      simp [run_underlying hi, typeInfo, hT, hcc, h]
  have n : ∀ (T U : TypeId) (x y : Value), T ≠ U → (Op.equalIn (d + 2) 39 (.iface T x) (.iface U y)).run Tryz.prog w = .ok false w := by
    intro T U x y h
    rw [Op.equalIn]
    simp [run_underlying hi, h]
  cases a with
  | n a =>
    cases b with
    | n b => exact e _ _ _ _ c1 (run_equalIn_int w d _ _ _ _ _ u1)
    | s b => exact n _ _ _ _ (by decide)
    | t b => exact n _ _ _ _ (by decide)
  | s a =>
    cases b with
    | n b => exact n _ _ _ _ (by decide)
    | s b => exact e _ _ _ _ c2 (run_equalIn_string w d _ _ _ u2)
    | t b => exact n _ _ _ _ (by decide)
  | t a =>
    cases b with
    | n b => exact n _ _ _ _ (by decide)
    | s b => exact n _ _ _ _ (by decide)
    | t b => exact e _ _ _ _ c3 (run_equalIn_bool' w d _ _ _ u3)
set_option maxRecDepth 100000 in
theorem neq_wish (x y : Wsh) (w : World) : (binOp .neq 41 (.agg #[.string x.1, wvV x.2]) (.agg #[.string y.1, wvV y.2])).run Tryz.prog w = .ok (.bool (!eqW x y)) w := by
  have hf : Tryz.prog.underlying 41 = some (.struct (Tryz.prog.fieldsOf 41)) := by kernel_rfl
  have hp : Tryz.prog.stoodInHeld 41 = false := by kernel_rfl
  rw [run_neq_struct, run_equalIn_agg w 9999 _ _ _ hf hp]
  have hL : (Tryz.prog.fieldsOf 41).toList.map (fun f => (f.name == "_", f.type, f.offset)) = [(false, 9, 0), (false, 39, 1)] := by kernel_rfl
  have p0 : ∀ (s : ByteArray) (v : Value), (part 9 #[.string s, v] 0).run Tryz.prog w = .ok (.string s) w := fun _ _ => by kernel_rfl
  have p1 : ∀ (s : ByteArray) (v : Value), (part 39 #[.string s, v] 1).run Tryz.prog w = .ok v w := fun _ _ => by kernel_rfl
  have u2 : Tryz.prog.underlying 9 = some .string := Tryz.underlying9
  generalize (Tryz.prog.fieldsOf 41).toList = fs at hL ⊢
  have hlen : fs.length = 2 := by simpa using congrArg List.length hL
  obtain ⟨f, g, rfl⟩ : ∃ f g, fs = [f, g] := by
    match fs, hlen with
    | [f, g], _ => exact ⟨f, g, rfl⟩
  clear hlen
  · skip
    simp only [List.map_cons, List.map_nil, List.cons.injEq, Prod.mk.injEq, and_true] at hL
    obtain ⟨⟨f1, f2, f3⟩, g1, g2, g3⟩ := hL
    have f1' : f.name ≠ "_" := by simpa using f1
    have g1' : g.name ≠ "_" := by simpa using g1
    unfold Op.eqFields
    rw [if_pos f1', f2, f3]
    simp only [Sem.run_bind, p0, Result.andThen_ok, run_equalIn_string w 9998 _ _ _ u2]
    unfold eqW
    cases hn : (x.1.toList == y.1.toList)
    · simp
    · unfold Op.eqFields
      rw [if_pos g1', g2, g3]
      simp only [Bool.not_true, Bool.false_eq_true, if_false, Sem.run_bind, p1, Result.andThen_ok, iface_eq 9997]
      cases hv : eqV x.2 y.2 <;> simp [Op.eqFields]
set_option maxRecDepth 100000 in
set_option maxHeartbeats 1000000 in
theorem equalW_any (A B : Option Addr) (c d B0 B1 : Nat) (L M : List Wsh) (W : World) (h : Rd W B0 2 A L.length (fw L)) (k : Rd W B1 2 B M.length (fw M)) (hm : L.length ≤ 1000000) :
    Calls Tryz.prog 26 #[.slice A L.length c, .slice B M.length d] W fun e w' => (∃ b, e = .returned (.bool b) ∧ (b = true ↔ L = M)) ∧ Below W.heap.size W w' := by
  by_cases hl : L.length = M.length
  case neg =>
    have hL := hid hl
    have e1 : ((L.length : Int) == (M.length : Int)) = false := by rw [beq_eq_false_iff_ne]; omega
    clear h k
    go_enter Tryz.func26, Tryz.ntmps26
    go_wp2
    go_ret
    exact ⟨⟨false, rfl, by simp; intro e; exact hL.out (by rw [e])⟩, Below.refl _ _⟩
  obtain ⟨n, hN⟩ : ∃ n, n = L.length := ⟨_, rfl⟩
  have HM := hid (show n = M.length from hN.trans hl)
  have HN := hid hN
  rw [← hl, ← hN]
  have hn1 : n ≤ 1000000 := by omega
  have H := hid h
  have K := hid k
  clear h k hN hl hm
  go_enter Tryz.func26, Tryz.ntmps26
  go_wp2
  go_loopw [13] (fun iv wr => ∃ i : Nat, i ≤ n ∧ iv = .int .i64 (i : Int) ∧ Hid (L.take i = M.take i) ∧ Hid (∃ q, wr = W.drewN q)) (fun i _ => n - (intOf i).toNat)
  case atStart => exact ⟨0, by omega, rfl, hid rfl, hid ⟨0, rfl⟩⟩
  case round =>
    obtain ⟨i, hi, rfl, Ht, Hw⟩ := hrel
    by_cases hlt : i < n
    · have d1 : decide (i < n) = true := decide_eq_true hlt
      have hiL : i < L.length := by have := HN.out; omega
      have hiM : i < M.length := by have := HM.out; omega
      obtain ⟨b, off, rfl, hb, c0, c1⟩ := wish_at H.out hiL
      obtain ⟨b', off', rfl, hb', c2, c3⟩ := wish_at K.out hiM
      have cells : ∀ a, wr.cell? a = W.cell? a := by obtain ⟨q, rfl⟩ := Hw.out; intro a; simp
      replace c0 := (cells _).trans c0
      replace c1 := (cells _).trans c1
      replace c2 := (cells _).trans c2
      replace c3 := (cells _).trans c3
      have hne := neq_wish L[i] M[i]
      have HX := hid (show L[i]? = some L[i] from List.getElem?_eq_getElem hiL)
      have HY := hid (show M[i]? = some M[i] from List.getElem?_eq_getElem hiM)
      clear cells
      generalize L[i] = x at *
      generalize M[i] = y at *
      obtain ⟨b1, hb1⟩ : ∃ b, b = eqW x y := ⟨_, rfl⟩
      rw [← hb1] at hne
      have HB := hid hb1
      clear hb1
      obtain ⟨xn, xv⟩ := x
      obtain ⟨yn, yv⟩ := y
      dsimp only at c0 c1 c2 c3 hne
      generalize wvV xv = v at *
      generalize wvV yv = u at *
      cases b1
      · go_wp2_with fail
        go_region
        go_wp2
        go_ret
        refine ⟨⟨false, rfl, by
          simp
          intro e
          have h1 := HX.out
          rw [e, HY.out] at h1
          injection h1 with h1
          have h2 := HB.out
          rw [h1, (eqW_iff _ _).2 rfl] at h2
          cases h2⟩, ?_⟩
        obtain ⟨q, rfl⟩ := Hw.out
        exact below_drewN (Below.refl _ _) (q + 1)
      · go_wp2_with fail
        go_region
        go_wp2
        go_roundw
        case rel =>
          refine ⟨i + 1, by omega, by go_num, hid ?_, hid ?_⟩
          · have e := (eqW_iff _ _).1 HB.out.symm
            rw [List.take_add_one, List.take_add_one, Ht.out, HX.out, HY.out, e]
          · obtain ⟨q, rfl⟩ := Hw.out
            exact ⟨q + 1, by simp⟩
        case measure => simp [intOf]; omega
    · have d1 : decide (i < n) = false := decide_eq_false hlt
      go_wp2
      go_ret
      refine ⟨⟨true, rfl, by
        simp
        have e := Ht.out
        rwa [List.take_of_length_le (by have := HN.out; omega), List.take_of_length_le (by have := HM.out; omega)] at e⟩, by obtain ⟨q, rfl⟩ := Hw.out; exact below_drewN (Below.refl _ _) q⟩
end Go.Proofs.YtfcppchjikmioaaGreat
