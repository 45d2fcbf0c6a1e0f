/-
  PngKept: for every chunks, color, and whether they go and the form stays, the law returns true: which chunks are kept, with bytes of their own. The row lists unicode.properties and unicode.Lower as the library's text lays them; the card ties them. No other condition.
-/
import Derived.Test.YtlekobompjehdaaDoorKpF
import Derived.Test.YtlekobompjehdaaDoorTie
import Derived.Test.YtlekobompjehdaaDoorCards
import Derived.LaidMore
import Derived.Lay
import Derived.SevenTiedAt
import Derived.Stop.Joined
namespace Go.Proofs.YtlekobompjehdaaDoor.PngKept
open Go.ChangeShapes Go.WideShapes Go.ChangeAt Go.RowKit Go.Proofs.YtlekobompjehdaaDoor

theorem law_any (A : Option Addr) (c : Nat) (L : List CK) (col : Int) (bare stays : Bool) (W : World) (hP : PropsIn W) (h : Rd W W.heap.size 2 A L.length (fk L)) (hd : LIn W L) (hm : L.length ≤ maxLen) :
    Calls Tryd.prog 3 #[.agg #[.slice A L.length c, .int .i64 col, .bool bare, .bool stays]] W fun e w' => e = .returned (.bool true) ∧ Below W.heap.size W w' := by
  have B := hid (show Below W.heap.size W (W.alloc (.cells #[.slice A L.length c, .int .i64 col, .bool bare, .bool stays] 24)) from (Below.refl _ _).alloc (Nat.le_refl _) _)
  have hK := kept_any A c L col bare stays (W.alloc (.cells #[.slice A L.length c, .int .i64 col, .bool bare, .bool stays] 24)) (hP.below B.out hP.sz) ((h.below B.out (Nat.le_refl _)).more B.out.size) ⟨fun x hx => ((hd.rd x hx).below B.out (Nat.le_refl _)).more B.out.size, hd.nil⟩ hm
  have HK := hid hK
  clear hK hP h hd
  go_enter Tryd.func3, Tryd.ntmps3
  go_wp2_with fail
  refine (HK.out).mono ?_
  rintro e w1 ⟨rfl, hb⟩
  have B1 := hid (B.out.trans (hb.mono B.out.size))
  clear hb B HK
  go_wp2
  go_ret
  exact ⟨rfl, B1.out⟩
theorem nil_cap {P : Program} {H : Type} {enc : TypeId × Value → H} {w : World} {base : Nat} {spare : Nat → Bool} {held : Bool} {t e : TypeId} {m n c : Nat} {A : Option Addr} {x : DataW H × List MemPlace} (ht : P.underlying t = some (.slice e))
    (h : DataW.trod enc P w base spare held m t [.slice A n c] = some x) (hA : A = none) : c = 0 := by
  rcases Go.Deep.open_slice ht h with ⟨hc, _⟩ | ⟨a, len, cap, m, k, D, Pl, hc, _⟩
  · simp at hc
    exact hc.2.2
  · simp at hc
    rw [hc.1] at hA
    cases hA
theorem list2 {α : Type} {l : List α} (h : l.length = 2) : ∃ a b, l = [a, b] := by
  match l, h with
  | [a, b], _ => exact ⟨a, b, rfl⟩
theorem list4 {α : Type} {l : List α} (h : l.length = 4) : ∃ a b c d, l = [a, b, c, d] := by
  match l, h with
  | [a, b, c, d], _ => exact ⟨a, b, c, d, rfl⟩
def encB (n : Int) : List Value := [.int .u8 n]
theorem encB_eq (l : List Int) : l.flatMap encB = bytesV l := by
  induction l with
  | nil => rfl
  | cons a r ih => rw [List.flatMap_cons, ih]; rfl
theorem byte_of {H : Type} {enc : TypeId × Value → H} {w : World} {base : Nat} {spare : Nat → Bool} {held : Bool} (n : Nat) (cs : List Value) (y : DataW H × List MemPlace) (hl : cs.length = 1)
    (h : DataW.trod enc Tryd.prog w base spare held n 5 cs = some y) : ∃ t : Int, cs = encB t ∧ True := by
  match cs, hl with
  | [c], _ =>
    obtain ⟨a, rfl, _⟩ := leaf_int Tryd.underlying5 h
    exact ⟨a, rfl, trivial⟩
def okK (w : World) (x : CK) : Prop := Rd w w.heap.size 1 x.A x.d.length (bytesV x.d) ∧ (x.A = none → x.c = 0)
theorem chunk_of {H : Type} {enc : TypeId × Value → H} {w : World} {base : Nat} {spare : Nat → Bool} {held : Bool} (n : Nat) (cs : List Value) (y : DataW H × List MemPlace) (hl : cs.length = 2)
    (h : DataW.trod enc Tryd.prog w base spare held n 30 cs = some y) : ∃ t : CK, cs = encK t ∧ okK w t := by
  have L := leaf_at 1 30 n cs y (by kernel_rfl) (by rw [hl]; kernel_rfl) h
  obtain ⟨_, _, u0, e0, t0⟩ := L 0 9 (by kernel_rfl)
  obtain ⟨s, rfl, _⟩ := leaf_string Tryd.underlying9 t0
  obtain ⟨_, _, u1, e1, t1⟩ := L 1 28 (by kernel_rfl)
  obtain ⟨DA, dc, dl, f1, _, _, _, hp⟩ := open_slice_of encB (fun _ => True) 1 (by omega) Tryd.underlying28 (by kernel_rfl) byte_of (fun _ => rfl) t1
  obtain ⟨c0, c1, rfl⟩ := list2 hl
  simp at e0 e1
  subst e0 e1 f1
  rw [encB_eq] at hp
  exact ⟨⟨s, DA, dl, dc⟩, rfl, hp, fun hA => nil_cap Tryd.underlying28 t1 hA⟩
set_option maxRecDepth 100000 in
theorem open_keep {H : Type} {enc : TypeId × Value → H} {w : World} {v : Value} {x : DataW H} {ps : List MemPlace} {r : Reach} {b0 : Nat}
    (hv : Value.okWide Tryd.prog w r b0 24 v) (h : DataW.Trod enc Tryd.prog w 0 (fun _ => true) true 24 v x ps) :
    ∃ (A : Option Addr) (c : Nat) (L : List CK) (col : Int) (bare stays : Bool), v = .agg #[.slice A L.length c, .int .i64 col, .bool bare, .bool stays] ∧ Rd w w.heap.size 2 A L.length (fk L) ∧ LIn w L ∧ L.length ≤ maxLen := by
  obtain ⟨cs, e, hl, L⟩ := open_agg 0 Tryd.underlying24 (by kernel_rfl) hv h
  obtain ⟨_, _, u0, e0, t0⟩ := L 0 22 (by kernel_rfl)
  obtain ⟨PA, pc, X, f0, hlc, hcm, hok, hp⟩ := open_slice_of encK (okK w) 2 (by omega) Tryd.underlying22 (by kernel_rfl) chunk_of (fun _ => rfl) t0
  obtain ⟨_, _, u1, e1, t1⟩ := L 1 3 (by kernel_rfl)
  obtain ⟨x1, rfl, _⟩ := leaf_int Tryd.underlying3 t1
  obtain ⟨_, _, u2, e2, t2⟩ := L 2 4 (by kernel_rfl)
  obtain ⟨x2, rfl⟩ := leaf_bool Tryd.underlying4 t2
  obtain ⟨_, _, u3, e3, t3⟩ := L 3 4 (by kernel_rfl)
  obtain ⟨x3, rfl⟩ := leaf_bool Tryd.underlying4 t3
  rw [show (leaves Tryd.prog (0 + 1) 24).length = 4 by kernel_rfl] at hl
  obtain ⟨c0, c1, c2, c3, rfl⟩ := list4 hl
  simp at e0 e1 e2 e3
  subst e0 e1 e2 e3 f0
  exact ⟨PA, pc, X, x1, x2, x3, e, hp, ⟨fun x hx => (hok x hx).1, fun x hx => (hok x hx).2⟩, Nat.le_trans hlc hcm⟩
theorem props_list : (Rows.laid_unicode_properties : DataW Unit) = .agg (propsZ.map fun n => .lit (.int .u8 n)) := by kernel_rfl
theorem props_in {W : World} (h : laidMetH Tryd.prog Rows.pngKeptRow.laid W) : PropsIn W := by
  have hcell : ∀ r, r < 256 → W.cell? ⟨0, r, none⟩ = some (.int .u8 (propsZ.getD r 0)) := fun r hr => by
    rw [MakeChecks.laidMetH_plain _ _ _ (by kernel_rfl)] at h
    obtain ⟨ps, ⟨g, t, cs, fuel, p, q, hg, ht, hv, hd, _, _⟩, _, _⟩ := h
    obtain rfl := Option.some.inj ((show Tryd.prog.globalNamed "unicode.properties" = some 0 by kernel_rfl).symm.trans hg)
    obtain rfl := Option.some.inj ((show (Tryd.prog.globals[0]?).map (·.type) = some 50 by kernel_rfl).symm.trans ht)
    obtain ⟨xs, m, _, ex, _, hl, hel⟩ := DataW.trod_array Tryd.underlying50 hd
    have c5 : Tryd.prog.cellsOf 5 = 1 := by kernel_rfl
    have hE := hel r hr
    rw [c5, Nat.mul_one, List.getElem?_eq_getElem (by omega)] at hE
    obtain ⟨z, e1, e2, _⟩ := DataW.trod_int Tryd.underlying5 hE
    have hlen : propsZ.length = 256 := by kernel_rfl
    have e3 : (xs.map (·.1)) = propsZ.map fun n => .lit (.int .u8 n) := (DataW.agg.inj ((props_list.symm.trans (Prod.mk.inj ex).1))).symm
    have e4 : (xs.map (·.1))[r]? = (propsZ.map fun n => (DataW.lit (.int .u8 n) : DataW Unit))[r]? := by rw [e3]
    rw [List.getElem?_map, List.getElem?_map, List.getElem?_eq_getElem (by omega : r < xs.length), List.getElem?_eq_getElem (by omega : r < propsZ.length), e2] at e4
    have hz : z = propsZ.getD r 0 := by
      simp only [Option.map_some, Option.some.injEq, DataW.lit.injEq, Lit.int.injEq, true_and] at e4
      rw [e4, List.getD, List.getElem?_eq_getElem (by omega : r < propsZ.length)]; rfl
    rw [World.var?_cell hg hv r, ← hz]
    have : cs.toList[r]? = some (.int .u8 z) := by
      have h0 : ((cs.toList.drop r).take 1)[0]? = some (.int .u8 z) := by rw [e1]; rfl
      simpa using h0
    simpa using this
  refine ⟨?_, fun r hr => hcell r (by omega)⟩
  have h0 := hcell 0 (by omega)
  rcases Nat.eq_zero_or_pos W.heap.size with hz | hz
  · have : W.heap[0]? = none := by simp [hz]
    simp [World.cell?, this] at h0
  · exact hz
set_option maxRecDepth 100000 in
theorem lifted (os : Os) (started : os.Started) (H : Type) (enc : TypeId × Value → H) :
    ReturnsInHanded {} Tryd.checked os 3 .any (fun w args => (Rows.pngKeptSpec.pre enc Tryd.prog Tryd.f3 Rows.pngKeptRow.domain false w args ∧ laidMetH Tryd.prog Rows.pngKeptRow.laid w) ∧ sizedMet enc Tryd.prog Tryd.f3 (OpenSpec.ofChange Rows.pngKeptSpec) false w args)
      (Rows.pngKeptSpec.post enc Tryd.prog Tryd.f3 false true false false) := by
  refine returnsInHanded_of_change_and (C := Tryd.checked) (X := fun w _ => laidMetH Tryd.prog Rows.pngKeptRow.laid w) (fun _ _ _ hh h => h.of_heap hh) own started (by kernel_rfl) Tryd.func3
    (ChangeSpec.witness_shaped (enc := enc) (C := Tryd.checked) (os := os) (X := fun w _ => laidMetH Tryd.prog Rows.pngKeptRow.laid w) false (World.laidAll Tryd.prog os Rows.pngKeptRow.laid) #[.agg #[.slice none 0 0, .int .i64 0, .bool false, .bool false]] 8 (World.laidAll_os _ _ _)
      (World.shaped_of_ZipB (by kernel_rfl) (by kernel_rfl)) (by kernel_rfl) (by kernel_rfl) (by kernel_rfl)
      (by rw [MakeChecks.laidMetH_plain _ _ _ (by kernel_rfl)]; exact laidMet_laidAll _ (by kernel_rfl) (by kernel_rfl))) ?_
  intro W base args ds gs before hval0 hW hc _ hL _
  have hval : ∀ (j : Nat) t v, Tryd.f3.params[j]? = some t → args[j]? = some v → Value.okWide Tryd.prog W .any base t v := hval0
  have hW' := hW
  obtain ⟨p, q, hA0, hV, rfl, _, _⟩ := hW
  have hA : DataW.TrodAll enc Tryd.prog W 0 (fun _ => true) true Tryd.f3.params.toList args.toList ds p := hA0
  have hA1 := hA
  rw [Tryd.params3] at hA hval
  obtain ⟨v0, d0, rfl, rfl, h0⟩ := trodAll_one hA
  obtain ⟨rfl, rfl⟩ := trodVars_none hV
  obtain ⟨A0, c0, L0, col, bare, stays, rfl, h1, h2, h3⟩ := open_keep (hval 0 24 v0 rfl rfl) h0
  refine (law_any A0 c0 L0 col bare stays W (props_in hL) h1 h2 h3).mono fun e W' ⟨he, bel⟩ => ?_
  subst he
  refine ⟨_, rfl, [d0], [], p ++ [], [], p, [], hW', ?_, ?_, ?_, bel.frame _, fun h => by cases h⟩
  · exact trodAll_mk1 (shut_bool Tryd.underlying4 _)
  · exact below_trodAll laidOut bel (by
      rw [Tryd.params3]
      intro t ht
      simp at ht
      subst ht
      exact ⟨by kernel_rfl, of_decide_eq_true (by kernel_rfl)⟩) hA1
  · rfl
theorem holds : Rows.PngKeptSaid :=
  OpenClaim.holds_of_wide 3 Tryd.f3 rfl rfl rfl rfl rfl rfl rfl ⟨rfl, rfl, rfl, rfl, rfl⟩ rfl rfl rfl rfl rfl (by kernel_rfl) Tryd.func3 (by kernel_rfl)
    (of_decide_eq_true (by kernel_rfl)) (by unfold Func.isWrapper; first | (rw [if_pos (by decide +kernel)]; kernel_rfl) | (rw [if_neg (by decide +kernel)]; exact ⟨rfl, rfl⟩))
    (fun os started H enc _ => lifted os started H enc)
theorem proved : Rows.PngKeptCardSaid :=
  Claim7.holds_tied_plain_at .later [] _ _ _ _ holds (fun _ h => by cases h) (by kernel_rfl) (fun _ h => by cases h) pngKept_row_tie rfl ⟨rfl, rfl⟩ (by kernel_rfl) rfl
    (fun f fn hf hfn => by
      obtain rfl : f = 3 := Option.some.inj ((show Tryd.prog.funcNamed "burnish/burnishlaw19.PngKept" = some 3 by kernel_rfl).symm.trans hf) |>.symm
      obtain rfl : fn = Tryd.f3 := (Option.some.inj (Tryd.func3.symm.trans hfn)).symm
      exact ⟨by kernel_rfl, fun j t ht => by
        rw [Tryd.params3] at ht
        have hm : t ∈ [24] := by simpa using Array.mem_of_getElem? ht
        have hall : ([24].all fun u => !Tryd.prog.wantsStandIn u) = true := by kernel_rfl
        exact (show Tryd.prog.wantsStandIn t = false by simpa using List.all_eq_true.1 hall t hm)⟩)
    (by kernel_rfl)
#print axioms proved
end Go.Proofs.YtlekobompjehdaaDoor.PngKept
