/-
  What PngKept says of chunks: burnishlaw19.kept.
-/
import Derived.Test.YtlekobompjehdaaDoorKpE
namespace Go.Proofs.YtlekobompjehdaaDoor
open Go.RowKit

theorem grown_set1 {w w0 : World} {g : Nat} (h : w0.grownBy w (some g)) (i : Nat) (u : Value) : w0.grownBy (w.setCell ⟨g, i, none⟩ u) (some g) :=
  ⟨h.os, h.tape, h.output, by simpa using h.size, fun k hk hr => (Below.heap_setCell w ⟨g, i, none⟩ u k (fun e => hr (by rw [e]))).trans (h.block k hk hr)⟩
def L0 : List CK := [⟨⟨#[73, 68, 65, 84]⟩, none, [], 0⟩, ⟨⟨#[116, 69, 88, 116]⟩, none, [], 0⟩]
theorem keep_0 : keepP ⟨#[73, 68, 65, 84]⟩ 0 true = false := by
  unfold keepP
  rw [own_list]
  unfold inL eqs
  simp only [ByteArray.toList_eq]
  decide
theorem keep_1 : keepP ⟨#[116, 69, 88, 116]⟩ 0 true = true := by
  unfold keepP
  rw [own_list]
  unfold inL eqs
  simp only [ByteArray.toList_eq]
  decide
theorem L0_len : ((L0.filter (fun x => !false && keepP x.n 0 true)).map sayK).length = 1 := by
  unfold L0
  simp [keep_0, keep_1]
/-- chunks that came in -/
structure LIn (W : World) (L : List CK) : Prop where
  rd : ∀ x ∈ L, Rd W W.heap.size 1 x.A x.d.length (bytesV x.d)
  nil : ∀ x ∈ L, x.A = none → x.c = 0
/-- the kept chunks while they are looked through: their bytes from place k on are as they were laid -/
structure KR (w W1 : World) (A : Option Addr) (c : Nat) (X : List CK) (k : Nat) : Prop where
  row : w.ownsRow W1.heap.size 30 2 (.slice A X.length c) X.length (fk X)
  sym : ∀ i (h : i < X.length), k ≤ i → BOwn w W1.heap.size X[i]
  dist : X.Pairwise (fun x y => ∀ g, x.A = some ⟨g, 0, none⟩ → y.A ≠ some ⟨g, 0, none⟩)
  old : Below W1.heap.size W1 w
theorem KR.below {w w' W1 : World} {A : Option Addr} {c : Nat} {X : List CK} {k : Nat} (h : KR w W1 A c X k) (hb : Below w.heap.size w w') : KR w' W1 A c X k :=
  ⟨own_below h.row hb (Nat.le_refl _), fun i hi hk => own_below (h.sym i hi hk) hb (Nat.le_refl _), h.dist, h.old.trans (hb.mono h.old.size)⟩
theorem KR.alloc {w W1 : World} {A : Option Addr} {c : Nat} {X : List CK} {k : Nat} (h : KR w W1 A c X k) (o : Obj) : KR (w.alloc o) W1 A c X k := h.below ((Below.refl _ _).alloc (Nat.le_refl _) o)
theorem KR.step {w W1 : World} {A : Option Addr} {c : Nat} {X : List CK} {k : Nat} (h : KR w W1 A c X k) : KR w W1 A c X (k + 1) :=
  ⟨h.row, fun i hi hk => h.sym i hi (by omega), h.dist, h.old⟩
theorem KR.store {w W1 : World} {A : Option Addr} {c : Nat} {X : List CK} {k g : Nat} (h : KR w W1 A c X k) (hk : k < X.length) (hg : X[k].A = some ⟨g, 0, none⟩) (v : Value) : KR (w.setCell ⟨g, 0, none⟩ v) W1 A c X (k + 1) := by
  have hgr : w.grownBy (w.setCell ⟨g, 0, none⟩ v) (some g) := grown_set1 (World.grownBy.refl w _) 0 v
  have hs := h.sym k hk (Nat.le_refl _)
  have hob : (Value.slice X[k].A X[k].d.length X[k].c).ownBlock = some g := by rw [hg]; rfl
  have hgb : W1.heap.size ≤ g := by
    rcases hs.at_ with h2 | ⟨g2, h2, h3, _⟩
    · rw [h2] at hg; cases hg
    · rw [h2] at hg
      injection hg with hg
      injection hg with hg
      omega
  refine ⟨h.row.kept hgr ?_, fun i hi hki => (h.sym i hi (by omega)).kept hgr ?_, h.dist, h.old.setCell (p := ⟨g, 0, none⟩) hgb v⟩
  · rcases own_two_ne hs h.row (by decide) with h1 | h1
    · rw [hob] at h1; cases h1
    · rw [hob] at h1
      exact .inr (fun e => h1 e.symm)
  · have hd := (List.pairwise_iff_getElem.1 h.dist) k i hk hi (by omega) g hg
    cases hA : X[i].A with
    | none => exact .inl rfl
    | some a =>
      right
      intro e
      rcases (h.sym i hi (by omega)).at_ with h2 | ⟨g2, h2, _, _⟩
      · rw [hA] at h2; cases h2
      · rw [h2] at hA
        injection hA with hA
        rw [← hA] at e
        have : g2 = g := by simpa [Value.ownBlock] using e
        rw [this] at h2
        exact hd h2
theorem BOwn.blk {w : World} {base : Nat} {x : CK} (h : BOwn w base x) (h0 : 0 < x.d.length) : ∃ g cur, x.A = some ⟨g, 0, none⟩ ∧ base ≤ g ∧ Blk w g 5 cur ∧ w.cell? ⟨g, 0, none⟩ = some (.int .u8 x.d[0]) := by
  have hr := own_rd h
  obtain ⟨b, off, e, _, hc⟩ := hr.at_ (k := 0) h0 (by omega)
  have hc0 := hc 0 _ (show (bytesV x.d)[0]? = some (.int .u8 x.d[0]) by simp [bytesV, h0])
  rcases h.2 with ⟨h1, _⟩ | ⟨g, cap, cur, h1, h2, h3, _⟩
  · injection h1 with h1
    rw [h1] at e; cases e
  · injection h1 with h1
    rw [h1] at e
    injection e with e
    injection e with e1 e2
    refine ⟨g, cur, h1, h2, h3, ?_⟩
    rw [← e1, ← e2] at hc0
    simpa using hc0
theorem drop_say {X L : List CK} {p : CK → Bool} {k j : Nat} (hj : j < L.length) (h : (X.drop k).map sayK = ((L.drop j).filter p).map sayK) :
    (p L[j] = false → (X.drop k).map sayK = ((L.drop (j + 1)).filter p).map sayK) ∧ (p L[j] = true → ∃ hk : k < X.length, X[k].n = L[j].n ∧ X[k].d = L[j].d ∧ (X.drop (k + 1)).map sayK = ((L.drop (j + 1)).filter p).map sayK) := by
  rw [List.drop_eq_getElem_cons hj] at h
  constructor
  · intro hp
    rw [List.filter_cons_of_neg (by rw [hp]; exact Bool.false_ne_true)] at h
    exact h
  · intro hp
    rw [List.filter_cons_of_pos hp, List.map_cons] at h
    have hk : k < X.length := by
      rcases Nat.lt_or_ge k X.length with h0 | h0
      · exact h0
      · rw [List.drop_eq_nil_of_le h0] at h; cases h
    rw [List.drop_eq_getElem_cons hk, List.map_cons] at h
    injection h with h1 h2
    exact ⟨hk, (Prod.mk.inj h1).1, (Prod.mk.inj h1).2, h2⟩
set_option maxRecDepth 100000 in
set_option maxHeartbeats 4000000 in
theorem kept_any (A : Option Addr) (c : Nat) (L : List CK) (col : Int) (bare stays : Bool) (W : World) (hP : PropsIn W) (h : Rd W W.heap.size 2 A L.length (fk L)) (hd : LIn W L) (hm : L.length ≤ maxLen) :
    Calls Tryd.prog 4 #[.slice A L.length c, .int .i64 col, .bool bare, .bool stays] W fun e w' => e = .returned (.bool true) ∧ Below W.heap.size W w' := by
  unfold maxLen at hm
  have H := hid h
  have D := hid hd
  have P := hid hP
  have B0 := hid (show Below W.heap.size W (W.alloc (.cells #[.string ⟨#[73, 68, 65, 84]⟩, .slice none 0 0, .string ⟨#[116, 69, 88, 116]⟩, .slice none 0 0] 30)) from (Below.refl _ _).alloc (Nat.le_refl _) _)
  have Q0 := hid (Blk.new W 30 #[.string ⟨#[73, 68, 65, 84]⟩, .slice none 0 0, .string ⟨#[116, 69, 88, 116]⟩, .slice none 0 0])
  clear h hd hP
  have hk0 : ∀ w g c, Below W.heap.size W w → Blk w g 30 #[.string ⟨#[73, 68, 65, 84]⟩, .slice none 0 0, .string ⟨#[116, 69, 88, 116]⟩, .slice none 0 0] → Calls Tryd.prog 5 #[.slice (some ⟨g, 0, none⟩) 2 c, .agg #[.int .i64 0, .int .i64 0, .int .i64 0, .int .i64 0, .int .i64 0, .slice none 0 0, .slice none 0 0], .bool false, .bool true] w (KEnd L0 0 false true w) := fun w g c hb hg =>
    kept_list (some ⟨g, 0, none⟩) c L0 0 false true w (P.out.below hb P.out.sz)
      ⟨rfl, fun _ => ⟨g, 0, rfl, hg.lt, fun j u hu => by rw [Nat.zero_add, hg.cell j, ← hu, List.getElem?_toArray]; rfl⟩⟩
      ⟨fun x hx => by
        unfold L0 at hx
        simp at hx
        rcases hx with rfl | rfl <;> exact Rd.nil, fun x hx _ => by
        unfold L0 at hx
        simp at hx
        rcases hx with rfl | rfl <;> rfl, fun x hx => by
        unfold L0 at hx
        simp at hx
        rcases hx with rfl | rfl <;> simp⟩ (by decide)
  have HK0 := hid hk0
  clear hk0
  go_enter Tryd.func4, Tryd.ntmps4
  go_wp2_with fail
  refine (HK0.out _ _ _ B0.out Q0.out).mono ?_
  rintro e w1 ⟨A1, c1, X1, rfl, hX1, hO1⟩
  have hl1 : X1.length = 1 := by
    have := congrArg List.length hX1
    rw [List.length_map, L0_len] at this
    exact this
  rw [hl1]
  have B1 := hid (B0.out.trans (hO1.old.mono B0.out.size))
  clear hX1 hO1 hl1 B0 Q0 HK0
  go_upto_region 6 with (fail)
  go_loopw [10, 28] (fun nv iv wr => ∃ j : Nat, j ≤ L.length ∧ j ≤ 60 ∧ iv = .int .i64 (j : Int) ∧ nv = .int .i64 (j : Int) ∧ Hid (∀ x ∈ L.take j, x.d.length ≤ 1000) ∧ Hid (Below W.heap.size W wr)) (fun _ i _ => L.length - (intOf i).toNat)
  case atStart => exact ⟨0, by omega, by omega, rfl, rfl, hid (fun x hx => by simp at hx), B1⟩
  case round =>
    obtain ⟨j, hj, hj60, rfl, rfl, HA, B⟩ := hrel
    by_cases hlt : j < L.length
    · have d1 : decide (j < L.length) = true := decide_eq_true hlt
      have hR := H.out.below B.out (Nat.le_refl _)
      obtain ⟨b, off, rfl, hb, hcl⟩ := hR.at_ (k := j) hlt (by omega)
      have c0 : wr.cell? ⟨b, off + j * 2, none⟩ = some (.string L[j].n) := hcl (j * 2 + 0) _ ((flat_at encK 2 L (fun _ _ => rfl) j 0 L[j] (List.getElem?_eq_getElem hlt) (by omega)).trans rfl)
      have c1 : wr.cell? ⟨b, off + j * 2 + 1, none⟩ = some (.slice L[j].A L[j].d.length L[j].c) := hcl (j * 2 + 1) _ ((flat_at encK 2 L (fun _ _ => rfl) j 1 L[j] (List.getElem?_eq_getElem hlt) (by omega)).trans rfl)
      have htk := List.take_succ_eq_append_getElem hlt
      generalize L[j] = x at *
      obtain ⟨xn, xA, xd, xc⟩ := x
      have Htk := hid htk
      have Hlt := hid hlt
      dsimp only at c0 c1
      obtain ⟨xl, hxl⟩ : ∃ xl, xl = xd.length := ⟨_, rfl⟩
      rw [← hxl] at c1
      have Hxl := hid hxl
      clear hR hcl htk hlt hxl
      go_upto_region 8 with (fail)
      have Z1 := hid (Blk.new wr 30 #[.string xn, .slice xA xl xc])
      have BB := hid (B.out.alloc B.out.size (.cells #[.string xn, .slice xA xl xc] 30))
      obtain ⟨gx, hgx⟩ : ∃ gx, gx = wr.heap.size := ⟨_, rfl⟩
      rw [← hgx] at Z1 ⊢
      generalize wr.alloc (.cells #[.string xn, .slice xA xl xc] 30) = w2 at *
      clear c0 c1 hgx B hb
      have hxw := Z1.out.lt
      have z0 : w2.cell? ⟨gx, 0, none⟩ = some (.string xn) := (Z1.out.cell 0).trans rfl
      have z1 : w2.cell? ⟨gx, 1, none⟩ = some (.slice xA xl xc) := (Z1.out.cell 1).trans rfl
      have tj : IntKind.i64.wrap ((j : Int) + 1) = ((j + 1 : Nat) : Int) := (IntWalk.i64_in _ (by omega)).trans (by omega)
      obtain ⟨j1, hj1⟩ : ∃ j1, j1 = j + 1 := ⟨_, rfl⟩
      rw [← hj1] at tj
      have Hj1 := hid hj1
      clear hj1
      by_cases e1 : 60 < j1
      · have d2 : decide (60 < j1) = true := decide_eq_true e1
        have d2i : decide ((60 : Int) < (j1 : Int)) = true := decide_eq_true (by omega)
        clear e1
        go_wp2
        go_ret
        exact ⟨rfl, BB.out⟩
      · have d2 : decide (60 < j1) = false := decide_eq_false e1
        have d2i : decide ((60 : Int) < (j1 : Int)) = false := decide_eq_false (by omega)
        have He1 := hid e1
        clear e1
        by_cases e2 : 1000 < xl
        · have d3 : decide (1000 < xl) = true := decide_eq_true e2
          have d3i : decide ((1000 : Int) < (xl : Int)) = true := decide_eq_true (by omega)
          clear e2
          go_wp2
          go_ret
          exact ⟨rfl, BB.out⟩
        · have d3 : decide (1000 < xl) = false := decide_eq_false e2
          have d3i : decide ((1000 : Int) < (xl : Int)) = false := decide_eq_false (by omega)
          have He2 := hid e2
          clear e2
          by_cases e3 : 100 < xn.size
          · have d4 : decide (100 < xn.size) = true := decide_eq_true e3
            have d4i : decide ((100 : Int) < (xn.size : Int)) = true := decide_eq_true (by omega)
            clear e3
            go_wp2
            go_ret
            exact ⟨rfl, BB.out⟩
          · have d4 : decide (100 < xn.size) = false := decide_eq_false e3
            have d4i : decide ((100 : Int) < (xn.size : Int)) = false := decide_eq_false (by omega)
            clear e3
            go_wp2
            go_roundw
            case rel =>
              have h1 := Hj1.out
              have h2 := He1.out
              have h3 := Hlt.out
              refine ⟨j1, by omega, by omega, by first | rfl | go_num, by first | rfl | go_num, hid (fun y hy => ?_), BB⟩
              rw [h1, Htk.out] at hy
              rcases List.mem_append.1 hy with hy | hy
              · exact HA.out y hy
              · rw [List.mem_singleton.1 hy]
                have := He2.out
                have := Hxl.out
                show xd.length ≤ 1000
                omega
            case measure => have := Hlt.out; have := Hj1.out; simp [intOf]; omega
    · have d1 : decide (j < L.length) = false := decide_eq_false hlt
      obtain rfl : j = L.length := by omega
      have HL := HA.out
      rw [List.take_length] at HL
      have HLn := hid HL
      clear HL HA hlt
      have hK := kept_list A c L col bare stays wr (P.out.below B.out P.out.sz) ((H.out.below B.out (Nat.le_refl _)).more B.out.size) ⟨fun x hx => (D.out.rd x hx |>.below B.out (Nat.le_refl _)).more B.out.size, D.out.nil, fun x hx => Nat.le_trans (HLn.out x hx) (by omega)⟩ (by omega)
      have HK := hid hK
      clear hK HLn
      go_wp2_with fail
      refine (HK.out).mono ?_
      rintro e w2 ⟨A2, c2, X, rfl, hX, hO⟩
      obtain ⟨n, hn⟩ : ∃ n, n = X.length := ⟨_, rfl⟩
      rw [← hn]
      have Hn := hid hn
      have HX := hid hX
      have O := hid (show KR w2 wr A2 c2 X 0 from ⟨hO.row, fun i hi _ => hO.sym _ (List.getElem_mem hi), hO.dist, hO.old⟩)
      clear hn hX hO HK
      go_upto_region 15 with (fail)
      clear B1
      generalize wr = wk at *
      go_loopw [14, 58] (fun kv iv wr => ∃ (j k : Nat), j ≤ L.length ∧ iv = .int .i64 (j : Int) ∧ kv = .int .i64 (k : Int) ∧ k ≤ n ∧ k ≤ j ∧ Hid ((X.drop k).map sayK = ((L.drop j).filter (fun x => !bare && keepP x.n col stays)).map sayK) ∧ Hid (KR wr wk A2 c2 X k)) (fun _ i _ => L.length - (intOf i).toNat)
      case atStart => exact ⟨0, 0, by omega, rfl, rfl, by omega, by omega, HX, O⟩
      clear HX O
      case round =>
        obtain ⟨j, k, hj, rfl, rfl, hkn, hkj, HX, O⟩ := hrel
        by_cases hlt : j < L.length
        · have d1 : decide (j < L.length) = true := decide_eq_true hlt
          have hbw := B.out.trans (O.out.old.mono B.out.size)
          have hR := H.out.below hbw (Nat.le_refl _)
          obtain ⟨b, off, rfl, hb, hcl⟩ := hR.at_ (k := j) hlt (by omega)
          have c0 : wr.cell? ⟨b, off + j * 2, none⟩ = some (.string L[j].n) := hcl (j * 2 + 0) _ ((flat_at encK 2 L (fun _ _ => rfl) j 0 L[j] (List.getElem?_eq_getElem hlt) (by omega)).trans rfl)
          have c1 : wr.cell? ⟨b, off + j * 2 + 1, none⟩ = some (.slice L[j].A L[j].d.length L[j].c) := hcl (j * 2 + 1) _ ((flat_at encK 2 L (fun _ _ => rfl) j 1 L[j] (List.getElem?_eq_getElem hlt) (by omega)).trans rfl)
          have hds := drop_say hlt HX.out
          have hrx := D.out.rd L[j] (List.getElem_mem hlt)
          generalize L[j] = x at *
          obtain ⟨xn, xA, xd, xc⟩ := x
          have Hds := hid hds
          have Hrx := hid hrx
          have Hlt := hid hlt
          dsimp only at c0 c1
          clear hR hcl hds hrx hlt HX
          go_upto_region 17 with (fail)
          have Z1 := hid (Blk.new wr 30 #[.string xn, .slice xA xd.length xc])
          have O1 := hid (O.out.alloc (.cells #[.string xn, .slice xA xd.length xc] 30))
          obtain ⟨gx, hgx⟩ : ∃ gx, gx = wr.heap.size := ⟨_, rfl⟩
          rw [← hgx] at Z1 ⊢
          generalize wr.alloc (.cells #[.string xn, .slice xA xd.length xc] 30) = w1 at *
          clear c0 c1 hgx hb hbw O
          have hxw := Z1.out.lt
          have z0 : w1.cell? ⟨gx, 0, none⟩ = some (.string xn) := (Z1.out.cell 0).trans rfl
          have z1 : w1.cell? ⟨gx, 1, none⟩ = some (.slice xA xd.length xc) := (Z1.out.cell 1).trans rfl
          go_wp2_with fail
          refine (keepsRef_any xn col bare stays _).mono ?_
          rintro e w3 ⟨rfl, rfl⟩
          cases hp : (!bare && keepP xn col stays)
          · have HX2 := hid (Hds.out.1 hp)
            clear hp Hds
            go_wp2
            go_roundw
            case rel => exact ⟨j + 1, k, by have := Hlt.out; omega, by go_num, rfl, hkn, by omega, HX2, O1⟩
            case measure => have := Hlt.out; simp [intOf]; omega
          · obtain ⟨hk, hyn, hyd, hX2⟩ := Hds.out.2 hp
            have HX2 := hid hX2
            have Hk := hid hk
            have S1 := hid (O1.out.sym k hk (Nat.le_refl _))
            have ST := hid (fun g v w => KR.store (w := w) (W1 := wk) (A := A2) (c := c2) (X := X) (k := k) (g := g) (hk := hk) (v := v))
            have hRX := own_rd O1.out.row
            obtain ⟨b2, off2, rfl, hb2, hcl2⟩ := hRX.at_ (k := k) hk (by omega)
            have y0 : w1.cell? ⟨b2, off2 + k * 2, none⟩ = some (.string X[k].n) := hcl2 (k * 2 + 0) _ ((flat_at encK 2 X (fun _ _ => rfl) k 0 X[k] (List.getElem?_eq_getElem hk) (by omega)).trans rfl)
            have y1 : w1.cell? ⟨b2, off2 + k * 2 + 1, none⟩ = some (.slice X[k].A X[k].d.length X[k].c) := hcl2 (k * 2 + 1) _ ((flat_at encK 2 X (fun _ _ => rfl) k 1 X[k] (List.getElem?_eq_getElem hk) (by omega)).trans rfl)
            have hk2 : k < n := by rw [Hn.out]; exact hk
            generalize hy : X[k] = y at *
            obtain ⟨yn, yA, yd, yc⟩ := y
            dsimp only at hyn hyd y0 y1
            obtain rfl := hyn
            obtain rfl := hyd
            clear hp Hds hX2 hRX hcl2 hy
            have d2 : decide (n ≤ k) = false := decide_eq_false (by omega)
            have d3 : decide ((n : Int) ≤ (k : Int)) = false := decide_eq_false (by omega)
            have d4 : (0 : Int) ≤ (k : Int) ∧ (k : Int) < (n : Int) := by omega
            have hB1 := B.out.trans (O1.out.old.mono B.out.size)
            have RB := hid ((Hrx.out.below hB1 (Nat.le_refl _)).more hB1.size)
            have RY := hid (own_rd S1.out)
            have RBd := hid (show Rd w1.drew w1.heap.size 1 xA yd.length (bytesV yd) from RB.out.below (Below.refl _ _).drew (Nat.le_refl _))
            have RYd := hid (show Rd w1.drew w1.heap.size 1 yA yd.length (bytesV yd) from RY.out.below (Below.refl _ _).drew (Nat.le_refl _))
            go_upto_region 18 with (fail)
            go_region_held3 (fun w' => w'.cell? ⟨b2, off2 + k * 2, none⟩ = some (.string yn) ∧ w'.cell? ⟨b2, off2 + k * 2 + 1, none⟩ = some (.slice yA yd.length yc) ∧ w'.cell? ⟨gx, 0, none⟩ = some (.string yn) ∧ w'.cell? ⟨gx, 1, none⟩ = some (.slice xA yd.length xc)) (first | go_keep | exact ⟨y0, y1, z0, z1⟩) (first
              | (go_at_call 7; refine (same_any yA xA yc xc yd yd _ _ RYd.out RBd.out).mono ?_; rintro e2 w4 ⟨rfl, rfl⟩))
            all_goals
              go_upto_region 20 with (fail)
              have O2 := hid (O1.out.below (Below.refl _ _).drew)
              have Z2 := hid Z1.out.drew
              have S2 := hid (show BOwn w1.drew wk.heap.size ⟨yn, yA, yd, yc⟩ from own_below S1.out (Below.refl _ _).drew (Nat.le_refl _))
              have y2 : w1.drew.cell? ⟨b2, off2 + k * 2 + 1, none⟩ = some (.slice yA yd.length yc) := y1
              have hb3 : b2 < w1.drew.heap.size := hb2
              clear y0 y1 z0 z1 O1 Z1 S1 RB RY RYd hxw hb2
              have hs3 : w1.drew.heap.size = w1.heap.size := rfl
              rw [← hs3] at RBd
              generalize w1.drew = w3 at *
              clear hs3
              have hxw := Z2.out.lt
              have z0 : w3.cell? ⟨gx, 0, none⟩ = some (.string yn) := (Z2.out.cell 0).trans rfl
              have z1 : w3.cell? ⟨gx, 1, none⟩ = some (.slice xA yd.length xc) := (Z2.out.cell 1).trans rfl
              by_cases h0 : 0 < yd.length
              · have d5 : decide (0 < yd.length) = true := decide_eq_true h0
                have d6 : decide ((0 : Int) < (yd.length : Int)) = true := decide_eq_true (by omega)
                obtain ⟨g, cur, hA, hgb, hblk, hcg⟩ := BOwn.blk S2.out h0
                obtain rfl : yA = some ⟨g, 0, none⟩ := hA
                have fz := fun o => hblk.frozen o
                have hgw := hblk.lt
                obtain ⟨ba, oa, rfl, hba, hca⟩ := (Hrx.out.below (B.out.trans (O2.out.old.mono B.out.size)) (Nat.le_refl _)).at_ (k := 0) h0 (by omega)
                have a0 : w3.cell? ⟨ba, oa, none⟩ = some (.int .u8 yd[0]) := hca 0 _ (show (bytesV yd)[0]? = some (.int .u8 yd[0]) by simp [bytesV, h0])
                have hbw0 : ba < w3.heap.size := by have := B.out.size; have := O2.out.old.size; omega
                go_upto_region 23 with (fail)
                have O3 := hid (ST.out g (.int .u8 (bits .xor .u8 yd[0] 1)) w3 O2.out rfl)
                have hne : some gx ≠ some g := by
                  intro e
                  injection e with e
                  rw [← e] at hblk
                  have h1 := Z2.out
                  unfold Blk at h1 hblk
                  rw [h1] at hblk
                  injection hblk with hblk
                  injection hblk with _ hblk
                  exact absurd hblk (by decide)
                have Z3 := hid (Z2.out.grown (grown_set1 (World.grownBy.refl w3 _) 0 (.int .u8 (bits .xor .u8 yd[0] 1))) hne)
                have a1 : (w3.setCell ⟨g, 0, none⟩ (.int .u8 (bits .xor .u8 yd[0] 1))).cell? ⟨ba, oa, none⟩ = some (.int .u8 yd[0]) := (((Below.refl wk.heap.size w3).setCell (p := ⟨g, 0, none⟩) hgb (.int .u8 (bits .xor .u8 yd[0] 1))).cell (p := ⟨ba, oa, none⟩) (by have := B.out.size; show ba < _; omega)).trans a0
                generalize w3.setCell ⟨g, 0, none⟩ (.int .u8 (bits .xor .u8 yd[0] 1)) = w5 at *
                clear a0 fz hcg hblk y2 z0 z1 hgw hca hne
                have z1 : w5.cell? ⟨gx, 1, none⟩ = some (.slice (some ⟨ba, oa, none⟩) yd.length xc) := (Z3.out.cell 1).trans rfl
                go_wp2
                go_roundw
                case rel => exact ⟨j + 1, k + 1, by have := Hlt.out; omega, by go_num, by go_num, by omega, by omega, HX2, O3⟩
                case measure => have := Hlt.out; simp [intOf]; omega
              · have d5 : decide (0 < yd.length) = false := decide_eq_false h0
                have d6 : decide ((0 : Int) < (yd.length : Int)) = false := decide_eq_false (by omega)
                go_wp2
                go_roundw
                case rel => exact ⟨j + 1, k + 1, by have := Hlt.out; omega, by go_num, by go_num, by omega, by omega, HX2, hid O2.out.step⟩
                case measure => have := Hlt.out; simp [intOf]; omega
        · have d1 : decide (j < L.length) = false := decide_eq_false hlt
          obtain rfl : j = L.length := by omega
          have hx := HX.out
          rw [List.drop_length] at hx
          have hd0 := congrArg List.length hx
          simp only [List.filter_nil, List.map_nil, List.length_nil, List.length_map, List.length_drop] at hd0
          obtain rfl : k = n := by have := Hn.out; omega
          have BF := hid (B.out.trans (O.out.old.mono B.out.size))
          clear hx hd0
          go_wp2
          go_ret
          exact ⟨rfl, BF.out⟩
end Go.Proofs.YtlekobompjehdaaDoor
