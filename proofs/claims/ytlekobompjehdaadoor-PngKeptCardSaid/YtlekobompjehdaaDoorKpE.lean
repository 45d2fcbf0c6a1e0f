/-
  png.Kept: the chunks that are kept, with bytes of their own.
-/
import Derived.Test.YtlekobompjehdaaDoorKpD
namespace Go.Proofs.YtlekobompjehdaaDoor
open Go.RowKit

theorem chunk_info : (Tryd.prog.info? 30).map (fun i => (i.zero, i.size, i.bytes)) = some (some (.agg #[.string ⟨#[]⟩, .slice none 0 0]), 2, 40) := by kernel_rfl
theorem own_two_ne {w : World} {b b' : Nat} {e e' : TypeId} {size size' n n' : Nat} {v v' : Value} {xs xs' : List Value} (h : w.ownsRow b e size v n xs) (h' : w.ownsRow b' e' size' v' n' xs') (hne : e ≠ e') :
    v.ownBlock = none ∨ v.ownBlock ≠ v'.ownBlock := by
  rcases h.2 with ⟨rfl, _⟩ | ⟨g, cap, cur, rfl, _, hh, _⟩
  · exact .inl rfl
  · right
    intro he
    rcases h'.2 with ⟨rfl, _⟩ | ⟨g', cap', cur', rfl, _, hh', _⟩
    · simp [Value.ownBlock] at he
    · have : g = g' := by simpa [Value.ownBlock] using he
      subst this
      rw [hh] at hh'
      injection hh' with hh'
      injection hh' with _ ht
      exact hne ht
/-- a chunk in memory -/
structure CK where
  n : ByteArray
  A : Option Addr
  d : List Int
  c : Nat
def encK (x : CK) : List Value := [.string x.n, .slice x.A x.d.length x.c]
def fk (X : List CK) : List Value := X.flatMap encK
theorem fk_app (X : List CK) (x : CK) : fk (X ++ [x]) = fk X ++ encK x := by simp [fk]
def sayK (x : CK) : ByteArray × List Int := (x.n, x.d)
def BOwn (w : World) (base : Nat) (x : CK) : Prop := w.ownsRow base 5 1 (.slice x.A x.d.length x.c) x.d.length (bytesV x.d)
theorem BOwn.at_ {w : World} {base : Nat} {x : CK} (h : BOwn w base x) : x.A = none ∨ ∃ g, x.A = some ⟨g, 0, none⟩ ∧ base ≤ g ∧ g < w.heap.size := by
  rcases h.2 with ⟨h1, _⟩ | ⟨g, cap, cur, h1, h2, h3, _⟩
  · injection h1 with h1
    exact .inl h1
  · injection h1 with h1
    exact .inr ⟨g, h1, h2, Blk.lt h3⟩
/-- own chunks, with own bytes, each in a block of its own -/
structure KOwn (w W : World) (A : Option Addr) (c : Nat) (X : List CK) : Prop where
  row : w.ownsRow W.heap.size 30 2 (.slice A X.length c) X.length (fk X)
  sym : ∀ x ∈ X, BOwn w W.heap.size x
  dist : X.Pairwise (fun x y => ∀ g, x.A = some ⟨g, 0, none⟩ → y.A ≠ some ⟨g, 0, none⟩)
  old : Below W.heap.size W w
theorem KOwn.below {w w' W : World} {A : Option Addr} {c : Nat} {X : List CK} (h : KOwn w W A c X) (hb : Below w.heap.size w w') : KOwn w' W A c X :=
  ⟨own_below h.row hb (Nat.le_refl _), fun x hx => own_below (h.sym x hx) hb (Nat.le_refl _), h.dist, h.old.trans (hb.mono h.old.size)⟩
theorem KOwn.alloc {w W : World} {A : Option Addr} {c : Nat} {X : List CK} (h : KOwn w W A c X) (o : Obj) : KOwn (w.alloc o) W A c X := h.below ((Below.refl _ _).alloc (Nat.le_refl _) o)
theorem KOwn.drew {w W : World} {A : Option Addr} {c : Nat} {X : List CK} (h : KOwn w W A c X) : KOwn w.drew W A c X := h.below (Below.refl _ _).drew
theorem KOwn.nil (W : World) {w : World} (h : Below W.heap.size W w) : KOwn w W none 0 [] := ⟨World.ownsRow_nil _ _ _ _, fun x hx => (by cases hx), .nil, h⟩
/-- one chunk more, whose bytes lie in a block that is younger than b -/
theorem KOwn.app {w w3 W : World} {A A3 : Option Addr} {c c3 b : Nat} {X : List CK} {x : CK} (h : KOwn w W A c X) (hx : BOwn w b x) (hb : W.heap.size ≤ b) (hy : ∀ y ∈ X, ∀ g, y.A = some ⟨g, 0, none⟩ → g < b)
    (ha : Apped w W.heap.size 30 2 A X.length c (fk X) 1 (encK x) A3 c3 w3) : KOwn w3 W A3 c3 (X ++ [x]) := by
  have hk : ∀ y, BOwn w W.heap.size y → BOwn w3 W.heap.size y := fun y h0 => h0.kept ha.2.1 (own_two_ne h0 h.row (by decide))
  refine ⟨?_, fun y hy => ?_, ?_, h.old.trans ha.2.2.1⟩
  · have h7 := ha.1
    rw [fk_app, List.length_append]
    simpa using h7
  · rcases List.mem_append.1 hy with hy | hy
    · exact hk y (h.sym y hy)
    · rw [List.mem_singleton.1 hy]
      exact hk x (own_base hx hb)
  · refine List.pairwise_append.2 ⟨h.dist, List.pairwise_singleton _ _, fun y hy0 z hz g hg => ?_⟩
    rw [List.mem_singleton.1 hz]
    intro hxA
    have h1 := hy y hy0 g hg
    rcases hx.at_ with h2 | ⟨g2, h2, h3, _⟩
    · rw [h2] at hxA; cases hxA
    · rw [h2] at hxA
      injection hxA with hxA
      injection hxA with hxA
      omega
def FormC (col : Int) : Array Value := #[.int .i64 0, .int .i64 0, .int .i64 0, .int .i64 col, .int .i64 0, .slice none 0 0, .slice none 0 0]
structure KIn (W : World) (L : List CK) : Prop where
  rd : ∀ x ∈ L, Rd W W.heap.size 1 x.A x.d.length (bytesV x.d)
  nil : ∀ x ∈ L, x.A = none → x.c = 0
  len : ∀ x ∈ L, x.d.length ≤ 10000000
def KEnd (L : List CK) (col : Int) (bare stays : Bool) (W : World) (e : Ending) (w' : World) : Prop :=
  ∃ A' c' X, e = .returned (.slice A' X.length c') ∧ X.map sayK = (L.filter (fun x => !bare && keepP x.n col stays)).map sayK ∧ KOwn w' W A' c' X
theorem filt_step {α : Type} (p : α → Bool) (L : List α) {j : Nat} (hj : j < L.length) : (L.take (j + 1)).filter p = (L.take j).filter p ++ if p L[j] then [L[j]] else [] := by
  rw [List.take_succ_eq_append_getElem hj, List.filter_append]
  cases h : p L[j] <;> simp [h]
set_option maxRecDepth 100000 in
set_option maxHeartbeats 4000000 in
theorem kept_list (A : Option Addr) (c : Nat) (L : List CK) (col : Int) (bare stays : Bool) (W : World) (hP : PropsIn W) (h : Rd W W.heap.size 2 A L.length (fk L)) (hd : KIn W L) (hm : L.length ≤ 1000) :
    Calls Tryd.prog 5 #[.slice A L.length c, .agg #[.int .i64 0, .int .i64 0, .int .i64 0, .int .i64 col, .int .i64 0, .slice none 0 0, .slice none 0 0], .bool bare, .bool stays] W (KEnd L col bare stays W) := by
  obtain ⟨i0, hi0, hz0, hz1, hz2⟩ := info_parts chunk_info
  have Hi0 := hid hi0
  have Hz0 := hid hz0
  have Hz1 := hid hz1
  have Hz2 := hid hz2
  have H := hid h
  have D := hid hd
  have P := hid hP
  clear hi0 hz0 hz1 hz2 h hd hP
  go_enter Tryd.func5, Tryd.ntmps5
  go_upto_region 3 with (fail)
  have F0 := hid (Blk.new W 36 #[.int .i64 0, .int .i64 0, .int .i64 0, .int .i64 col, .int .i64 0, .slice none 0 0, .slice none 0 0])
  have B0 := hid (show Below W.heap.size W (W.alloc (.cells #[.int .i64 0, .int .i64 0, .int .i64 0, .int .i64 col, .int .i64 0, .slice none 0 0, .slice none 0 0] 36)) from (Below.refl _ _).alloc (Nat.le_refl _) _)
  obtain ⟨gf, hgf⟩ : ∃ gf, gf = W.heap.size := ⟨_, rfl⟩
  have Hgf := hid hgf
  rw [← hgf] at F0 ⊢
  generalize W.alloc (.cells #[.int .i64 0, .int .i64 0, .int .i64 0, .int .i64 col, .int .i64 0, .slice none 0 0, .slice none 0 0] 36) = w0 at *
  clear hgf
  go_loopw [9, 14] (fun ov iv wr => ∃ (j m : Nat) (A' : Option Addr) (c' : Nat) (X : List CK), j ≤ L.length ∧ iv = .int .i64 (j : Int) ∧ ov = .slice A' m c' ∧ m = X.length ∧ m ≤ j ∧ Hid (X.map sayK = ((L.take j).filter (fun x => !bare && keepP x.n col stays)).map sayK) ∧ Hid (KOwn wr W A' c' X) ∧ Hid (Blk wr gf 36 #[.int .i64 0, .int .i64 0, .int .i64 0, .int .i64 col, .int .i64 0, .slice none 0 0, .slice none 0 0])) (fun _ i _ => L.length - (intOf i).toNat)
  case atStart => exact ⟨0, 0, none, 0, [], by omega, rfl, rfl, rfl, by omega, hid rfl, hid (KOwn.nil W B0.out), F0⟩
  case round =>
    obtain ⟨j, m, A', c', X, hj, rfl, rfl, hmX, hmj, HX, O, F⟩ := hrel
    have HmX := hid hmX
    clear hmX
    by_cases hlt : j < L.length
    · have d1 : decide (j < L.length) = true := decide_eq_true hlt
      have hR := H.out.below O.out.old (Nat.le_refl _)
      obtain ⟨b, off, rfl, hb, hcl⟩ := hR.at_ (k := j) hlt (by omega)
      have c0 : wr.cell? ⟨b, off + j * 2, none⟩ = some (.string L[j].n) := hcl (j * 2 + 0) _ ((flat_at encK 2 L (fun _ _ => rfl) j 0 L[j] (List.getElem?_eq_getElem hlt) (by omega)).trans rfl)
      have c1 : wr.cell? ⟨b, off + j * 2 + 1, none⟩ = some (.slice L[j].A L[j].d.length L[j].c) := hcl (j * 2 + 1) _ ((flat_at encK 2 L (fun _ _ => rfl) j 1 L[j] (List.getElem?_eq_getElem hlt) (by omega)).trans rfl)
      have hfs := filt_step (fun x => !bare && keepP x.n col stays) L hlt
      have hrx := D.out.rd L[j] (List.getElem_mem hlt)
      have hnx := D.out.nil L[j] (List.getElem_mem hlt)
      have hlx := D.out.len L[j] (List.getElem_mem hlt)
      generalize L[j] = x at *
      obtain ⟨xn, xA, xd, xc⟩ := x
      have Hfs := hid hfs
      have Hrx := hid hrx
      have Hnx := hid hnx
      have Hlt := hid hlt
      clear hR hcl hfs hrx hnx hlt
      dsimp only at c0 c1
      go_upto_region 5 with (fail)
      have Z1 := hid (Blk.new wr 30 #[.string xn, .slice xA xd.length xc])
      have O1 := hid (O.out.alloc (.cells #[.string xn, .slice xA xd.length xc] 30))
      have F1 := hid (F.out.alloc (.cells #[.string xn, .slice xA xd.length xc] 30))
      obtain ⟨gx, hgx⟩ : ∃ gx, gx = wr.heap.size := ⟨_, rfl⟩
      have HNe := hid (show some gx ≠ (Value.slice A' m c').ownBlock from by
        rcases O.out.row.2 with ⟨h1, _⟩ | ⟨g, cap, cur, h1, _, h3, _⟩
        · injection h1 with h1
          rw [h1]; exact fun e => by cases e
        · injection h1 with h1
          rw [h1]
          intro he
          have : gx = g := by simpa [Value.ownBlock] using he
          have := Blk.lt h3
          omega)
      have HYl := hid (show ∀ y ∈ X, ∀ g, y.A = some ⟨g, 0, none⟩ → g < gx from fun y hy g hg => by
        rcases (O.out.sym y hy).at_ with h2 | ⟨g2, h2, _, h4⟩
        · rw [h2] at hg; cases hg
        · rw [h2] at hg
          injection hg with hg
          injection hg with hg
          omega)
      rw [← hgx] at Z1 ⊢
      generalize wr.alloc (.cells #[.string xn, .slice xA xd.length xc] 30) = w1 at *
      clear c0 c1 hgx O F hb
      have hgw := F1.out.lt
      have hxw := Z1.out.lt
      cases bare
      · have z0 : w1.cell? ⟨gx, 0, none⟩ = some (.string xn) := (Z1.out.cell 0).trans rfl
        have q0 := F1.out.cell 0
        have q1 := F1.out.cell 1
        have q2 := F1.out.cell 2
        have q3 := F1.out.cell 3
        have q4 := F1.out.cell 4
        have q5 := F1.out.cell 5
        have q6 := F1.out.cell 6
        simp only [List.getElem?_toArray, List.getElem?_cons_zero, List.getElem?_cons_succ] at q0 q1 q2 q3 q4 q5 q6
        have P1 := hid (P.out.below O1.out.old P.out.sz)
        go_wp2_with fail
        refine (keeps_any xn col stays _ P1.out).mono ?_
        rintro e w2 ⟨rfl, hb2⟩
        have O2 := hid (O1.out.below hb2)
        have F2 := hid (F1.out.below hb2 F1.out.lt)
        have Z2 := hid (Z1.out.below hb2 Z1.out.lt)
        clear hb2 z0 q0 q1 q2 q3 q4 q5 q6 O1 F1 Z1 P1 hgw hxw
        cases hk : keepP xn col stays
        · have Hk := hid hk
          clear hk
          go_wp2
          go_roundw
          case rel => exact ⟨j + 1, m, A', c', X, by have := Hlt.out; omega, by go_num, rfl, HmX.out, by omega, hid (by rw [HX.out, Hfs.out]; simp [Hk.out]), O2, F2⟩
          case measure => have := Hlt.out; simp [intOf]; omega
        · have Hk := hid hk
          clear hk
          go_upto_region 6 with (fail)
          have z0 : w2.cell? ⟨gx, 0, none⟩ = some (.string xn) := (Z2.out.cell 0).trans rfl
          have z1 : w2.cell? ⟨gx, 1, none⟩ = some (.slice xA xd.length xc) := (Z2.out.cell 1).trans rfl
          have hgw := F2.out.lt
          have hxw := Z2.out.lt
          have RX := hid (show Rd w2.drew w2.drew.heap.size 1 xA xd.length (bytesV xd) from Rd.more (Hrx.out.below (O2.out.drew).old (Nat.le_refl _)) (O2.out.drew).old.size)
          have Hsz := hid (show w2.drew.heap.size = w2.heap.size from rfl)
          have hO2 := O2.out.old.size
          have hmm : m + 1 ≤ maxLen := by simp only [maxLen]; omega
          go_region_held3 (fun w' => w'.cell? ⟨gx, 0, none⟩ = some (.string xn) ∧ w'.cell? ⟨gx, 1, none⟩ = some (.slice xA xd.length xc)) (first | go_keep | exact ⟨z0, z1⟩ | exact K4.out) (first
            | (go_at_call 9; refine (clone_any xA xc xd _ RX.out Hnx.out hlx).mono ?_; rintro e2 w4 ⟨A5, c5, rfl, ho5, hb5⟩; have O4 := hid (O2.out.drew.below hb5); have P4 := hid ho5; have F4 := hid (F2.out.drew.below hb5 F2.out.lt); have Z4 := hid (Z2.out.drew.below hb5 Z2.out.lt); have K4 := hid (show w4.cell? ⟨gx, 0, none⟩ = some (.string xn) ∧ w4.cell? ⟨gx, 1, none⟩ = some (.slice xA xd.length xc) from ⟨(Z4.out.cell 0).trans rfl, (Z4.out.cell 1).trans rfl⟩); have hb4 := hb5.size; clear ho5 hb5)
            | (refine step_app _ (by rfl) (.tmp 27) (.tmp 34) _ (by rfl) W.heap.size 30 i0 (.agg #[.string ⟨#[]⟩, .slice none 0 0]) 2 40 Tryd.underlying22 Hi0.out Hz0.out Hz1.out Hz2.out rfl (by omega) A' m c' (fk X) (by rfl) (by rw [HmX.out]; exact (O4.out.alloc _).row) _ _ 1 1 [.string xn, .slice A5 xd.length c5] (by rfl) (rd_one _ _ _ _ (Blk.new _ _ _)) (by simp) (by simp [Value.oneCell']) hmm (by omega) (O4.out.alloc _).old.size ?_; intro A3 c3 w3 ha3; have Ha3 := hid ha3; have Z5 := hid ((Z4.out.alloc (.cells #[.string xn, .slice A5 xd.length c5] 30)).grown ha3.2.1 HNe.out); have K4 := hid (show w3.cell? ⟨gx, 0, none⟩ = some (.string xn) ∧ w3.cell? ⟨gx, 1, none⟩ = some (.slice xA xd.length xc) from ⟨(Z5.out.cell 0).trans rfl, (Z5.out.cell 1).trans rfl⟩); clear ha3))
          all_goals
            go_wp2
            go_roundw
            case rel =>
              refine ⟨j + 1, m + 1, A3, c3, X ++ [⟨xn, A5, xd, c5⟩], by have := Hlt.out; omega, by go_num, rfl, by rw [List.length_append, HmX.out]; rfl, by omega, hid ?_, hid ?_, hid ?_⟩
              · rw [List.map_append, HX.out, Hfs.out, List.map_append]
                simp [Hk.out, sayK]
              · have h3 := Ha3.out
                rw [HmX.out] at h3
                have hz := Z2.out.lt
                exact (O4.out.alloc _).app (x := ⟨xn, A5, xd, c5⟩) (own_below P4.out ((Below.refl _ _).alloc (Nat.le_refl _) _) (Nat.le_refl _)) (by rw [Hsz.out]; exact hO2) (fun y hy g hg => by have := HYl.out y hy g hg; rw [Hsz.out]; omega) h3
              · exact (F4.out.alloc _).grown Ha3.out.2.1 (by
                  have h := own_blk_ne (O4.out.alloc (.cells #[.string xn, .slice A5 xd.length c5] 30)).row (F4.out.alloc (.cells #[.string xn, .slice A5 xd.length c5] 30)) (by decide)
                  rw [← HmX.out] at h
                  exact h)
            case measure => have := Hlt.out; simp [intOf]; omega
      · go_wp2
        go_roundw
        case rel => exact ⟨j + 1, m, A', c', X, by have := Hlt.out; omega, by go_num, rfl, HmX.out, by omega, hid (by rw [HX.out, Hfs.out]; simp), O1, F1⟩
        case measure => have := Hlt.out; simp [intOf]; omega
    · have d1 : decide (j < L.length) = false := decide_eq_false hlt
      obtain rfl : j = L.length := by omega
      go_wp2
      go_ret
      have hx := HX.out
      rw [List.take_length] at hx
      exact ⟨A', c', X, by rw [HmX.out]; rfl, hx, O.out⟩
end Go.Proofs.YtlekobompjehdaaDoor
