/-
  shrink.Forms's inner function: the least form of a color joins the list.
-/
import Derived.Test.YtchkogfgkaaogaaShE
namespace Go.Proofs.Ytchkogfgkaaogaa
open Go.RowKit

/-- a form in a list: what it says, and where its rows lie -/
structure FR where
  f : Fm
  PA : Option Addr
  KA : Option Addr
  pc : Nat
  kc : Nat
def encF (z : FR) : List Value := [.int .i64 z.f.w, .int .i64 z.f.h, .int .i64 z.f.d, .int .i64 z.f.c, .int .i64 z.f.l, .slice z.PA z.f.pal.length z.pc, .slice z.KA z.f.key.length z.kc]
theorem form_info : (Try.prog.info? 32).map (fun i => (i.zero, i.size, i.bytes)) = some (some (.agg #[.int .i64 0, .int .i64 0, .int .i64 0, .int .i64 0, .int .i64 0, .slice none 0 0, .slice none 0 0]), 7, 88) := by kernel_rfl
theorem own_own_ne {w : World} {b1 b2 : Nat} {e1 e2 : TypeId} {s1 s2 n1 n2 : Nat} {v1 v2 : Value} {x1 x2 : List Value} (h1 : w.ownsRow b1 e1 s1 v1 n1 x1) (h2 : w.ownsRow b2 e2 s2 v2 n2 x2) (hne : e2 ≠ e1) : v1.ownBlock = none ∨ v1.ownBlock ≠ v2.ownBlock := by
  rcases h1.2 with ⟨rfl, _⟩ | ⟨g, cap, cur, rfl, _, hg, _⟩
  · exact .inl rfl
  · exact .inr (own_blk_ne h2 hg hne)
theorem FmOwn.grown {w w' : World} {base b : Nat} {f : Fm} {PA KA : Option Addr} {pc kc n : Nat} {v : Value} {xs : List Value} (h : FmOwn w base f PA KA pc kc) (ho : w.ownsRow b 32 7 v n xs) (hg : w.grownBy w' v.ownBlock) : FmOwn w' base f PA KA pc kc :=
  ⟨h.1.kept hg (own_own_ne h.1 ho (by decide)), h.2.kept hg (own_own_ne h.2 ho (by decide))⟩

/-- the world while forms are gathered -/
def FSt (w W0 : World) (x y lc : Int) (PR : Option Addr) (np pr : Nat) (sb ob : Nat) (A : Option Addr) (cc : Nat) (l : List Px) (zs : List FR) : Prop :=
  Blk w W0.heap.size 24 #[.int .i64 x, .int .i64 y, .slice PR np pr] ∧ Blk w (W0.heap.size + 1) 3 #[.int .i64 lc] ∧ Blk w sb 22 #[.slice A l.length cc] ∧
  (∃ OA oc, Blk w ob 62 #[.slice OA zs.length oc] ∧ w.ownsRow W0.heap.size 32 7 (.slice OA zs.length oc) zs.length (zs.flatMap encF)) ∧
  w.ownsRow W0.heap.size 69 4 (.slice A l.length cc) l.length (l.flatMap encP) ∧ (∀ z ∈ zs, FmOwn w W0.heap.size z.f z.PA z.KA z.pc z.kc) ∧ Below W0.heap.size W0 w ∧ W0.heap.size + 1 < sb ∧ sb < ob
section
variable {w w' W0 : World} {x y lc : Int} {PR A : Option Addr} {np pr sb ob cc : Nat} {l : List Px} {zs : List FR}
theorem FSt.below (h : FSt w W0 x y lc PR np pr sb ob A cc l zs) (hb : Below w.heap.size w w') : FSt w' W0 x y lc PR np pr sb ob A cc l zs := by
  obtain ⟨h1, h2, h3, ⟨OA, oc, h4, h5⟩, h6, h7, h8, h9, h10⟩ := h
  exact ⟨h1.below hb h1.lt, h2.below hb h2.lt, h3.below hb h3.lt, ⟨OA, oc, h4.below hb h4.lt, own_below h5 hb (Nat.le_refl _)⟩, own_below h6 hb (Nat.le_refl _), fun z hz => (h7 z hz).below hb (Nat.le_refl _), h8.trans (hb.mono h8.size), h9, h10⟩
theorem FSt.alloc (h : FSt w W0 x y lc PR np pr sb ob A cc l zs) (o : Obj) : FSt (w.alloc o) W0 x y lc PR np pr sb ob A cc l zs := h.below ((Below.refl _ _).alloc (Nat.le_refl _) o)
theorem FSt.oblt (h : FSt w W0 x y lc PR np pr sb ob A cc l zs) : ob < w.heap.size := by obtain ⟨_, _, _, ⟨_, _, h4, _⟩, _⟩ := h; exact h4.lt
end
/-- the forms with one more, if there is one -/
def addM (r : Option Fm) (fs : List Fm) : List Fm := match r with
  | some f => fs ++ [f]
  | none => fs

set_option maxRecDepth 100000 in
set_option maxHeartbeats 8000000 in
theorem add_plain (W0 V : World) (x y lc col : Int) (PR A : Option Addr) (np pr sb ob cc : Nat) (l : List Px) (zs : List FR) (S : FSt V W0 x y lc PR np pr sb ob A cc l zs) (hm : l.length ≤ 1000000) (hz : zs.length ≤ 1000) :
    Calls Try.prog 72 #[.int .i64 col, .func (.func 74) #[] #[], .pointer (some ⟨W0.heap.size, 0, none⟩), .pointer (some ⟨W0.heap.size + 1, 0, none⟩), .pointer (some ⟨sb, 0, none⟩), .pointer (some ⟨ob, 0, none⟩)] V fun e w' => e = .returned (.tuple #[]) ∧ ∃ zs', FSt w' W0 x y lc PR np pr sb ob A cc l zs' ∧ zs'.map (·.f) = addM (leastM idF x y col lc l) (zs.map (·.f)) ∧ ∀ b t cs, Blk V b t cs → 32 ≠ t → b ≠ ob → Blk w' b t cs := by
  have SV := hid S
  have S1 := hid S
  have HVW := hid ((Below.refl V.heap.size V).alloc (Nat.le_refl _) (.cells #[.int .i64 x, .int .i64 y, .int .i64 0, .int .i64 col, .int .i64 lc] 26))
  have Hrd := hid (Rd.alloc (own_rdp S.2.2.2.2.1) (Nat.le_refl _) (.cells #[.int .i64 x, .int .i64 y, .int .i64 0, .int .i64 col, .int .i64 lc] 26))
  clear S
  have hsl : sb < V.heap.size := SV.out.2.2.1.lt
  have hsl1 : sb < V.heap.size + 1 := by omega
  have hso : W0.heap.size + 1 < sb ∧ sb < ob := S1.out.2.2.2.2.2.2.2
  obtain ⟨hso1, hso2⟩ := hso
  have q0 := S1.out.1.cell 0
  have q1 := S1.out.1.cell 1
  have q2 := S1.out.1.cell 2
  simp only [List.getElem?_toArray, List.getElem?_cons_zero, List.getElem?_cons_succ] at q0 q1 q2
  have l0 := S1.out.2.1.cell 0
  have s0 := S1.out.2.2.1.cell 0
  simp only [List.getElem?_toArray, List.getElem?_cons_zero] at l0 s0
  obtain ⟨i0, hi0, hz0, hz1, hz2⟩ := info_parts form_info
  have Hi0 := hid hi0
  have Hz0 := hid hz0
  have Hz1 := hid hz1
  have Hz2 := hid hz2
  clear hi0 hz0 hz1 hz2
  go_enter Try.func72, Try.ntmps72
  go_wp2_with fail
  refine (least_plain x y 0 col lc A cc l V.heap.size _ Hrd.out hm (by simp)).mono ?_
  rintro e w2 ⟨he, hb2⟩
  have S2 := hid (SV.out.below (HVW.out.trans hb2))
  have hsz2 : W0.heap.size + 1 < w2.heap.size := S2.out.2.1.lt
  have hV2 : V.heap.size ≤ w2.heap.size := (HVW.out.trans hb2).size
  clear q0 q1 q2 l0 s0 S1 hsl hsl1
  cases hr : leastM idF x y col lc l with
  | none =>
    rw [hr] at he
    have he : e = .returned (.tuple #[.agg #[.int .i64 0, .int .i64 0, .int .i64 0, .int .i64 0, .int .i64 0, .slice none 0 0, .slice none 0 0], .bool false]) := he
    subst he
    have HrM := hid hr
    clear hr
    go_wp2_with fail
    go_end0
    exact ⟨rfl, zs, S2.out.alloc _, by rw [HrM.out]; rfl, fun b t cs h _ _ => ((h.below (HVW.out.trans hb2) h.lt)).alloc _⟩
  | some f =>
    rw [hr] at he
    obtain ⟨PA, KA, pc, kc, rfl, hfo⟩ := he
    have Hfo := hid (hfo.lower (base := W0.heap.size) (by have := S2.out.2.2.2.2.2.2.1.size; have := SV.out.2.2.2.2.2.2.1.size; have := HVW.out.size; simp; omega))
    obtain ⟨OA, oc, ho0, ho1⟩ := S2.out.2.2.2.1
    have Hob := hid ho0
    have Hown := hid ho1
    have S3 := hid (S2.out.alloc (.cells #[.int .i64 f.w, .int .i64 f.h, .int .i64 f.d, .int .i64 f.c, .int .i64 f.l, .slice PA f.pal.length pc, .slice KA f.key.length kc] 32))
    have hob := S2.out.oblt
    have hob1 : ob < w2.heap.size + 1 := by omega
    have hob2 : ob < w2.heap.size + 1 + 1 := by omega
    have o0 := ho0.cell 0
    have of0 := ho0.frozen 0
    simp only [List.getElem?_toArray, List.getElem?_cons_zero] at o0
    have hk1 := Blk.new (w2.alloc (.cells #[.int .i64 f.w, .int .i64 f.h, .int .i64 f.d, .int .i64 f.c, .int .i64 f.l, .slice PA f.pal.length pc, .slice KA f.key.length kc] 32)) 32 #[.int .i64 f.w, .int .i64 f.h, .int .i64 f.d, .int .i64 f.c, .int .i64 f.l, .slice PA f.pal.length pc, .slice KA f.key.length kc]
    simp only [World.size_alloc] at hk1
    have Hk1 := hid hk1
    have hle : W0.heap.size ≤ w2.heap.size := by omega
    have Hbw := hid (S2.out.2.2.2.2.2.2.1)
    have HrM := hid hr
    clear hr hfo ho0 ho1 hk1
    go_wp2_with (at_builtin; refine wpList_app _ rfl _ _ _ rfl W0.heap.size 32 i0 (.agg #[.int .i64 0, .int .i64 0, .int .i64 0, .int .i64 0, .int .i64 0, .slice none 0 0, .slice none 0 0]) 7 88 Try.underlying62 Hi0.out Hz0.out Hz1.out Hz2.out rfl (by omega) OA zs.length oc _ rfl ((Hown.out.alloc _).alloc _) _ _ 1 1 [.int .i64 f.w, .int .i64 f.h, .int .i64 f.d, .int .i64 f.c, .int .i64 f.l, .slice PA f.pal.length pc, .slice KA f.key.length kc] rfl (rd_one _ _ _ _ Hk1.out) (by simp) (by simp [Value.oneCell']) (by simp only [maxLen]; omega) (by omega) (by simp; omega) ?_; intro A3 c3 w3 ha3; have o3 := ((((Hob.out.alloc (.cells #[.int .i64 f.w, .int .i64 f.h, .int .i64 f.d, .int .i64 f.c, .int .i64 f.l, .slice PA f.pal.length pc, .slice KA f.key.length kc] 32)).alloc (.cells #[.int .i64 f.w, .int .i64 f.h, .int .i64 f.d, .int .i64 f.c, .int .i64 f.l, .slice PA f.pal.length pc, .slice KA f.key.length kc] 32)).grown ha3.2.1 (own_blk_ne ((Hown.out.alloc (.cells #[.int .i64 f.w, .int .i64 f.h, .int .i64 f.d, .int .i64 f.c, .int .i64 f.l, .slice PA f.pal.length pc, .slice KA f.key.length kc] 32)).alloc (.cells #[.int .i64 f.w, .int .i64 f.h, .int .i64 f.d, .int .i64 f.c, .int .i64 f.l, .slice PA f.pal.length pc, .slice KA f.key.length kc] 32)) ((Hob.out.alloc (.cells #[.int .i64 f.w, .int .i64 f.h, .int .i64 f.d, .int .i64 f.c, .int .i64 f.l, .slice PA f.pal.length pc, .slice KA f.key.length kc] 32)).alloc (.cells #[.int .i64 f.w, .int .i64 f.h, .int .i64 f.d, .int .i64 f.c, .int .i64 f.l, .slice PA f.pal.length pc, .slice KA f.key.length kc] 32)) (by decide))) : Blk w3 ob 62 #[.slice OA zs.length oc]); have O3 := hid o3; have p0 := o3.cell 0; have pf := o3.frozen 0; simp only [List.getElem?_toArray, List.getElem?_cons_zero] at p0; have Ha3 := hid ha3; clear ha3 o3)
    go_end0
    have Ho2 := (Hown.out.alloc (.cells #[.int .i64 f.w, .int .i64 f.h, .int .i64 f.d, .int .i64 f.c, .int .i64 f.l, .slice PA f.pal.length pc, .slice KA f.key.length kc] 32)).alloc (.cells #[.int .i64 f.w, .int .i64 f.h, .int .i64 f.d, .int .i64 f.c, .int .i64 f.l, .slice PA f.pal.length pc, .slice KA f.key.length kc] 32)
    refine ⟨rfl, zs ++ [⟨f, PA, KA, pc, kc⟩], ?_, by rw [HrM.out]; simp [addM], fun b t cs h ht hne => ((((h.below (HVW.out.trans hb2) h.lt).alloc _).alloc _).grown Ha3.out.2.1 (own_blk_ne Ho2 (((h.below (HVW.out.trans hb2) h.lt).alloc _).alloc _) ht)).far hne _⟩
    obtain ⟨h1, h2, h3, _, h6, h7, h8, h9⟩ := (S3.out.alloc (.cells #[.int .i64 f.w, .int .i64 f.h, .int .i64 f.d, .int .i64 f.c, .int .i64 f.l, .slice PA f.pal.length pc, .slice KA f.key.length kc] 32))
    have hgr := Ha3.out.2.1
    have hf2 := ((Hfo.out.alloc (.cells #[.int .i64 f.w, .int .i64 f.h, .int .i64 f.d, .int .i64 f.c, .int .i64 f.l, .slice PA f.pal.length pc, .slice KA f.key.length kc] 32)).alloc (.cells #[.int .i64 f.w, .int .i64 f.h, .int .i64 f.d, .int .i64 f.c, .int .i64 f.l, .slice PA f.pal.length pc, .slice KA f.key.length kc] 32)).grown Ho2 hgr
    have hlen : (zs ++ [(⟨f, PA, KA, pc, kc⟩ : FR)]).length = zs.length + 1 := by simp
    refine ⟨(h1.grown hgr (own_blk_ne Ho2 h1 (by decide))).far (by show W0.heap.size ≠ ob; omega) _, (h2.grown hgr (own_blk_ne Ho2 h2 (by decide))).far (by show W0.heap.size + 1 ≠ ob; omega) _, (h3.grown hgr (own_blk_ne Ho2 h3 (by decide))).far (by show sb ≠ ob; omega) _, ⟨A3, c3, ?_, ?_⟩, ?_, ?_, ?_, h9⟩
    · rw [hlen]; exact O3.out.set_ 0 _
    · rw [hlen, List.flatMap_append]
      exact ownsRow_setCell_other (a := ⟨ob, 0, none⟩) Ha3.out.1 (fun e => own_blk_ne Ha3.out.1 O3.out (by decide) e.symm) _
    · have h6' := h6.kept hgr (own_own_ne h6 Ho2 (by decide))
      exact ownsRow_setCell_other (a := ⟨ob, 0, none⟩) h6' (fun e => own_blk_ne h6' O3.out (by decide) e.symm) _
    · intro z hz
      rcases List.mem_append.1 hz with hz | hz
      · exact ((h7 z hz).grown Ho2 hgr).set_ O3.out (by decide) (by decide) 0 _
      · simp at hz
        subst hz
        exact hf2.set_ O3.out (by decide) (by decide) 0 _
    · exact (h8.trans Ha3.out.2.2.1).setCell (by show W0.heap.size ≤ ob; omega) _

set_option maxRecDepth 100000 in
set_option maxHeartbeats 8000000 in
theorem add_keyed (W0 V : World) (x y lc col : Int) (PR A : Option Addr) (np pr sb ob cc : Nat) (l : List Px) (zs : List FR) (a0 a1 a2 a3 : Int) (S : FSt V W0 x y lc PR np pr sb ob A cc l zs) (hm : l.length ≤ 1000000) (hz : zs.length ≤ 1000) :
    Calls Try.prog 72 #[.int .i64 col, .func (.func 117) #[] #[.pointer (some ⟨V.heap.size, 0, none⟩)], .pointer (some ⟨W0.heap.size, 0, none⟩), .pointer (some ⟨W0.heap.size + 1, 0, none⟩), .pointer (some ⟨sb, 0, none⟩), .pointer (some ⟨ob, 0, none⟩)] (V.alloc (.cells #[.int .i64 a0, .int .i64 a1, .int .i64 a2, .int .i64 a3] 69)) fun e w' => e = .returned (.tuple #[]) ∧ ∃ zs', FSt w' W0 x y lc PR np pr sb ob A cc l zs' ∧ zs'.map (·.f) = addM (leastM (mkKey (a0, a1, a2, a3)) x y col lc l) (zs.map (·.f)) ∧ ∀ b t cs, Blk V b t cs → 32 ≠ t → b ≠ ob → Blk w' b t cs := by
  have SV := hid S
  have S1 := hid (S.alloc (.cells #[.int .i64 a0, .int .i64 a1, .int .i64 a2, .int .i64 a3] 69))
  have HVW := hid (((Below.refl V.heap.size V).alloc (Nat.le_refl _) (.cells #[.int .i64 a0, .int .i64 a1, .int .i64 a2, .int .i64 a3] 69)).alloc (by simp) (.cells #[.int .i64 x, .int .i64 y, .int .i64 0, .int .i64 col, .int .i64 lc] 26))
  have Hrd := hid (Rd.alloc (Rd.alloc (own_rdp S.2.2.2.2.1) (Nat.le_refl _) (.cells #[.int .i64 a0, .int .i64 a1, .int .i64 a2, .int .i64 a3] 69)) (by simp) (.cells #[.int .i64 x, .int .i64 y, .int .i64 0, .int .i64 col, .int .i64 lc] 26))
  have Hk := hid ((Blk.new V 69 #[.int .i64 a0, .int .i64 a1, .int .i64 a2, .int .i64 a3]).alloc (.cells #[.int .i64 x, .int .i64 y, .int .i64 0, .int .i64 col, .int .i64 lc] 26))
  clear S
  have hsl : sb < V.heap.size := SV.out.2.2.1.lt
  have hsl1 : sb < V.heap.size + 1 := by omega
  have hso : W0.heap.size + 1 < sb ∧ sb < ob := S1.out.2.2.2.2.2.2.2
  obtain ⟨hso1, hso2⟩ := hso
  have q0 := S1.out.1.cell 0
  have q1 := S1.out.1.cell 1
  have q2 := S1.out.1.cell 2
  simp only [List.getElem?_toArray, List.getElem?_cons_zero, List.getElem?_cons_succ] at q0 q1 q2
  have l0 := S1.out.2.1.cell 0
  have s0 := S1.out.2.2.1.cell 0
  simp only [List.getElem?_toArray, List.getElem?_cons_zero] at l0 s0
  obtain ⟨i0, hi0, hz0, hz1, hz2⟩ := info_parts form_info
  have Hi0 := hid hi0
  have Hz0 := hid hz0
  have Hz1 := hid hz1
  have Hz2 := hid hz2
  clear hi0 hz0 hz1 hz2
  go_enter Try.func72, Try.ntmps72
  go_wp2_with fail
  refine (least_keyed x y 0 col lc a0 a1 a2 a3 V.heap.size A cc l V.heap.size _ Hrd.out hm (by simp; omega) (Nat.le_refl _) Hk.out).mono ?_
  rintro e w2 ⟨he, hb2⟩
  have S2 := hid (SV.out.below (HVW.out.trans hb2))
  have hsz2 : W0.heap.size + 1 < w2.heap.size := S2.out.2.1.lt
  have hV2 : V.heap.size ≤ w2.heap.size := (HVW.out.trans hb2).size
  clear q0 q1 q2 l0 s0 S1 hsl hsl1
  cases hr : leastM (mkKey (a0, a1, a2, a3)) x y col lc l with
  | none =>
    rw [hr] at he
    have he : e = .returned (.tuple #[.agg #[.int .i64 0, .int .i64 0, .int .i64 0, .int .i64 0, .int .i64 0, .slice none 0 0, .slice none 0 0], .bool false]) := he
    subst he
    have HrM := hid hr
    clear hr
    go_wp2_with fail
    go_end0
    exact ⟨rfl, zs, S2.out.alloc _, by rw [HrM.out]; rfl, fun b t cs h _ _ => ((h.below (HVW.out.trans hb2) h.lt)).alloc _⟩
  | some f =>
    rw [hr] at he
    obtain ⟨PA, KA, pc, kc, rfl, hfo⟩ := he
    have Hfo := hid (hfo.lower (base := W0.heap.size) (by have := S2.out.2.2.2.2.2.2.1.size; have := SV.out.2.2.2.2.2.2.1.size; have := HVW.out.size; simp; omega))
    obtain ⟨OA, oc, ho0, ho1⟩ := S2.out.2.2.2.1
    have Hob := hid ho0
    have Hown := hid ho1
    have S3 := hid (S2.out.alloc (.cells #[.int .i64 f.w, .int .i64 f.h, .int .i64 f.d, .int .i64 f.c, .int .i64 f.l, .slice PA f.pal.length pc, .slice KA f.key.length kc] 32))
    have hob := S2.out.oblt
    have hob1 : ob < w2.heap.size + 1 := by omega
    have hob2 : ob < w2.heap.size + 1 + 1 := by omega
    have o0 := ho0.cell 0
    have of0 := ho0.frozen 0
    simp only [List.getElem?_toArray, List.getElem?_cons_zero] at o0
    have hk1 := Blk.new (w2.alloc (.cells #[.int .i64 f.w, .int .i64 f.h, .int .i64 f.d, .int .i64 f.c, .int .i64 f.l, .slice PA f.pal.length pc, .slice KA f.key.length kc] 32)) 32 #[.int .i64 f.w, .int .i64 f.h, .int .i64 f.d, .int .i64 f.c, .int .i64 f.l, .slice PA f.pal.length pc, .slice KA f.key.length kc]
    simp only [World.size_alloc] at hk1
    have Hk1 := hid hk1
    have hle : W0.heap.size ≤ w2.heap.size := by omega
    have Hbw := hid (S2.out.2.2.2.2.2.2.1)
    have HrM := hid hr
    clear hr hfo ho0 ho1 hk1
    go_wp2_with (at_builtin; refine wpList_app _ rfl _ _ _ rfl W0.heap.size 32 i0 (.agg #[.int .i64 0, .int .i64 0, .int .i64 0, .int .i64 0, .int .i64 0, .slice none 0 0, .slice none 0 0]) 7 88 Try.underlying62 Hi0.out Hz0.out Hz1.out Hz2.out rfl (by omega) OA zs.length oc _ rfl ((Hown.out.alloc _).alloc _) _ _ 1 1 [.int .i64 f.w, .int .i64 f.h, .int .i64 f.d, .int .i64 f.c, .int .i64 f.l, .slice PA f.pal.length pc, .slice KA f.key.length kc] rfl (rd_one _ _ _ _ Hk1.out) (by simp) (by simp [Value.oneCell']) (by simp only [maxLen]; omega) (by omega) (by simp; omega) ?_; intro A3 c3 w3 ha3; have o3 := ((((Hob.out.alloc (.cells #[.int .i64 f.w, .int .i64 f.h, .int .i64 f.d, .int .i64 f.c, .int .i64 f.l, .slice PA f.pal.length pc, .slice KA f.key.length kc] 32)).alloc (.cells #[.int .i64 f.w, .int .i64 f.h, .int .i64 f.d, .int .i64 f.c, .int .i64 f.l, .slice PA f.pal.length pc, .slice KA f.key.length kc] 32)).grown ha3.2.1 (own_blk_ne ((Hown.out.alloc (.cells #[.int .i64 f.w, .int .i64 f.h, .int .i64 f.d, .int .i64 f.c, .int .i64 f.l, .slice PA f.pal.length pc, .slice KA f.key.length kc] 32)).alloc (.cells #[.int .i64 f.w, .int .i64 f.h, .int .i64 f.d, .int .i64 f.c, .int .i64 f.l, .slice PA f.pal.length pc, .slice KA f.key.length kc] 32)) ((Hob.out.alloc (.cells #[.int .i64 f.w, .int .i64 f.h, .int .i64 f.d, .int .i64 f.c, .int .i64 f.l, .slice PA f.pal.length pc, .slice KA f.key.length kc] 32)).alloc (.cells #[.int .i64 f.w, .int .i64 f.h, .int .i64 f.d, .int .i64 f.c, .int .i64 f.l, .slice PA f.pal.length pc, .slice KA f.key.length kc] 32)) (by decide))) : Blk w3 ob 62 #[.slice OA zs.length oc]); have O3 := hid o3; have p0 := o3.cell 0; have pf := o3.frozen 0; simp only [List.getElem?_toArray, List.getElem?_cons_zero] at p0; have Ha3 := hid ha3; clear ha3 o3)
    go_end0
    have Ho2 := (Hown.out.alloc (.cells #[.int .i64 f.w, .int .i64 f.h, .int .i64 f.d, .int .i64 f.c, .int .i64 f.l, .slice PA f.pal.length pc, .slice KA f.key.length kc] 32)).alloc (.cells #[.int .i64 f.w, .int .i64 f.h, .int .i64 f.d, .int .i64 f.c, .int .i64 f.l, .slice PA f.pal.length pc, .slice KA f.key.length kc] 32)
    refine ⟨rfl, zs ++ [⟨f, PA, KA, pc, kc⟩], ?_, by rw [HrM.out]; simp [addM], fun b t cs h ht hne => ((((h.below (HVW.out.trans hb2) h.lt).alloc _).alloc _).grown Ha3.out.2.1 (own_blk_ne Ho2 (((h.below (HVW.out.trans hb2) h.lt).alloc _).alloc _) ht)).far hne _⟩
    obtain ⟨h1, h2, h3, _, h6, h7, h8, h9⟩ := (S3.out.alloc (.cells #[.int .i64 f.w, .int .i64 f.h, .int .i64 f.d, .int .i64 f.c, .int .i64 f.l, .slice PA f.pal.length pc, .slice KA f.key.length kc] 32))
    have hgr := Ha3.out.2.1
    have hf2 := ((Hfo.out.alloc (.cells #[.int .i64 f.w, .int .i64 f.h, .int .i64 f.d, .int .i64 f.c, .int .i64 f.l, .slice PA f.pal.length pc, .slice KA f.key.length kc] 32)).alloc (.cells #[.int .i64 f.w, .int .i64 f.h, .int .i64 f.d, .int .i64 f.c, .int .i64 f.l, .slice PA f.pal.length pc, .slice KA f.key.length kc] 32)).grown Ho2 hgr
    have hlen : (zs ++ [(⟨f, PA, KA, pc, kc⟩ : FR)]).length = zs.length + 1 := by simp
    refine ⟨(h1.grown hgr (own_blk_ne Ho2 h1 (by decide))).far (by show W0.heap.size ≠ ob; omega) _, (h2.grown hgr (own_blk_ne Ho2 h2 (by decide))).far (by show W0.heap.size + 1 ≠ ob; omega) _, (h3.grown hgr (own_blk_ne Ho2 h3 (by decide))).far (by show sb ≠ ob; omega) _, ⟨A3, c3, ?_, ?_⟩, ?_, ?_, ?_, h9⟩
    · rw [hlen]; exact O3.out.set_ 0 _
    · rw [hlen, List.flatMap_append]
      exact ownsRow_setCell_other (a := ⟨ob, 0, none⟩) Ha3.out.1 (fun e => own_blk_ne Ha3.out.1 O3.out (by decide) e.symm) _
    · have h6' := h6.kept hgr (own_own_ne h6 Ho2 (by decide))
      exact ownsRow_setCell_other (a := ⟨ob, 0, none⟩) h6' (fun e => own_blk_ne h6' O3.out (by decide) e.symm) _
    · intro z hz
      rcases List.mem_append.1 hz with hz | hz
      · exact ((h7 z hz).grown Ho2 hgr).set_ O3.out (by decide) (by decide) 0 _
      · simp at hz
        subst hz
        exact hf2.set_ O3.out (by decide) (by decide) 0 _
    · exact (h8.trans Ha3.out.2.2.1).setCell (by show W0.heap.size ≤ ob; omega) _

set_option maxRecDepth 100000 in
set_option maxHeartbeats 8000000 in
theorem add_pal (W0 V : World) (x y lc col : Int) (PR A : Option Addr) (np pr sb ob cc : Nat) (l : List Px) (zs : List FR) (g : Nat) (QA : Option Addr) (pl : List Px) (qc : Nat) (S : FSt V W0 x y lc PR np pr sb ob A cc l zs) (hm : l.length ≤ 1000000) (hz : zs.length ≤ 1000) (hg0 : Blk V g 22 #[.slice QA (palM pl).length qc]) (hq : V.ownsRow 0 69 4 (.slice QA (palM pl).length qc) (palM pl).length ((palM pl).flatMap encP)) (hpl : (palM pl).length ≤ 1000000) :
    Calls Try.prog 72 #[.int .i64 col, .func (.func 79) #[] #[.pointer (some ⟨g, 0, none⟩)], .pointer (some ⟨W0.heap.size, 0, none⟩), .pointer (some ⟨W0.heap.size + 1, 0, none⟩), .pointer (some ⟨sb, 0, none⟩), .pointer (some ⟨ob, 0, none⟩)] V fun e w' => e = .returned (.tuple #[]) ∧ ∃ zs', FSt w' W0 x y lc PR np pr sb ob A cc l zs' ∧ zs'.map (·.f) = addM (leastM (mkPal pl) x y col lc l) (zs.map (·.f)) ∧ ∀ b t cs, Blk V b t cs → 32 ≠ t → b ≠ ob → Blk w' b t cs := by
  have SV := hid S
  have S1 := hid S
  have HVW := hid ((Below.refl V.heap.size V).alloc (Nat.le_refl _) (.cells #[.int .i64 x, .int .i64 y, .int .i64 0, .int .i64 col, .int .i64 lc] 26))
  have Hrd := hid (Rd.alloc (own_rdp S.2.2.2.2.1) (Nat.le_refl _) (.cells #[.int .i64 x, .int .i64 y, .int .i64 0, .int .i64 col, .int .i64 lc] 26))
  have Hg := hid (hg0.alloc (.cells #[.int .i64 x, .int .i64 y, .int .i64 0, .int .i64 col, .int .i64 lc] 26))
  have Hq := hid (hq.alloc (.cells #[.int .i64 x, .int .i64 y, .int .i64 0, .int .i64 col, .int .i64 lc] 26))
  clear S hg0 hq
  have hsl : sb < V.heap.size := SV.out.2.2.1.lt
  have hsl1 : sb < V.heap.size + 1 := by omega
  have hso : W0.heap.size + 1 < sb ∧ sb < ob := S1.out.2.2.2.2.2.2.2
  obtain ⟨hso1, hso2⟩ := hso
  have q0 := S1.out.1.cell 0
  have q1 := S1.out.1.cell 1
  have q2 := S1.out.1.cell 2
  simp only [List.getElem?_toArray, List.getElem?_cons_zero, List.getElem?_cons_succ] at q0 q1 q2
  have l0 := S1.out.2.1.cell 0
  have s0 := S1.out.2.2.1.cell 0
  simp only [List.getElem?_toArray, List.getElem?_cons_zero] at l0 s0
  obtain ⟨i0, hi0, hz0, hz1, hz2⟩ := info_parts form_info
  have Hi0 := hid hi0
  have Hz0 := hid hz0
  have Hz1 := hid hz1
  have Hz2 := hid hz2
  clear hi0 hz0 hz1 hz2
  go_enter Try.func72, Try.ntmps72
  go_wp2_with fail
  refine (least_pal x y 0 col lc g QA pl qc A cc l V.heap.size _ Hrd.out hm (by simp) Hg.out Hq.out hpl).mono ?_
  rintro e w2 ⟨he, hb2⟩
  have S2 := hid (SV.out.below (HVW.out.trans hb2))
  have hsz2 : W0.heap.size + 1 < w2.heap.size := S2.out.2.1.lt
  have hV2 : V.heap.size ≤ w2.heap.size := (HVW.out.trans hb2).size
  clear q0 q1 q2 l0 s0 S1 hsl hsl1
  cases hr : leastM (mkPal pl) x y col lc l with
  | none =>
    rw [hr] at he
    have he : e = .returned (.tuple #[.agg #[.int .i64 0, .int .i64 0, .int .i64 0, .int .i64 0, .int .i64 0, .slice none 0 0, .slice none 0 0], .bool false]) := he
    subst he
    have HrM := hid hr
    clear hr
    go_wp2_with fail
    go_end0
    exact ⟨rfl, zs, S2.out.alloc _, by rw [HrM.out]; rfl, fun b t cs h _ _ => ((h.below (HVW.out.trans hb2) h.lt)).alloc _⟩
  | some f =>
    rw [hr] at he
    obtain ⟨PA, KA, pc, kc, rfl, hfo⟩ := he
    have Hfo := hid (hfo.lower (base := W0.heap.size) (by have := S2.out.2.2.2.2.2.2.1.size; have := SV.out.2.2.2.2.2.2.1.size; have := HVW.out.size; simp; omega))
    obtain ⟨OA, oc, ho0, ho1⟩ := S2.out.2.2.2.1
    have Hob := hid ho0
    have Hown := hid ho1
    have S3 := hid (S2.out.alloc (.cells #[.int .i64 f.w, .int .i64 f.h, .int .i64 f.d, .int .i64 f.c, .int .i64 f.l, .slice PA f.pal.length pc, .slice KA f.key.length kc] 32))
    have hob := S2.out.oblt
    have hob1 : ob < w2.heap.size + 1 := by omega
    have hob2 : ob < w2.heap.size + 1 + 1 := by omega
    have o0 := ho0.cell 0
    have of0 := ho0.frozen 0
    simp only [List.getElem?_toArray, List.getElem?_cons_zero] at o0
    have hk1 := Blk.new (w2.alloc (.cells #[.int .i64 f.w, .int .i64 f.h, .int .i64 f.d, .int .i64 f.c, .int .i64 f.l, .slice PA f.pal.length pc, .slice KA f.key.length kc] 32)) 32 #[.int .i64 f.w, .int .i64 f.h, .int .i64 f.d, .int .i64 f.c, .int .i64 f.l, .slice PA f.pal.length pc, .slice KA f.key.length kc]
    simp only [World.size_alloc] at hk1
    have Hk1 := hid hk1
    have hle : W0.heap.size ≤ w2.heap.size := by omega
    have Hbw := hid (S2.out.2.2.2.2.2.2.1)
    have HrM := hid hr
    clear hr hfo ho0 ho1 hk1
    go_wp2_with (at_builtin; refine wpList_app _ rfl _ _ _ rfl W0.heap.size 32 i0 (.agg #[.int .i64 0, .int .i64 0, .int .i64 0, .int .i64 0, .int .i64 0, .slice none 0 0, .slice none 0 0]) 7 88 Try.underlying62 Hi0.out Hz0.out Hz1.out Hz2.out rfl (by omega) OA zs.length oc _ rfl ((Hown.out.alloc _).alloc _) _ _ 1 1 [.int .i64 f.w, .int .i64 f.h, .int .i64 f.d, .int .i64 f.c, .int .i64 f.l, .slice PA f.pal.length pc, .slice KA f.key.length kc] rfl (rd_one _ _ _ _ Hk1.out) (by simp) (by simp [Value.oneCell']) (by simp only [maxLen]; omega) (by omega) (by simp; omega) ?_; intro A3 c3 w3 ha3; have o3 := ((((Hob.out.alloc (.cells #[.int .i64 f.w, .int .i64 f.h, .int .i64 f.d, .int .i64 f.c, .int .i64 f.l, .slice PA f.pal.length pc, .slice KA f.key.length kc] 32)).alloc (.cells #[.int .i64 f.w, .int .i64 f.h, .int .i64 f.d, .int .i64 f.c, .int .i64 f.l, .slice PA f.pal.length pc, .slice KA f.key.length kc] 32)).grown ha3.2.1 (own_blk_ne ((Hown.out.alloc (.cells #[.int .i64 f.w, .int .i64 f.h, .int .i64 f.d, .int .i64 f.c, .int .i64 f.l, .slice PA f.pal.length pc, .slice KA f.key.length kc] 32)).alloc (.cells #[.int .i64 f.w, .int .i64 f.h, .int .i64 f.d, .int .i64 f.c, .int .i64 f.l, .slice PA f.pal.length pc, .slice KA f.key.length kc] 32)) ((Hob.out.alloc (.cells #[.int .i64 f.w, .int .i64 f.h, .int .i64 f.d, .int .i64 f.c, .int .i64 f.l, .slice PA f.pal.length pc, .slice KA f.key.length kc] 32)).alloc (.cells #[.int .i64 f.w, .int .i64 f.h, .int .i64 f.d, .int .i64 f.c, .int .i64 f.l, .slice PA f.pal.length pc, .slice KA f.key.length kc] 32)) (by decide))) : Blk w3 ob 62 #[.slice OA zs.length oc]); have O3 := hid o3; have p0 := o3.cell 0; have pf := o3.frozen 0; simp only [List.getElem?_toArray, List.getElem?_cons_zero] at p0; have Ha3 := hid ha3; clear ha3 o3)
    go_end0
    have Ho2 := (Hown.out.alloc (.cells #[.int .i64 f.w, .int .i64 f.h, .int .i64 f.d, .int .i64 f.c, .int .i64 f.l, .slice PA f.pal.length pc, .slice KA f.key.length kc] 32)).alloc (.cells #[.int .i64 f.w, .int .i64 f.h, .int .i64 f.d, .int .i64 f.c, .int .i64 f.l, .slice PA f.pal.length pc, .slice KA f.key.length kc] 32)
    refine ⟨rfl, zs ++ [⟨f, PA, KA, pc, kc⟩], ?_, by rw [HrM.out]; simp [addM], fun b t cs h ht hne => ((((h.below (HVW.out.trans hb2) h.lt).alloc _).alloc _).grown Ha3.out.2.1 (own_blk_ne Ho2 (((h.below (HVW.out.trans hb2) h.lt).alloc _).alloc _) ht)).far hne _⟩
    obtain ⟨h1, h2, h3, _, h6, h7, h8, h9⟩ := (S3.out.alloc (.cells #[.int .i64 f.w, .int .i64 f.h, .int .i64 f.d, .int .i64 f.c, .int .i64 f.l, .slice PA f.pal.length pc, .slice KA f.key.length kc] 32))
    have hgr := Ha3.out.2.1
    have hf2 := ((Hfo.out.alloc (.cells #[.int .i64 f.w, .int .i64 f.h, .int .i64 f.d, .int .i64 f.c, .int .i64 f.l, .slice PA f.pal.length pc, .slice KA f.key.length kc] 32)).alloc (.cells #[.int .i64 f.w, .int .i64 f.h, .int .i64 f.d, .int .i64 f.c, .int .i64 f.l, .slice PA f.pal.length pc, .slice KA f.key.length kc] 32)).grown Ho2 hgr
    have hlen : (zs ++ [(⟨f, PA, KA, pc, kc⟩ : FR)]).length = zs.length + 1 := by simp
    refine ⟨(h1.grown hgr (own_blk_ne Ho2 h1 (by decide))).far (by show W0.heap.size ≠ ob; omega) _, (h2.grown hgr (own_blk_ne Ho2 h2 (by decide))).far (by show W0.heap.size + 1 ≠ ob; omega) _, (h3.grown hgr (own_blk_ne Ho2 h3 (by decide))).far (by show sb ≠ ob; omega) _, ⟨A3, c3, ?_, ?_⟩, ?_, ?_, ?_, h9⟩
    · rw [hlen]; exact O3.out.set_ 0 _
    · rw [hlen, List.flatMap_append]
      exact ownsRow_setCell_other (a := ⟨ob, 0, none⟩) Ha3.out.1 (fun e => own_blk_ne Ha3.out.1 O3.out (by decide) e.symm) _
    · have h6' := h6.kept hgr (own_own_ne h6 Ho2 (by decide))
      exact ownsRow_setCell_other (a := ⟨ob, 0, none⟩) h6' (fun e => own_blk_ne h6' O3.out (by decide) e.symm) _
    · intro z hz
      rcases List.mem_append.1 hz with hz | hz
      · exact ((h7 z hz).grown Ho2 hgr).set_ O3.out (by decide) (by decide) 0 _
      · simp at hz
        subst hz
        exact hf2.set_ O3.out (by decide) (by decide) 0 _
    · exact (h8.trans Ha3.out.2.2.1).setCell (by show W0.heap.size ≤ ob; omega) _

end Go.Proofs.Ytchkogfgkaaogaa
