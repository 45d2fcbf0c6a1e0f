/-
  RasterPacks: the law's walk (under way).
-/
import Derived.Test.YtphhoihhmphbdaaRasQ
import Derived.Test.YtphhoihhmphbdaaPakN
import Derived.Test.YtphhoihhmphbdaaRpkA
import Derived.Test.YtphhoihhmphbdaaRsame
import Derived.Test.YtphhoihhmphbdaaBv
import Derived.Test.YtphhoihhmphbdaaUnpB
import Derived.Deep.RegionHeld3
namespace Go.Proofs.Ytphhoihhmphbdaa
open Go.ChangeShapes Go.WideShapes Go.ChangeAt Go.RowKit

/-- the law's boxes: the form, the raster -/
def PW (w W : World) (f : Fm) (PA KA : Option Addr) (pc kc : Nat) (x y : Int) (PR : Option Addr) (n pr : Nat) : Prop :=
  Blk w W.heap.size 27 #[.int .i64 f.w, .int .i64 f.h, .int .i64 f.d, .int .i64 f.c, .int .i64 f.l, .slice PA f.pal.length pc, .slice KA f.key.length kc] ∧ Blk w (W.heap.size + 1) 33 #[.int .i64 x, .int .i64 y, .slice PR n pr] ∧ Below W.heap.size W w
theorem pw_start (f : Fm) (PA KA : Option Addr) (pc kc : Nat) (x y : Int) (PR : Option Addr) (n pr : Nat) (W : World) :
    PW ((W.alloc (.cells #[.int .i64 f.w, .int .i64 f.h, .int .i64 f.d, .int .i64 f.c, .int .i64 f.l, .slice PA f.pal.length pc, .slice KA f.key.length kc] 27)).alloc (.cells #[.int .i64 x, .int .i64 y, .slice PR n pr] 33)) W f PA KA pc kc x y PR n pr := by
  have h := Blk.new (W.alloc (.cells #[.int .i64 f.w, .int .i64 f.h, .int .i64 f.d, .int .i64 f.c, .int .i64 f.l, .slice PA f.pal.length pc, .slice KA f.key.length kc] 27)) 33 #[.int .i64 x, .int .i64 y, .slice PR n pr]
  rw [World.size_alloc] at h
  exact ⟨(Blk.new W _ _).alloc _, h, ((Below.refl _ _).alloc (Nat.le_refl _) _).alloc (by simp) _⟩
theorem PW.below {w w' W : World} {f : Fm} {PA KA PR : Option Addr} {pc kc n pr : Nat} {x y : Int} (h : PW w W f PA KA pc kc x y PR n pr) (hb : Below w.heap.size w w') : PW w' W f PA KA pc kc x y PR n pr := ⟨h.1.below hb h.1.lt, h.2.1.below hb h.2.1.lt, h.2.2.trans (hb.mono h.2.2.size)⟩
theorem PW.alloc {w W : World} {f : Fm} {PA KA PR : Option Addr} {pc kc n pr : Nat} {x y : Int} (h : PW w W f PA KA pc kc x y PR n pr) (o : Obj) : PW (w.alloc o) W f PA KA pc kc x y PR n pr := ⟨h.1.alloc o, h.2.1.alloc o, h.2.2.alloc h.2.2.size o⟩
theorem PW.rdp {w W : World} {f : Fm} {PA KA PR : Option Addr} {pc kc n pr : Nat} {x y : Int} (h : PW w W f PA KA pc kc x y PR n pr) {A : Option Addr} {l : List Px} (hp : RdP W W.heap.size A l) : RdP w w.heap.size A l := (Rd.below hp h.2.2 (Nat.le_refl _)).more h.2.2.size
theorem PW.rdi {w W : World} {f : Fm} {PA KA PR : Option Addr} {pc kc n pr : Nat} {x y : Int} (h : PW w W f PA KA pc kc x y PR n pr) {A : Option Addr} {l : List Int} (hp : RdI W W.heap.size A l) : RdI w w.heap.size A l := (Rd.below hp h.2.2 (Nat.le_refl _)).more h.2.2.size
theorem own_capT {w : World} {base t sz n c : Nat} {A : Option Addr} {xs : List Value} (h : w.ownsRow base t sz (.slice A n c) n xs) : n ≤ c ∧ (A = none → c = 0) := by
  rcases h.2 with ⟨h1, h2⟩ | ⟨g, cap, cur, h1, _, _, h3, _⟩
  · injection h1 with h1 h4 h5
    rw [h2]
    exact ⟨Nat.zero_le _, fun _ => h5⟩
  · injection h1 with h1 h4 h5
    rw [h5, h1]
    exact ⟨h3, fun h => by cases h⟩
theorem unpack_rp (f : Fm) (PA KA A : Option Addr) (pc kc c base : Nat) (b : List Int) (px : List Px) (W : World) (hf : formOk f = true) (hp : RdP W W.heap.size PA f.pal) (hk : RdI W W.heap.size KA f.key) (hpm : f.pal.length ≤ 1000000) (hkm : f.key.length ≤ 1000000)
    (ho : W.ownsRow base 5 1 (.slice A b.length c) b.length (bytesV b)) (hu : unpR f b = some px) (hd : (b.length : Int) = dataM f.w f.h f.d f.c f.l) (hm : b.length ≤ 100000) (ok : ∀ x ∈ b, isB x) :
    Calls Try.prog 9 #[.agg #[.int .i64 f.w, .int .i64 f.h, .int .i64 f.d, .int .i64 f.c, .int .i64 f.l, .slice PA f.pal.length pc, .slice KA f.key.length kc], .slice A b.length c] W fun e w' => ∃ g, e = .returned (.tuple #[.agg #[.int .i64 f.w, .int .i64 f.h, .slice (some ⟨g, 0, none⟩) px.length px.length], .nilIface]) ∧ RdP w' w'.heap.size (some ⟨g, 0, none⟩) px ∧ Below W.heap.size W w' :=
  (unpack_go f PA KA A pc kc c b.length b W hf hp hk hpm hkm rfl hd hm (own_capT ho).1 (own_capT ho).2 (own_rd ho) ok).mono fun e w' h => by
    unfold UnpEndA at h
    rw [hu] at h
    obtain ⟨hb, g, he, _, hg⟩ := h
    exact ⟨g, he, ⟨encP_len px, fun _ => ⟨g, 0, rfl, hg.lt, fun j u hu => by rw [Nat.zero_add, hg.cell j, List.getElem?_toArray]; exact hu⟩⟩, hb⟩
theorem unpack_rpn (n : Nat) (f : Fm) (PA KA A : Option Addr) (pc kc c base : Nat) (b : List Int) (px : List Px) (W : World) (hnn : b.length = n) (hf : formOk f = true) (hp : RdP W W.heap.size PA f.pal) (hk : RdI W W.heap.size KA f.key) (hpm : f.pal.length ≤ 1000000) (hkm : f.key.length ≤ 1000000)
    (ho : W.ownsRow base 5 1 (.slice A b.length c) b.length (bytesV b)) (hu : unpR f b = some px) (hd : (b.length : Int) = dataM f.w f.h f.d f.c f.l) (hm : b.length ≤ 100000) (ok : ∀ x ∈ b, isB x) :
    Calls Try.prog 9 #[.agg #[.int .i64 f.w, .int .i64 f.h, .int .i64 f.d, .int .i64 f.c, .int .i64 f.l, .slice PA f.pal.length pc, .slice KA f.key.length kc], .slice A n c] W fun e w' => ∃ g, e = .returned (.tuple #[.agg #[.int .i64 f.w, .int .i64 f.h, .slice (some ⟨g, 0, none⟩) px.length px.length], .nilIface]) ∧ RdP w' w'.heap.size (some ⟨g, 0, none⟩) px ∧ Below W.heap.size W w' := by
  subst hnn
  exact unpack_rp f PA KA A pc kc c base b px W hf hp hk hpm hkm ho hu hd hm ok
theorem kept_ras {w w3 : World} {base n g sz : Nat} {v : Value} {xs : List Value} {cs : Array Value} (ho : w.ownsRow base 62 sz v n xs) (hb : Blk w g 33 cs) (hg : w.grownBy w3 v.ownBlock) : Blk w3 g 33 cs := hb.grown hg (own_blk_ne ho hb (by decide))
theorem fin_ras {w u : World} {base c g : Nat} {A : Option Addr} {px : List Px} (x y : Int) (ho : w.ownsRow base 62 4 (.slice A px.length c) px.length (px.flatMap encP)) (hz : Blk w g 33 #[.int .i64 0, .int .i64 0, .slice none 0 0]) (hb : Below u.heap.size u w) (hg : u.heap.size ≤ g) :
    Hid (Blk (((w.setCell ⟨g, 0, none⟩ (.int .i64 x)).setCell ⟨g, 1, none⟩ (.int .i64 y)).setCell ⟨g, 2, none⟩ (.slice A px.length c)) g 33 #[.int .i64 x, .int .i64 y, .slice A px.length c]) ∧
    Hid (RdP (((w.setCell ⟨g, 0, none⟩ (.int .i64 x)).setCell ⟨g, 1, none⟩ (.int .i64 y)).setCell ⟨g, 2, none⟩ (.slice A px.length c)) (((w.setCell ⟨g, 0, none⟩ (.int .i64 x)).setCell ⟨g, 1, none⟩ (.int .i64 y)).setCell ⟨g, 2, none⟩ (.slice A px.length c)).heap.size A px) ∧
    Hid (Below u.heap.size u (((w.setCell ⟨g, 0, none⟩ (.int .i64 x)).setCell ⟨g, 1, none⟩ (.int .i64 y)).setCell ⟨g, 2, none⟩ (.slice A px.length c))) := by
  have ne : (Value.slice A px.length c).ownBlock ≠ some g := fun e => own_blk_ne ho hz (by decide) e.symm
  have h1 := ownsRow_setCell_other (a := ⟨g, 0, none⟩) ho ne (.int .i64 x)
  have h2 := ownsRow_setCell_other (a := ⟨g, 1, none⟩) h1 ne (.int .i64 y)
  have h3 := ownsRow_setCell_other (a := ⟨g, 2, none⟩) h2 ne (.slice A px.length c)
  exact ⟨hid (((hz.set_ 0 _).set_ 1 _).set_ 2 _), hid (own_rd h3), hid (((hb.setCell hg _).setCell hg _).setCell hg _)⟩
set_option maxRecDepth 100000 in
set_option maxHeartbeats 16000000 in
theorem raspacks_walk (f : Fm) (PA KA PR : Option Addr) (pc kc pr : Nat) (x y kind : Int) (px : List Px) (W : World) (hp : RdP W W.heap.size PA f.pal) (hk : RdI W W.heap.size KA f.key) (hr : RdP W W.heap.size PR px) (hwf : ∀ p ∈ px, wfP p) :
    Calls Try.prog 4 #[.agg #[.int .i64 f.w, .int .i64 f.h, .int .i64 f.d, .int .i64 f.c, .int .i64 f.l, .slice PA f.pal.length pc, .slice KA f.key.length kc], .agg #[.int .i64 x, .int .i64 y, .slice PR px.length pr], .int .i64 kind] W fun e w' => e = .returned (.bool true) ∧ Below W.heap.size W w' := by
  have Hp := hid hp
  have Hk := hid hk
  have Hr := hid hr
  have Hwf := hid hwf
  have Hpn := hid (fun h => rd_nil (size := 4) hp (by omega) h)
  have Hkn := hid (fun h => rd_nil (size := 1) hk (by omega) h)
  have Hrn := hid (fun h => rd_nil (size := 4) hr (by omega) h)
  have Hw := hid (pw_start f PA KA pc kc x y PR px.length pr W)
  obtain ⟨i0, hi0, hz0, hz1, hz2⟩ := info_parts px_info
  have Hi0 := hid hi0
  have Hz0 := hid hz0
  have Hz1 := hid hz1
  have Hz2 := hid hz2
  clear hp hk hr hwf hi0 hz0 hz1 hz2
  go_enter Try.func4, Try.ntmps4
  go_wp2_with fail
  refine (alive_any _).mono ?_
  rintro e w1 ⟨rfl, hb⟩
  have Hw1 := hid (Hw.out.below hb)
  have q0 := Hw1.out.1.cell 0
  have q1 := Hw1.out.1.cell 1
  have q2 := Hw1.out.1.cell 2
  have q3 := Hw1.out.1.cell 3
  have q4 := Hw1.out.1.cell 4
  have q5 := Hw1.out.1.cell 5
  have q6 := Hw1.out.1.cell 6
  simp only [List.getElem?_toArray, List.getElem?_cons_zero, List.getElem?_cons_succ] at q0 q1 q2 q3 q4 q5 q6
  have r0 := Hw1.out.2.1.cell 0
  have r1 := Hw1.out.2.1.cell 1
  have r2 := Hw1.out.2.1.cell 2
  simp only [List.getElem?_toArray, List.getElem?_cons_zero, List.getElem?_cons_succ] at r0 r1 r2
  clear hb Hw
  cases hl : largeB f
  case true =>
    have HL := hid hl
    clear hl
    go_wp2_with fail
    refine (large_any f PA KA pc kc _).mono ?_
    rintro e w2 ⟨rfl, hb⟩
    rw [HL.out]
    have Hw2 := hid (Hw1.out.below hb)
    clear hb Hw1
    clear q0 q1 q2 q3 q4 q5 q6 r0 r1 r2
    go_wp2_with fail
    go_ret
    exact ⟨rfl, Hw2.out.2.2⟩
  have HL := hid hl
  obtain ⟨hpm, hkm⟩ := large_not hl
  clear hl
  go_wp2_with fail
  refine (large_any f PA KA pc kc _).mono ?_
  rintro e w2 ⟨rfl, hb⟩
  rw [HL.out]
  have Hw2 := hid (Hw1.out.below hb)
  clear hb Hw1
  clear q0 q1 q2 q3 q4 q5 q6 r0 r1 r2
  have q0 := Hw2.out.1.cell 0
  have q1 := Hw2.out.1.cell 1
  have q2 := Hw2.out.1.cell 2
  have q3 := Hw2.out.1.cell 3
  have q4 := Hw2.out.1.cell 4
  have q5 := Hw2.out.1.cell 5
  have q6 := Hw2.out.1.cell 6
  simp only [List.getElem?_toArray, List.getElem?_cons_zero, List.getElem?_cons_succ] at q0 q1 q2 q3 q4 q5 q6
  have r0 := Hw2.out.2.1.cell 0
  have r1 := Hw2.out.2.1.cell 1
  have r2 := Hw2.out.2.1.cell 2
  simp only [List.getElem?_toArray, List.getElem?_cons_zero, List.getElem?_cons_succ] at r0 r1 r2
  go_wp2_with fail
  refine (largeras_any x y PR px.length pr _).mono ?_
  rintro e w3 ⟨rfl, hb⟩
  have Hw3 := hid (Hw2.out.below hb)
  clear hb Hw2
  clear q0 q1 q2 q3 q4 q5 q6 r0 r1 r2
  cases hq : largeQ px.length
  case true =>
    clear hq
    go_wp2_with fail
    go_ret
    exact ⟨rfl, Hw3.out.2.2⟩
  have hm4 : px.length ≤ 400 := by unfold largeQ at hq; simpa using hq
  clear hq
  have q0 := Hw3.out.1.cell 0
  have q1 := Hw3.out.1.cell 1
  have q2 := Hw3.out.1.cell 2
  have q3 := Hw3.out.1.cell 3
  have q4 := Hw3.out.1.cell 4
  have q5 := Hw3.out.1.cell 5
  have q6 := Hw3.out.1.cell 6
  simp only [List.getElem?_toArray, List.getElem?_cons_zero, List.getElem?_cons_succ] at q0 q1 q2 q3 q4 q5 q6
  go_wp2_with fail
  refine (form_any f PA KA pc kc w3 (Hw3.out.rdp Hp.out) (Hw3.out.rdi Hk.out) Hpn.out Hkn.out hpm hkm).mono ?_
  rintro e w4 ⟨A2, a2, g2, rfl, hpp, hkk, hb⟩
  have Hw4 := hid ((Hw3.out.below hb).alloc (.cells #[.int .i64 f.w, .int .i64 f.h, .int .i64 f.d, .int .i64 f.c, .int .i64 f.l, .slice A2 f.pal.length a2, .slice (some ⟨g2, 0, none⟩) f.key.length (f.key.length + 1)] 38))
  have HG := hid (Blk.new w4 38 #[.int .i64 f.w, .int .i64 f.h, .int .i64 f.d, .int .i64 f.c, .int .i64 f.l, .slice A2 f.pal.length a2, .slice (some ⟨g2, 0, none⟩) f.key.length (f.key.length + 1)])
  have hsz4 := (Hw3.out.below hb).2.2.size
  have HPP := hid (show RdP (w4.alloc (.cells #[.int .i64 f.w, .int .i64 f.h, .int .i64 f.d, .int .i64 f.c, .int .i64 f.l, .slice A2 f.pal.length a2, .slice (some ⟨g2, 0, none⟩) f.key.length (f.key.length + 1)] 38)) w4.heap.size A2 f.pal from Rd.below hpp ((Below.refl _ w4).alloc (Nat.le_refl _) _) (Nat.le_refl _))
  have HKK := hid (show RdI (w4.alloc (.cells #[.int .i64 f.w, .int .i64 f.h, .int .i64 f.d, .int .i64 f.c, .int .i64 f.l, .slice A2 f.pal.length a2, .slice (some ⟨g2, 0, none⟩) f.key.length (f.key.length + 1)] 38)) w4.heap.size (some ⟨g2, 0, none⟩) f.key from Rd.below hkk ((Below.refl _ w4).alloc (Nat.le_refl _) _) (Nat.le_refl _))
  clear hb hpp hkk Hw3
  clear q0 q1 q2 q3 q4 q5 q6
  go_upto_region 6 with (fail)
  generalize w4.alloc (.cells #[.int .i64 f.w, .int .i64 f.h, .int .i64 f.d, .int .i64 f.c, .int .i64 f.l, .slice A2 f.pal.length a2, .slice (some ⟨g2, 0, none⟩) f.key.length (f.key.length + 1)] 38) = u at *
  generalize w4.heap.size = gG at *
  have r0 := Hw4.out.2.1.cell 0
  have r1 := Hw4.out.2.1.cell 1
  have r2 := Hw4.out.2.1.cell 2
  simp only [List.getElem?_toArray, List.getElem?_cons_zero, List.getElem?_cons_succ] at r0 r1 r2
  have Hus := Hw4.out.2.2.size
  go_cut [8] from 24 to 32 (fun v wq => ∃ gS A c, v = .pointer (some ⟨gS, 0, none⟩) ∧ Hid (Blk wq gS 33 #[.int .i64 x, .int .i64 y, .slice A px.length c]) ∧ Hid (RdP wq wq.heap.size A px) ∧ Hid (Below u.heap.size u wq))
  · have E1 := hid (own_base (b := u.heap.size) (empty_rowP u.drew 62 4) (Nat.le_refl _))
    have E2 := hid (E1.out.alloc (.cells #[.int .i64 0, .int .i64 0, .slice none 0 0] 33))
    have h3 := own_base (b := u.heap.size) (empty_rowP (u.drew.alloc (.cells #[.int .i64 0, .int .i64 0, .slice none 0 0] 33)) 62 4) (by simp)
    have E3 : Hid (((u.drew.alloc (.cells #[.int .i64 0, .int .i64 0, .slice none 0 0] 33)).alloc (.cells #[] 62)).ownsRow u.heap.size 62 4 (.slice (some ⟨u.heap.size + 1, 0, none⟩) 0 0) 0 []) := hid (by simpa using h3)
    have RB1 := hid (Hw4.out.2.1.drew.alloc (.cells #[] 62))
    have RB2 := hid (RB1.out.alloc (.cells #[.int .i64 0, .int .i64 0, .slice none 0 0] 33))
    have RB3 := hid ((Hw4.out.2.1.drew.alloc (.cells #[.int .i64 0, .int .i64 0, .slice none 0 0] 33)).alloc (.cells #[] 62))
    have z2 := Blk.new (u.drew.alloc (.cells #[] 62)) 33 #[.int .i64 0, .int .i64 0, .slice none 0 0]
    have ZB2 : Hid (Blk ((u.drew.alloc (.cells #[] 62)).alloc (.cells #[.int .i64 0, .int .i64 0, .slice none 0 0] 33)) (u.heap.size + 1) 33 #[.int .i64 0, .int .i64 0, .slice none 0 0]) := hid (by simpa using z2)
    have ZB3 : Hid (Blk ((u.drew.alloc (.cells #[.int .i64 0, .int .i64 0, .slice none 0 0] 33)).alloc (.cells #[] 62)) u.heap.size 33 #[.int .i64 0, .int .i64 0, .slice none 0 0]) := hid ((Blk.new u.drew 33 #[.int .i64 0, .int .i64 0, .slice none 0 0]).alloc _)
    have L1 := hid (show Below u.heap.size u (u.drew.alloc (.cells #[] 62)) from (Below.refl _ u).drew.alloc (Nat.le_refl _) _)
    have L2 := hid (L1.out.alloc (by simp) (.cells #[.int .i64 0, .int .i64 0, .slice none 0 0] 33))
    have L3 := hid (show Below u.heap.size u ((u.drew.alloc (.cells #[.int .i64 0, .int .i64 0, .slice none 0 0] 33)).alloc (.cells #[] 62)) from ((Below.refl _ u).drew.alloc (Nat.le_refl _) _).alloc (by simp) _)
    have HRu := hid (Hw4.out.rdp Hr.out)
    have lW := Hw4.out.2.1.lt
    have ne2 : W.heap.size + 1 ≠ u.heap.size + 1 := by omega
    have ne3 : W.heap.size + 1 ≠ u.heap.size := by omega
    clear h3 z2
    go_region_held3 (fun w' => w'.cell? ⟨W.heap.size + 1, 0, none⟩ = some (.int .i64 x) ∧ w'.cell? ⟨W.heap.size + 1, 1, none⟩ = some (.int .i64 y) ∧ w'.cell? ⟨W.heap.size + 1, 2, none⟩ = some (.slice PR px.length pr)) (first | go_keep | exact ⟨r0, r1, r2⟩ | exact K3.out | exact ⟨(RBh.out.alloc _).cell 0, (RBh.out.alloc _).cell 1, (RBh.out.alloc _).cell 2⟩ | exact ⟨(((RBh.out.far ne2 _).far ne2 _).far ne2 _).cell 0, (((RBh.out.far ne2 _).far ne2 _).far ne2 _).cell 1, (((RBh.out.far ne2 _).far ne2 _).far ne2 _).cell 2⟩ | exact ⟨(((RBh.out.far ne3 _).far ne3 _).far ne3 _).cell 0, (((RBh.out.far ne3 _).far ne3 _).far ne3 _).cell 1, (((RBh.out.far ne3 _).far ne3 _).far ne3 _).cell 2⟩) (first | (go_loud (refine step_app _ (by rfl) (.tmp 28) (.tmp 30) _ (by rfl) u.heap.size 62 i0 (.agg #[.int .i64 0, .int .i64 0, .int .i64 0, .int .i64 0]) 4 32 Try.underlying24 Hi0.out Hz0.out Hz1.out Hz2.out rfl (by omega) _ 0 0 [] (by rfl) ?_ u.heap.size PR px.length pr (px.flatMap encP) (by rfl) ?_ Hrn.out (enc_cells px) (by simp only [maxLen]; omega) (by omega) (by first | (simp; done) | (simp; omega) | omega) ?_); (first | exact E1.out | exact E2.out | exact E3.out); (first | exact Rd.below HRu.out L1.out (Nat.le_refl _) | exact Rd.below HRu.out L2.out (Nat.le_refl _) | exact Rd.below HRu.out L3.out (Nat.le_refl _)); intro A3 c3 w3 ha3; (first | have RB := kept_ras E1.out RB1.out ha3.2.1 | have RB := kept_ras E2.out RB2.out ha3.2.1 | have RB := kept_ras E3.out RB3.out ha3.2.1); have K3 : Hid (w3.cell? ⟨W.heap.size + 1, 0, none⟩ = some (.int .i64 x) ∧ w3.cell? ⟨W.heap.size + 1, 1, none⟩ = some (.int .i64 y) ∧ w3.cell? ⟨W.heap.size + 1, 2, none⟩ = some (.slice PR px.length pr)) := ⟨RB.cell 0, RB.cell 1, RB.cell 2⟩; have RBh := hid RB; clear RB; (first | (have ZB := kept_ras E2.out ZB2.out ha3.2.1; have z0 := (ZB.cell 0).trans rfl; have z1 := (ZB.cell 1).trans rfl; have z2 := (ZB.cell 2).trans rfl; have fz := fun o => ZB.frozen o; have ZBh := hid ZB; clear ZB) | (have ZB := kept_ras E3.out ZB3.out ha3.2.1; have z0 := (ZB.cell 0).trans rfl; have z1 := (ZB.cell 1).trans rfl; have z2 := (ZB.cell 2).trans rfl; have fz := fun o => ZB.frozen o; have ZBh := hid ZB; clear ZB) | skip); have Ha3 := hid ha3; clear ha3))
    all_goals
      have o := Ha3.out.1
      simp only [Nat.zero_add, List.nil_append] at o
      go_wp2_with fail
      go_meet
      first
        | exact ⟨w3.heap.size, A3, c3, rfl, hid (Blk.new _ _ _), hid (own_rd (o.alloc _)), hid ((L1.out.trans Ha3.out.2.2.1).alloc (L1.out.trans Ha3.out.2.2.1).size _)⟩
        | exact ⟨u.heap.size + 1, A3, c3, rfl, (fin_ras x y o ZBh.out (L2.out.trans Ha3.out.2.2.1) (Nat.le_succ _)).1, (fin_ras x y o ZBh.out (L2.out.trans Ha3.out.2.2.1) (Nat.le_succ _)).2.1, (fin_ras x y o ZBh.out (L2.out.trans Ha3.out.2.2.1) (Nat.le_succ _)).2.2⟩
        | exact ⟨u.heap.size, A3, c3, rfl, (fin_ras x y o ZBh.out (L3.out.trans Ha3.out.2.2.1) (Nat.le_refl _)).1, (fin_ras x y o ZBh.out (L3.out.trans Ha3.out.2.2.1) (Nat.le_refl _)).2.1, (fin_ras x y o ZBh.out (L3.out.trans Ha3.out.2.2.1) (Nat.le_refl _)).2.2⟩
  obtain ⟨gS, A3, c3, rfl, KS, KX, KB⟩ := hcut
  have Kw := hid (Hw4.out.below KB.out)
  have KG := hid (HG.out.below KB.out HG.out.lt)
  have KPP := hid ((Rd.below HPP.out KB.out (Nat.le_of_lt HG.out.lt)).more (Nat.le_trans (Nat.le_of_lt HG.out.lt) KB.out.size))
  have KKK := hid ((Rd.below HKK.out KB.out (Nat.le_of_lt HG.out.lt)).more (Nat.le_trans (Nat.le_of_lt HG.out.lt) KB.out.size))
  clear Hw4 HG HPP HKK r0 r1 r2 KB
  by_cases hbad : ¬ fitP f x y px ∨ ¬ kindP kind ∨ packM f px kind = none
  · skip
    have q0 := KG.out.cell 0
    have q1 := KG.out.cell 1
    have q2 := KG.out.cell 2
    have q3 := KG.out.cell 3
    have q4 := KG.out.cell 4
    have q5 := KG.out.cell 5
    have q6 := KG.out.cell 6
    simp only [List.getElem?_toArray, List.getElem?_cons_zero, List.getElem?_cons_succ] at q0 q1 q2 q3 q4 q5 q6
    have r0 := KS.out.cell 0
    have r1 := KS.out.cell 1
    have r2 := KS.out.cell 2
    simp only [List.getElem?_toArray, List.getElem?_cons_zero, List.getElem?_cons_succ] at r0 r1 r2
    go_wp2_with fail
    refine (pack_bad f A2 (some ⟨g2, 0, none⟩) A3 a2 (f.key.length + 1) c3 x y kind px _ KPP.out KKK.out hpm hkm KX.out Hwf.out (by omega) hbad).mono ?_
    rintro e w5 ⟨hb, rfl⟩
    have Mw := hid (Kw.out.below hb)
    have MG := hid (KG.out.below hb KG.out.lt)
    have MPP := hid ((RdP.below KPP.out hb (Nat.le_refl _)).more hb.size)
    have MKK := hid ((Rd.below KKK.out hb (Nat.le_refl _)).more hb.size)
    have MS := hid (KS.out.below hb KS.out.lt)
    have MX := hid ((RdP.below KX.out hb (Nat.le_refl _)).more hb.size)
    clear hb Kw KG KPP KKK KS KX
    clear q0 q1 q2 q3 q4 q5 q6 r0 r1 r2
    have q0 := MS.out.cell 0
    have q1 := MS.out.cell 1
    have q2 := MS.out.cell 2
    simp only [List.getElem?_toArray, List.getElem?_cons_zero, List.getElem?_cons_succ] at q0 q1 q2
    have r0 := Mw.out.2.1.cell 0
    have r1 := Mw.out.2.1.cell 1
    have r2 := Mw.out.2.1.cell 2
    simp only [List.getElem?_toArray, List.getElem?_cons_zero, List.getElem?_cons_succ] at r0 r1 r2
    go_wp2_with fail
    refine (rsame17_any x y A3 PR c3 pr px _ MX.out (Mw.out.rdp Hr.out) (by omega)).mono ?_
    rintro e w6 ⟨rfl, hb⟩
    have Nw := hid (Mw.out.below hb)
    have NG := hid (MG.out.below hb MG.out.lt)
    have NPP := hid ((RdP.below MPP.out hb (Nat.le_refl _)).more hb.size)
    have NKK := hid ((Rd.below MKK.out hb (Nat.le_refl _)).more hb.size)
    clear hb Mw MG MPP MKK MS MX
    clear q0 q1 q2 r0 r1 r2
    have q0 := NG.out.cell 0
    have q1 := NG.out.cell 1
    have q2 := NG.out.cell 2
    have q3 := NG.out.cell 3
    have q4 := NG.out.cell 4
    have q5 := NG.out.cell 5
    have q6 := NG.out.cell 6
    simp only [List.getElem?_toArray, List.getElem?_cons_zero, List.getElem?_cons_succ] at q0 q1 q2 q3 q4 q5 q6
    have r0 := Nw.out.1.cell 0
    have r1 := Nw.out.1.cell 1
    have r2 := Nw.out.1.cell 2
    have r3 := Nw.out.1.cell 3
    have r4 := Nw.out.1.cell 4
    have r5 := Nw.out.1.cell 5
    have r6 := Nw.out.1.cell 6
    simp only [List.getElem?_toArray, List.getElem?_cons_zero, List.getElem?_cons_succ] at r0 r1 r2 r3 r4 r5 r6
    go_wp2_with fail
    refine (fsame_any f PA KA A2 (some ⟨g2, 0, none⟩) pc kc a2 (f.key.length + 1) _ (Nw.out.rdp Hp.out) (Nw.out.rdi Hk.out) NPP.out NKK.out hpm hkm).mono ?_
    rintro e w7 ⟨rfl, hb⟩
    have Ow := hid (Nw.out.below hb)
    clear hb Nw NG NPP NKK
    clear q0 q1 q2 q3 q4 q5 q6 r0 r1 r2 r3 r4 r5 r6
    have q0 := Ow.out.1.cell 0
    have q1 := Ow.out.1.cell 1
    have q2 := Ow.out.1.cell 2
    have q3 := Ow.out.1.cell 3
    have q4 := Ow.out.1.cell 4
    have q5 := Ow.out.1.cell 5
    have q6 := Ow.out.1.cell 6
    simp only [List.getElem?_toArray, List.getElem?_cons_zero, List.getElem?_cons_succ] at q0 q1 q2 q3 q4 q5 q6
    have r0 := Ow.out.2.1.cell 0
    have r1 := Ow.out.2.1.cell 1
    have r2 := Ow.out.2.1.cell 2
    simp only [List.getElem?_toArray, List.getElem?_cons_zero, List.getElem?_cons_succ] at r0 r1 r2
    go_wp2_with fail
    refine (good_form f PA KA pc kc _ (Ow.out.rdp Hp.out) (Ow.out.rdi Hk.out) hpm hkm).mono ?_
    rintro e w8 ⟨rfl, hb⟩
    have Pw := hid (Ow.out.below hb)
    clear hb Ow
    clear q0 q1 q2 q3 q4 q5 q6 r0 r1 r2
    have q0 := Pw.out.1.cell 0
    have q1 := Pw.out.1.cell 1
    have q2 := Pw.out.1.cell 2
    have q3 := Pw.out.1.cell 3
    have q4 := Pw.out.1.cell 4
    have q5 := Pw.out.1.cell 5
    have q6 := Pw.out.1.cell 6
    simp only [List.getElem?_toArray, List.getElem?_cons_zero, List.getElem?_cons_succ] at q0 q1 q2 q3 q4 q5 q6
    have r0 := Pw.out.2.1.cell 0
    have r1 := Pw.out.2.1.cell 1
    have r2 := Pw.out.2.1.cell 2
    simp only [List.getElem?_toArray, List.getElem?_cons_zero, List.getElem?_cons_succ] at r0 r1 r2
    by_cases hf : formOk f = true
    rotate_left
    · have hf2 : formOk f = false := by cases h : formOk f; rfl; exact absurd h hf
      rw [hf2]
      clear hf hbad
      go_wp2_with fail
      refine (is_no 6 6 (by omega) _).mono ?_
      rintro e w9 ⟨rfl, rfl⟩
      go_wp2_with fail
      go_ret
      exact ⟨rfl, Pw.out.2.2.alloc Pw.out.2.2.size _⟩
    rw [hf]
    by_cases hx : x = f.w
    rotate_left
    · have hx2 : (x == f.w) = false := beq_eq_false_iff_ne.2 hx
      clear hbad
      go_wp2_with fail
      refine (is_no 6 6 (by omega) _).mono ?_
      rintro e w9 ⟨rfl, rfl⟩
      go_wp2_with fail
      go_ret
      exact ⟨rfl, Pw.out.2.2.alloc Pw.out.2.2.size _⟩
    by_cases hy : y = f.h
    rotate_left
    · have hy2 : (y == f.h) = false := beq_eq_false_iff_ne.2 hy
      have hx2 : (x == f.w) = true := beq_iff_eq.2 hx
      clear hbad
      go_wp2_with fail
      refine (is_no 6 6 (by omega) _).mono ?_
      rintro e w9 ⟨rfl, rfl⟩
      go_wp2_with fail
      go_ret
      exact ⟨rfl, Pw.out.2.2.alloc Pw.out.2.2.size _⟩
    subst hx hy
    obtain ⟨v1, v2, v3, v4, hwh, _, _⟩ := headErr_bnd (formOk_parts hf).1
    have h0 : 0 ≤ f.w * f.h := Int.mul_nonneg (by omega) (by omega)
    have ew : IntKind.i64.wrap (f.w * f.h) = f.w * f.h := IntWalk.i64_in _ (by omega)
    have ew2 : wrap64 (f.w * f.h) = f.w * f.h := by unfold wrap64; omega
    clear v1 v2 v3 v4 hwh h0
    by_cases hn : (px.length : Int) = f.w * f.h
    rotate_left
    · have hn2 : ((px.length : Int) == f.w * f.h) = false := beq_eq_false_iff_ne.2 hn
      clear hbad
      go_wp2_with fail
      refine (is_no 6 6 (by omega) _).mono ?_
      rintro e w9 ⟨rfl, rfl⟩
      go_wp2_with fail
      go_ret
      exact ⟨rfl, Pw.out.2.2.alloc Pw.out.2.2.size _⟩
    have hn2 : ((px.length : Int) == f.w * f.h) = true := beq_iff_eq.2 hn
    have l3 := Pw.out.1.lt
    have l4 := Pw.out.2.1.lt
    have Qw := hid (Pw.out.alloc (.cells #[] 5))
    have Hbad := hid hbad
    have Hf := hid hf
    clear hbad Pw hf
    go_wp2_with fail
    refine (runpk_go f PA KA PR pc kc pr px _ Hf.out (Qw.out.rdp Hp.out) (Qw.out.rdi Hk.out) hpm (Qw.out.rdp Hr.out) hn (by omega)).mono ?_
    rintro e w9 hE
    unfold RpkEnd at hE
    obtain ⟨hb, hE⟩ := hE
    have Rw := hid (Qw.out.below hb)
    clear hb Qw l3 l4 q0 q1 q2 q3 q4 q5 q6 r0 r1 r2
    cases hq : packM f px 0 with
    | none =>
      rw [hq] at hE
      have hE : e = .returned (.tuple #[.slice none 0 0, .bool false]) := hE
      subst hE
      clear hq
      go_wp2_with fail
      refine (is_no 6 6 (by omega) _).mono ?_
      rintro e wz ⟨rfl, rfl⟩
      go_wp2_with fail
      go_ret
      exact ⟨rfl, Rw.out.2.2⟩
    | some b0 =>
      rw [hq] at hE
      obtain ⟨Ab, cb, rfl, hob⟩ := hE
      obtain ⟨b1, hb1⟩ := packM_some2 hq kind
      have hkd : ¬ kindP kind := by
        rcases Hbad.out with h | h | h
        · exact absurd ⟨Hf.out, rfl, rfl, hn⟩ h
        · exact h
        · rw [hb1] at h; cases h
      clear hq hb1 hob
      by_cases hk1 : kind < -1
      · have d1 : decide (kind < -1) = true := decide_eq_true hk1
        clear hkd
        go_wp2_with fail
        refine (is_no 6 6 (by omega) _).mono ?_
        rintro e wz ⟨rfl, rfl⟩
        go_wp2_with fail
        go_ret
        exact ⟨rfl, Rw.out.2.2⟩
      · have hk2 : 4 < kind := by unfold kindP at hkd; omega
        have d1 : decide (kind < -1) = false := decide_eq_false hk1
        have d2 : decide (4 < kind) = true := decide_eq_true hk2
        clear hkd
        go_wp2_with fail
        refine (is_no 6 6 (by omega) _).mono ?_
        rintro e wz ⟨rfl, rfl⟩
        go_wp2_with fail
        go_ret
        exact ⟨rfl, Rw.out.2.2⟩
  · have hfit : fitP f x y px := Classical.byContradiction fun h => hbad (.inl h)
    have hkd : kindP kind := Classical.byContradiction fun h => hbad (.inr (.inl h))
    obtain ⟨b, hb0⟩ : ∃ b, packM f px kind = some b := by
      cases h : packM f px kind with
      | none => exact absurd (.inr (.inr h)) hbad
      | some b => exact ⟨b, rfl⟩
    clear hbad
    obtain ⟨b2, hb2⟩ := packM_some2 hb0 0
    obtain ⟨hf, hx, hy, hn⟩ := hfit
    subst hx hy
    obtain ⟨hu, hd, hbm, hB⟩ := pack_bits hf hn (by omega) hkd hb0
    have hd2 := pack_len hf hb2
    have hle : b.length = b2.length := by omega
    have Hk0 := hid (show kind = 0 → b = b2 from fun h => by subst h; rw [hb0] at hb2; injection hb2)
    have Hb0 := hid hb0
    have Hb2 := hid hb2
    have Hf := hid hf
    have Hu := hid hu
    have Hd := hid hd
    have HB := hid hB
    have Hkd := hid hkd
    obtain ⟨v1, v2, v3, v4, hwh, _, _⟩ := headErr_bnd (formOk_parts hf).1
    have h0 : 0 ≤ f.w * f.h := Int.mul_nonneg (by omega) (by omega)
    have ew : IntKind.i64.wrap (f.w * f.h) = f.w * f.h := IntWalk.i64_in _ (by omega)
    have ew2 : wrap64 (f.w * f.h) = f.w * f.h := by unfold wrap64; omega
    have hn2 : ((px.length : Int) == f.w * f.h) = true := beq_iff_eq.2 hn
    have d1 : decide (kind < -1) = false := decide_eq_false (by have := hkd.1; omega)
    have d2 : decide (4 < kind) = false := decide_eq_false (by have := hkd.2; omega)
    clear v1 v2 v3 v4 hwh h0 hb0 hb2 hd2 hf hu hd hB hkd
    have q0 := KG.out.cell 0
    have q1 := KG.out.cell 1
    have q2 := KG.out.cell 2
    have q3 := KG.out.cell 3
    have q4 := KG.out.cell 4
    have q5 := KG.out.cell 5
    have q6 := KG.out.cell 6
    simp only [List.getElem?_toArray, List.getElem?_cons_zero, List.getElem?_cons_succ] at q0 q1 q2 q3 q4 q5 q6
    have r0 := KS.out.cell 0
    have r1 := KS.out.cell 1
    have r2 := KS.out.cell 2
    simp only [List.getElem?_toArray, List.getElem?_cons_zero, List.getElem?_cons_succ] at r0 r1 r2
    go_wp2_with fail
    refine (pack_good f A2 (some ⟨g2, 0, none⟩) A3 a2 (f.key.length + 1) c3 f.w f.h kind px b _ KPP.out KKK.out hpm hkm KX.out Hwf.out (by omega) ⟨Hf.out, rfl, rfl, hn⟩ Hkd.out Hb0.out).mono ?_
    rintro e w5 ⟨hb, Ab, cb, rfl, hob⟩
    have Mw := hid (Kw.out.below hb)
    have MG := hid (KG.out.below hb KG.out.lt)
    have MPP := hid ((RdP.below KPP.out hb (Nat.le_refl _)).more hb.size)
    have MKK := hid ((Rd.below KKK.out hb (Nat.le_refl _)).more hb.size)
    have MS := hid (KS.out.below hb KS.out.lt)
    have MX := hid ((RdP.below KX.out hb (Nat.le_refl _)).more hb.size)
    have MO := hid hob
    clear hb Kw KG KPP KKK KS KX hob
    clear q0 q1 q2 q3 q4 q5 q6 r0 r1 r2
    have q0 := MS.out.cell 0
    have q1 := MS.out.cell 1
    have q2 := MS.out.cell 2
    simp only [List.getElem?_toArray, List.getElem?_cons_zero, List.getElem?_cons_succ] at q0 q1 q2
    have r0 := Mw.out.2.1.cell 0
    have r1 := Mw.out.2.1.cell 1
    have r2 := Mw.out.2.1.cell 2
    simp only [List.getElem?_toArray, List.getElem?_cons_zero, List.getElem?_cons_succ] at r0 r1 r2
    go_wp2_with fail
    refine (rsame17_any f.w f.h A3 PR c3 pr px _ MX.out (Mw.out.rdp Hr.out) (by omega)).mono ?_
    rintro e w6 ⟨rfl, hb⟩
    have Nw := hid (Mw.out.below hb)
    have NG := hid (MG.out.below hb MG.out.lt)
    have NPP := hid ((RdP.below MPP.out hb (Nat.le_refl _)).more hb.size)
    have NKK := hid ((Rd.below MKK.out hb (Nat.le_refl _)).more hb.size)
    have NO := hid (own_below MO.out hb (Nat.le_refl _))
    clear hb Mw MG MPP MKK MS MX MO
    clear q0 q1 q2 r0 r1 r2
    have q0 := NG.out.cell 0
    have q1 := NG.out.cell 1
    have q2 := NG.out.cell 2
    have q3 := NG.out.cell 3
    have q4 := NG.out.cell 4
    have q5 := NG.out.cell 5
    have q6 := NG.out.cell 6
    simp only [List.getElem?_toArray, List.getElem?_cons_zero, List.getElem?_cons_succ] at q0 q1 q2 q3 q4 q5 q6
    have r0 := Nw.out.1.cell 0
    have r1 := Nw.out.1.cell 1
    have r2 := Nw.out.1.cell 2
    have r3 := Nw.out.1.cell 3
    have r4 := Nw.out.1.cell 4
    have r5 := Nw.out.1.cell 5
    have r6 := Nw.out.1.cell 6
    simp only [List.getElem?_toArray, List.getElem?_cons_zero, List.getElem?_cons_succ] at r0 r1 r2 r3 r4 r5 r6
    go_wp2_with fail
    refine (fsame_any f PA KA A2 (some ⟨g2, 0, none⟩) pc kc a2 (f.key.length + 1) _ (Nw.out.rdp Hp.out) (Nw.out.rdi Hk.out) NPP.out NKK.out hpm hkm).mono ?_
    rintro e w7 ⟨rfl, hb⟩
    have Ow := hid (Nw.out.below hb)
    have OG := hid (NG.out.below hb NG.out.lt)
    have OPP := hid ((RdP.below NPP.out hb (Nat.le_refl _)).more hb.size)
    have OKK := hid ((Rd.below NKK.out hb (Nat.le_refl _)).more hb.size)
    have OO := hid (own_below NO.out hb (Nat.le_refl _))
    clear hb Nw NG NPP NKK NO
    clear q0 q1 q2 q3 q4 q5 q6 r0 r1 r2 r3 r4 r5 r6
    have q0 := Ow.out.1.cell 0
    have q1 := Ow.out.1.cell 1
    have q2 := Ow.out.1.cell 2
    have q3 := Ow.out.1.cell 3
    have q4 := Ow.out.1.cell 4
    have q5 := Ow.out.1.cell 5
    have q6 := Ow.out.1.cell 6
    simp only [List.getElem?_toArray, List.getElem?_cons_zero, List.getElem?_cons_succ] at q0 q1 q2 q3 q4 q5 q6
    have r0 := Ow.out.2.1.cell 0
    have r1 := Ow.out.2.1.cell 1
    have r2 := Ow.out.2.1.cell 2
    simp only [List.getElem?_toArray, List.getElem?_cons_zero, List.getElem?_cons_succ] at r0 r1 r2
    go_wp2_with fail
    refine (good_form f PA KA pc kc _ (Ow.out.rdp Hp.out) (Ow.out.rdi Hk.out) hpm hkm).mono ?_
    rintro e w8 ⟨rfl, hb⟩
    rw [Hf.out]
    have hbA := hb.alloc hb.size (.cells #[] 5)
    have Pw := hid (Ow.out.below hb)
    have l3 := Pw.out.1.lt
    have l4 := Pw.out.2.1.lt
    have Qw := hid (Pw.out.alloc (.cells #[] 5))
    have QG := hid (OG.out.below hbA OG.out.lt)
    have QPP := hid ((RdP.below OPP.out hbA (Nat.le_refl _)).more hbA.size)
    have QKK := hid ((Rd.below OKK.out hbA (Nat.le_refl _)).more hbA.size)
    have QO := hid (own_below OO.out hbA (Nat.le_refl _))
    clear hb Ow OG OPP OKK OO hbA
    clear q0 q1 q2 q3 q4 q5 q6 r0 r1 r2
    have q0 := Pw.out.1.cell 0
    have q1 := Pw.out.1.cell 1
    have q2 := Pw.out.1.cell 2
    have q3 := Pw.out.1.cell 3
    have q4 := Pw.out.1.cell 4
    have q5 := Pw.out.1.cell 5
    have q6 := Pw.out.1.cell 6
    simp only [List.getElem?_toArray, List.getElem?_cons_zero, List.getElem?_cons_succ] at q0 q1 q2 q3 q4 q5 q6
    have r0 := Pw.out.2.1.cell 0
    have r1 := Pw.out.2.1.cell 1
    have r2 := Pw.out.2.1.cell 2
    simp only [List.getElem?_toArray, List.getElem?_cons_zero, List.getElem?_cons_succ] at r0 r1 r2
    clear Pw
    go_wp2_with fail
    refine (runpk_go f PA KA PR pc kc pr px _ Hf.out (Qw.out.rdp Hp.out) (Qw.out.rdi Hk.out) hpm (Qw.out.rdp Hr.out) hn (by omega)).mono ?_
    rintro e w9 hE
    unfold RpkEnd at hE
    rw [Hb2.out] at hE
    obtain ⟨hb, At, ct, rfl, hot⟩ := hE
    have Rw := hid (Qw.out.below hb)
    have RG := hid (QG.out.below hb QG.out.lt)
    have RPP := hid ((RdP.below QPP.out hb (Nat.le_refl _)).more hb.size)
    have RKK := hid ((Rd.below QKK.out hb (Nat.le_refl _)).more hb.size)
    have RO := hid (own_below QO.out hb (Nat.le_refl _))
    have RT := hid hot
    clear hb Qw QG QPP QKK QO hot l3 l4
    clear q0 q1 q2 q3 q4 q5 q6 r0 r1 r2
    have le : ((b.length : Int) == (b2.length : Int)) = true := beq_iff_eq.2 (by omega)
    have le' : (b.length : Int) = (b2.length : Int) := by omega
    go_upto_region 16 with (fail)
    go_cut [122] from 104 to 122 (fun v wq => v = .bool false ∧ wq = w9)
    · by_cases hk0 : kind = 0
      · have hbb := Hk0.out hk0
        subst hk0
        subst hbb
        go_wp2_with fail
        refine (same_refl Ab At cb ct b _ _ (own_rd RO.out) (own_rd RT.out)).mono ?_
        rintro e wz ⟨rfl, rfl⟩
        go_wp2_with fail
        go_meet
        exact ⟨rfl, rfl⟩
      · have hk2 : (kind == 0) = false := beq_eq_false_iff_ne.2 hk0
        go_wp2_with fail
        go_meet
        exact ⟨rfl, rfl⟩
    obtain ⟨rfl, rfl⟩ := hcut
    have hlb := hid (show b.length = b2.length by omega)
    clear le le' hle
    have q0 := RG.out.cell 0
    have q1 := RG.out.cell 1
    have q2 := RG.out.cell 2
    have q3 := RG.out.cell 3
    have q4 := RG.out.cell 4
    have q5 := RG.out.cell 5
    have q6 := RG.out.cell 6
    simp only [List.getElem?_toArray, List.getElem?_cons_zero, List.getElem?_cons_succ] at q0 q1 q2 q3 q4 q5 q6
    go_wp2_with fail
    refine (unpack_rpn b2.length f A2 (some ⟨g2, 0, none⟩) Ab a2 (f.key.length + 1) cb _ b px _ hlb.out Hf.out RPP.out RKK.out hpm hkm RO.out Hu.out Hd.out hbm HB.out).mono ?_
    rintro e wA ⟨gb, rfl, hxb, hb⟩
    have Sw := hid ((Rw.out.below hb).alloc (.cells #[.int .i64 f.w, .int .i64 f.h, .slice (some ⟨gb, 0, none⟩) px.length px.length] 33))
    have SB := hid (Blk.new wA 33 #[.int .i64 f.w, .int .i64 f.h, .slice (some ⟨gb, 0, none⟩) px.length px.length])
    have hx7 : RdP (wA.alloc (.cells #[.int .i64 f.w, .int .i64 f.h, .slice (some ⟨gb, 0, none⟩) px.length px.length] 33)) (wA.alloc (.cells #[.int .i64 f.w, .int .i64 f.h, .slice (some ⟨gb, 0, none⟩) px.length px.length] 33)).heap.size (some ⟨gb, 0, none⟩) px :=
      (Rd.below hxb ((Below.refl _ wA).alloc (Nat.le_refl _) _) (Nat.le_refl _)).more (by simp)
    have SX := hid hx7
    clear Rw RG RPP RKK RO RT hb hxb hx7 q0 q1 q2 q3 q4 q5 q6
    go_upto_region 19 with (fail)
    generalize wA.alloc (.cells #[.int .i64 f.w, .int .i64 f.h, .slice (some ⟨gb, 0, none⟩) px.length px.length] 33) = wB at *
    generalize wA.heap.size = gB at *
    have q0 := SB.out.cell 0
    have q1 := SB.out.cell 1
    have q2 := SB.out.cell 2
    simp only [List.getElem?_toArray, List.getElem?_cons_zero, List.getElem?_cons_succ] at q0 q1 q2
    have r0 := Sw.out.2.1.cell 0
    have r1 := Sw.out.2.1.cell 1
    have r2 := Sw.out.2.1.cell 2
    simp only [List.getElem?_toArray, List.getElem?_cons_zero, List.getElem?_cons_succ] at r0 r1 r2
    go_wp2_with fail
    refine (rassame_any f.w f.h (some ⟨gb, 0, none⟩) PR px.length pr px _ SX.out (Sw.out.rdp Hr.out) (by omega)).mono ?_
    rintro e wC ⟨rfl, hb⟩
    have Tw := hid (Sw.out.below hb)
    have TB := hid (SB.out.below hb SB.out.lt)
    have TX := hid ((RdP.below SX.out hb (Nat.le_refl _)).more hb.size)
    clear hb Sw SB SX q0 q1 q2 r0 r1 r2
    have q0 := TB.out.cell 0
    have q1 := TB.out.cell 1
    have q2 := TB.out.cell 2
    simp only [List.getElem?_toArray, List.getElem?_cons_zero, List.getElem?_cons_succ] at q0 q1 q2
    have r0 := Tw.out.2.1.cell 0
    have r1 := Tw.out.2.1.cell 1
    have r2 := Tw.out.2.1.cell 2
    simp only [List.getElem?_toArray, List.getElem?_cons_zero, List.getElem?_cons_succ] at r0 r1 r2
    go_wp2_with fail
    refine (rsame17_any f.w f.h (some ⟨gb, 0, none⟩) PR px.length pr px _ TX.out (Tw.out.rdp Hr.out) (by omega)).mono ?_
    rintro e wD ⟨rfl, hb⟩
    have Uw := hid (Tw.out.below hb)
    clear hb Tw TB TX q0 q1 q2 r0 r1 r2
    go_wp2_with fail
    go_ret
    exact ⟨rfl, Uw.out.2.2⟩

end Go.Proofs.Ytphhoihhmphbdaa
namespace Go.Proofs.Ytphhoihhmphbdaa.RasterPacks
open Go.ChangeShapes Go.WideShapes Go.ChangeAt Go.RowKit Go.Proofs.Ytphhoihhmphbdaa
set_option maxRecDepth 100000
set_option maxRecDepth 100000 in
theorem lifted (os : Os) (started : os.Started) (H : Type) (enc : TypeId × Value → H) :
    ReturnsInHanded {} Try.checked os 4 .any (Rows.rasterPacksSpec.pre6 enc Try.prog Try.f4 Rows.rasterPacksRow.domain false) (Rows.rasterPacksSpec.post enc Try.prog Try.f4 false true false false) :=
  law_lifted own laidOut started (by kernel_rfl) Try.func4 rfl rfl Try.underlying4
    (by rw [Try.params4]; intro t ht; simp at ht; rcases ht with rfl | rfl | rfl <;> exact ⟨by kernel_rfl, of_decide_eq_true (by kernel_rfl)⟩)
    (by
      intro ds h
      match ds, h with
      | [_, _, _], _ => exact ⟨rfl, rfl, rfl⟩)
    (ChangeSpec.witness6 (enc := enc) (C := Try.checked) false ⟨#[], #[.agg #[.int .i64 0, .int .i64 0, .int .i64 0, .int .i64 0, .int .i64 0, .slice none 0 0, .slice none 0 0], .agg #[.int .i64 0, .int .i64 0, .slice none 0 0], .int .i64 0], []⟩ 8 (by kernel_rfl) (by kernel_rfl) (by kernel_rfl) (by kernel_rfl))
    (by
      intro W base args ds ps hval0 hA0
      have hval : ∀ (j : Nat) t v, Try.f4.params[j]? = some t → args[j]? = some v → Value.okWide Try.prog W .any base t v := hval0
      have hA : DataW.TrodAll enc Try.prog W 0 (fun _ => true) true Try.f4.params.toList args.toList ds ps := hA0
      clear hval0 hA0
      rw [Try.params4] at hA hval
      obtain ⟨v0, vs0, d0, ds0, p0, q0, hargs, rfl, rfl, h0, r0⟩ := trodAll_cons hA
      obtain ⟨v1, vs1, d1, ds1, p1, q1, rfl, rfl, rfl, h1, r1⟩ := trodAll_cons r0
      obtain ⟨v2, vs2, d2, ds2, p2, q2, rfl, rfl, rfl, h2, r2⟩ := trodAll_cons r1
      obtain ⟨rfl, rfl, rfl⟩ := trodAll_nil r2
      obtain rfl : args = #[v0, v1, v2] := by cases args; simp_all
      obtain ⟨f0, PA0, KA0, pc0, kc0, rfl, hp0, hk0⟩ := open_form (hval 0 27 v0 rfl rfl) h0
      obtain ⟨x1, y1, PR1, pr1, px1, rfl, hp1, hwf1, hlc1⟩ := open_rasW (hval 1 33 v1 rfl rfl) h1
      obtain ⟨a2, rfl, rfl, rfl, w2⟩ := open_int Try.underlying3 (hval 2 3 v2 rfl rfl) h2
      exact raspacks_walk f0 PA0 KA0 PR1 pc0 kc0 pr1 x1 y1 a2 px1 W hp0 hk0 hp1 hwf1)

theorem over : Rows.rasterPacksRow.holds Try.pinned (OpenSpec.ofChange Rows.rasterPacksSpec) :=
  OpenClaim.holds_of_wide 4 Try.f4 rfl rfl rfl rfl rfl rfl rfl ⟨rfl, rfl, rfl, rfl, rfl⟩ rfl rfl rfl rfl rfl (by kernel_rfl) Try.func4 (by kernel_rfl)
    (of_decide_eq_true (by kernel_rfl)) (by unfold Func.isWrapper; first | (rw [if_pos (by decide +kernel)]; kernel_rfl) | (rw [if_neg (by decide +kernel)]; exact ⟨rfl, rfl⟩))
    (fun os started H enc _ => lifted os started H enc)

theorem proved : Rows.RasterPacksSaid := over
#print axioms proved
end Go.Proofs.Ytphhoihhmphbdaa.RasterPacks
