/-
  head.Put: the bytes of a head.
-/
import Derived.Test.YtphhoihhmphbdaaLaceC
import Derived.Test.YtphhoihhmphbdaaPut
namespace Go.Proofs.Ytphhoihhmphbdaa
open Go.RowKit Go.Shelf

def hbytes (w h d c l : Int) : List Int := be 4 w ++ be 4 h ++ [d, c, 0, 0, l]
theorem hbytes_length (w h d c l : Int) : (hbytes w h d c l).length = 13 := by simp [hbytes, be_length]
theorem rd_all (w : World) (t : TypeId) (cs : List Value) (n : Nat) (hn : cs.length = n) : Rd (w.alloc (.cells cs.toArray t)) (w.alloc (.cells cs.toArray t)).heap.size 1 (some ⟨w.heap.size, 0, none⟩) n cs :=
  ⟨by rw [hn]; simp, fun _ => ⟨w.heap.size, 0, rfl, by simp, fun j u hu => by rw [(Blk.new w t cs.toArray).cell (0 + j), Nat.zero_add, ← hu, List.getElem?_toArray]⟩⟩
theorem put_first (n : Int) (h0 : 0 ≤ n) (h1 : n < 4294967296) (W : World) :
    Calls Try.prog 141 #[.slice none 0 0, .int .i64 4, .int .i64 n] W fun e w' => ∃ A c, e = .returned (.tuple #[.slice A 4 c, .nilIface]) ∧ w'.ownsRow W.heap.size 5 1 (.slice A 4 c) 4 (bytesV (be 4 n)) ∧ Below W.heap.size W w' := by
  refine (put4_any none 0 [] n W Rd.nil (fun _ => rfl) (by simp)).mono ?_
  rintro e w' ⟨he, hb⟩
  rw [if_neg (by omega)] at he
  obtain ⟨A, c, rfl, hown⟩ := he
  refine ⟨A, c, ?_, ?_, hb⟩
  · simp
  · simpa using hown
theorem put_second (A : Option Addr) (c b : Nat) (l : List Int) (hl : l.length = 4) (n : Int) (h0 : 0 ≤ n) (h1 : n < 4294967296) (W : World) (hr : W.ownsRow b 5 1 (.slice A 4 c) 4 (bytesV l)) :
    Calls Try.prog 141 #[.slice A 4 c, .int .i64 4, .int .i64 n] W fun e w' => ∃ A c, e = .returned (.tuple #[.slice A 8 c, .nilIface]) ∧ w'.ownsRow W.heap.size 5 1 (.slice A 8 c) 8 (bytesV (l ++ be 4 n)) ∧ Below W.heap.size W w' := by
  rw [← hl] at hr
  have h := put4_any A c l n W (own_rd hr) (fun hA => by subst hA; exact own_nil hr) (by omega)
  rw [hl] at h
  refine h.mono ?_
  rintro e w' ⟨he, hb⟩
  rw [if_neg (by omega), hl] at he
  obtain ⟨A, c, rfl, hown⟩ := he
  exact ⟨A, c, rfl, hown, hb⟩
theorem wrap_small {x : Int} (h0 : 0 ≤ x) (h1 : x < 256) : IntKind.u8.wrap x = x := by rw [IntKind.wrap_u8]; omega
set_option maxRecDepth 100000 in
set_option maxHeartbeats 4000000 in
theorem hput_any (w h d c l : Int) (W : World) (hh : headErr w h d c l = 0) :
    Calls Try.prog 136 #[.agg #[.int .i64 w, .int .i64 h, .int .i64 d, .int .i64 c, .int .i64 l]] W fun e w' => ∃ A c', e = .returned (.tuple #[.slice A 13 c', .nilIface]) ∧ w'.ownsRow W.heap.size 5 1 (.slice A 13 c') 13 (bytesV (hbytes w h d c l)) ∧ Below W.heap.size W w' := by
  obtain ⟨b1, b2, b3, b4, _, b5, b6⟩ := headErr_bnd hh
  have hdp := (headErr_deep hh).1
  have hcp := (headErr_deep hh).2.2
  have hc6 : 0 ≤ c ∧ c < 256 := by
    revert hcp
    unfold chan
    (repeat' split) <;> intro hcp <;> omega
  have Hh := hid hh
  have hwd : IntKind.u8.wrap d = d := wrap_small (by rcases hdp with rfl | rfl | rfl | rfl | rfl <;> omega) (by rcases hdp with rfl | rfl | rfl | rfl | rfl <;> omega)
  have hwc : IntKind.u8.wrap c = c := wrap_small hc6.1 hc6.2
  have hwl : IntKind.u8.wrap l = l := wrap_small b5 (by omega)
  have Hx := hid (Blk.new W 23 #[.int .i64 w, .int .i64 h, .int .i64 d, .int .i64 c, .int .i64 l])
  have Hb0 := hid ((Below.refl W.heap.size W).alloc (Nat.le_refl _) (.cells #[.int .i64 w, .int .i64 h, .int .i64 d, .int .i64 c, .int .i64 l] 23))
  obtain ⟨i0, hi0, hz0, hz1, hz2⟩ := info_parts u8_info
  have Hi0 := hid hi0
  have Hz0 := hid hz0
  have Hz1 := hid hz1
  have Hz2 := hid hz2
  clear hi0 hz0 hz1 hz2 hh hdp hcp hc6
  go_enter Try.func136, Try.ntmps136
  go_wp2_with fail
  refine (hcheck_yes w h d c l _ Hh.out).mono ?_
  rintro e w1 ⟨rfl, hb⟩
  have hx1 := Hx.out.below hb (by simp)
  have Hx1 := hid hx1
  have Hb1 := hid (Hb0.out.trans (hb.mono (by simp)))
  have q0 := hx1.cell 0
  simp only [List.getElem?_toArray, List.getElem?_cons_zero] at q0
  clear hb hx1 Hx Hb0
  go_wp2_with fail
  refine (put_first w (by omega) (by omega) _).mono ?_
  rintro e w2 ⟨A1, c1, rfl, hown1, hb⟩
  have hx2 := Hx1.out.below hb Hx1.out.lt
  have Hx2 := hid hx2
  have Hb2 := hid (Hb1.out.trans (hb.mono Hb1.out.size))
  have Hown1 := hid hown1
  have q1 := hx2.cell 1
  simp only [List.getElem?_toArray, List.getElem?_cons_zero, List.getElem?_cons_succ] at q1
  clear hb hx2 q0 hown1 Hx1
  go_wp2_with fail
  refine (put_second A1 c1 _ _ (be_length 4 w) h (by omega) (by omega) _ Hown1.out).mono ?_
  rintro e w3 ⟨A2, c2, rfl, hown2, hb⟩
  have hx3 := Hx2.out.below hb Hx2.out.lt
  have Hb3 := hid (Hb2.out.trans (hb.mono Hb2.out.size))
  have Hown2 := hid (own_base hown2 Hb2.out.size)
  have q2 := hx3.cell 2
  have q3 := hx3.cell 3
  have q4 := hx3.cell 4
  have hsz3 := Hb3.out.size
  simp only [List.getElem?_toArray, List.getElem?_cons_zero, List.getElem?_cons_succ] at q2 q3 q4
  clear hb hx3 q1 hown2 Hown1
  go_wp2_with (at_builtin; refine wpList_app _ rfl _ _ _ rfl W.heap.size 5 i0 (.int .u8 0) 1 1 Try.underlying28 Hi0.out Hz0.out Hz1.out Hz2.out rfl (by omega) A2 8 c2 _ rfl (Hown2.out.alloc _) _ _ 5 5 [.int .u8 d, .int .u8 c, .int .u8 0, .int .u8 0, .int .u8 l] rfl (rd_all _ _ _ 5 rfl) (by simp) (by simp [Value.oneCell']) (by simp only [maxLen]; omega) (by omega) (by simp; omega) ?_; rintro A4 c4 w4 ⟨hown4, hgr4, hb4, _⟩)
  go_ret2
  refine ⟨A4, c4, rfl, ?_, (Hb3.out.alloc hsz3 _).trans hb4⟩
  have e1 : bytesV (hbytes w h d c l) = bytesV (be 4 w ++ be 4 h) ++ [.int .u8 d, .int .u8 c, .int .u8 0, .int .u8 0, .int .u8 l] := by simp [hbytes, bytesV]
  rw [e1]
  exact hown4

end Go.Proofs.Ytphhoihhmphbdaa
