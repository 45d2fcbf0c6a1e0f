/-
  burnishlaw02.wishes: the program's wishes of a list; wish.Find.
-/
import Derived.Test.YtnlhneoiofijeaaWish
namespace Go.Proofs.Ytnlhneoiofijeaa
open Go.RowKit

theorem wi_at {w : World} {B : Nat} {A : Option Addr} {l : List Wi} (h : Rd w B 5 A l.length (l.flatMap encWi)) {j : Nat} (hj : j < l.length) :
    ∃ b off, A = some ⟨b, off, none⟩ ∧ b < B ∧ w.cell? ⟨b, off + j * 5, none⟩ = some (.string l[j].nm) ∧ w.cell? ⟨b, off + j * 5 + 1, none⟩ = some (.int .i64 l[j].kind) ∧ w.cell? ⟨b, off + j * 5 + 2, none⟩ = some (.int .i64 l[j].n) ∧
      w.cell? ⟨b, off + j * 5 + 3, none⟩ = some (.string l[j].s) ∧ w.cell? ⟨b, off + j * 5 + 4, none⟩ = some (.bool l[j].b) := by
  obtain ⟨b, off, hA, hb, hc⟩ := h.at_ hj (by omega)
  have hl : ∀ a ∈ l, (encWi a).length = 5 := fun _ _ => rfl
  have hjj : l[j]? = some l[j] := List.getElem?_eq_getElem hj
  have at_ : ∀ k u, k < 5 → (encWi l[j])[k]? = some u → w.cell? ⟨b, off + (j * 5 + k), none⟩ = some u := fun k u hk hu => hc (j * 5 + k) _ ((flat_at encWi 5 l hl j k l[j] hjj hk).trans hu)
  exact ⟨b, off, hA, hb, at_ 0 _ (by omega) rfl, at_ 1 _ (by omega) rfl, at_ 2 _ (by omega) rfl, at_ 3 _ (by omega) rfl, at_ 4 _ (by omega) rfl⟩

theorem aw_info : (Try.prog.info? 27).map (fun i => (i.zero, i.size, i.bytes)) = some (some (.agg #[.string ByteArray.empty, .nilIface]), 2, 32) := by kernel_rfl
theorem valv_iface (w : Wi) : ∃ T u, valv w = .iface T u := by
  unfold valv
  split
  · exact ⟨_, _, rfl⟩
  · split
    · exact ⟨_, _, rfl⟩
    · split <;> exact ⟨_, _, rfl⟩
theorem valv_one (w : Wi) : (valv w).oneCell' = true := by
  unfold valv
  split
  · rfl
  · split
    · rfl
    · split <;> rfl

def WishesEnd (l : List Wi) (W : World) (e : Ending) (w' : World) : Prop :=
  ∃ A c, e = .returned (.slice A l.length c) ∧ w'.ownsRow W.heap.size 27 2 (.slice A l.length c) l.length (l.flatMap encAw) ∧ Below W.heap.size W w'

theorem empty_row2 (w : World) (t : TypeId) (size : Nat) : (w.alloc (.cells #[] t)).ownsRow w.heap.size t size (.slice (some ⟨w.heap.size, 0, none⟩) 0 0) 0 [] :=
  ⟨by simp, .inr ⟨w.heap.size, 0, #[], rfl, Nat.le_refl _, Blk.new w t #[], Nat.le_refl _, by simp [maxLen], by simp, by simp⟩⟩

set_option maxRecDepth 100000 in
set_option maxHeartbeats 4000000 in
theorem wishes_any (A : Option Addr) (c : Nat) (l : List Wi) (W : World) (hr : Rd W W.heap.size 5 A l.length (l.flatMap encWi)) (hm : l.length ≤ 1000000) :
    Calls Try.prog 16 #[.slice A l.length c] W (WishesEnd l W) := by
  have Hr := hid hr
  obtain ⟨i0, hi0, hz0, hz1, hz2⟩ := info_parts aw_info
  have Hi0 := hid hi0
  have Hz0 := hid hz0
  have Hz1 := hid hz1
  have Hz2 := hid hz2
  clear hr hi0 hz0 hz1 hz2
  go_enter Try.func16, Try.ntmps16
  go_wp2
  go_loopw [3, 9] (fun o i wr => ∃ (j : Nat) (A' : Option Addr) (c' : Nat), j ≤ l.length ∧ i = .int .i64 j ∧ o = .slice A' j c' ∧ wr.ownsRow W.heap.size 27 2 (.slice A' j c') j ((l.take j).flatMap encAw) ∧ Below W.heap.size W wr) (fun _ i _ => l.length - (intOf i).toNat)
  case atStart => exact ⟨0, _, _, by omega, rfl, rfl, empty_row2 W _ 2, (Below.refl _ _).alloc (Nat.le_refl _) _⟩
  case round =>
    obtain ⟨j, A', c', hj, rfl, rfl, hown, hb⟩ := hrel
    obtain ⟨wo, rfl⟩ : ∃ wo : World, wo = wr := ⟨_, rfl⟩
    have Hown := hid hown
    have Hb := hid hb
    have hsz := hb.size
    clear hown hb
    by_cases hlt : j < l.length
    · obtain ⟨b, off, rfl, hbb, q0, q1, q2, q3, q4⟩ := wi_at (Hr.out.below Hb.out (Nat.le_refl _)) hlt
      have Htk := hid (show l.take (j + 1) = l.take j ++ [l[j]] from List.take_succ_eq_append_getElem hlt)
      have Hv := hid (value_any l[j])
      have Hv1 := hid (valv_one l[j])
      have Henc := hid (show encAw l[j] = [.string l[j].nm, valv l[j]] from rfl)
      obtain ⟨T, u, hx⟩ := valv_iface l[j]
      rw [hx] at Hv Hv1 Henc
      clear hx
      have K1 := hid (Blk.new wo 31 #[.string l[j].nm, .int .i64 l[j].kind, .int .i64 l[j].n, .string l[j].s, .bool l[j].b])
      have H1 := hid (Hown.out.alloc (.cells #[.string l[j].nm, .int .i64 l[j].kind, .int .i64 l[j].n, .string l[j].s, .bool l[j].b] 31))
      have B1 := hid (Hb.out.alloc hsz (.cells #[.string l[j].nm, .int .i64 l[j].kind, .int .i64 l[j].n, .string l[j].s, .bool l[j].b] 31))
      generalize l[j].nm = nm at *
      generalize l[j].kind = kind at *
      generalize l[j].n = n at *
      generalize l[j].s = s at *
      generalize l[j].b = bb at *
      go_wp2_with fail
      generalize hw1 : wo.alloc (.cells #[.string nm, .int .i64 kind, .int .i64 n, .string s, .bool bb] 31) = w1 at K1 H1 B1 ⊢
      have hz1' : w1.heap.size = wo.heap.size + 1 := by rw [← hw1]; simp
      have hlo : wo.heap.size < w1.heap.size := by omega
      have hlo2 : W.heap.size ≤ w1.heap.size := by omega
      clear hw1 hz1' q0 q1 q2 q3 q4
      have p0 := K1.out.cell 0
      have p1 := K1.out.cell 1
      have p2 := K1.out.cell 2
      have p3 := K1.out.cell 3
      have p4 := K1.out.cell 4
      simp only [List.getElem?_toArray, List.getElem?_cons_zero, List.getElem?_cons_succ] at p0 p1 p2 p3 p4
      go_region_law (first
        | (refine step_app _ (by rfl) _ _ _ (by rfl) W.heap.size 27 i0 (.agg #[.string ByteArray.empty, .nilIface]) 2 32 Try.underlying28 Hi0.out Hz0.out Hz1.out Hz2.out rfl (by omega) A' j c' _ (by rfl) (H2.out.alloc _) _ _ 1 1 [.string nm, .iface T u] (by rfl) (rd_one _ _ _ _ (Blk.new _ _ _)) (by simp) (by intro u hu; simp at hu; rcases hu with rfl | rfl; rfl; exact Hv1.out) (by simp only [maxLen]; omega) (by omega) (by simp; omega) ?_; rintro A3 c3 w3 ⟨hown3, hgr3, hb3, _⟩)
        | (go_simp; go_at_call 22; refine (Hv.out _).mono ?_; rintro e w2 ⟨rfl, hb2⟩; have r0 := (Blk.below (Blk.drew K1.out) hb2 hlo).cell 0; simp only [List.getElem?_toArray, List.getElem?_cons_zero] at r0; have hz2' := hb2.size; have H2 := hid (own_below (World.ownsRow.drew H1.out) hb2 (Nat.le_refl _)); have B2 := hid (B1.out.drew.trans (hb2.mono hlo2)); have hlo3 : W.heap.size ≤ w2.heap.size := Nat.le_trans hlo2 hz2'))
      all_goals
        have Hown3 := hid hown3
        have Hb3 := hid ((B2.out.alloc hlo3 _).trans hb3)
        clear hown3 hb3 hgr3
        go_wp2
        go_roundw
        case rel => exact ⟨j + 1, A3, c3, by omega, by go_num, rfl, by rw [Htk.out, List.flatMap_append, List.flatMap_cons, List.flatMap_nil, List.append_nil, Henc.out]; exact Hown3.out, Hb3.out⟩
        case measure => simp [intOf]; omega
    · go_wp2
      go_ret
      have e : j = l.length := by omega
      subst e
      have := Hown.out
      rw [List.take_length] at this
      exact ⟨A', c', rfl, this, Hb.out⟩

/-- the value of the first wish of a name -/
def findW (nm : ByteArray) : List Wi → Option Wi
  | [] => none
  | w :: r => if w.nm.toList == nm.toList then some w else findW nm r
def FindEnd (nm : ByteArray) (l : List Wi) (W : World) (e : Ending) (w' : World) : Prop :=
  e = .returned (.tuple (match findW nm l with | some w => #[valv w, .bool true] | none => #[.nilIface, .bool false])) ∧ Below W.heap.size W w'

theorem aw_at {w : World} {B : Nat} {A : Option Addr} {l : List Wi} (h : Rd w B 2 A l.length (l.flatMap encAw)) {j : Nat} (hj : j < l.length) :
    ∃ b off, A = some ⟨b, off, none⟩ ∧ b < B ∧ w.cell? ⟨b, off + j * 2, none⟩ = some (.string l[j].nm) ∧ w.cell? ⟨b, off + j * 2 + 1, none⟩ = some (valv l[j]) := by
  obtain ⟨b, off, hA, hb, hc⟩ := h.at_ hj (by omega)
  have hl : ∀ a ∈ l, (encAw a).length = 2 := fun _ _ => rfl
  have hjj : l[j]? = some l[j] := List.getElem?_eq_getElem hj
  have at_ : ∀ k u, k < 2 → (encAw l[j])[k]? = some u → w.cell? ⟨b, off + (j * 2 + k), none⟩ = some u := fun k u hk hu => hc (j * 2 + k) _ ((flat_at encAw 2 l hl j k l[j] hjj hk).trans hu)
  exact ⟨b, off, hA, hb, at_ 0 _ (by omega) rfl, at_ 1 _ (by omega) rfl⟩

theorem findW_drop {nm : ByteArray} {l : List Wi} {j : Nat} (hj : j < l.length) : findW nm (l.drop j) = if l[j].nm.toList == nm.toList then some l[j] else findW nm (l.drop (j + 1)) := by
  rw [List.drop_eq_getElem_cons hj]; rfl

set_option maxHeartbeats 2000000 in
theorem find_any (A : Option Addr) (c : Nat) (l : List Wi) (nm : ByteArray) (W : World) (hr : Rd W W.heap.size 2 A l.length (l.flatMap encAw)) (hm : l.length ≤ 1000000) :
    Calls Try.prog 14 #[.slice A l.length c, .string nm] W (FindEnd nm l W) := by
  have Hr := hid hr
  clear hr
  go_enter Try.func14, Try.ntmps14
  go_wp2
  go_loopw [10] (fun i wr => ∃ j : Nat, j ≤ l.length ∧ i = .int .i64 j ∧ findW nm l = findW nm (l.drop j) ∧ Below W.heap.size W wr) (fun i _ => l.length - (intOf i).toNat)
  case atStart => exact ⟨0, by omega, rfl, rfl, Below.refl _ _⟩
  case round =>
    obtain ⟨j, hj, rfl, hf, hb⟩ := hrel
    have Hf := hid hf
    have Hb := hid hb
    have hsz := hb.size
    clear hf hb
    by_cases hlt : j < l.length
    · obtain ⟨b, off, rfl, hbb, q0, q1⟩ := aw_at (Hr.out.below Hb.out (Nat.le_refl _)) hlt
      have Hd := hid (findW_drop (nm := nm) hlt)
      obtain ⟨T, u, hx⟩ := valv_iface l[j]
      rw [hx] at q1
      have Hx := hid hx
      clear hx
      cases hq : (l[j].nm.toList == nm.toList)
      · have Hn : Hid (findW nm l = findW nm (l.drop (j + 1))) := by rw [Hf.out, Hd.out, if_neg (by simp [hq])]; exact rfl
        go_wp2
        go_roundw
        case rel => exact ⟨j + 1, by omega, by go_num, Hn.out, Hb.out.alloc hsz _⟩
        case measure => simp [intOf]; omega
      · have Hn : Hid (findW nm l = some l[j]) := by rw [Hf.out, Hd.out, if_pos hq]; exact rfl
        go_wp2
        go_ret2
        refine ⟨?_, Hb.out.alloc hsz _⟩
        rw [Hn.out]
        simp only [Hx.out]
        rfl
    · go_wp2
      go_ret2
      have e : j = l.length := by omega
      subst e
      have h0 := Hf.out
      rw [List.drop_length] at h0
      refine ⟨?_, Hb.out⟩
      rw [h0]; rfl

end Go.Proofs.Ytnlhneoiofijeaa
