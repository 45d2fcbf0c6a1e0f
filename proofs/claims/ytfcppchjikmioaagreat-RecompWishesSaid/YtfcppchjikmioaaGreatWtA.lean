/-
  Wishes of the law: burnishlaw02.value, is and wishes.
-/
import Derived.Test.YtfcppchjikmioaaGreatBase
import Derived.BigRegion
import Derived.Deep.RegionLaw
namespace Go.Proofs.YtfcppchjikmioaaGreat
open Go.RowKit


/-- a wish of the document's: name, kind, number, text, truth -/
structure Wi where
  nm : ByteArray
  kind : Int
  n : Int
  s : ByteArray
  b : Bool
def encWi (w : Wi) : List Value := [.string w.nm, .int .i64 w.kind, .int .i64 w.n, .string w.s, .bool w.b]
def valv (w : Wi) : Value := if w.kind = 1 then .iface 3 (.int .i64 w.n) else if w.kind = 2 then .iface 9 (.string w.s) else if w.kind = 3 then .iface 4 (.bool w.b) else .iface 21 (.int .i32 7)
def encAw (w : Wi) : List Value := [.string w.nm, valv w]

theorem value_any (w : Wi) (W : World) : Calls Tryz.prog 23 #[.agg #[.string w.nm, .int .i64 w.kind, .int .i64 w.n, .string w.s, .bool w.b]] W fun e w' => e = .returned (valv w) ∧ Below W.heap.size W w' := by
  obtain ⟨nm, kind, n, s, b⟩ := w
  unfold valv
  simp only
  by_cases h1 : kind = 1
  · subst h1
    go_enter Tryz.func23, Tryz.ntmps23
    go_wp2
    go_ret
    exact ⟨rfl, (Below.refl _ _).alloc (Nat.le_refl _) _⟩
  · have e1 : (kind == 1) = false := by rw [beq_eq_false_iff_ne]; exact h1
    rw [if_neg h1]
    by_cases h2 : kind = 2
    · subst h2
      clear h1 e1
      go_enter Tryz.func23, Tryz.ntmps23
      go_wp2
      go_ret
      exact ⟨rfl, (Below.refl _ _).alloc (Nat.le_refl _) _⟩
    · have e2 : (kind == 2) = false := by rw [beq_eq_false_iff_ne]; exact h2
      rw [if_neg h2]
      by_cases h3 : kind = 3
      · subst h3
        clear h1 e1 h2 e2
        go_enter Tryz.func23, Tryz.ntmps23
        go_wp2
        go_ret
        exact ⟨rfl, (Below.refl _ _).alloc (Nat.le_refl _) _⟩
      · have e3 : (kind == 3) = false := by rw [beq_eq_false_iff_ne]; exact h3
        rw [if_neg h3]
        clear h1 h2 h3
        go_enter Tryz.func23, Tryz.ntmps23
        go_wp2
        go_ret
        exact ⟨rfl, (Below.refl _ _).alloc (Nat.le_refl _) _⟩

/-- is: a value says what its own wish does -/
theorem is_own (w : Wi) (hk : w.kind = 1 ∨ w.kind = 2 ∨ w.kind = 3) (W : World) : Calls Tryz.prog 22 #[valv w, .agg #[.string w.nm, .int .i64 w.kind, .int .i64 w.n, .string w.s, .bool w.b]] W fun e w' => e = .returned (.bool true) ∧ Below W.heap.size W w' := by
  obtain ⟨nm, kind, n, s, b⟩ := w
  simp only at hk
  rcases hk with rfl | rfl | rfl
  · have a1 : ∀ w : World, (Instr.typeAssert (.iface 3 (.int .i64 n)) 39 3 true).run Tryz.prog w = .ok (.tuple #[.int .i64 n, .bool true]) w := fun _ => by kernel_rfl
    have a2 : ∀ w : World, (Instr.typeAssert (.iface 3 (.int .i64 n)) 39 9 true).run Tryz.prog w = .ok (.tuple #[.string ByteArray.empty, .bool false]) w := fun _ => by kernel_rfl
    have a3 : ∀ w : World, (Instr.typeAssert (.iface 3 (.int .i64 n)) 39 4 true).run Tryz.prog w = .ok (.tuple #[.bool false, .bool false]) w := fun _ => by kernel_rfl
    show Calls _ _ #[.iface 3 (.int .i64 n), _] _ _
    go_enter Tryz.func22, Tryz.ntmps22
    go_wp2
    go_ret
    exact ⟨ret_bool (by first | rfl | simp), (Below.refl _ _).alloc (Nat.le_refl _) _⟩
  · have a1 : ∀ w : World, (Instr.typeAssert (.iface 9 (.string s)) 39 3 true).run Tryz.prog w = .ok (.tuple #[.int .i64 0, .bool false]) w := fun _ => by kernel_rfl
    have a2 : ∀ w : World, (Instr.typeAssert (.iface 9 (.string s)) 39 9 true).run Tryz.prog w = .ok (.tuple #[.string s, .bool true]) w := fun _ => by kernel_rfl
    have a3 : ∀ w : World, (Instr.typeAssert (.iface 9 (.string s)) 39 4 true).run Tryz.prog w = .ok (.tuple #[.bool false, .bool false]) w := fun _ => by kernel_rfl
    show Calls _ _ #[.iface 9 (.string s), _] _ _
    go_enter Tryz.func22, Tryz.ntmps22
    go_wp2
    go_ret
    exact ⟨ret_bool (by first | rfl | simp), (Below.refl _ _).alloc (Nat.le_refl _) _⟩
  · have a1 : ∀ w : World, (Instr.typeAssert (.iface 4 (.bool b)) 39 3 true).run Tryz.prog w = .ok (.tuple #[.int .i64 0, .bool false]) w := fun _ => by kernel_rfl
    have a2 : ∀ w : World, (Instr.typeAssert (.iface 4 (.bool b)) 39 9 true).run Tryz.prog w = .ok (.tuple #[.string ByteArray.empty, .bool false]) w := fun _ => by kernel_rfl
    have a3 : ∀ w : World, (Instr.typeAssert (.iface 4 (.bool b)) 39 4 true).run Tryz.prog w = .ok (.tuple #[.bool b, .bool true]) w := fun _ => by kernel_rfl
    show Calls _ _ #[.iface 4 (.bool b), _] _ _
    go_enter Tryz.func22, Tryz.ntmps22
    go_wp2
    go_ret
    exact ⟨ret_bool (by first | rfl | simp), (Below.refl _ _).alloc (Nat.le_refl _) _⟩



theorem wi_at {w : World} {B : Nat} {A : Option Addr} {l : List Wi} (h : Rd w B 5 A l.length (l.flatMap encWi)) {j : Nat} (hj : j < l.length) :
    ∃ b off, A = some ⟨b, off, none⟩ ∧ b < B ∧ w.cell? ⟨b, off + j * 5, none⟩ = some (.string l[j].nm) ∧ w.cell? ⟨b, off + j * 5 + 1, none⟩ = some (.int .i64 l[j].kind) ∧ w.cell? ⟨b, off + j * 5 + 2, none⟩ = some (.int .i64 l[j].n) ∧
      w.cell? ⟨b, off + j * 5 + 3, none⟩ = some (.string l[j].s) ∧ w.cell? ⟨b, off + j * 5 + 4, none⟩ = some (.bool l[j].b) := by
  obtain ⟨b, off, hA, hb, hc⟩ := h.at_ hj (by omega)
  have hl : ∀ a ∈ l, (encWi a).length = 5 := fun _ _ => rfl
  have hjj : l[j]? = some l[j] := List.getElem?_eq_getElem hj
  have at_ : ∀ k u, k < 5 → (encWi l[j])[k]? = some u → w.cell? ⟨b, off + (j * 5 + k), none⟩ = some u := fun k u hk hu => hc (j * 5 + k) _ ((flat_at encWi 5 l hl j k l[j] hjj hk).trans hu)
  exact ⟨b, off, hA, hb, at_ 0 _ (by omega) rfl, at_ 1 _ (by omega) rfl, at_ 2 _ (by omega) rfl, at_ 3 _ (by omega) rfl, at_ 4 _ (by omega) rfl⟩

theorem aw_info : (Tryz.prog.info? 41).map (fun i => (i.zero, i.size, i.bytes)) = some (some (.agg #[.string ByteArray.empty, .nilIface]), 2, 32) := by kernel_rfl
theorem valv_iface (w : Wi) : ∃ T u, valv w = .iface T u := by
  unfold valv
  split
  · exact ⟨_, _, rfl⟩
  · split
    · exact ⟨_, _, rfl⟩
    · split <;> exact ⟨_, _, rfl⟩
theorem valv_one (w : Wi) : (valv w).oneCell' = true := by
  unfold valv
  split
  · rfl
  · split
    · rfl
    · split <;> rfl

def WishesEnd (l : List Wi) (W : World) (e : Ending) (w' : World) : Prop :=
  ∃ A c, e = .returned (.slice A l.length c) ∧ w'.ownsRow W.heap.size 41 2 (.slice A l.length c) l.length (l.flatMap encAw) ∧ Below W.heap.size W w'

theorem empty_row2 (w : World) (t : TypeId) (size : Nat) : (w.alloc (.cells #[] t)).ownsRow w.heap.size t size (.slice (some ⟨w.heap.size, 0, none⟩) 0 0) 0 [] :=
  ⟨by simp, .inr ⟨w.heap.size, 0, #[], rfl, Nat.le_refl _, Blk.new w t #[], Nat.le_refl _, by simp [maxLen], by simp, by simp⟩⟩

set_option maxRecDepth 100000 in
set_option maxHeartbeats 4000000 in
theorem wishes_any (A : Option Addr) (c : Nat) (l : List Wi) (W : World) (hr : Rd W W.heap.size 5 A l.length (l.flatMap encWi)) (hm : l.length ≤ 1000000) :
    Calls Tryz.prog 7 #[.slice A l.length c] W (WishesEnd l W) := by
  have Hr := hid hr
  obtain ⟨i0, hi0, hz0, hz1, hz2⟩ := info_parts aw_info
  have Hi0 := hid hi0
  have Hz0 := hid hz0
  have Hz1 := hid hz1
  have Hz2 := hid hz2
  clear hr hi0 hz0 hz1 hz2
  go_enter Tryz.func7, Tryz.ntmps7
  go_wp2
  go_loopw [3, 9] (fun o i wr => ∃ (j : Nat) (A' : Option Addr) (c' : Nat), j ≤ l.length ∧ i = .int .i64 j ∧ o = .slice A' j c' ∧ wr.ownsRow W.heap.size 41 2 (.slice A' j c') j ((l.take j).flatMap encAw) ∧ Below W.heap.size W wr) (fun _ i _ => l.length - (intOf i).toNat)
  case atStart => exact ⟨0, _, _, by omega, rfl, rfl, empty_row2 W _ 2, (Below.refl _ _).alloc (Nat.le_refl _) _⟩
  case round =>
    obtain ⟨j, A', c', hj, rfl, rfl, hown, hb⟩ := hrel
    obtain ⟨wo, rfl⟩ : ∃ wo : World, wo = wr := ⟨_, rfl⟩
    have Hown := hid hown
    have Hb := hid hb
    have hsz := hb.size
    clear hown hb
    by_cases hlt : j < l.length
    · obtain ⟨b, off, rfl, hbb, q0, q1, q2, q3, q4⟩ := wi_at (Hr.out.below Hb.out (Nat.le_refl _)) hlt
      have Htk := hid (show l.take (j + 1) = l.take j ++ [l[j]] from List.take_succ_eq_append_getElem hlt)
      have Hv := hid (value_any l[j])
      have Hv1 := hid (valv_one l[j])
      have Henc := hid (show encAw l[j] = [.string l[j].nm, valv l[j]] from rfl)
      obtain ⟨T, u, hx⟩ := valv_iface l[j]
      rw [hx] at Hv Hv1 Henc
      clear hx
      have K1 := hid (Blk.new wo 25 #[.string l[j].nm, .int .i64 l[j].kind, .int .i64 l[j].n, .string l[j].s, .bool l[j].b])
      have H1 := hid (Hown.out.alloc (.cells #[.string l[j].nm, .int .i64 l[j].kind, .int .i64 l[j].n, .string l[j].s, .bool l[j].b] 25))
      have B1 := hid (Hb.out.alloc hsz (.cells #[.string l[j].nm, .int .i64 l[j].kind, .int .i64 l[j].n, .string l[j].s, .bool l[j].b] 25))
      generalize l[j].nm = nm at *
      generalize l[j].kind = kind at *
      generalize l[j].n = n at *
      generalize l[j].s = s at *
      generalize l[j].b = bb at *
      go_wp2_with fail
      generalize hw1 : wo.alloc (.cells #[.string nm, .int .i64 kind, .int .i64 n, .string s, .bool bb] 25) = w1 at K1 H1 B1 ⊢
      have hz1' : w1.heap.size = wo.heap.size + 1 := by rw [← hw1]; simp
      have hlo : wo.heap.size < w1.heap.size := by omega
      have hlo2 : W.heap.size ≤ w1.heap.size := by omega
      clear hw1 hz1' q0 q1 q2 q3 q4
      have p0 := K1.out.cell 0
      have p1 := K1.out.cell 1
      have p2 := K1.out.cell 2
      have p3 := K1.out.cell 3
      have p4 := K1.out.cell 4
      simp only [List.getElem?_toArray, List.getElem?_cons_zero, List.getElem?_cons_succ] at p0 p1 p2 p3 p4
      go_region_law (first
        | (refine step_app _ (by rfl) _ _ _ (by rfl) W.heap.size 41 i0 (.agg #[.string ByteArray.empty, .nilIface]) 2 32 Tryz.underlying26 Hi0.out Hz0.out Hz1.out Hz2.out rfl (by omega) A' j c' _ (by rfl) (H2.out.alloc _) _ _ 1 1 [.string nm, .iface T u] (by rfl) (rd_one _ _ _ _ (Blk.new _ _ _)) (by simp) (by intro u hu; simp at hu; rcases hu with rfl | rfl; rfl; exact Hv1.out) (by simp only [maxLen]; omega) (by omega) (by simp; omega) ?_; rintro A3 c3 w3 ⟨hown3, hgr3, hb3, _⟩)
        | (go_simp; go_at_call 23; refine (Hv.out _).mono ?_; rintro e w2 ⟨rfl, hb2⟩; have r0 := (Blk.below (Blk.drew K1.out) hb2 hlo).cell 0; simp only [List.getElem?_toArray, List.getElem?_cons_zero] at r0; have hz2' := hb2.size; have H2 := hid (own_below (World.ownsRow.drew H1.out) hb2 (Nat.le_refl _)); have B2 := hid (B1.out.drew.trans (hb2.mono hlo2)); have hlo3 : W.heap.size ≤ w2.heap.size := Nat.le_trans hlo2 hz2'))
      all_goals
        have Hown3 := hid hown3
        have Hb3 := hid ((B2.out.alloc hlo3 _).trans hb3)
        clear hown3 hb3 hgr3
        go_wp2
        go_roundw
        case rel => exact ⟨j + 1, A3, c3, by omega, by go_num, rfl, by rw [Htk.out, List.flatMap_append, List.flatMap_cons, List.flatMap_nil, List.append_nil, Henc.out]; exact Hown3.out, Hb3.out⟩
        case measure => simp [intOf]; omega
    · go_wp2
      go_ret
      have e : j = l.length := by omega
      subst e
      have := Hown.out
      rw [List.take_length] at this
      exact ⟨A', c', rfl, this, Hb.out⟩

end Go.Proofs.YtfcppchjikmioaaGreat
