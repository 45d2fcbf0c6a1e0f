/-
  wish.Parse: a text's wishes.
-/
import Derived.Test.YtfcppchjikmioaaGreatWpM
import Derived.Lib.Small
import Derived.Lib.MapLaws
namespace Go.Proofs.YtfcppchjikmioaaGreat
open Go.RowKit Go.Shelf Go.Lib

attribute [local go_sem] Oper.semAt_some

set_option maxHeartbeats 1000000 in
theorem runeLen_any (c : Int) (W : World) : Calls Tryz.prog 32 #[.int .i32 c] W fun e w' => e = .returned (.int .i64 (Lib.runeLen c)) ∧ w' = W := by
  go_enter Tryz.func32, Tryz.ntmps32
  go_wp2
  all_goals (go_ret; refine ⟨?_, rfl⟩; unfold Lib.runeLen; (repeat' split) <;> first | rfl | (exfalso; omega))
theorem own_own_ne' {w : World} {b b' : Nat} {e e' : TypeId} {size size' n n' : Nat} {v v' : Value} {xs xs' : List Value} (h : w.ownsRow b e size v n xs) (h' : w.ownsRow b' e' size' v' n' xs') (hne : e ≠ e') : v.ownBlock = none ∨ v.ownBlock ≠ v'.ownBlock := by
  rcases h.2 with ⟨rfl, _⟩ | ⟨g, cap, cur, rfl, _, hh, _⟩
  · exact .inl (by simp [Value.ownBlock])
  · right
    rcases h'.2 with ⟨rfl, _⟩ | ⟨g', cap', cur', rfl, _, hh', _⟩
    · simp [Value.ownBlock]
    · intro e0
      have : g = g' := by simpa [Value.ownBlock] using e0
      subst this
      rw [hh] at hh'
      injection hh' with hh'
      injection hh' with _ ht
      exact hne ht
theorem rd_bound {w : World} {B B' size n : Nat} {A : Option Addr} {xs : List Value} (h : Rd w B' size A n xs) (hb : ∀ b off, A = some ⟨b, off, none⟩ → b < B) : Rd w B size A n xs :=
  ⟨h.1, fun hp => by
    obtain ⟨b, off, e, _, hc⟩ := h.2 hp
    exact ⟨b, off, e, hb b off e, hc⟩⟩
theorem own_any_rd {w w' : World} {base e size n g c : Nat} {A : Option Addr} {xs : List Value} (h : w.ownsRow base e size (.slice A n c) n xs) (hg : w.grownBy w' (some g)) (hne : some g ≠ (Value.slice A n c).ownBlock) : Rd w' w.heap.size size A n xs :=
  rd_bound (own_rd (h.kept hg (.inr (fun e => hne e.symm)))) (fun b off e => by
    rcases h.2 with ⟨h1, _⟩ | ⟨g', cap, cur, h1, _, hh, _⟩
    · injection h1 with h1
      rw [h1] at e; cases e
    · injection h1 with h1
      rw [h1] at e
      injection e with e
      injection e with e
      rw [← e]
      exact (Array.getElem?_eq_some_iff.1 hh).1)
def boolV : Value → Bool
  | .bool b => b
  | _ => false
def badW (w : World) (g : Nat) : Bool := match w.cell? ⟨g, 3, none⟩ with
  | some (.bool b) => b
  | _ => false
theorem RM.badW {w : World} {g : Nat} {A : Option Addr} {c : Nat} {r : RS} (h : RM w g A c r) : Go.Proofs.YtfcppchjikmioaaGreat.badW w g = r.bad := by
  have : w.cell? ⟨g, 3, none⟩ = some (.bool r.bad) := (h.blk.cell 3).trans rfl
  unfold Go.Proofs.YtfcppchjikmioaaGreat.badW
  rw [this]
def pMs (g n : Nat) (m : Value) (w : World) : Nat := if (boolV m && !badW w g) = true then n - atW w g + 2 else 1
theorem pMs_rm {w : World} {g n : Nat} {A : Option Addr} {c : Nat} {r : RS} (h : RM w g A c r) (b : Bool) : pMs g n (.bool b) w = if (b && !r.bad) = true then n - r.k + 2 else 1 := by
  unfold pMs boolV
  rw [h.badW, h.atW]
theorem wish_info : (Tryz.prog.info? 41).map (fun i => (i.zero, i.size, i.bytes)) = some (some (.agg #[.string ⟨#[]⟩, .nilIface]), 2, 32) := by kernel_rfl
/-- in the loop over wishes -/
structure PL (W0 : World) (gr g5 D : Nat) (A : Option Addr) (c : Nat) (k : Nat) (A' : Option Addr) (c' : Nat) (o : List Wsh) (r : RS) (w : World) : Prop where
  rm : RM w gr A c r
  row : w.ownsRow W0.heap.size 41 2 (.slice A' k c') k (fw o)
  len : k = o.length
  ptr : Blk w g5 63 #[.pointer (some ⟨gr, 0, none⟩)]
  mark : w.heap[D]? = some (.deferred (some []))
  below : Below W0.heap.size W0 w
theorem PL.grown {W0 : World} {gr g5 D : Nat} {A : Option Addr} {c k : Nat} {A' : Option Addr} {c' : Nat} {o : List Wsh} {r r' : RS} {w w' : World} (h : PL W0 gr g5 D A c k A' c' o r w) (hm : RM w' gr A c r') (hg : w.grownBy w' (some gr)) (h5 : g5 ≠ gr) (hb : W0.heap.size ≤ gr) : PL W0 gr g5 D A c k A' c' o r' w' := by
  refine ⟨hm, h.row.kept hg (.inr (fun e => own_blk_ne h.row h.rm.blk (by decide) e.symm)), h.len, h.ptr.grown hg (by simp [h5]), ?_, below_other h.below hg h.below.size (fun r e => by injection e with e; omega)⟩
  refine (hg.block D (Array.getElem?_eq_some_iff.1 h.mark).1 (fun e => ?_)).trans h.mark
  injection e with e
  have h1 := h.mark
  have h2 := h.rm.blk
  unfold Blk at h2
  rw [e, h2] at h1
  cases h1
theorem PL.below' {W0 : World} {gr g5 D : Nat} {A : Option Addr} {c k : Nat} {A' : Option Addr} {c' : Nat} {o : List Wsh} {r : RS} {w w' : World} (h : PL W0 gr g5 D A c k A' c' o r w) (hb : Below w.heap.size w w') : PL W0 gr g5 D A c k A' c' o r w' :=
  ⟨h.rm.below hb, own_below h.row hb (Nat.le_refl _), h.len, h.ptr.below hb h.ptr.lt, (hb.block D (Array.getElem?_eq_some_iff.1 h.mark).1).trans h.mark, h.below.trans (hb.mono h.below.size)⟩
theorem PL.app {W0 : World} {gr g5 D : Nat} {A : Option Addr} {c k : Nat} {A' A4 : Option Addr} {c' c4 : Nat} {o : List Wsh} {x : Wsh} {r : RS} {w w4 : World} (h : PL W0 gr g5 D A c k A' c' o r w) (ha : Apped w W0.heap.size 41 2 A' k c' (fw o) 1 (encWv x) A4 c4 w4) : PL W0 gr g5 D A c (k + 1) A4 c4 (o ++ [x]) r w4 := by
  obtain ⟨h1, h2, h3, _⟩ := ha
  refine ⟨⟨h.rm.blk.grown h2 (own_blk_ne h.row h.rm.blk (by decide)), h.rm.row.kept h2 (own_own_ne' h.rm.row h.row (by decide)), h.rm.ok, h.rm.len, h.rm.at_⟩, ?_, by rw [List.length_append, h.len]; rfl, h.ptr.grown h2 (own_blk_ne h.row h.ptr (by decide)), (keeps_own h.row h2).same D _ h.mark rfl, h.below.trans h3⟩
  have e : fw o ++ encWv x = fw (o ++ [x]) := by simp [fw]
  rw [e] at h1
  exact h1
/-- between two rounds: the runes that have come, their size -/
structure PI (W0 : World) (gr g5 g6 g7 : Nat) (s : ByteArray) (pre : List (Nat × Int)) (w : World) : Prop where
  row : ∃ A c, Blk w gr 66 #[.slice A pre.length c, .bool false, .int .i64 0, .bool false] ∧ w.ownsRow W0.heap.size 21 1 (.slice A pre.length c) pre.length (runesV (pre.map (·.2)))
  ptr : Blk w g5 63 #[.pointer (some ⟨gr, 0, none⟩)]
  size : Blk w g6 3 #[.int .i64 (szs (pre.map (·.2)))]
  str : Blk w g7 9 #[.string s]
  below : Below W0.heap.size W0 w
theorem PI.own {W0 : World} {gr g5 g6 g7 B : Nat} {s : ByteArray} (hB : W0.heap.size ≤ B) : OwnFrom B (PI W0 gr g5 g6 g7 s) := by
  intro pre w w' row h hg hr
  obtain ⟨A, c, h1, h2⟩ := h.row
  have hr2 : ∀ r, row = some r → ∃ o : Obj, w.heap[r]? = some o ∧ o.isCells = false := fun r e => (hr r e).2
  exact ⟨⟨A, c, h1.other hg hr2, own_other h2 hg hr2⟩, h.ptr.other hg hr2, h.size.other hg hr2, h.str.other hg hr2, below_other h.below hg h.below.size (fun r e => by have := (hr r e).1; omega)⟩
/-- what Parse comes to -/
def ParseEnd (s : ByteArray) (W : World) (e : Ending) (w' : World) : Prop :=
  ((parseP s).2.bad = true ∧ e = .returned (.tuple #[.slice none 0 0, .int .i64 ((parseP s).2.k : Int), .iface 34 (.int .i64 1)]) ∧ Below W.heap.size W w') ∨
  ((parseP s).2.bad = false ∧ ∃ A c, e = .returned (.tuple #[.slice A (parseP s).1.length c, .int .i64 (-1), .nilIface]) ∧ w'.ownsRow W.heap.size 41 2 (.slice A (parseP s).1.length c) (parseP s).1.length (fw (parseP s).1) ∧ Below W.heap.size W w')
theorem fail_bad (r : RS) (p : Nat) : (r.fail p).bad = true := by
  unfold RS.fail
  cases hb : r.bad
  · rfl
  · exact hb
theorem failK_any (g p : Nat) (A : Option Addr) (c : Nat) (r : RS) (W : World) (h : RM W g A c r) (hp : p = r.k) : Calls Tryz.prog 36 #[.pointer (some ⟨g, 0, none⟩), .int .i64 (p : Int)] W fun e w' => e = .returned (.tuple #[]) ∧ RM w' g A c (r.fail r.k) ∧ W.grownBy w' (some g) := by
  subst hp
  exact fail_any g r.k A c r W h h.at_
theorem fail_k (r : RS) {p : Nat} (hb : r.bad = false) (hp : p = r.k) : (r.fail r.k).k = p := by
  subst hp
  unfold RS.fail
  rw [hb]
  rfl
set_option maxRecDepth 100000 in
set_option maxHeartbeats 8000000 in
theorem parse_any (s : ByteArray) (L : List Int) (hL : L = rnL s) (hLm : L.length ≤ 1000000) (W : World) : Calls Tryz.prog 13 #[.string s] W (ParseEnd s W) := by
  have HL := hid hL
  clear hL
  refine (callsIn_wide (n := 5)).1 (callsIn_of_wp_marks Tryz.func13 rfl trivial (wpIn_wide.2 ?_) rfl)
  simp only [Tryz.ntmps13, List.size_toArray, List.length_cons, List.length_nil, Nat.reduceAdd, Nat.reduceSub, Array.replicate_succ, Array.replicate_zero, List.push_toArray, List.append_toArray, List.nil_append, List.cons_append]
  go_wp2_with fail
  refine (runes_any s _).mono ?_
  rintro e w1 ⟨rfl, rfl⟩
  go_wp2_with fail
  have Br := hid ((((Blk.new W 66 #[.slice none 0 0, .bool false, .int .i64 0, .bool false]).alloc (.cells #[.pointer (some ⟨W.heap.size, 0, none⟩)] 63)).alloc (.cells #[.int .i64 0] 3)).alloc (.cells #[.string s] 9))
  have b5 := Blk.new (W.alloc (.cells #[.slice none 0 0, .bool false, .int .i64 0, .bool false] 66)) 63 #[.pointer (some ⟨W.heap.size, 0, none⟩)]
  rw [World.size_alloc] at b5
  have B5 := hid ((b5.alloc (.cells #[.int .i64 0] 3)).alloc (.cells #[.string s] 9))
  have b6 := Blk.new ((W.alloc (.cells #[.slice none 0 0, .bool false, .int .i64 0, .bool false] 66)).alloc (.cells #[.pointer (some ⟨W.heap.size, 0, none⟩)] 63)) 3 #[.int .i64 0]
  rw [World.size_alloc, World.size_alloc] at b6
  have B6 := hid (b6.alloc (.cells #[.string s] 9))
  have b7 := Blk.new (((W.alloc (.cells #[.slice none 0 0, .bool false, .int .i64 0, .bool false] 66)).alloc (.cells #[.pointer (some ⟨W.heap.size, 0, none⟩)] 63)).alloc (.cells #[.int .i64 0] 3)) 9 #[.string s]
  rw [World.size_alloc, World.size_alloc, World.size_alloc] at b7
  have B7 := hid b7
  have Bb := hid (((((Below.refl W.heap.size W).alloc (Nat.le_refl _) (.cells #[.slice none 0 0, .bool false, .int .i64 0, .bool false] 66)).alloc (by simp) (.cells #[.pointer (some ⟨W.heap.size, 0, none⟩)] 63)).alloc (by simp; omega) (.cells #[.int .i64 0] 3)).alloc (by simp; omega) (.cells #[.string s] 9))
  clear b5 b6 b7
  obtain ⟨w0, hw0⟩ : ∃ w0, w0 = ((((W.alloc (.cells #[.slice none 0 0, .bool false, .int .i64 0, .bool false] 66)).alloc (.cells #[.pointer (some ⟨W.heap.size, 0, none⟩)] 63)).alloc (.cells #[.int .i64 0] 3)).alloc (.cells #[.string s] 9)) := ⟨_, rfl⟩
  rw [← hw0] at Br B5 B6 B7 Bb ⊢
  clear hw0
  obtain ⟨gr, hgr⟩ : ∃ gr, gr = W.heap.size := ⟨_, rfl⟩
  have Hgr := hid hgr
  obtain ⟨g5, hg5⟩ : ∃ g, g = gr + 1 := ⟨_, rfl⟩
  have Hg5 := hid hg5
  obtain ⟨g6, hg6⟩ : ∃ g, g = g5 + 1 := ⟨_, rfl⟩
  have Hg6 := hid hg6
  obtain ⟨g7, hg7⟩ : ∃ g, g = g6 + 1 := ⟨_, rfl⟩
  have Hg7 := hid hg7
  rw [← hgr] at Br B5 B6 B7 ⊢
  rw [← hg5] at B5 B6 B7 ⊢
  rw [← hg6] at B6 B7 ⊢
  rw [← hg7] at B7 ⊢
  clear hgr hg5 hg6 hg7
  refine wpIn_wide.1 (wpIn_rangeFunc_ownG (n := 5) (F := Fence.wide) rfl (by omega) (gf := 57) (lb := #[.pointer (some ⟨g7, 0, none⟩)]) rfl trivial (enters_of Tryz.func57 (by kernel_rfl) rfl)
    (runes_stops 4 (by omega) g7 s L HL.out hLm w0 B7.out.lt ((B7.out.cell 0).trans rfl)) kps_t (kps_b B7.out.lt) (Below.refl _ _) (fun _ => rfl)
    (PI W gr g5 g6 g7 s) (fun _ _ _ => False) (PI.own Bb.out.size) (fun _ _ _ _ _ h _ _ => h) ⟨⟨none, 0, Br.out, World.ownsRow_nil _ _ _ _⟩, B5.out, B6.out, B7.out, Bb.out⟩ ?a1 ?assign ?body ?done ?stop)
  case assign =>
    intro l x W K hK
    simp only [encR]
    gi_wp2
    exact hK
  case stop =>
    rintro D c pre W _ _ h _
    exact h.elim
  case body =>
    rintro l pre x w ⟨⟨A, c, hBr, hrow⟩, hB5, hB6, hB7, hbel⟩ hlt
    obtain ⟨xn, xc⟩ := x
    dsimp only
    obtain ⟨i0, hi0, hz0, hz1, hz2⟩ := info_parts rune_info
    have hgw := hbel.size
    have hrow1 := own_below hrow (((Below.refl w.heap.size w).drew).alloc (Nat.le_refl _) (.cells #[.int .i32 xc] 21)) (Nat.le_refl _)
    obtain ⟨v', W2, hrun, hown2, hgr2, hor2⟩ := run_append_any (P := Tryz.prog) (w.drew.alloc (.cells #[.int .i32 xc] 21)) W.heap.size 64 64 21 i0 (.int .i32 0) 1 4 Tryz.underlying64 hi0 hz0 hz1 hz2 rfl (by omega) (.slice A pre.length c) pre.length (runesV (pre.map (·.2)))
      hrow1 _ (some ⟨w.drew.heap.size, 0, none⟩) 1 1 [.int .i32 xc] (rd_one _ _ _ _ (Blk.new _ _ _)) (fun h => by cases h) (by simp [Value.oneCell']) (by simp only [maxLen]; omega) (by omega) (by rw [World.size_alloc]; exact Nat.le_succ_of_le hgw)
    obtain ⟨A', c', rfl, _⟩ := own_form hown2
    have n1 := own_blk_ne hrow1 (hBr.drew.alloc _) (by decide)
    have n5 := own_blk_ne hrow1 (hB5.drew.alloc _) (by decide)
    have n6 := own_blk_ne hrow1 (hB6.drew.alloc _) (by decide)
    have n7 := own_blk_ne hrow1 (hB7.drew.alloc _) (by decide)
    have r2 := hid ((hBr.drew.alloc _).grown hgr2 n1)
    have p2 := hid ((hB5.drew.alloc _).grown hgr2 n5)
    have s2 := hid ((hB6.drew.alloc _).grown hgr2 n6)
    have t2 := hid ((hB7.drew.alloc _).grown hgr2 n7)
    have hne5 : g5 ≠ gr := by have := Hg5.out; omega
    have hne6 : g6 ≠ gr := by have := Hg5.out; have := Hg6.out; omega
    have hne7 : g7 ≠ gr := by have := Hg5.out; have := Hg6.out; have := Hg7.out; omega
    have K2 := hid ((KeepsOthers.drew w).trans ((KeepsOthers.alloc w.drew (.cells #[.int .i32 xc] 21)).trans (keeps_own hrow1 hgr2)))
    have B2 := hid (hbel.trans ((((Below.refl W.heap.size w).drew).alloc hgw (.cells #[.int .i32 xc] 21)).trans ((Below.refl W.heap.size _).grown hgr2 (by rw [World.size_alloc]; exact Nat.le_succ_of_le hgw) (fun k hk => (hrow1.lt k hk).1))))
    have Own2 := hid hown2
    clear hi0 hz0 hz1 hz2 i0 n1 n5 n6 n7
    gi_wp2
    refine fixed_lit (fun i => (i == 6) || (i == 7) || (i == 10)) (fun i => [.pointer (some ⟨gr, 0, none⟩), .pointer (some ⟨gr, 0, none⟩), .pointer (some ⟨gr, 0, none⟩), .pointer (some ⟨gr, 0, none⟩), .slice A pre.length c, .int .i32 xc, .slice (some ⟨w.heap.size, 0, none⟩) 1 1, .slice A' (pre.length + 1) c', .pointer (some ⟨gr, 0, none⟩), .pointer (some ⟨gr, 0, none⟩), undef].getD i undef)
      (fun s => match s with | 0 => w.drew | 1 => w.drew.alloc (.cells #[.int .i32 xc] 21) | 2 => W2 | _ => W2.setCell ⟨gr, 0, none⟩ (.slice A' (pre.length + 1) c')) (fun i => if i = 4 then 1 else 3)
      (fun t w' => w'.cell? ⟨g5, 0, none⟩ = some (.pointer (some ⟨gr, 0, none⟩)) ∧ (t ≤ 1 → w'.cell? ⟨gr, 0, none⟩ = some (.slice A pre.length c))) ?af 3 (by kernel_rfl) (by kernel_rfl) (by kernel_rfl) (by kernel_rfl) rfl ?haf (by kernel_rfl) ?hC ?hy ?hQ
    case haf =>
      simp only [actOf, dstAt, List.length_cons, List.length_nil, Nat.reduceAdd, List.getElem?_cons_zero, List.getElem?_cons_succ, Option.bind_some, if_true, List.getD_cons_zero, List.getD_cons_succ, Act.put, List.setIfInBounds_toArray, List.set_cons_zero, List.set_cons_succ]
      rfl
    case hC =>
      intro i s _ hs
      have hlim : (if i = 4 then 1 else 3) ≤ 1 → s ≤ 1 := fun h => by split at hs <;> rename_i e <;> simp [e] at h <;> omega
      match s with
      | 0 => exact ⟨(hB5.drew.cell 0).trans rfl, fun _ => (hBr.drew.cell 0).trans rfl⟩
      | 1 => exact ⟨((hB5.drew.alloc _).cell 0).trans rfl, fun _ => ((hBr.drew.alloc _).cell 0).trans rfl⟩
      | 2 => exact ⟨(p2.out.cell 0).trans rfl, fun _ => (r2.out.cell 0).trans rfl⟩
      | s + 3 => exact ⟨((p2.out.far hne5 _).cell 0).trans rfl, fun h => absurd (hlim h) (by omega)⟩
    case hy =>
      simp only [AllY]
      refine ⟨?_, ?_, ?_, ?_, ?_, ?_, ?_, ?_, ?_, ?_, ?_, trivial⟩
      case refine_1 => exact fun w' h => .inl (by have h5 := h.1; simp [execOp, go_sem, Act.eval, h5])
      case refine_2 => exact fun w' h => .inl (by have h5 := h.1; simp [execOp, go_sem, Act.eval, h5])
      case refine_3 => exact fun w' h => .inl (by simp [execOp, go_sem, Act.eval])
      case refine_4 => exact fun w' h => .inl (by simp [execOp, go_sem, Act.eval])
      case refine_5 => exact fun w' h => .inl (by have h5 := h.2 (by decide); simp [execOp, go_sem, Act.eval, h5])
      case refine_6 => exact fun w' h => .inl (by simp [execOp, go_sem, Act.eval])
      case refine_7 =>
        show Yl _ _ _ w.drew _ (w.drew.alloc (.cells #[.int .i32 xc] 21))
        exact .inl (by simp [execOp, go_sem, Act.eval])
      case refine_8 =>
        show Yl _ _ _ (w.drew.alloc (.cells #[.int .i32 xc] 21)) _ W2
        exact yl_append rfl rfl rfl hrun
      case refine_9 => exact fun w' h => .inl (by simp [execOp, go_sem, Act.eval])
      case refine_10 => exact fun w' h => .inl (by simp [execOp, go_sem, Act.eval])
      case refine_11 =>
        show Yl _ _ _ W2 _ (W2.setCell ⟨gr, 0, none⟩ (.slice A' (pre.length + 1) c'))
        exact .inr (.inl ⟨by simp [execOp, go_sem, Act.eval, (r2.out.cell 0).trans rfl, r2.out.frozen 0], rfl⟩)
    case hQ =>
      have r3 := hid (r2.out.set_ 0 (.slice A' (pre.length + 1) c'))
      have p3 := hid (p2.out.far (p := ⟨gr, 0, none⟩) hne5 (.slice A' (pre.length + 1) c'))
      have s3 := hid (s2.out.far (p := ⟨gr, 0, none⟩) hne6 (.slice A' (pre.length + 1) c'))
      have t3 := hid (t2.out.far (p := ⟨gr, 0, none⟩) hne7 (.slice A' (pre.length + 1) c'))
      have K3 := hid (K2.out.trans (KeepsOthers.setCell W2 ⟨gr, 0, none⟩ (.slice A' (pre.length + 1) c')))
      have B3 := hid (B2.out.setCell (p := ⟨gr, 0, none⟩) (by show W.heap.size ≤ gr; have := Hgr.out; omega) (.slice A' (pre.length + 1) c'))
      have Own3 := hid (Own2.out.kept (grown_set1 (World.grownBy.refl W2 (some gr)) 0 (.slice A' (pre.length + 1) c')) (.inr (fun e => own_blk_ne Own2.out r2.out (by decide) e.symm)))
      clear r2 p2 s2 t2 K2 B2 Own2 hrun hown2 hgr2 hor2 hrow1 hrow hBr hB5 hB6 hbel
      show Exit.then _ _ .normal _ (W2.setCell ⟨gr, 0, none⟩ (.slice A' (pre.length + 1) c'))
      generalize W2.setCell ⟨gr, 0, none⟩ (.slice A' (pre.length + 1) c') = W3 at *
      gi_wp2
      have hsz := szs_bd (pre.map (·.2))
      rw [List.length_map] at hsz
      have hrl := runeLen_bd xc
      have tsum : IntKind.i64.wrap (szs (pre.map (·.2)) + Lib.runeLen xc) = szs (pre.map (·.2)) + Lib.runeLen xc := IntWalk.i64_in _ (by omega)
      clear hsz hrl
      refine fixed_lit (fun i => i == 4) (fun i => [.int .i64 (szs (pre.map (·.2))), .int .i32 xc, .int .i64 (Lib.runeLen xc), .int .i64 (szs (pre.map (·.2)) + Lib.runeLen xc), undef].getD i undef)
        (fun s => match s with | 0 => W3.drew | _ => W3.drew.setCell ⟨g6, 0, none⟩ (.int .i64 (szs (pre.map (·.2)) + Lib.runeLen xc))) (fun i => if i = 0 then 0 else 1)
        (fun t w' => t = 0 → w'.cell? ⟨g6, 0, none⟩ = some (.int .i64 (szs (pre.map (·.2))))) ?af2 1 (by kernel_rfl) (by kernel_rfl) (by kernel_rfl) (by kernel_rfl) rfl ?haf2 (by kernel_rfl) ?hC2 ?hy2 ?hQ2
      case haf2 =>
        simp only [actOf, dstAt, List.length_cons, List.length_nil, Nat.reduceAdd, List.getElem?_cons_zero, List.getElem?_cons_succ, Option.bind_some, if_true, List.getD_cons_zero, List.getD_cons_succ, Act.put, List.setIfInBounds_toArray, List.set_cons_zero, List.set_cons_succ]
        rfl
      case hC2 =>
        intro i s _ hs h0
        split at h0
        · rename_i e
          rw [if_pos e] at hs
          obtain rfl : s = 0 := by omega
          exact (s3.out.drew.cell 0).trans rfl
        · cases h0
      case hy2 =>
        simp only [AllY]
        refine ⟨?_, ?_, ?_, ?_, ?_, trivial⟩
        case refine_1 => exact fun w' h => .inl (by have h6 := h rfl; simp [execOp, go_sem, Act.eval, h6])
        case refine_2 => exact fun w' h => .inl (by simp [execOp, go_sem, Act.eval])
        case refine_3 => exact fun w' h => .inr (.inr ⟨32, #[.int .i32 xc], w', by simp [go_sem, Act.eval], runeLen_any xc w'⟩)
        case refine_4 => exact fun w' h => .inl (by simp [execOp, go_sem, Act.eval, tsum])
        case refine_5 =>
          show Yl _ _ _ W3.drew _ (W3.drew.setCell ⟨g6, 0, none⟩ _)
          exact .inr (.inl ⟨by simp [execOp, go_sem, Act.eval, (s3.out.drew.cell 0).trans rfl, s3.out.drew.frozen 0], rfl⟩)
      case hQ2 =>
        have hgr6 : gr ≠ g6 := fun e => hne6 e.symm
        have hg56 : g5 ≠ g6 := by have := Hg6.out; omega
        have hg76 : g7 ≠ g6 := by have := Hg7.out; omega
        have hle6 : W.heap.size ≤ g6 := by have := Hgr.out; have := Hg5.out; have := Hg6.out; omega
        have r4 := r3.out.drew.far (p := ⟨g6, 0, none⟩) hgr6 (.int .i64 (szs (pre.map (·.2)) + Lib.runeLen xc))
        have p4 := p3.out.drew.far (p := ⟨g6, 0, none⟩) hg56 (.int .i64 (szs (pre.map (·.2)) + Lib.runeLen xc))
        have s4 := s3.out.drew.set_ 0 (.int .i64 (szs (pre.map (·.2)) + Lib.runeLen xc))
        have t4 := t3.out.drew.far (p := ⟨g6, 0, none⟩) hg76 (.int .i64 (szs (pre.map (·.2)) + Lib.runeLen xc))
        have K4 := K3.out.trans ((KeepsOthers.drew W3).trans (KeepsOthers.setCell W3.drew ⟨g6, 0, none⟩ (.int .i64 (szs (pre.map (·.2)) + Lib.runeLen xc))))
        have B4 := (B3.out.drew).setCell (p := ⟨g6, 0, none⟩) hle6 (.int .i64 (szs (pre.map (·.2)) + Lib.runeLen xc))
        have own3 : W3.drew.ownsRow W.heap.size 21 1 (.slice A' (pre.length + 1) c') (pre.length + 1) (runesV (pre.map (·.2)) ++ [Value.int .i32 xc]) := own_drewN Own3.out 1
        have own4 := own3.kept (grown_set1 (World.grownBy.refl W3.drew (some g6)) 0 (.int .i64 (szs (pre.map (·.2)) + Lib.runeLen xc))) (.inr (fun e => own_blk_ne own3 s3.out.drew (by decide) e.symm))
        clear own3 r3 p3 s3 t3 K3 B3 Own3 tsum
        have eM : (pre ++ [(xn, xc)]).map (·.2) = pre.map (·.2) ++ [xc] := by simp
        have eL : (pre ++ [(xn, xc)]).length = pre.length + 1 := by simp
        have eR : runesV (pre.map (·.2)) ++ [Value.int .i32 xc] = runesV ((pre ++ [(xn, xc)]).map (·.2)) := by rw [eM]; simp [runesV]
        have eS : szs (pre.map (·.2)) + Lib.runeLen xc = szs ((pre ++ [(xn, xc)]).map (·.2)) := by rw [eM, szs_snoc]
        show Exit.inBlock _ _ .normal _ (W3.drew.setCell ⟨g6, 0, none⟩ _)
        generalize W3.drew.setCell ⟨g6, 0, none⟩ (.int .i64 (szs (pre.map (·.2)) + Lib.runeLen xc)) = W5 at *
        rw [eR] at own4
        rw [← eL] at own4 r4
        rw [eS] at s4
        have FIN := hid (show KeepsFrom w0.heap.size w W5 ∧ KpS g7 w W5 ∧ PI W gr g5 g6 g7 s (pre ++ [(xn, xc)]) W5 from ⟨K4.from _, ⟨keeps_walks K4, t4.trans hB7.symm⟩, ⟨_, _, r4, own4⟩, p4, s4, t4, B4⟩)
        clear own4 r4 p4 s4 t4 K4 B4 eM eL eR eS hB7
        gi_wp2
        exact FIN.out
  case done =>
    rintro D ys Wd hD rfl ⟨⟨A, c, hBr, hrow⟩, hB5, hB6, _, hbel⟩ hK
    rw [upR_length] at hBr hrow
    rw [upR_snd] at hrow hB6
    have HK := hid hK
    have HB := hid hbel
    have Hrow := hid hrow
    obtain ⟨cut, hcut⟩ : ∃ cut, cut = decide (szs L < (s.size : Int)) := ⟨_, rfl⟩
    have dcut := hcut.symm
    have Hcut := hid hcut
    have q0 := hBr.cell 0
    have q1 := hBr.cell 1
    have q2 := hBr.cell 2
    have q3 := hBr.cell 3
    simp only [List.getElem?_toArray, List.getElem?_cons_zero, List.getElem?_cons_succ] at q0 q1 q2 q3
    have p0 := hB5.cell 0
    simp only [List.getElem?_toArray, List.getElem?_cons_zero] at p0
    have z0 := hB6.cell 0
    simp only [List.getElem?_toArray, List.getElem?_cons_zero] at z0
    have fz := fun o => hBr.frozen o
    have l5 := hB5.lt
    have l6 := hB6.lt
    have lr := hBr.lt
    have R0 := hid hBr
    have P0 := hid hB5
    have HWD := hid (Nat.le_trans Bb.out.size hD)
    clear hK hbel hrow hBr hB5 hB6 hcut Bb Br B5 B6 B7
    obtain ⟨n, hn⟩ : ∃ n, n = L.length := ⟨_, rfl⟩
    rw [← hn] at q0
    have Hn := hid hn
    clear hn
    go_upto_region 8 with (fail)
    have w5r := hid (R0.out.set_ 1 (.bool cut))
    have w5p := hid (P0.out.far (p := ⟨gr, 1, none⟩) (show g5 ≠ gr by have := Hg5.out; omega) (.bool cut))
    have w5o := hid (Hrow.out.kept (grown_set1 (World.grownBy.refl Wd (some gr)) 1 (.bool cut)) (.inr (fun e => own_blk_ne Hrow.out R0.out (by decide) e.symm)))
    have w5k := hid ((KeepsOthers.setCell Wd ⟨gr, 1, none⟩ (.bool cut)).same D _ HK.out rfl)
    have w5b := hid (HB.out.setCell (p := ⟨gr, 1, none⟩) (by show W.heap.size ≤ gr; rw [Hgr.out]; exact Nat.le_refl _) (.bool cut))
    generalize Wd.setCell ⟨gr, 1, none⟩ (.bool cut) = w5 at *
    clear q0 q1 q2 q3 p0 z0 fz l5 l6 lr R0 P0 HK HB Hrow dcut
    have PL5 := hid (show PL W gr g5 D A c 0 none 0 [] ⟨L, cut, 0, false⟩ w5 from ⟨⟨w5r.out, own_base w5o.out (Nat.zero_le _), by rw [HL.out]; exact rnL_ok s, hLm, Nat.zero_le _⟩, World.ownsRow_nil _ _ _ _, rfl, w5p.out, w5k.out, w5b.out⟩)
    clear w5r w5p w5o w5k w5b
    obtain ⟨m0, hm0⟩ : ∃ m0, m0 = decide (0 < s.size) := ⟨_, rfl⟩
    have Hm0 := hid hm0
    have dm1 := hm0.symm
    have dm2 : decide ((0 : Int) < (s.size : Int)) = m0 := by rw [hm0]; exact decide_eq_decide.2 (by omega)
    clear hm0
    have hne5 : g5 ≠ gr := by have := Hg5.out; omega
    have hWg : W.heap.size ≤ gr := by rw [Hgr.out]; exact Nat.le_refl _
    obtain ⟨F0, hF0⟩ : ∃ F0, F0 = L.length + 2 := ⟨_, rfl⟩
    have HF0 := hid hF0
    have hF1 : L.length < F0 := by omega
    clear hF0
    obtain ⟨r0, hr0⟩ : ∃ r0 : RS, r0 = ⟨L, cut, 0, false⟩ := ⟨_, rfl⟩
    have Hr0 := hid hr0
    have hr0k : r0.k = 0 := by rw [hr0]
    have Hr0k := hid hr0k
    rw [← hr0] at PL5
    clear hr0 hr0k
    go_upto_block 2 with (fail)
    go_cut [9, 10] from 38 to 60 (fun v m wq => ∃ (k : Nat) (A' : Option Addr) (c' : Nat) (o : List Wsh) (r : RS), v = .slice A' k c' ∧ Hid (plGo F0 m0 [] r0 = (o, r)) ∧ Hid (PL W gr g5 D A c k A' c' o r wq))
    case first =>
      go_wp2_with fail
      go_loopw [9, 10] (fun v m wr => ∃ (mb : Bool) (f k : Nat) (A' : Option Addr) (c' : Nat) (o : List Wsh) (r : RS), v = .slice A' k c' ∧ m = .bool mb ∧ Hid ((mb && !r.bad) = true → k ≤ r.k ∧ L.length - r.k < f) ∧ Hid (r.l.length = L.length) ∧ Hid (plGo F0 m0 [] r0 = plGo f mb o r) ∧ Hid (PL W gr g5 D A c k A' c' o r wr)) (fun _ m wr => pMs gr L.length m wr)
      case atStart => exact ⟨m0, F0, 0, none, 0, [], r0, rfl, rfl, hid (fun _ => ⟨by have := Hr0k.out; omega, by have := Hr0k.out; omega⟩), hid (by rw [Hr0.out]), hid rfl, PL5⟩
      case round =>
        obtain ⟨mb, f, k, A', c', o, r, rfl, rfl, HC, Hll, HG, P⟩ := hrel
        have Hms := hid (show pMs gr L.length (.bool mb) wr = if (mb && !r.bad) = true then L.length - r.k + 2 else 1 from pMs_rm P.out.rm mb)
        have q0 := P.out.rm.blk.cell 0
        have q1 := P.out.rm.blk.cell 1
        have q2 := P.out.rm.blk.cell 2
        have q3 := P.out.rm.blk.cell 3
        simp only [List.getElem?_toArray, List.getElem?_cons_zero, List.getElem?_cons_succ] at q0 q1 q2 q3
        have p0 := P.out.ptr.cell 0
        simp only [List.getElem?_toArray, List.getElem?_cons_zero] at p0
        have lr := P.out.rm.blk.lt
        cases mb
        · have HE := hid (show plGo F0 m0 [] r0 = (o, r) by rw [HG.out, plGo_stop rfl])
          go_wp2_with fail
          go_meet
          exact ⟨k, A', c', o, r, rfl, HE, P⟩
        · cases hb : r.bad
          rotate_left
          · have HE := hid (show plGo F0 m0 [] r0 = (o, r) by rw [HG.out, plGo_stop (by rw [hb]; rfl)])
            rw [hb] at q3
            clear hb
            go_wp2_with fail
            go_meet
            exact ⟨k, A', c', o, r, rfl, HE, P⟩
          obtain ⟨hkr, hfu⟩ := HC.out (by rw [hb]; rfl)
          obtain ⟨f1, hf1⟩ : ∃ f1, f = f1 + 1 := ⟨f - 1, by omega⟩
          have HG2 := hid (show plGo F0 m0 [] r0 = plGo f1 ((wishP r o).2.peek == 44) (o ++ [(wishP r o).1]) (if (wishP r o).2.peek = 44 then (wishP r o).2.next else (wishP r o).2) by
            rw [HG.out, hf1, plGo_more (by rw [hb]; rfl)])
          have hMs2 : pMs gr L.length (.bool true) wr = L.length - r.k + 2 := by rw [Hms.out, hb]; rfl
          have HMs2 := hid hMs2
          have FW := hid (Fwd.wishP r o)
          rw [hb] at q3
          have hkm : k ≤ 1000000 := by have := P.out.rm.at_; have := P.out.rm.len; omega
          have hne := own_blk_ne P.out.row P.out.rm.blk (by decide)
          have cl := wish_any gr A A' c c' r o wr P.out.rm (fun w' hg => by rw [← P.out.len]; exact own_any_rd P.out.row hg hne) (by rw [← P.out.len]; exact hkm)
          rw [← P.out.len] at cl
          have CL := hid cl
          have Hf1 := hid hf1
          clear hne cl hb hMs2 HC HG Hms hf1
          go_wp2_with fail
          refine (CL.out).mono ?_
          rintro e w2 ⟨rfl, hM2, hg2⟩
          have P2 := hid (P.out.grown hM2 hg2 hne5 hWg)
          clear CL hM2 hg2 P q0 q1 q2 q3 p0 lr
          obtain ⟨x, hx⟩ : ∃ x, x = (wishP r o).1 := ⟨_, rfl⟩
          obtain ⟨q, hq⟩ : ∃ q, q = (wishP r o).2 := ⟨_, rfl⟩
          rw [← hx, ← hq] at HG2
          rw [← hq] at P2 FW
          rw [← hx]
          clear hx hq
          obtain ⟨nm, wv⟩ := x
          dsimp only
          have h1c : ∀ u ∈ [Value.string nm, wvV wv], u.oneCell' = true := by
            intro u hu
            simp only [List.mem_cons, List.not_mem_nil, or_false] at hu
            rcases hu with rfl | rfl
            · rfl
            · cases wv <;> rfl
          have H1c := hid h1c
          obtain ⟨uv, huv⟩ : ∃ uv, uv = wvV wv := ⟨_, rfl⟩
          have Huv := hid huv
          rw [← huv] at H1c ⊢
          clear h1c huv
          have P3 := hid (P2.out.below' ((Below.refl _ _).alloc (Nat.le_refl _) (.cells #[.string nm, uv] 41)))
          obtain ⟨i0, hi0, hz0, hz1, hz2⟩ := info_parts wish_info
          have Hi0 := hid hi0
          have Hz0 := hid hz0
          have Hz1 := hid hz1
          have Hz2 := hid hz2
          clear hi0 hz0 hz1 hz2
          go_upto_region 12 with (at_builtin; refine wpList_app _ rfl _ _ _ rfl W.heap.size 41 i0 (.agg #[.string ⟨#[]⟩, .nilIface]) 2 32 Tryz.underlying26 Hi0.out Hz0.out Hz1.out Hz2.out rfl (by omega) A' k c' _ rfl P3.out.row _ _ 1 1 [.string nm, uv] rfl (rd_one _ _ _ _ (Blk.new _ _ _)) (by simp) H1c.out (by simp only [maxLen]; omega) (by omega) P3.out.below.size ?_; intro A4 c4 w4 ha4; have Ha4 := hid ha4; clear ha4)
          have P4 := hid (show PL W gr g5 D A c (k + 1) A4 c4 (o ++ [(nm, wv)]) q w4 from P3.out.app (by have h := Ha4.out; have e := Huv.out; subst e; exact h))
          clear Ha4 P3 P2 H1c Huv
          have p0 := P4.out.ptr.cell 0
          simp only [List.getElem?_toArray, List.getElem?_cons_zero] at p0
          have l5 := P4.out.ptr.lt
          go_wp2_with fail
          refine (peek_any gr A c q _ P4.out.rm).mono ?_
          rintro e w6 ⟨rfl, hM6, hb6⟩
          have P6 := hid (P4.out.below' hb6)
          have l5 := P6.out.ptr.lt
          clear hM6 hb6 P4 p0
          have p0 := P6.out.ptr.cell 0
          simp only [List.getElem?_toArray, List.getElem?_cons_zero] at p0
          by_cases e44 : q.peek = 44
          · have d1 : (q.peek == 44) = true := beq_iff_eq.2 e44
            have hnk := next_k (r := q) P6.out.rm.ok (by omega)
            have Hnk := hid hnk
            have HG3 := hid (show plGo F0 m0 [] r0 = plGo f1 true (o ++ [(nm, wv)]) q.next by rw [HG2.out, d1, if_pos e44])
            clear e44 hnk HG2
            go_wp2_with fail
            refine (next_any gr A c q _ P6.out.rm).mono ?_
            rintro e w7 ⟨rfl, hM7, hg7⟩
            have P7 := hid (P6.out.grown hM7 hg7 hne5 hWg)
            clear hM7 hg7 P6 p0
            go_wp2_with fail
            go_roundw
            case rel =>
              refine ⟨true, f1, k + 1, A4, c4, o ++ [(nm, wv)], q.next, rfl, rfl, hid (fun h => ?_), hid (by rw [rs_next_l, FW.out.1.1]; exact Hll.out), HG3, P7⟩
              have h1 : q.next.bad = false := by simpa using h
              have h2 := (Fwd.next q).2 h1
              have h3 := FW.out.2 h2.1
              have h4 : q.next.k = q.k + 1 := by rw [Hnk.out.1]
              have h5 := Hnk.out.2
              have h6 : q.l.length = L.length := by rw [FW.out.1.1]; exact Hll.out
              have := Hf1.out
              omega
            case measure =>
              rw [HMs2.out, pMs_rm P7.out.rm]
              cases hb7 : q.next.bad
              · have h2 := (Fwd.next q).2 hb7
                have h3 := FW.out.2 h2.1
                have h4 : q.next.k = q.k + 1 := by rw [Hnk.out.1]
                have h5 := Hnk.out.2
                have h6 : q.l.length = L.length := by rw [FW.out.1.1]; exact Hll.out
                rw [if_pos (by decide), h4]
                omega
              · rw [if_neg (by decide)]
                omega
          · have d1 : (q.peek == 44) = false := beq_eq_false_iff_ne.2 e44
            have HG3 := hid (show plGo F0 m0 [] r0 = plGo f1 false (o ++ [(nm, wv)]) q by rw [HG2.out, d1, if_neg e44])
            clear e44 HG2
            go_wp2_with fail
            go_roundw
            case rel => exact ⟨false, f1, k + 1, A4, c4, o ++ [(nm, wv)], q, rfl, rfl, hid (fun h => by cases h), hid (by rw [FW.out.1.1]; exact Hll.out), HG3, P6⟩
            case measure =>
              rw [HMs2.out]
              have h : ∀ w, pMs gr L.length (.bool false) w = 1 := fun w => rfl
              rw [h]
              omega
    case rest =>
    obtain ⟨k, A', c', o, r, rfl, HE, P⟩ := hcut
    have hWD : W.heap.size ≤ D := HWD.out
    have HP := hid (show parseP s = parseE (o, r) by
      unfold parseP
      rw [← HL.out, ← Hm0.out, ← HE.out, HF0.out, Hr0.out]
      unfold parseR
      rw [← HL.out, ← Hcut.out])
    clear HE PL5
    have endB : ∀ (q : RS) (wq : World) (tm : Array Value), parseP s = (o, q) → q.bad = true → PL W gr g5 D A c k A' c' o q wq → (∀ w, (results Tryz.f13 tm).run Tryz.prog w = .ok (.tuple #[.slice none 0 0, .int .i64 (q.k : Int), .iface 34 (.int .i64 1)]) w) →
        LeavesInM Fence.wide 5 Tryz.prog Tryz.f13 tm (ParseEnd s W) [{ target := .collected D, args := #[] }] .returning wq := fun q wq tm h1 h2 h3 h4 =>
      marks_end h3.mark ⟨_, h4 _, .inl ⟨by rw [h1]; exact h2, by rw [h1], below_other h3.below (grownBy_putObj' wq D (.deferred none)) h3.below.size (fun r e => by cases e; exact hWD)⟩⟩
    have endG : ∀ (wq : World) (tm : Array Value), parseP s = (o, r) → r.bad = false → PL W gr g5 D A c k A' c' o r wq → (∀ w, (results Tryz.f13 tm).run Tryz.prog w = .ok (.tuple #[.slice A' k c', .int .i64 (-1), .nilIface]) w) →
        LeavesInM Fence.wide 5 Tryz.prog Tryz.f13 tm (ParseEnd s W) [{ target := .collected D, args := #[] }] .returning wq := fun wq tm h1 h2 h3 h4 =>
      marks_end h3.mark ⟨_, h4 _, .inr ⟨by rw [h1]; exact h2, A', c', by rw [h1, h3.len], by
        have h5 := own_other h3.row (grownBy_putObj' wq D (.deferred none)) (fun r e => by cases e; exact ⟨_, h3.mark, rfl⟩)
        rw [h1]
        rw [h3.len] at h5
        exact h5, below_other h3.below (grownBy_putObj' wq D (.deferred none)) h3.below.size (fun r e => by cases e; exact hWD)⟩⟩
    have EB := hid endB
    have EG := hid endG
    clear endB endG
    have hlen := P.out.rm.len
    have hat := P.out.rm.at_
    obtain ⟨rn, hrn⟩ : ∃ rn, rn = r.l.length := ⟨_, rfl⟩
    obtain ⟨rk, hrk⟩ : ∃ rk, rk = r.k := ⟨_, rfl⟩
    have q0 := P.out.rm.blk.cell 0
    have q1 := P.out.rm.blk.cell 1
    have q2 := P.out.rm.blk.cell 2
    have q3 := P.out.rm.blk.cell 3
    simp only [List.getElem?_toArray, List.getElem?_cons_zero, List.getElem?_cons_succ] at q0 q1 q2 q3
    have p0 := P.out.ptr.cell 0
    simp only [List.getElem?_toArray, List.getElem?_cons_zero] at p0
    have lr := P.out.rm.blk.lt
    have l5 := P.out.ptr.lt
    rw [← hrn] at q0 hlen hat
    rw [← hrk] at q2 hat
    have Hrn := hid hrn
    have Hrk := hid hrk
    clear hrn hrk
    cases hb : r.bad
    rotate_left
    · have HN := hid (show parseP s = (o, r) by rw [HP.out]; unfold parseE; rw [hb]; rfl)
      have Hb := hid hb
      rw [hb] at q3
      clear hb HP
      go_upto_region 15 with (fail)
      go_quiet (fail)
      go_upto_region 17 with (fail)
      go_upto_region 18 with (fail)
      go_quiet (fail)
      go_wp2_with fail
      exact EB.out r _ _ HN.out Hb.out (P.out.below' (below_drewN (below_drewN (Below.refl _ _) _) _)) (fun w => by rw [← Hrk.out]; simp [results, Tryz.results13, go_sem])
    have Hb := hid hb
    rw [hb] at q3
    have failed : ∀ (tt : Bool), (decide (r.k < r.l.length) || r.cut) = tt → tt = true → parseP s = (o, r.fail r.k) := fun tt h1 h2 => by
      rw [HP.out]
      unfold parseE
      show (if (!r.bad && (decide (r.k < r.l.length) || r.cut)) = true then (o, r.fail r.k) else (o, r)) = _
      rw [hb, h1, h2]
      rfl
    have passed : (decide (r.k < r.l.length) || r.cut) = false → parseP s = (o, r) := fun h1 => by
      rw [HP.out]
      unfold parseE
      show (if (!r.bad && (decide (r.k < r.l.length) || r.cut)) = true then (o, r.fail r.k) else (o, r)) = _
      rw [hb, h1]
      rfl
    clear hb HP
    obtain ⟨tt, htt⟩ : ∃ tt, (decide (r.k < r.l.length) || r.cut) = tt := ⟨_, rfl⟩
    have Hf := hid (failed tt htt)
    have Hp := hid passed
    have Htt := hid htt
    clear failed passed htt
    go_upto_region 15 with (fail)
    go_cut [83] from 61 to 83 (fun v wq => v = .bool tt ∧ ∃ nq, wq = wc.drewN nq)
    case first =>
      by_cases hk : rk < rn
      · have d1 : decide (rk < rn) = true := decide_eq_true hk
        have d2 : decide ((rk : Int) < (rn : Int)) = true := decide_eq_true (by omega)
        have ht : tt = true := by rw [← Htt.out, ← Hrk.out, ← Hrn.out, d1]; rfl
        have Ht := hid ht
        clear ht hk
        go_quiet (fail)
        go_wp2_with fail
        go_meet
        exact ⟨by rw [Ht.out], _, rfl⟩
      · have d1 : decide (rk < rn) = false := decide_eq_false hk
        have d2 : decide ((rk : Int) < (rn : Int)) = false := decide_eq_false (by omega)
        have ht : tt = r.cut := by rw [← Htt.out, ← Hrk.out, ← Hrn.out, d1]; rfl
        have Ht := hid ht
        clear ht hk
        generalize r.cut = cu at *
        go_quiet (fail)
        go_wp2_with fail
        go_meet
        exact ⟨by rw [Ht.out], _, rfl⟩
    case rest =>
    obtain ⟨rfl, nq, rfl⟩ := hcut
    obtain ⟨w6, hP6, hw6⟩ : ∃ w6, PL W gr g5 D A c k A' c' o r w6 ∧ w6 = _ := ⟨_, P.out.below' (below_drewN (Below.refl _ _) nq), rfl⟩
    rw [← hw6]
    clear hw6 q0 q1 q2 q3 p0 lr l5 P
    have P6 := hid hP6
    clear hP6
    have q0 := P6.out.rm.blk.cell 0
    have q1 := P6.out.rm.blk.cell 1
    have q2 := P6.out.rm.blk.cell 2
    have q3 := P6.out.rm.blk.cell 3
    simp only [List.getElem?_toArray, List.getElem?_cons_zero, List.getElem?_cons_succ] at q0 q1 q2 q3
    have p0 := P6.out.ptr.cell 0
    simp only [List.getElem?_toArray, List.getElem?_cons_zero] at p0
    have lr := P6.out.rm.blk.lt
    have l5 := P6.out.ptr.lt
    rw [← Hrn.out] at q0
    rw [← Hrk.out] at q2
    rw [Hb.out] at q3
    cases tt
    · have HN := hid (Hp.out Htt.out)
      go_upto_region 17 with (fail)
      go_wp2_with fail
      exact EG.out _ _ HN.out Hb.out P6.out (fun w => by simp [results, Tryz.results13, go_sem])
    · have HN := hid (Hf.out rfl)
      have hP7 := P6.out.below' (Below.refl _ _).drew
      have P7 := hid hP7
      clear hP7 Hf Hp
      go_upto_region 16 with (fail)
      go_region_held3 (fun wq => wq.cell? ⟨g5, 0, none⟩ = some (.pointer (some ⟨gr, 0, none⟩)) ∧ wq.cell? ⟨gr, 2, none⟩ = some (.int .i64 (rk : Int))) (first | go_keep | exact ⟨p0, q2⟩ | exact ⟨y0, y2⟩) (first
        | (refine (failK_any gr rk A c r w6.drew P7.out.rm Hrk.out).mono ?_; rintro e w8 ⟨rfl, hM8, hg8⟩; have P8 := hid (P7.out.grown hM8 hg8 hne5 hWg); have y0 := (P8.out.ptr.cell 0).trans rfl; have y2 := (P8.out.rm.blk.cell 2).trans (congrArg (fun x : Nat => some (Value.int .i64 (x : Int))) (fail_k r Hb.out Hrk.out)); clear hM8 hg8))
      clear q0 q1 q2 q3 p0 lr l5 y0 y2
      have hb8 : (r.fail r.k).bad = true := fail_bad r r.k
      have Hb8 := hid hb8
      have Hk8 := hid (fail_k r Hb.out Hrk.out)
      obtain ⟨r8, hr8⟩ : ∃ r8, r8 = r.fail r.k := ⟨_, rfl⟩
      rw [← hr8] at P8 HN Hb8 Hk8
      clear hb8 hr8
      have q0 := P8.out.rm.blk.cell 0
      have q1 := P8.out.rm.blk.cell 1
      have q2 := P8.out.rm.blk.cell 2
      have q3 := P8.out.rm.blk.cell 3
      simp only [List.getElem?_toArray, List.getElem?_cons_zero, List.getElem?_cons_succ] at q0 q1 q2 q3
      have p0 := P8.out.ptr.cell 0
      simp only [List.getElem?_toArray, List.getElem?_cons_zero] at p0
      have lr := P8.out.rm.blk.lt
      have l5 := P8.out.ptr.lt
      rw [Hk8.out] at q2
      rw [Hb8.out] at q3
      go_upto_region 17 with (fail)
      go_upto_region 18 with (fail)
      go_quiet (fail)
      go_wp2_with fail
      exact EB.out r8 _ _ HN.out Hb8.out (P8.out.below' (below_drewN (Below.refl _ _) _)) (fun w => by rw [Hk8.out]; simp [results, Tryz.results13, go_sem])
end Go.Proofs.YtfcppchjikmioaaGreat
