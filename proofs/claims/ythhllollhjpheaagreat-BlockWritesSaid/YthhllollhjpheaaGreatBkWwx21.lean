/-
  What unpacking has in memory: the work, its reader, its tokens, its books; what turns nothing of it.
  inflate: a token put into the work's sink.
  The reference's reader in memory: fail, take.
  The reference's reader in memory: symbol.
  The reference's reader in memory: put.
-/
import Derived.Test.YthhllollhjpheaaGreatBkWwx4
import Derived.Test.YthhllollhjpheaaGreatBkWwx15
import Derived.Test.YthhllollhjpheaaGreatBkWwx20
import Derived.BigRegion
import Derived.Deep.RegionLaw
import Derived.Deep.DeepCutAuto
import Derived.Deep.CutRange
import Derived.Deep.RegionWith
namespace Go.Proofs.YthhllollhjpheaaGreat
open Go.RowKit

/-- blocks of other kinds stay -/
def HoldT (w w' : World) : Prop := ∀ g cs t, t ≠ 189 → t ≠ 187 → t ≠ 67 → Blk w g t cs → Blk w' g t cs
theorem HoldT.refl (w : World) : HoldT w w := fun _ _ _ _ _ _ h => h
theorem HoldT.trans {a b c : World} (h : HoldT a b) (k : HoldT b c) : HoldT a c := fun g cs t h1 h2 h3 hb => k g cs t h1 h2 h3 (h g cs t h1 h2 h3 hb)
theorem HoldT.below {w w' : World} (hb : Below w.heap.size w w') : HoldT w w' := fun _ _ _ _ _ _ h => h.below hb h.lt
theorem HoldT.set {w : World} {g i : Nat} {t : TypeId} {cs : Array Value} (hk : Blk w g t cs) (ht : t = 189 ∨ t = 187) (v : Value) : HoldT w (w.setCell ⟨g, i, none⟩ v) := fun r ds u h1 h2 _ h => h.far (fun e => by
  have e : r = g := e
  subst e
  unfold Blk at h hk
  rw [hk] at h
  injection h with h
  injection h with _ h
  rcases ht with ht | ht
  · exact h1 (by rw [← h, ht])
  · exact h2 (by rw [← h, ht])) v
theorem HoldT.grown {w w' : World} {base n size : Nat} {v : Value} {xs : List Value} (ho : w.ownsRow base 67 size v n xs) (hg : w.grownBy w' v.ownBlock) : HoldT w w' := fun _ _ _ _ _ h3 h => h.grown hg (own_blk_ne ho h (fun e => h3 e.symm))
theorem HoldT.own {w w' : World} (h : HoldT w w') {base n size : Nat} {t : TypeId} {v : Value} {xs : List Value} (h1 : t ≠ 189) (h2 : t ≠ 187) (h3 : t ≠ 67) (ho : w.ownsRow base t size v n xs) : w'.ownsRow base t size v n xs := by
  refine ⟨ho.1, ?_⟩
  rcases ho.2 with hn | ⟨g, cap, cur, rfl, hb, hh, rest⟩
  · exact .inl hn
  · exact .inr ⟨g, cap, cur, rfl, hb, h g cur t h1 h2 h3 hh, rest⟩
theorem BR.hold {w w' : World} {g : Nat} {A : Option Addr} {c : Nat} {bl : List Int} {k : Nat} (h : BR w g A c bl k) (hh : HoldT w w') : BR w' g A c bl k :=
  ⟨hh _ _ _ (by decide) (by decide) (by decide) h.blk, hh.own (by decide) (by decide) (by decide) h.row, h.ok, h.len, h.at_⟩
theorem BK.hold {w w' : World} {g : Nat} {b : BM} (h : BK w g b) (hh : HoldT w w') : BK w' g b :=
  ⟨hh _ _ _ (by decide) (by decide) (by decide) h.blk, hh.own (by decide) (by decide) (by decide) h.len, hh.own (by decide) (by decide) (by decide) h.cod, hh.own (by decide) (by decide) (by decide) h.ord, fun i hi => hh.own (by decide) (by decide) (by decide) (h.row i hi)⟩
/-- the work's cells -/
def workCs (gr : Nat) (most size : Int) (T : Option Addr) (n tc : Nat) (lp dp : Value) : Array Value := #[.pointer (some ⟨gr, 0, none⟩), .int .i64 most, .int .i64 size, .slice T n tc, lp, dp]
/-- what the unpacking is bound to -/
structure Ev where
  B : Nat
  W0 : World
  g : Nat
  gr : Nat
  A : Option Addr
  c : Nat
  bl : List Int
  most : Int
  xb : List (Nat × Array Value)
structure St (v : Ev) (w : World) (s : Sk) (lp dp : Value) (bs : List (Nat × BM)) : Prop where
  tok : ∃ T tc, Blk w v.g 189 (workCs v.gr v.most s.size T s.toks.length tc lp dp) ∧ w.ownsRow v.B 67 2 (.slice T s.toks.length tc) s.toks.length (s.toks.flatMap encTok)
  rd : BR w v.gr v.A v.c v.bl s.k
  bks : ∀ x ∈ bs, BK w x.1 x.2
  gB : v.B ≤ v.g
  grB : v.B ≤ v.gr
  fr : Below v.B v.W0 w
  sz : 0 ≤ s.size ∧ s.size ≤ v.most ∧ v.most ≤ 4194304 ∧ (s.toks.length : Int) ≤ s.size
  ext : ∀ x ∈ v.xb, Blk w x.1 3 x.2
theorem St.below {v : Ev} {w w' : World} {s : Sk} {lp dp : Value} {bs : List (Nat × BM)} (h : St v w s lp dp bs) (hb : Below w.heap.size w w') : St v w' s lp dp bs := by
  obtain ⟨T, tc, h1, h2⟩ := h.tok
  exact ⟨⟨T, tc, h1.below hb h1.lt, own_below h2 hb (Nat.le_refl _)⟩, h.rd.below hb, fun x hx => (h.bks x hx).below hb, h.gB, h.grB, h.fr.trans (hb.mono (Nat.le_of_lt (Nat.lt_of_le_of_lt h.gB h1.lt))), h.sz, fun x hx => (h.ext x hx).below hb (h.ext x hx).lt⟩
/-- the reader went on -/
theorem St.turn {v : Ev} {w w' : World} {s : Sk} {lp dp : Value} {bs : List (Nat × BM)} {k : Nat} (h : St v w s lp dp bs) (hr : BR w' v.gr v.A v.c v.bl k) (hg : w.grownBy w' (some v.gr)) : St v w' ⟨k, s.size, s.toks⟩ lp dp bs := by
  obtain ⟨T, tc, h1, h2⟩ := h.tok
  have hrd := h.rd.blk
  refine ⟨⟨T, tc, h1.grown hg (fun e => ?_), h2.kept hg (.inr (own_blk_ne h2 hrd (by decide)).symm)⟩, hr, fun x hx => (h.bks x hx).grown hg hrd (by decide) (by decide), h.gB, h.grB, h.fr.grown hg (Nat.le_of_lt (Nat.lt_of_le_of_lt h.gB h1.lt)) (fun r e => ?_), h.sz, fun x hx => (h.ext x hx).grown hg (fun e => ?_)⟩
  · injection e with e
    rw [e] at h1
    unfold Blk at h1 hrd
    rw [hrd] at h1
    injection h1 with h1
    injection h1 with _ h1
    exact absurd h1 (by decide)
  · injection e with e
    rw [← e]; exact h.grB
  · injection e with e
    have hx2 := h.ext x hx
    rw [e] at hx2
    unfold Blk at hx2 hrd
    rw [hrd] at hx2
    injection hx2 with hx2
    injection hx2 with _ hx2
    exact absurd hx2 (by decide)
/-- a block of ints more that stays -/
def Ev.more (v : Ev) (x : Nat × Array Value) : Ev := { v with xb := x :: v.xb }
theorem St.more {v : Ev} {w : World} {s : Sk} {lp dp : Value} {bs : List (Nat × BM)} {x : Nat × Array Value} (h : St v w s lp dp bs) (hx : Blk w x.1 3 x.2) : St (v.more x) w s lp dp bs :=
  ⟨h.tok, h.rd, h.bks, h.gB, h.grB, h.fr, h.sz, fun y hy => by
    rcases List.mem_cons.1 hy with rfl | hy
    · exact hx
    · exact h.ext y hy⟩
end Go.Proofs.YthhllollhjpheaaGreat

namespace Go.Proofs.YthhllollhjpheaaGreat
open Go.RowKit

theorem tok_infoW : (Tryz.prog.info? 67).map (fun i => (i.zero, i.size, i.bytes)) = some (some (.agg #[.int .i64 0, .int .i64 0]), 2, 16) := by kernel_rfl
end Go.Proofs.YthhllollhjpheaaGreat

namespace Go.Proofs.YthhllollhjpheaaGreat
open Go.RowKit

structure Rv where
  W : World
  g : Nat
  LA : Option Addr
  lc : Nat
  L : List Int
  most : Int
def inCs (v : Rv) (k n : Nat) (b sz : Int) (T : Option Addr) (nt tc : Nat) : Array Value := #[.slice v.LA n v.lc, .int .i64 (k : Int), .int .i64 b, .int .i64 v.most, .int .i64 sz, .slice T nt tc]
/-- blocks of other types stay -/
def Kp (w w' : World) : Prop := w.heap.size ≤ w'.heap.size ∧ ∀ (b : Nat) (cs : Array Value) (t : TypeId) (z : Nat × Nat), w.heap[b]? = some (Obj.cells cs t z) → t ≠ 67 → t ≠ 92 → w'.heap[b]? = some (Obj.cells cs t z)
theorem Kp.refl (w : World) : Kp w w := ⟨Nat.le_refl _, fun _ _ _ _ h _ _ => h⟩
theorem Kp.trans {a b c : World} (h : Kp a b) (h2 : Kp b c) : Kp a c := ⟨Nat.le_trans h.1 h2.1, fun q cs t z hq h3 h4 => h2.2 q cs t z (h.2 q cs t z hq h3 h4) h3 h4⟩
theorem Kp.below {w w' : World} {C : Nat} (h : Below C w w') (hC : w.heap.size ≤ C) : Kp w w' := ⟨h.size, fun b cs t z hb _ _ => by rw [h.block b (by have := (Array.getElem?_eq_some_iff.1 hb).1; omega)]; exact hb⟩
theorem Kp.grown {w w' : World} {base s n : Nat} {v : Value} {xs : List Value} (ho : w.ownsRow base 67 s v n xs) (h : w.grownBy w' v.ownBlock) : Kp w w' := by
  refine ⟨h.size, fun b cs t z hb h3 _ => ?_⟩
  rw [h.block b (by exact (Array.getElem?_eq_some_iff.1 hb).1) ?_]
  · exact hb
  · rcases ho.2 with ⟨rfl, _⟩ | ⟨g', cap, cur, rfl, _, hh, _⟩
    · simp [Value.ownBlock]
    · intro e
      have : b = g' := by simpa [Value.ownBlock] using e
      subst this
      rw [hb] at hh
      injection hh with hh
      injection hh with _ h5 _
      exact h3 h5
theorem Kp.set {w : World} {g i : Nat} {cs : Array Value} (h : Blk w g 92 cs) (u : Value) : Kp w (w.setCell ⟨g, i, none⟩ u) := by
  refine ⟨by simp, fun b cs2 t z hb _ h4 => ?_⟩
  refine (Below.heap_setCell w ⟨g, i, none⟩ u b ?_).trans hb
  rintro rfl
  unfold Blk at h
  rw [h] at hb
  injection hb with hb
  injection hb with _ h5 _
  exact h4 h5.symm
theorem own_kp {w w' : World} {base e s n : Nat} {v : Value} {xs : List Value} (h : w.ownsRow base e s v n xs) (hk : Kp w w') (h1 : e ≠ 67) (h2 : e ≠ 92) : w'.ownsRow base e s v n xs := by
  refine ⟨h.1, ?_⟩
  rcases h.2 with hn | ⟨g, cap, cur, rfl, hb, hh, rest⟩
  · exact .inl hn
  · exact .inr ⟨g, cap, cur, rfl, hb, hk.2 _ _ _ _ hh h1 h2, rest⟩
theorem CRow.kp {w w' : World} {base : Nat} {C : Option Addr} {c : Nat} {X : List CX} (h : CRow w base C c X) (hk : Kp w w') : CRow w' base C c X :=
  ⟨own_kp h.1 hk (by decide) (by decide), fun x hx => own_kp (h.2 x hx) hk (by decide) (by decide)⟩
/-- the reference's reader in memory -/
structure RI (v : Rv) (w : World) (s : Sk) (b : Int) : Prop where
  kl : s.k ≤ v.L.length
  tok : ∃ T tc, Blk w v.g 92 (inCs v s.k v.L.length b s.size T s.toks.length tc) ∧ w.ownsRow v.W.heap.size 67 2 (.slice T s.toks.length tc) s.toks.length (s.toks.flatMap encTok)
  lr : w.ownsRow 0 3 1 (.slice v.LA v.L.length v.lc) v.L.length (intsV v.L)
  fr : Below v.W.heap.size v.W w
  gw : v.W.heap.size ≤ v.g
  bit : ∀ x ∈ v.L, isBit x
  ln : v.L.length ≤ 1000000
  mo : 0 ≤ v.most ∧ v.most ≤ 4194304
  sz : 0 ≤ s.size ∧ s.size ≤ v.most
  tl : (s.toks.length : Int) ≤ s.size
/-- one cell of the reader is written -/
theorem RI.upd {v : Rv} {w : World} {s s2 : Sk} {b b2 : Int} {T : Option Addr} {tc : Nat} (h : RI v w s b) (hb : Blk w v.g 92 (inCs v s.k v.L.length b s.size T s.toks.length tc)) (ho : w.ownsRow v.W.heap.size 67 2 (.slice T s.toks.length tc) s.toks.length (s.toks.flatMap encTok)) (i : Nat) (u : Value)
    (he : (inCs v s.k v.L.length b s.size T s.toks.length tc).setIfInBounds i u = inCs v s2.k v.L.length b2 s2.size T s.toks.length tc) (ht : s2.toks = s.toks) (hk : s2.k ≤ v.L.length) (hs : 0 ≤ s2.size ∧ s2.size ≤ v.most ∧ s.size ≤ s2.size) : RI v (w.setCell ⟨v.g, i, none⟩ u) s2 b2 ∧ Kp w (w.setCell ⟨v.g, i, none⟩ u) := by
  have hne : ∀ {n : Nat} {vv : Value} {xs : List Value} {e sz bs : Nat}, w.ownsRow bs e sz vv n xs → e ≠ 92 → (w.setCell ⟨v.g, i, none⟩ u).ownsRow bs e sz vv n xs := by
    intro n vv xs e sz bs h1 h2
    refine ⟨h1.1, ?_⟩
    rcases h1.2 with hn | ⟨g, cap, cur, rfl, hbb, hh, rest⟩
    · exact .inl hn
    · refine .inr ⟨g, cap, cur, rfl, hbb, Blk.far hh (p := ⟨v.g, i, none⟩) ?_ u, rest⟩
      intro e3
      have e3 : g = v.g := e3
      subst e3
      unfold Blk at hb
      rw [hb] at hh
      injection hh with hh
      injection hh with _ h5 _
      exact h2 h5.symm
  refine ⟨⟨hk, ⟨T, tc, ?_, ?_⟩, hne h.lr (by decide), h.fr.setCell (p := ⟨v.g, i, none⟩) h.gw u, h.gw, h.bit, h.ln, h.mo, ⟨hs.1, hs.2.1⟩, ?_⟩, Kp.set hb u⟩
  · rw [ht, ← he]; exact hb.set_ i u
  · rw [ht]; exact hne ho (by decide)
  · rw [ht]; have := h.tl; omega
theorem RI.setBad {v : Rv} {w : World} {s : Sk} {b : Int} (h : RI v w s b) (k : Int) : RI v (w.setCell ⟨v.g, 2, none⟩ (.int .i64 k)) s k ∧ Kp w (w.setCell ⟨v.g, 2, none⟩ (.int .i64 k)) := by
  obtain ⟨T, tc, hb, ho⟩ := h.tok
  exact h.upd hb ho 2 _ rfl rfl h.kl ⟨h.sz.1, h.sz.2, Int.le_refl _⟩
theorem RI.setAt {v : Rv} {w : World} {s : Sk} {b : Int} (h : RI v w s b) (k : Nat) (hk : k ≤ v.L.length) : RI v (w.setCell ⟨v.g, 1, none⟩ (.int .i64 (k : Int))) ⟨k, s.size, s.toks⟩ b ∧ Kp w (w.setCell ⟨v.g, 1, none⟩ (.int .i64 (k : Int))) := by
  obtain ⟨T, tc, hb, ho⟩ := h.tok
  exact h.upd hb ho 1 _ rfl rfl hk ⟨h.sz.1, h.sz.2, Int.le_refl _⟩
theorem RI.setSize {v : Rv} {w : World} {s : Sk} {b : Int} (h : RI v w s b) (z : Int) (h0 : s.size ≤ z) (h1 : z ≤ v.most) : RI v (w.setCell ⟨v.g, 4, none⟩ (.int .i64 z)) ⟨s.k, z, s.toks⟩ b ∧ Kp w (w.setCell ⟨v.g, 4, none⟩ (.int .i64 z)) := by
  obtain ⟨T, tc, hb, ho⟩ := h.tok
  exact h.upd hb ho 4 _ rfl rfl h.kl ⟨by have := h.sz.1; show 0 ≤ z; omega, h1, h0⟩
theorem RI.below {v : Rv} {w w' : World} {s : Sk} {b : Int} (h : RI v w s b) {C : Nat} (hb : Below C w w') (hC : w.heap.size ≤ C) : RI v w' s b ∧ Kp w w' := by
  obtain ⟨T, tc, hk, ho⟩ := h.tok
  exact ⟨⟨h.kl, ⟨T, tc, hk.below hb (by have := hk.lt; omega), own_below ho hb hC⟩, own_below h.lr hb hC, h.fr.trans (hb.mono (by have := h.fr.size; omega)), h.gw, h.bit, h.ln, h.mo, h.sz, h.tl⟩, Kp.below hb hC⟩
theorem RI.drewN {v : Rv} {w : World} {s : Sk} {b : Int} (h : RI v w s b) (n : Nat) : RI v (w.drewN n) s b ∧ Kp w (w.drewN n) := h.below (below_drewN (Below.refl _ _) n) (Nat.le_refl _)
theorem fail_any {v : Rv} {w : World} {s : Sk} (h : RI v w s 0) (k : Int) : Calls Tryz.prog 53 #[.pointer (some ⟨v.g, 0, none⟩), .int .i64 k] w fun e w' => e = .returned (.tuple #[]) ∧ RI v w' s k ∧ Kp w w' := by
  have H := hid h
  obtain ⟨T, tc, hb, _⟩ := h.tok
  unfold inCs at hb
  have q2 := hb.cell 2
  simp only [List.getElem?_toArray, List.getElem?_cons_zero, List.getElem?_cons_succ] at q2
  have hg := hb.lt
  have fz := fun o => hb.frozen o
  clear h hb
  go_enter Tryz.func53, Tryz.ntmps53
  go_wp2_with fail
  go_end0
  exact ⟨rfl, H.out.setBad k⟩
theorem own_part {w : World} {base c k n : Nat} {A : Option Addr} {L : List Int} (h : w.ownsRow base 3 1 (.slice A L.length c) L.length (intsV L)) (g : Nat) (hA : A = some ⟨g, 0, none⟩) (hk : k + n ≤ L.length) : RdI w w.heap.size (some ⟨g, k, none⟩) ((L.drop k).take n) := by
  have hl : ((L.drop k).take n).length = n := by rw [List.length_take, List.length_drop]; omega
  subst hA
  have hr := own_rd h
  unfold RdI
  rw [intsV_eq]
  refine ⟨by rw [intsV, List.length_map, Nat.mul_one], fun hp => ?_⟩
  rw [intsV, List.length_map, hl] at hp
  obtain ⟨b, off, e, hb, hc⟩ := Rd.at_ hr (k := 0) (by omega) (by omega)
  cases e
  refine ⟨g, k, rfl, hb, fun j u hu => ?_⟩
  have := hc (k + j) u (by
    unfold intsV at hu ⊢
    rw [List.getElem?_map] at hu ⊢
    rw [List.getElem?_take] at hu
    split at hu
    · rw [List.getElem?_drop] at hu; exact hu
    · cases hu)
  rw [Nat.zero_add] at this
  exact this
theorem RI.lt {v : Rv} {w : World} {s : Sk} {b : Int} (h : RI v w s b) : v.g < w.heap.size := by
  obtain ⟨T, tc, hb, _⟩ := h.tok
  exact hb.lt
set_option maxRecDepth 100000 in
theorem slice_lh (b N lc k k2 n : Nat) (h : k + n = k2) (h2 : k2 ≤ lc) (q : List Int) (w2 : World) (hq : q.length = n) (hr : RdI w2 w2.heap.size (some ⟨b, k, none⟩) q) :
    ∃ A3 c3, (∀ w : World, (Instr.slice 80 (.slice (some ⟨b, 0, none⟩) N lc) (some (.int .i64 (k : Int))) (some (.int .i64 (k2 : Int))) none).run Tryz.prog w = .ok (.slice A3 n c3) w) ∧ RdI w2 w2.heap.size A3 q := by
  have e0 : k2 - k = n := by omega
  have base : ∀ w : World, (Instr.slice 80 (.slice (some ⟨b, 0, none⟩) N lc) (some (.int .i64 (k : Int))) (some (.int .i64 (k2 : Int))) none).run Tryz.prog w = .ok (sliced (some ⟨b, 0, none⟩) k k2 lc 1) w := by
    intro w
    rw [run_slice_lh (P := Tryz.prog) (w := w) 80 (some ⟨b, 0, none⟩) N lc Tryz.underlying80 .i64 .i64 (k : Int) (k2 : Int) (by omega) (by omega) (by omega)]
    rfl
  by_cases hck : lc = k
  · have hn0 : n = 0 := by omega
    have hq0 : q = [] := List.eq_nil_of_length_eq_zero (by omega)
    refine ⟨some ⟨b, 0, none⟩, lc - k, fun w => (base w).trans ?_, by rw [hq0]; exact RdI.nil⟩
    unfold sliced
    rw [if_pos hck, e0]
  · refine ⟨some ⟨b, k, none⟩, lc - k, fun w => (base w).trans ?_, hr⟩
    unfold sliced
    rw [if_neg hck, e0]
    simp [Addr.add]
    exact fun h => h.symm
theorem number_at (A : Option Addr) (c n : Nat) (l : List Int) (W : World) (hl : l.length = n) (h : RdI W W.heap.size A l) (hb : ∀ x ∈ l, isBit x) (hm : n ≤ 32) : Calls Tryz.prog 102 #[.slice A n c, .bool false] W fun e w' => e = .returned (.int .i64 (numL l 0 n)) ∧ w' = W := by
  subst hl
  exact number_any A c l W h hb hm
theorem rtake_bad {v : Rv} {w : World} {s : Sk} {b : Int} (h : RI v w s b) (hb0 : b ≠ 0) (n : Int) : Calls Tryz.prog 48 #[.pointer (some ⟨v.g, 0, none⟩), .int .i64 n] w fun e w' => e = .returned (.int .i64 0) ∧ RI v w' s b ∧ Kp w w' := by
  have H := hid h
  obtain ⟨T, tc, hb, _⟩ := h.tok
  unfold inCs at hb
  have q0 := hb.cell 0
  have q1 := hb.cell 1
  have q2 := hb.cell 2
  simp only [List.getElem?_toArray, List.getElem?_cons_zero, List.getElem?_cons_succ] at q0 q1 q2
  have hg := hb.lt
  have d0 : (b == 0) = false := by rw [beq_eq_false_iff_ne]; exact hb0
  clear h hb hb0
  go_enter Tryz.func48, Tryz.ntmps48
  go_upto_region 1 with (fail)
  first | go_quiet (fail) | fail
  go_wp2_with fail
  go_ret
  exact ⟨rfl, H.out.drewN _⟩
set_option maxRecDepth 100000 in
theorem rtake_no {v : Rv} {w : World} {s : Sk} (h : RI v w s 0) (n : Nat) (hn : v.L.length < s.k + n) (hn2 : n ≤ 32) : Calls Tryz.prog 48 #[.pointer (some ⟨v.g, 0, none⟩), .int .i64 (n : Int)] w fun e w' => e = .returned (.int .i64 0) ∧ RI v w' s 8 ∧ Kp w w' := by
  have H := hid h
  obtain ⟨T, tc, hb, _⟩ := h.tok
  obtain ⟨N, hN⟩ : ∃ N, N = v.L.length := ⟨_, rfl⟩
  have hln := h.ln
  have hkl := h.kl
  unfold inCs at hb
  rw [← hN] at hb hn hln hkl
  have q0 := hb.cell 0
  have q1 := hb.cell 1
  have q2 := hb.cell 2
  simp only [List.getElem?_toArray, List.getElem?_cons_zero, List.getElem?_cons_succ] at q0 q1 q2
  have hg := hb.lt
  obtain ⟨k, hk⟩ : ∃ k, k = s.k := ⟨_, rfl⟩
  rw [← hk] at q1 hn hkl
  have tw : IntKind.i64.wrap ((N : Int) - (k : Int)) = (N : Int) - (k : Int) := IntWalk.i64_in _ (by omega)
  have d1 : decide ((N : Int) - (k : Int) < (n : Int)) = true := decide_eq_true (by omega)
  have F := hid (fun nd => fail_any (H.out.drewN nd).1 8)
  clear h hb hN hk
  go_enter Tryz.func48, Tryz.ntmps48
  go_upto_region 1 with (fail)
  first | go_quiet (fail) | fail
  go_wp2_with fail
  refine (F.out _).mono ?_
  rintro e w2 ⟨rfl, hr2, hk2⟩
  have R2 := hid hr2
  have K2 := hid ((H.out.drewN _).2.trans hk2)
  obtain ⟨T2, tc2, hb2, _⟩ := hr2.tok
  unfold inCs at hb2
  have p2 := hb2.cell 2
  simp only [List.getElem?_toArray, List.getElem?_cons_zero, List.getElem?_cons_succ] at p2
  have hg2 := hb2.lt
  clear hb2 hr2 hk2 q0 q1 q2 hg
  go_wp2_with fail
  go_ret
  exact ⟨rfl, R2.out, K2.out⟩
set_option maxRecDepth 100000 in
set_option maxHeartbeats 1000000 in
theorem rtake_ok {v : Rv} {w : World} {s : Sk} (h : RI v w s 0) (n : Nat) (hn : s.k + n ≤ v.L.length) (hn2 : n ≤ 32) (hL : 0 < v.L.length) : Calls Tryz.prog 48 #[.pointer (some ⟨v.g, 0, none⟩), .int .i64 (n : Int)] w fun e w' => e = .returned (.int .i64 (numL v.L s.k n)) ∧ RI v w' ⟨s.k + n, s.size, s.toks⟩ 0 ∧ Kp w w' := by
  have H := hid h
  obtain ⟨T, tc, hb, _⟩ := h.tok
  obtain ⟨lb, hlb, _, hlw⟩ := own_block h.lr hL
  obtain ⟨A2, c2, hf, hncap⟩ := own_form h.lr
  cases hf
  have HLA := hid hlb
  obtain ⟨N, hN⟩ : ∃ N, N = v.L.length := ⟨_, rfl⟩
  have HN := hid hN
  have hln := h.ln
  have hkl := h.kl
  unfold inCs at hb
  rw [hlb] at hb
  rw [← hN] at hb hn hln hkl hL hncap
  have q0 := hb.cell 0
  have q1 := hb.cell 1
  have q2 := hb.cell 2
  simp only [List.getElem?_toArray, List.getElem?_cons_zero, List.getElem?_cons_succ] at q0 q1 q2
  have hg := hb.lt
  obtain ⟨k, hk⟩ : ∃ k, k = s.k := ⟨_, rfl⟩
  have Hk := hid hk
  rw [← hk] at q1 hn hkl ⊢
  obtain ⟨lc, hlc⟩ : ∃ lc, lc = v.lc := ⟨_, rfl⟩
  rw [← hlc] at q0 hncap
  have Hlc := hid hlc
  have tw : IntKind.i64.wrap ((N : Int) - (k : Int)) = (N : Int) - (k : Int) := IntWalk.i64_in _ (by omega)
  have d1 : decide ((N : Int) - (k : Int) < (n : Int)) = false := decide_eq_false (by omega)
  obtain ⟨k2, hk2⟩ : ∃ k2, k + n = k2 := ⟨_, rfl⟩
  have Hk2 := hid hk2
  have tw2 : IntKind.i64.wrap ((k : Int) + (n : Int)) = (k2 : Int) := (IntWalk.i64_in _ (by omega)).trans (by omega)
  have tw3 : IntKind.i64.wrap ((k2 : Int) - (n : Int)) = (k : Int) := (IntWalk.i64_in _ (by omega)).trans (by omega)
  have fz := fun o => hb.frozen o
  clear h hb hN hk hlc hk2 hlb
  rw [Hk2.out]
  go_enter Tryz.func48, Tryz.ntmps48
  go_upto_region 1 with (fail)
  first | go_quiet (fail) | fail
  go_upto_region 6 with (fail)
  generalize hw2 : World.setCell (World.drewN _ _) _ _ = w2
  have hr := (H.out.drewN nq).1.setAt k2 (by have := Hk2.out; rw [← HN.out]; omega)
  rw [hw2] at hr
  have R2 := hid hr.1
  have K2 := hid ((H.out.drewN nq).2.trans hr.2)
  obtain ⟨T2, tc2, hb2, _⟩ := hr.1.tok
  unfold inCs at hb2
  rw [← HN.out, ← Hlc.out, HLA.out] at hb2
  have p0 := hb2.cell 0
  have p1 := hb2.cell 1
  simp only [List.getElem?_toArray, List.getElem?_cons_zero, List.getElem?_cons_succ] at p0 p1
  have hg2 := hb2.lt
  have hpart := fun (h : k + n ≤ v.L.length) => own_part hr.1.lr lb HLA.out h
  have hlen : ((v.L.drop k).take n).length = n := by rw [List.length_take, List.length_drop, ← HN.out]; omega
  have P := hid (hpart (by rw [← HN.out]; exact hn))
  have HLen := hid hlen
  have hbits := hid (fun x (hx : x ∈ (v.L.drop k).take n) => H.out.bit x (List.mem_of_mem_drop (List.mem_of_mem_take hx)))
  have PN := hid (num_part v.L k n n (Nat.le_refl _))
  have tks : k2 - k = n := by have := Hk2.out; omega
  have hkk2 : k ≤ k2 := by have := Hk2.out; omega
  have hk2c : k2 ≤ lc := by have := Hk2.out; omega
  clear hw2 hr hb2 hpart hlen q0 q1 q2 hg
  obtain ⟨A3, c3, hsl, hrd⟩ := slice_lh lb N lc k k2 n (by have := Hk2.out; omega) hk2c ((v.L.drop k).take n) w2 HLen.out P.out
  have RD := hid hrd
  clear hrd
  go_region_with (go_at_call 102; refine (number_at _ _ n ((v.L.drop k).take n) _ HLen.out (show RdI w2.drew _ _ _ from RD.out) hbits.out hn2).mono ?_; rintro e w3 ⟨rfl, rfl⟩)
  all_goals
    go_wp2_with fail
    go_ret
    rw [PN.out]
    exact ⟨rfl, (R2.out.drewN 1).1, K2.out.trans (R2.out.drewN 1).2⟩
end Go.Proofs.YthhllollhjpheaaGreat

namespace Go.Proofs.YthhllollhjpheaaGreat
open Go.RowKit

def symR (r : Cd.Rd) (k : Nat) : Except Int (Nat × Nat) := match r with
  | .sym s n => .ok (s, k + n)
  | .short => .error 8
  | .bad => .error 2
theorem cds_ks : ∀ (sl : Cd.SL) (nx la a : Nat), nx * Cd.pw la = a → (∀ x ∈ sl, x.2 ≤ 16 ∧ la ≤ x.2) → sl.Pairwise (fun x y => x.2 ≤ y.2) → (cds nx la sl).map (fun x => (x.1, x.2.1, x.2.2 * Cd.pw x.2.1)) = Cd.ksOf a sl
  | [], _, _, _, _, _, _ => rfl
  | x :: l, nx, la, a, h, hl, hp => by
    have hx := hl x (by simp)
    rw [List.pairwise_cons] at hp
    have e1 : nx * 2 ^ (x.2 - la) * Cd.pw x.2 = a := by
      rw [← h, Nat.mul_assoc]
      congr 1
      unfold Cd.pw
      rw [← Nat.pow_add]
      congr 1
      omega
    have ih := cds_ks l (nx * 2 ^ (x.2 - la) + 1) x.2 (a + Cd.pw x.2) (by rw [Nat.add_mul, Nat.one_mul, e1]) (fun y hy => ⟨(hl y (by simp [hy])).1, hp.1 y hy⟩) hp.2
    rw [cds, List.map_cons, ih, Cd.ksOf, e1]
theorem ks_end : ∀ (sl : Cd.SL) (a : Nat), ∀ y ∈ Cd.ksOf a sl, y.2.2 + Cd.pw y.2.1 ≤ a + Cd.tot sl
  | [], _, _, hy => by cases hy
  | x :: l, a, y, hy => by
    rw [Cd.tot_cons]
    rcases List.mem_cons.1 hy with rfl | hy
    · simp only; omega
    · have := ks_end l _ y hy
      omega
theorem ks_len : ∀ (sl : Cd.SL) (a : Nat), ∀ y ∈ Cd.ksOf a sl, ∃ x ∈ sl, y.2.1 = x.2
  | [], _, _, hy => by cases hy
  | x :: l, a, y, hy => by
    rcases List.mem_cons.1 hy with rfl | hy
    · exact ⟨x, by simp, rfl⟩
    · obtain ⟨z, hz, e⟩ := ks_len l _ y hy
      exact ⟨z, by simp [hz], e⟩
theorem ks_count : ∀ (sl : Cd.SL) (a : Nat), (Cd.ksOf a sl).length = sl.length
  | [], _ => rfl
  | x :: l, a => by rw [Cd.ksOf, List.length_cons, List.length_cons, ks_count l]
theorem ksX_eq {l : List Int} {X : List CX} (hl : lensB l = true) (hX : X.map CX.t = cds 0 0 (slOf l)) : ksX X = Cd.ksOf 0 (slOf l) := by
  have hok := sl_ok hl
  rw [← cds_ks (slOf l) 0 0 0 (by simp) (fun x hx => ⟨(hok.len x hx).2, Nat.zero_le _⟩) hok.sorted, ← hX, List.map_map]
  rfl
theorem cx_ok {l : List Int} {X : List CX} (hl : lensB l = true) (hX : X.map CX.t = cds 0 0 (slOf l)) : ∀ x ∈ X, CxOk x := by
  intro x hx
  have hok := sl_ok hl
  have hm : (x.s, x.n, x.v * Cd.pw x.n) ∈ Cd.ksOf 0 (slOf l) := by rw [← ksX_eq hl hX]; exact List.mem_map.2 ⟨x, hx, rfl⟩
  obtain ⟨y, hy, e⟩ := ks_len _ _ _ hm
  have hle := hok.len y hy
  have e : x.n = y.2 := e
  have h2 := ks_end _ _ _ hm
  have hk := hok.kraft
  simp only at h2
  refine ⟨by omega, by omega, ?_⟩
  have h3 : (x.v + 1) * Cd.pw x.n ≤ 65536 := by rw [Nat.add_mul, Nat.one_mul]; omega
  have h4 : 2 ^ x.n * Cd.pw x.n = 65536 := by
    unfold Cd.pw
    rw [← Nat.pow_add, show x.n + (16 - x.n) = 16 by omega]
  rw [← h4] at h3
  exact Nat.le_of_mul_le_mul_right h3 (Cd.pw_pos _)
theorem rd_link {l L : List Int} {X : List CX} {k : Nat} (hl : lensB l = true) (hX : X.map CX.t = cds 0 0 (slOf l)) (hb : ∀ x ∈ L, isBit x) : symM l L k = symR (rdX X (L.drop k)) k := by
  have hlen : X.length = (ordL l).length := by
    have h1 := congrArg List.length (ksX_eq hl hX)
    rw [ksX, List.length_map] at h1
    rw [h1, ks_count, slOf, List.length_map]
  unfold symM rdX
  by_cases h0 : ordL l = []
  · rw [if_pos h0, if_pos (List.eq_nil_of_length_eq_zero (by rw [hlen, h0]; rfl))]
    rfl
  · rw [if_neg h0, if_neg (fun e => h0 (List.eq_nil_of_length_eq_zero (by rw [← hlen, e]; rfl)))]
    have hbt : btQ (L.drop k) = btF L k := by
      funext i
      unfold btQ btF
      rw [List.getD_eq_getElem?_getD, List.getElem?_drop, ← List.getD_eq_getElem?_getD]
    rw [ksX_eq hl hX, hbt, List.length_drop, Cd.rdR_eq (sl_ok hl) _ _ (fun i => (btF_le hb k i).1) 16 1 0 (by omega) (by omega) (by rw [Cd.low_one (sl_ok hl)]; omega)]
    unfold symR
    cases Cd.rdC (slOf l) (btF L k) (L.length - k) 16 1 0 <;> rfl
theorem read_one {r : Cd.Rd} {m : Nat} {W w' : World} {e : Ending} (h : ReadEnd r m W e w') : ∃ (y n : Nat) (b : Int), n ≤ m ∧ e = .returned (.tuple #[.int .i64 (y : Int), .int .i64 (n : Int), .int .i64 b]) ∧ Below W.heap.size W w' ∧ ∀ k, (symR r k = .ok (y, k + n) ∧ b = 0) ∨ (y = 0 ∧ b ≠ 0 ∧ symR r k = .error b) := by
  obtain ⟨hb, h⟩ := h
  cases r with
  | sym s n => exact ⟨s, n, 0, h.1, h.2, hb, fun k => .inl ⟨rfl, rfl⟩⟩
  | short => exact ⟨0, m, 8, Nat.le_refl _, h, hb, fun k => .inr ⟨rfl, by decide, rfl⟩⟩
  | bad =>
    obtain ⟨n, h1, h2⟩ := h
    exact ⟨0, n, 2, h1, h2, hb, fun k => .inr ⟨rfl, by decide, rfl⟩⟩
/-- a book of the reference's in memory -/
def CB (w : World) (l : List Int) (C : Option Addr) (c n : Nat) : Prop := ∃ X, X.length = n ∧ n ≤ 1000 ∧ X.map CX.t = cds 0 0 (slOf l) ∧ CRow w 0 C c X
theorem CB.kp {w w' : World} {l : List Int} {C : Option Addr} {c n : Nat} (h : CB w l C c n) (hk : Kp w w') : CB w' l C c n := by
  obtain ⟨X, h1, h2, h3, h4⟩ := h
  exact ⟨X, h1, h2, h3, h4.kp hk⟩
set_option maxRecDepth 100000 in
theorem slice_l (b N lc k n : Nat) (h : k + n = N) (h2 : N ≤ lc) (q : List Int) (w2 : World) (hq : q.length = n) (hr : RdI w2 w2.heap.size (some ⟨b, k, none⟩) q) :
    ∃ A3 c3, (∀ w : World, (Instr.slice 80 (.slice (some ⟨b, 0, none⟩) N lc) (some (.int .i64 (k : Int))) none none).run Tryz.prog w = .ok (.slice A3 n c3) w) ∧ RdI w2 w2.heap.size A3 q := by
  have e0 : N - k = n := by omega
  have base : ∀ w : World, (Instr.slice 80 (.slice (some ⟨b, 0, none⟩) N lc) (some (.int .i64 (k : Int))) none none).run Tryz.prog w = .ok (sliced (some ⟨b, 0, none⟩) k N lc 1) w := by
    intro w
    rw [run_slice_l (P := Tryz.prog) (w := w) 80 (some ⟨b, 0, none⟩) N lc Tryz.underlying80 .i64 (k : Int) (by omega) (by omega)]
    rfl
  by_cases hck : lc = k
  · have hn0 : n = 0 := by omega
    have hq0 : q = [] := List.eq_nil_of_length_eq_zero (by omega)
    refine ⟨some ⟨b, 0, none⟩, lc - k, fun w => (base w).trans ?_, by rw [hq0]; exact RdI.nil⟩
    unfold sliced
    rw [if_pos hck, e0]
  · refine ⟨some ⟨b, k, none⟩, lc - k, fun w => (base w).trans ?_, hr⟩
    unfold sliced
    rw [if_neg hck, e0]
    simp [Addr.add]
    exact fun h => h.symm
theorem rsym_bad {v : Rv} {w : World} {s : Sk} {b : Int} (h : RI v w s b) (hb0 : b ≠ 0) (C : Value) : Calls Tryz.prog 105 #[.pointer (some ⟨v.g, 0, none⟩), C] w fun e w' => e = .returned (.int .i64 0) ∧ RI v w' s b ∧ Kp w w' := by
  have H := hid h
  obtain ⟨T, tc, hb, _⟩ := h.tok
  unfold inCs at hb
  have q0 := hb.cell 0
  have q1 := hb.cell 1
  have q2 := hb.cell 2
  simp only [List.getElem?_toArray, List.getElem?_cons_zero, List.getElem?_cons_succ] at q0 q1 q2
  have hg := hb.lt
  have d0 : (b == 0) = false := by rw [beq_eq_false_iff_ne]; exact hb0
  clear h hb hb0
  go_enter Tryz.func105, Tryz.ntmps105
  go_wp2_with fail
  go_ret
  exact ⟨rfl, H.out, Kp.refl _⟩
/-- a symbol, as the model says -/
def SymR (v : Rv) (l : List Int) (w : World) (s : Sk) (e : Ending) (w' : World) : Prop := Kp w w' ∧ match symM l v.L s.k with
  | .error k => k ≠ 0 ∧ ∃ s', e = .returned (.int .i64 0) ∧ RI v w' s' k
  | .ok (y, k2) => k2 ≤ v.L.length ∧ e = .returned (.int .i64 (y : Int)) ∧ RI v w' ⟨k2, s.size, s.toks⟩ 0
set_option maxRecDepth 100000 in
set_option maxHeartbeats 1000000 in
theorem rsym_any {v : Rv} {w : World} {s : Sk} (h : RI v w s 0) (l : List Int) (hl : lensB l = true) (C : Option Addr) (c K : Nat) (hC : CB w l C c K) (hL : 0 < v.L.length) : Calls Tryz.prog 105 #[.pointer (some ⟨v.g, 0, none⟩), .slice C K c] w (SymR v l w s) := by
  have H := hid h
  obtain ⟨X, hX1, hX2, hX3, hX4⟩ := hC
  obtain ⟨T, tc, hb, _⟩ := h.tok
  obtain ⟨lb, hlb, _, hlw⟩ := own_block h.lr hL
  obtain ⟨A2, c2, hf, hncap⟩ := own_form h.lr
  cases hf
  have HLA := hid hlb
  obtain ⟨N, hN⟩ : ∃ N, N = v.L.length := ⟨_, rfl⟩
  have HN := hid hN
  have hln := h.ln
  have hkl := h.kl
  unfold inCs at hb
  rw [hlb] at hb
  have Hlink := hid (rd_link (k := s.k) hl hX3 h.bit)
  have HXok := hid (cx_ok hl hX3)
  have HR := hid (fun (A : Option Addr) (d : Nat) (w' : World) (hk : Kp w w') (hq : RdI w' w'.heap.size A (v.L.drop s.k)) => refRead_any C A c d X (v.L.drop s.k) w' (hX4.kp hk) HXok.out hq (fun x hx => H.out.bit x (List.mem_of_mem_drop hx)) (by rw [List.length_drop]; omega) (by omega))
  rw [← hN] at hb hln hkl hL hncap
  have q0 := hb.cell 0
  have q1 := hb.cell 1
  have q2 := hb.cell 2
  simp only [List.getElem?_toArray, List.getElem?_cons_zero, List.getElem?_cons_succ] at q0 q1 q2
  have hg := hb.lt
  obtain ⟨k, hk⟩ : ∃ k, k = s.k := ⟨_, rfl⟩
  have Hk := hid hk
  rw [← hk] at q1 hkl HR
  obtain ⟨lc, hlc⟩ : ∃ lc, lc = v.lc := ⟨_, rfl⟩
  rw [← hlc] at q0 hncap
  obtain ⟨n, hn⟩ : ∃ n, k + n = N := ⟨N - k, by omega⟩
  have hlen : (v.L.drop k).length = n := by rw [List.length_drop, ← hN]; omega
  have hpart := own_part h.lr lb hlb (k := k) (n := n) (by rw [← hN]; omega)
  rw [List.take_of_length_le (by omega)] at hpart
  obtain ⟨A3, c3, hsl, hrd⟩ := slice_l lb N lc k n hn hncap (v.L.drop k) w hlen hpart
  rw [hX1, hlen] at HR
  have RD := hid hrd
  have Hn := hid hn
  have hnn : n ≤ N := by omega
  clear h hb hN hk hlc hlb hl hX1 hX2 hX3 hX4 hlen hpart hrd hn
  go_enter Tryz.func105, Tryz.ntmps105
  go_upto_region 3 with (fail)
  go_region_with (go_at_call 140; refine (HR.out A3 c3 w.drew (H.out.drewN 1).2 (show RdI w.drew _ _ _ from RD.out)).mono ?_; intro e w3 hE; obtain ⟨y, m, b, hm, rfl, hb3, hrd⟩ := read_one hE; have B3 := hid hb3; have Rr := hid hrd; clear hE hb3 hrd)
  all_goals
    have R3 := ((H.out.drewN 1).1.below (C := w.heap.size) B3.out (Nat.le_refl _))
    have K3 := hid ((H.out.drewN 1).2.trans R3.2)
    have hr3 := R3.1
    have H3 := hid hr3
    obtain ⟨T3, tc3, hb3, _⟩ := hr3.tok
    unfold inCs at hb3
    rw [← HN.out, ← Hk.out] at hb3
    have p1 := hb3.cell 1
    have p2 := hb3.cell 2
    simp only [List.getElem?_toArray, List.getElem?_cons_zero, List.getElem?_cons_succ] at p1 p2
    have hg3 := hb3.lt
    have fz := fun o => hb3.frozen o
    have tw : IntKind.i64.wrap ((k : Int) + (m : Int)) = ((k + m : Nat) : Int) := (IntWalk.i64_in _ (by omega)).trans (by omega)
    have hkm : k + m ≤ v.L.length := by rw [← HN.out]; have := Hn.out; omega
    have A3' := H3.out.setAt (k + m) hkm
    have A4' := A3'.1.setBad b
    have R4 := hid A4'.1
    have K4 := hid (K3.out.trans (A3'.2.trans A4'.2))
    have RK := hid (Rr.out k)
    clear R3 hr3 hb3 q0 q1 q2 hg hsl A3' A4'
    go_wp2_with fail
    go_ret
    refine ⟨K4.out, ?_⟩
    rw [Hlink.out, ← Hk.out]
    rcases RK.out with ⟨h1, h2⟩ | ⟨h1, h2, h3⟩
    · rw [h1]
      subst h2
      exact ⟨hkm, rfl, R4.out⟩
    · rw [h3]
      subst h1
      exact ⟨h2, _, rfl, R4.out⟩
end Go.Proofs.YthhllollhjpheaaGreat

namespace Go.Proofs.YthhllollhjpheaaGreat
open Go.RowKit

/-- inside put: the reader, and the token's own block -/
structure PX (v : Rv) (w0 w : World) (s : Sk) (gb : Nat) (tl td : Int) : Prop where
  ri : RI v w s 0
  bx : Blk w gb 67 #[.int .i64 tl, .int .i64 td]
  kp : Kp w0 w
theorem PX.drewN {v : Rv} {w0 w : World} {s : Sk} {gb : Nat} {tl td : Int} (h : PX v w0 w s gb tl td) (n : Nat) : PX v w0 (w.drewN n) s gb tl td :=
  ⟨(h.ri.drewN n).1, h.bx, h.kp.trans (h.ri.drewN n).2⟩
theorem PX.ne {v : Rv} {w0 w : World} {s : Sk} {gb : Nat} {tl td : Int} (h : PX v w0 w s gb tl td) : gb ≠ v.g := by
  obtain ⟨T, tc, hb, _⟩ := h.ri.tok
  intro e
  have h1 := h.bx
  rw [e] at h1
  unfold Blk at h1 hb
  rw [hb] at h1
  injection h1 with h1
  injection h1 with _ h2 _
  exact absurd h2 (by decide)
theorem PX.setSize {v : Rv} {w0 w : World} {s : Sk} {gb : Nat} {tl td : Int} (h : PX v w0 w s gb tl td) (z : Int) (h0 : s.size ≤ z) (h1 : z ≤ v.most) : PX v w0 (w.setCell ⟨v.g, 4, none⟩ (.int .i64 z)) ⟨s.k, z, s.toks⟩ gb tl td :=
  ⟨(h.ri.setSize z h0 h1).1, h.bx.far (p := ⟨v.g, 4, none⟩) h.ne _, h.kp.trans (h.ri.setSize z h0 h1).2⟩
theorem px_start {v : Rv} {w : World} {s : Sk} (h : RI v w s 0) (tl td : Int) : PX v w (w.alloc (.cells #[.int .i64 tl, .int .i64 td] 67)) s w.heap.size tl td := by
  have hb := below_alloc1 w (.cells #[.int .i64 tl, .int .i64 td] 67)
  exact ⟨(h.below hb (Nat.le_refl _)).1, Blk.new _ _ _, (h.below hb (Nat.le_refl _)).2⟩
def RPut (v : Rv) (w : World) (s : Sk) (t : Int × Int) (e : Ending) (w' : World) : Prop := Kp w w' ∧ e = .returned (.tuple #[]) ∧ match putM v.most t s with
  | .error k => k ≠ 0 ∧ ∃ s', RI v w' s' k
  | .ok s2 => RI v w' s2 0
theorem rput_bad {v : Rv} {w : World} {s : Sk} {b : Int} (h : RI v w s b) (hb0 : b ≠ 0) (tl td : Int) : Calls Tryz.prog 103 #[.pointer (some ⟨v.g, 0, none⟩), .agg #[.int .i64 tl, .int .i64 td]] w fun e w' => e = .returned (.tuple #[]) ∧ RI v w' s b ∧ Kp w w' := by
  have hbl := below_alloc1 w (.cells #[.int .i64 tl, .int .i64 td] 67)
  have H1 := hid (h.below hbl (Nat.le_refl _))
  obtain ⟨w1, hw1⟩ : ∃ w1, w1 = w.alloc (.cells #[.int .i64 tl, .int .i64 td] 67) := ⟨_, rfl⟩
  rw [← hw1] at H1
  have Hw1 := hid hw1
  obtain ⟨T, tc, hb, _⟩ := H1.out.1.tok
  unfold inCs at hb
  have q2 := hb.cell 2
  simp only [List.getElem?_toArray, List.getElem?_cons_zero, List.getElem?_cons_succ] at q2
  have hg := hb.lt
  have d0 : (b == 0) = false := by rw [beq_eq_false_iff_ne]; exact hb0
  clear h hb hb0 hbl hw1
  go_enter Tryz.func103, Tryz.ntmps103
  go_upto_region 1 with (fail)
  rw [← Hw1.out]
  go_wp2_with fail
  refine bodyPost_ret (results_none rfl _ _ _) rfl ?_
  exact ⟨rfl, H1.out.1, H1.out.2⟩
/-- a token is laid behind the others -/
theorem rput_done {v : Rv} {w0 w w3 w4 : World} {s : Sk} {gb n : Nat} {tl td : Int} {T A3 : Option Addr} {tc c3 : Nat} (h : PX v w0 w s gb tl td) (hn : n = s.toks.length) (hlt : (s.toks.length : Int) + 1 ≤ s.size)
    (hb : Blk w v.g 92 (inCs v s.k v.L.length 0 s.size T s.toks.length tc)) 
    (w2 : World) (hw2 : Below w.heap.size w w2) (ho2 : w2.ownsRow v.W.heap.size 67 2 (.slice T n tc) n (s.toks.flatMap encTok))
    (hown : w3.ownsRow v.W.heap.size 67 2 (.slice A3 (n + 1) c3) (n + 1) (s.toks.flatMap encTok ++ [.int .i64 tl, .int .i64 td])) (hg : w2.grownBy w3 (Value.slice T n tc).ownBlock) (hbl : Below v.W.heap.size w2 w3)
    (hw4 : w4 = w3.setCell ⟨v.g, 5, none⟩ (.slice A3 (n + 1) c3)) : RI v w4 ⟨s.k, s.size, s.toks ++ [(tl, td)]⟩ 0 ∧ Kp w0 w4 := by
  subst hn hw4
  have h2 := h.ri.below hw2 (Nat.le_refl _)
  have hb2 : Blk w2 v.g 92 (inCs v s.k v.L.length 0 s.size T s.toks.length tc) := hb.below hw2 hb.lt
  have hb3 := hb2.grown hg (own_blk_ne ho2 hb2 (by decide))
  have k3 := Kp.grown ho2 hg
  have hl3 := own_kp h2.1.lr k3 (by decide) (by decide)
  have k4 := Kp.set (i := 5) hb3 (.slice A3 (s.toks.length + 1) c3)
  have hne : ∀ {n : Nat} {vv : Value} {xs : List Value} {e sz bs : Nat}, w3.ownsRow bs e sz vv n xs → e ≠ 92 → (w3.setCell ⟨v.g, 5, none⟩ (.slice A3 (s.toks.length + 1) c3)).ownsRow bs e sz vv n xs := by
    intro n vv xs e sz bs h1 h2
    refine ⟨h1.1, ?_⟩
    rcases h1.2 with hn | ⟨g, cap, cur, rfl, hbb, hh, rest⟩
    · exact .inl hn
    · refine .inr ⟨g, cap, cur, rfl, hbb, Blk.far hh (p := ⟨v.g, 5, none⟩) ?_ _, rest⟩
      intro e3
      have e3 : g = v.g := e3
      subst e3
      unfold Blk at hb3
      rw [hb3] at hh
      injection hh with hh
      injection hh with _ h5 _
      exact h2 h5.symm
  refine ⟨⟨h.ri.kl, ⟨A3, c3, ?_, ?_⟩, hne hl3 (by decide), (h2.1.fr.trans hbl).setCell (p := ⟨v.g, 5, none⟩) h.ri.gw _, h.ri.gw, h.ri.bit, h.ri.ln, h.ri.mo, h.ri.sz, ?_⟩, h.kp.trans (h2.2.trans (k3.trans k4))⟩
  · have := hb3.set_ 5 (.slice A3 (s.toks.length + 1) c3)
    rw [List.length_append]
    exact this
  · rw [List.length_append, List.flatMap_append]
    exact hne (by simpa [encTok] using hown) (by decide)
  · rw [List.length_append, List.length_singleton]
    push_cast
    exact hlt
set_option maxRecDepth 100000 in
set_option maxHeartbeats 2000000 in
theorem rput_any {v : Rv} {w : World} {s : Sk} (h : RI v w s 0) (tl td : Int) (ht : tl = 0 ∨ (3 ≤ tl ∧ tl ≤ 258 ∧ 1 ≤ td)) : Calls Tryz.prog 103 #[.pointer (some ⟨v.g, 0, none⟩), .agg #[.int .i64 tl, .int .i64 td]] w (RPut v w s (tl, td)) := by
  have hp := px_start h tl td
  have hmo := h.mo
  have hsz := h.sz
  have htl := h.tl
  have Htl := hid htl
  obtain ⟨w1, hw1⟩ : ∃ w1, w1 = w.alloc (.cells #[.int .i64 tl, .int .i64 td] 67) := ⟨_, rfl⟩
  obtain ⟨gb, hgb⟩ : ∃ gb, gb = w.heap.size := ⟨_, rfl⟩
  rw [← hw1, ← hgb] at hp
  obtain ⟨most, hmost⟩ : ∃ most, most = v.most := ⟨_, rfl⟩
  obtain ⟨sz, hsz2⟩ : ∃ sz, sz = s.size := ⟨_, rfl⟩
  have Hmost := hid hmost
  have Hsz := hid hsz2
  have HP := hid hp
  have Hw1 := hid hw1
  have Hgb := hid hgb
  rw [← hmost] at hmo hsz
  rw [← hsz2] at hsz htl
  clear hw1 hgb hp hmost hsz2
  go_enter Tryz.func103, Tryz.ntmps103
  go_upto_region 1 with (fail)
  rw [← Hw1.out, ← Hgb.out]
  obtain ⟨T, tc, hb, _⟩ := HP.out.ri.tok
  unfold inCs at hb
  rw [← Hmost.out, ← Hsz.out] at hb
  have q2 := hb.cell 2
  have q3 := hb.cell 3
  have q4 := hb.cell 4
  simp only [List.getElem?_toArray, List.getElem?_cons_zero, List.getElem?_cons_succ] at q2 q3 q4
  have hg := hb.lt
  have c0 := HP.out.bx.cell 0
  have c1 := HP.out.bx.cell 1
  simp only [List.getElem?_toArray, List.getElem?_cons_zero, List.getElem?_cons_succ] at c0 c1
  have hgb := HP.out.bx.lt
  clear hb h
  have hns : ¬ (0 < tl ∧ sz < td) → putM v.most (tl, td) s = if most < sz + tn (tl, td) then .error 4 else .ok ⟨s.k, sz + tn (tl, td), s.toks ++ [(tl, td)]⟩ := fun h => by
    unfold putM
    rw [← Hmost.out, ← Hsz.out, if_neg h]
  by_cases hfar : 0 < tl ∧ sz < td
  · have HE := hid (show putM v.most (tl, td) s = .error 2 by unfold putM; rw [← Hsz.out, if_pos hfar])
    have dg1 : decide (0 < tl) = true := decide_eq_true hfar.1
    have dg2 : decide (sz < td) = true := decide_eq_true hfar.2
    have F := hid (fun nd => fail_any (HP.out.drewN nd).ri 2)
    clear hfar hns ht
    go_upto_region 5 with (fail)
    go_quiet (fail)
    go_wp2_with fail
    refine (F.out _).mono ?_
    rintro e w2 ⟨rfl, hr2, hk2⟩
    have R2 := hid hr2
    have K2 := hid ((HP.out.drewN _).kp.trans hk2)
    clear hr2 hk2
    go_wp2_with fail
    refine bodyPost_ret (results_none rfl _ _ _) rfl ?_
    unfold RPut
    rw [HE.out]
    exact ⟨K2.out, rfl, by decide, _, R2.out⟩
  · have HN := hid (hns hfar)
    have htn : 1 ≤ tn (tl, td) ∧ tn (tl, td) ≤ 258 := by
      unfold tn
      rcases ht with rfl | ⟨t1, t2, t3⟩
      · rw [if_neg (Int.lt_irrefl 0)]; decide
      · rw [if_pos (by simp only; omega)]; simp only; omega
    have htv : (tl = 0 ∧ tn (tl, td) = 1) ∨ (0 < tl ∧ tn (tl, td) = tl ∧ ¬ sz < td) := by
      unfold tn
      rcases ht with rfl | ⟨t1, t2, t3⟩
      · exact .inl ⟨rfl, by rw [if_neg (Int.lt_irrefl 0)]⟩
      · exact .inr ⟨by omega, by rw [if_pos (by simp only; omega)], fun h => hfar ⟨by omega, h⟩⟩
    obtain ⟨z, hz⟩ : ∃ z, z = sz + tn (tl, td) := ⟨_, rfl⟩
    rw [← hz] at HN
    obtain ⟨nt, hnt⟩ : ∃ nt, nt = s.toks.length := ⟨_, rfl⟩
    have Hnt := hid hnt
    rw [← hnt] at htl
    have hz0 : sz + 1 ≤ z := by omega
    have hz1 : z ≤ 4194304 + 258 := by omega
    clear hnt
    rcases htv with ⟨h1, h2⟩ | ⟨h1, h2, h3⟩
    case' inl =>
      subst h1
      have tw : IntKind.i64.wrap (sz + 1) = z := (IntWalk.i64_in _ (by omega)).trans (by omega)
      clear hz h2 htn ht hfar hns
      go_upto_region 7 with (fail)
      generalize hwA : w1 = wA at *
      have PA := HP
    case' inr =>
      have tw : IntKind.i64.wrap (sz + tl) = z := (IntWalk.i64_in _ (by omega)).trans (by omega)
      have dg1 : decide (0 < tl) = true := decide_eq_true h1
      have dg2 : decide (sz < td) = false := decide_eq_false h3
      clear hz h1 h2 h3 htn ht hfar hns
      go_upto_region 5 with (fail)
      go_quiet (fail)
      generalize hwA : World.drewN w1 nq = wA
      have PA := hid (HP.out.drewN nq)
      rw [hwA] at PA
      have q3 : wA.cell? ⟨v.g, 3, none⟩ = some (.int .i64 most) := by rw [← hwA]; exact q3
      have q4 : wA.cell? ⟨v.g, 4, none⟩ = some (.int .i64 sz) := by rw [← hwA]; exact q4
      have c0 : wA.cell? ⟨gb, 0, none⟩ = some (.int .i64 tl) := by rw [← hwA]; exact c0
      have c1 : wA.cell? ⟨gb, 1, none⟩ = some (.int .i64 td) := by rw [← hwA]; exact c1
      have hg : v.g < wA.heap.size := PA.out.ri.lt
      have hgb : gb < wA.heap.size := PA.out.bx.lt
      clear hwA
      go_upto_region 7 with (fail)
    all_goals
      by_cases hbig : most < z
      · have db : decide (most < z) = true := decide_eq_true hbig
        have HE := hid (show putM v.most (_, td) s = .error 4 from HN.out.trans (if_pos hbig))
        have F := hid (fun nd => fail_any (PA.out.drewN nd).ri 4)
        clear hbig HN
        go_quiet (fail)
        go_wp2_with fail
        refine (F.out _).mono ?_
        rintro e w2 ⟨rfl, hr2, hk2⟩
        have R2 := hid hr2
        have K2 := hid ((PA.out.drewN _).kp.trans hk2)
        clear hr2 hk2
        go_wp2_with fail
        refine bodyPost_ret (results_none rfl _ _ _) rfl ?_
        unfold RPut
        rw [HE.out]
        exact ⟨K2.out, rfl, by decide, _, R2.out⟩
      · have db : decide (most < z) = false := decide_eq_false hbig
        have HE := hid (HN.out.trans (if_neg hbig))
        have hzm : z ≤ most := by omega
        have fz : ∀ o, wA.frozen? ⟨v.g, o, none⟩ = false := by
          obtain ⟨T9, tc9, hb9, _⟩ := PA.out.ri.tok
          exact fun o => hb9.frozen o
        obtain ⟨i0, hi0, hz00, hz01, hz02⟩ := info_parts tok_infoW
        have Hi0 := hid hi0
        have Hz0 := hid hz00
        have Hz1 := hid hz01
        have Hz2 := hid hz02
        clear hbig HN hi0 hz00 hz01 hz02
        go_quiet (fail)
        go_upto_region 10 with (fail)
        generalize hw2 : World.setCell (World.drewN _ _) _ _ = w2
        have hp2 := (PA.out.drewN nq).setSize z (by rw [← Hsz.out]; omega) (by rw [← Hmost.out]; exact hzm)
        rw [hw2] at hp2
        have P2 := hid hp2
        obtain ⟨T2, tc2, hb2, ho2⟩ := hp2.ri.tok
        have HB2 := hid hb2
        have HO2 := hid ho2
        rw [show (⟨s.k, z, s.toks⟩ : Sk).toks.length = nt from Hnt.out.symm] at hb2 ho2
        unfold inCs at hb2
        have p5 := hb2.cell 5
        simp only [List.getElem?_toArray, List.getElem?_cons_zero, List.getElem?_cons_succ] at p5
        have f5 := hb2.frozen 5
        have d0 := hp2.bx.cell 0
        have d1 := hp2.bx.cell 1
        simp only [List.getElem?_toArray, List.getElem?_cons_zero, List.getElem?_cons_succ] at d0 d1
        have hg2 := hb2.lt
        have hgb2 := hp2.bx.lt
        have O2 := hid ho2
        have B2 := hid hp2.ri.fr.size
        clear hw2 hp2 hb2 ho2 q2 q3 q4 c0 c1 fz hg hgb
        go_region_law (refine step_app _ (by rfl) _ _ _ (by rfl) v.W.heap.size 67 i0 (.agg #[.int .i64 0, .int .i64 0]) 2 16 Tryz.underlying23 Hi0.out Hz0.out Hz1.out Hz2.out rfl (by omega) T2 nt tc2 _ (by rfl) (O2.out.alloc _) _ _ 1 1 [.int .i64 _, .int .i64 td] (by rfl) (rd_one _ _ _ _ (Blk.new _ _ _)) (by simp) (by simp [Value.oneCell']) (by simp only [maxLen]; omega) (by omega) (by have := B2.out; simp; omega) ?_; rintro A3 c3 w3 ⟨hown3, hgr3, hb3, _⟩; have fz3 : ∀ o, w3.frozen? ⟨v.g, o, none⟩ = false := (fun o => ((Blk.drew (HB2.out.alloc _)).grown hgr3 (own_blk_ne O2.out HB2.out (by decide))).frozen o); have p6 : w3.cell? ⟨v.g, 5, none⟩ = some (.slice T2 (s.toks.length) tc2) := (((Blk.drew (HB2.out.alloc _)).grown hgr3 (own_blk_ne O2.out HB2.out (by decide))).cell 5).trans rfl; have hg3 : v.g < w3.heap.size := ((Blk.drew (HB2.out.alloc _)).grown hgr3 (own_blk_ne O2.out HB2.out (by decide))).lt; have Hown3 := hid hown3; have Hb3 := hid hb3; have Hgr3 := hid hgr3; clear hown3 hb3 hgr3)
        all_goals
          go_wp2
          go_end0
          unfold RPut
          rw [HE.out]
          refine (fun h => ⟨h.2, rfl, h.1⟩) (rput_done (tl := _) (td := td) P2.out (n := nt) Hnt.out ?_ HB2.out (World.drew (w2.alloc (.cells #[.int .i64 _, .int .i64 td] 67))) (((Below.refl _ _).alloc (Nat.le_refl _) _).drew) (O2.out.alloc _) Hown3.out Hgr3.out Hb3.out rfl)
          show ((s.toks.length : Nat) : Int) + 1 ≤ z
          rw [← Hnt.out]
          omega
end Go.Proofs.YthhllollhjpheaaGreat
