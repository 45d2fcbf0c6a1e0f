/-
  What unpacking has in memory: the work, its reader, its tokens, its books; what turns nothing of it.
-/
import Derived.Test.YtegmbjkpjglgpaaInfM
namespace Go.Proofs.Ytegmbjkpjglgpaa
open Go.RowKit

/-- blocks of other kinds stay -/
def HoldT (w w' : World) : Prop := ∀ g cs t, t ≠ 99 → t ≠ 96 → t ≠ 112 → Blk w g t cs → Blk w' g t cs
theorem HoldT.refl (w : World) : HoldT w w := fun _ _ _ _ _ _ h => h
theorem HoldT.trans {a b c : World} (h : HoldT a b) (k : HoldT b c) : HoldT a c := fun g cs t h1 h2 h3 hb => k g cs t h1 h2 h3 (h g cs t h1 h2 h3 hb)
theorem HoldT.below {w w' : World} (hb : Below w.heap.size w w') : HoldT w w' := fun _ _ _ _ _ _ h => h.below hb h.lt
theorem HoldT.set {w : World} {g i : Nat} {t : TypeId} {cs : Array Value} (hk : Blk w g t cs) (ht : t = 99 ∨ t = 96) (v : Value) : HoldT w (w.setCell ⟨g, i, none⟩ v) := fun r ds u h1 h2 _ h => h.far (fun e => by
  have e : r = g := e
  subst e
  unfold Blk at h hk
  rw [hk] at h
  injection h with h
  injection h with _ h
  rcases ht with ht | ht
  · exact h1 (by rw [← h, ht])
  · exact h2 (by rw [← h, ht])) v
theorem HoldT.grown {w w' : World} {base n size : Nat} {v : Value} {xs : List Value} (ho : w.ownsRow base 112 size v n xs) (hg : w.grownBy w' v.ownBlock) : HoldT w w' := fun _ _ _ _ _ h3 h => h.grown hg (own_blk_ne ho h (fun e => h3 e.symm))
theorem HoldT.own {w w' : World} (h : HoldT w w') {base n size : Nat} {t : TypeId} {v : Value} {xs : List Value} (h1 : t ≠ 99) (h2 : t ≠ 96) (h3 : t ≠ 112) (ho : w.ownsRow base t size v n xs) : w'.ownsRow base t size v n xs := by
  refine ⟨ho.1, ?_⟩
  rcases ho.2 with hn | ⟨g, cap, cur, rfl, hb, hh, rest⟩
  · exact .inl hn
  · exact .inr ⟨g, cap, cur, rfl, hb, h g cur t h1 h2 h3 hh, rest⟩
theorem BR.hold {w w' : World} {g : Nat} {A : Option Addr} {c : Nat} {bl : List Int} {k : Nat} (h : BR w g A c bl k) (hh : HoldT w w') : BR w' g A c bl k :=
  ⟨hh _ _ _ (by decide) (by decide) (by decide) h.blk, hh.own (by decide) (by decide) (by decide) h.row, h.ok, h.len, h.at_⟩
theorem BK.hold {w w' : World} {g : Nat} {b : BM} (h : BK w g b) (hh : HoldT w w') : BK w' g b :=
  ⟨hh _ _ _ (by decide) (by decide) (by decide) h.blk, hh.own (by decide) (by decide) (by decide) h.len, hh.own (by decide) (by decide) (by decide) h.cod, hh.own (by decide) (by decide) (by decide) h.ord, fun i hi => hh.own (by decide) (by decide) (by decide) (h.row i hi)⟩
/-- the work's cells -/
def workCs (gr : Nat) (most size : Int) (T : Option Addr) (n tc : Nat) (lp dp : Value) : Array Value := #[.pointer (some ⟨gr, 0, none⟩), .int .i64 most, .int .i64 size, .slice T n tc, lp, dp]
/-- what the unpacking is bound to -/
structure Ev where
  B : Nat
  W0 : World
  g : Nat
  gr : Nat
  A : Option Addr
  c : Nat
  bl : List Int
  most : Int
  xb : List (Nat × Array Value)
structure St (v : Ev) (w : World) (s : Sk) (lp dp : Value) (bs : List (Nat × BM)) : Prop where
  tok : ∃ T tc, Blk w v.g 99 (workCs v.gr v.most s.size T s.toks.length tc lp dp) ∧ w.ownsRow v.B 112 2 (.slice T s.toks.length tc) s.toks.length (s.toks.flatMap encTok)
  rd : BR w v.gr v.A v.c v.bl s.k
  bks : ∀ x ∈ bs, BK w x.1 x.2
  gB : v.B ≤ v.g
  grB : v.B ≤ v.gr
  fr : Below v.B v.W0 w
  sz : 0 ≤ s.size ∧ s.size ≤ v.most ∧ v.most ≤ 4194304 ∧ (s.toks.length : Int) ≤ s.size
  ext : ∀ x ∈ v.xb, Blk w x.1 3 x.2
/-- what stays where it was -/
def Frm (v : Ev) (w : World) : Prop := Below v.B v.W0 w ∧ ∀ x ∈ v.xb, Blk w x.1 3 x.2
theorem St.frm {v : Ev} {w : World} {s : Sk} {lp dp : Value} {bs : List (Nat × BM)} (h : St v w s lp dp bs) : Frm v w := ⟨h.fr, h.ext⟩
theorem St.below {v : Ev} {w w' : World} {s : Sk} {lp dp : Value} {bs : List (Nat × BM)} (h : St v w s lp dp bs) (hb : Below w.heap.size w w') : St v w' s lp dp bs := by
  obtain ⟨T, tc, h1, h2⟩ := h.tok
  exact ⟨⟨T, tc, h1.below hb h1.lt, own_below h2 hb (Nat.le_refl _)⟩, h.rd.below hb, fun x hx => (h.bks x hx).below hb, h.gB, h.grB, h.fr.trans (hb.mono (Nat.le_of_lt (Nat.lt_of_le_of_lt h.gB h1.lt))), h.sz, fun x hx => (h.ext x hx).below hb (h.ext x hx).lt⟩
/-- the reader went on -/
theorem St.turn {v : Ev} {w w' : World} {s : Sk} {lp dp : Value} {bs : List (Nat × BM)} {k : Nat} (h : St v w s lp dp bs) (hr : BR w' v.gr v.A v.c v.bl k) (hg : w.grownBy w' (some v.gr)) : St v w' ⟨k, s.size, s.toks⟩ lp dp bs := by
  obtain ⟨T, tc, h1, h2⟩ := h.tok
  have hrd := h.rd.blk
  refine ⟨⟨T, tc, h1.grown hg (fun e => ?_), h2.kept hg (.inr (own_blk_ne h2 hrd (by decide)).symm)⟩, hr, fun x hx => (h.bks x hx).grown hg hrd (by decide) (by decide), h.gB, h.grB, h.fr.grown hg (Nat.le_of_lt (Nat.lt_of_le_of_lt h.gB h1.lt)) (fun r e => ?_), h.sz, fun x hx => (h.ext x hx).grown hg (fun e => ?_)⟩
  · injection e with e
    rw [e] at h1
    unfold Blk at h1 hrd
    rw [hrd] at h1
    injection h1 with h1
    injection h1 with _ h1
    exact absurd h1 (by decide)
  · injection e with e
    rw [← e]; exact h.grB
  · injection e with e
    have hx2 := h.ext x hx
    rw [e] at hx2
    unfold Blk at hx2 hrd
    rw [hrd] at hx2
    injection hx2 with hx2
    injection hx2 with _ hx2
    exact absurd hx2 (by decide)
/-- a block of ints more that stays -/
def Ev.more (v : Ev) (x : Nat × Array Value) : Ev := { v with xb := x :: v.xb }
theorem St.more {v : Ev} {w : World} {s : Sk} {lp dp : Value} {bs : List (Nat × BM)} {x : Nat × Array Value} (h : St v w s lp dp bs) (hx : Blk w x.1 3 x.2) : St (v.more x) w s lp dp bs :=
  ⟨h.tok, h.rd, h.bks, h.gB, h.grB, h.fr, h.sz, fun y hy => by
    rcases List.mem_cons.1 hy with rfl | hy
    · exact hx
    · exact h.ext y hy⟩
theorem St.less {v : Ev} {w : World} {s : Sk} {lp dp : Value} {bs : List (Nat × BM)} {x : Nat × Array Value} (h : St (v.more x) w s lp dp bs) : St v w s lp dp bs ∧ Blk w x.1 3 x.2 :=
  ⟨⟨h.tok, h.rd, h.bks, h.gB, h.grB, h.fr, h.sz, fun y hy => h.ext y (List.mem_cons_of_mem _ hy)⟩, h.ext x (List.mem_cons_self ..)⟩
end Go.Proofs.Ytegmbjkpjglgpaa
