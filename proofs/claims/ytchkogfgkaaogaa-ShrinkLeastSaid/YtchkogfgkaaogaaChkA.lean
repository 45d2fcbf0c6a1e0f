/-
  (raster.Form).Chunks: what it says, in plain words; a row of one's own cut short.
-/
import Derived.Test.YtchkogfgkaaogaaHPut
import Derived.Test.YtchkogfgkaaogaaShG
import Derived.Test.YtchkogfgkaaogaaPair
namespace Go.Proofs.Ytchkogfgkaaogaa
open Go.RowKit Go.Shelf

/-- a pixel's colors -/
def pch (p : Px) : List Int := [p.1, p.2.1, p.2.2.1]
def colOf (p : Px) : List Int := (pch p).map (· / 256)
def colsM (l : List Px) : List Int := l.flatMap colOf
theorem colsM_length (l : List Px) : (colsM l).length = 3 * l.length := by
  induction l with
  | nil => rfl
  | cons p l ih => simp only [colsM, List.flatMap_cons, List.length_append, List.length_cons] at *; rw [ih]; simp [colOf, pch]; omega
theorem colsM_snoc (l : List Px) (p : Px) : colsM (l ++ [p]) = colsM l ++ colOf p := by simp [colsM]
def alphasM (l : List Px) : List Int := l.map fun p => p.2.2.2 / 256
theorem alphasM_snoc (l : List Px) (p : Px) : alphasM (l ++ [p]) = alphasM l ++ [p.2.2.2 / 256] := by simp [alphasM]
/-- one behind the last pixel that isn't opaque -/
def lastS (s : Nat × Nat) (p : Px) : Nat × Nat := (s.1 + 1, if p.2.2.2 = 65535 then s.2 else s.1 + 1)
def lastF (l : List Px) : Nat × Nat := l.foldl lastS (0, 0)
def lastM (l : List Px) : Nat := (lastF l).2
theorem lastF_snoc (l : List Px) (p : Px) : lastF (l ++ [p]) = lastS (lastF l) p := by simp [lastF]
theorem lastF_fst (l : List Px) : (lastF l).1 = l.length ∧ (lastF l).2 ≤ l.length := by
  rcases List.eq_nil_or_concat l with rfl | ⟨r, p, rfl⟩
  · exact ⟨rfl, Nat.le_refl _⟩
  · obtain ⟨h1, h2⟩ := lastF_fst r
    rw [List.concat_eq_append, lastF_snoc]
    unfold lastS
    simp only [List.length_append, List.length_singleton]
    refine ⟨by omega, ?_⟩
    split <;> omega
termination_by l.length
decreasing_by simp_all
theorem lastM_le (l : List Px) : lastM l ≤ l.length := (lastF_fst l).2
theorem lastM_snoc (l : List Px) (p : Px) : lastM (l ++ [p]) = if p.2.2.2 = 65535 then lastM l else l.length + 1 := by
  unfold lastM
  rw [lastF_snoc]
  unfold lastS
  simp only [(lastF_fst l).1]
def keyM (k : List Int) : List Int := k.flatMap fun n => [n / 256, n % 256]
theorem keyM_snoc (l : List Int) (n : Int) : keyM (l ++ [n]) = keyM l ++ [n / 256, n % 256] := by simp [keyM]
theorem keyM_length (l : List Int) : (keyM l).length = 2 * l.length := by
  induction l with
  | nil => rfl
  | cons p l ih => simp only [keyM, List.flatMap_cons, List.length_append, List.length_cons] at *; rw [ih]; simp; omega
def clrM (f : Fm) : List Int := (alphasM f.pal).take (lastM f.pal) ++ keyM f.key
theorem clrM_length (f : Fm) : (clrM f).length = lastM f.pal + 2 * f.key.length := by
  unfold clrM
  rw [List.length_append, keyM_length, List.length_take, alphasM, List.length_map, Nat.min_eq_left (lastM_le _)]
theorem px_bd {p : Px} (h : pxOk p = true) : (0 ≤ p.1 ∧ p.1 ≤ 65535) ∧ (0 ≤ p.2.1 ∧ p.2.1 ≤ 65535) ∧ (0 ≤ p.2.2.1 ∧ p.2.2.1 ≤ 65535) ∧ (0 ≤ p.2.2.2 ∧ p.2.2.2 ≤ 65535) := by
  unfold pxOk narrowOk at h
  simp only [Bool.and_eq_true, decide_eq_true_eq] at h
  obtain ⟨⟨⟨⟨⟨_, h1⟩, _⟩, ⟨⟨_, h2⟩, _⟩⟩, ⟨⟨_, h3⟩, _⟩⟩, ⟨⟨_, h4⟩, _⟩⟩ := h
  exact ⟨h1, h2, h3, h4⟩
theorem form_parts {f : Fm} (h : formOk f = true) : headErr f.w f.h f.d f.c f.l = 0 ∧ palB f = true ∧ (∀ p ∈ f.pal, pxOk p = true) ∧ keysB f = true := by
  unfold formOk at h
  simp only [Bool.and_eq_true, decide_eq_true_eq, List.all_eq_true] at h
  exact ⟨h.1.1.1, h.1.1.2, h.1.2, h.2⟩
theorem form_key {f : Fm} (h : formOk f = true) : ∀ n ∈ f.key, 0 ≤ n ∧ n ≤ 65535 := by
  obtain ⟨_, _, _, hk⟩ := form_parts h
  intro n hn
  unfold keysB at hk
  rw [Bool.or_eq_true, decide_eq_true_eq] at hk
  rcases hk with hk | hk
  · rw [List.eq_nil_of_length_eq_zero hk] at hn; cases hn
  · simp only [Bool.and_eq_true, List.all_eq_true] at hk
    have h1 := hk.2 n hn
    unfold keyB at h1
    rw [decide_eq_true_eq] at h1
    have := pw_bd f.d
    omega
theorem own_cut {w : World} {base k n c : Nat} {e : TypeId} {A : Option Addr} {xs : List Value} (h : w.ownsRow base e 1 (.slice A n c) n xs) (hk : k ≤ n) : w.ownsRow base e 1 (.slice A k c) k (xs.take k) := by
  have hl := h.1
  refine ⟨by rw [List.length_take]; omega, ?_⟩
  rcases h.2 with ⟨h1, h2⟩ | ⟨g, cap, cur, h1, h2, h3, h4, h5, h6, h7⟩
  · injection h1 with h1 _ h3
    subst h1 h3
    obtain rfl : k = 0 := by omega
    exact .inl ⟨rfl, rfl⟩
  · injection h1 with h1 _ h8
    subst h1 h8
    refine .inr ⟨g, c, cur, rfl, h2, h3, by omega, h5, h6, ?_⟩
    rw [← h7, List.take_take, Nat.mul_one, Nat.mul_one, Nat.min_eq_left hk]
theorem Two.cut {W w : World} {e : TypeId} {A B : Option Addr} {n c m d k : Nat} {xs ys : List Value} (h : Two W w e 1 A n c xs B m d ys) (hk : k ≤ m) : Two W w e 1 A n c xs B k d (ys.take k) :=
  ⟨h.1, own_cut h.2.1 hk, fun g h1 h2 => h.2.2.1 g h1 (by cases B <;> exact h2), h.2.2.2⟩

/-- a chunk, as its row holds it -/
structure CR where
  nm : ByteArray
  A : Option Addr
  c : Nat
  l : List Int
def encC (z : CR) : List Value := [.string z.nm, .slice z.A z.l.length z.c]
def ihdr : ByteArray := { data := #[73, 72, 68, 82] }
def plte : ByteArray := { data := #[80, 76, 84, 69] }
def trns : ByteArray := { data := #[116, 82, 78, 83] }
theorem chunk_info : (Try.prog.info? 78).map (fun i => (i.zero, i.size, i.bytes)) = some (some (.agg #[.string { data := #[] }, .slice none 0 0]), 2, 40) := by kernel_rfl
def ChOwn (w : World) (base : Nat) (z : CR) : Prop := w.ownsRow base 5 1 (.slice z.A z.l.length z.c) z.l.length (bytesV z.l)
/-- a form's chunks -/
def chunksM (f : Fm) : List (ByteArray × List Int) := (ihdr, hbytes f.w f.h f.d f.c f.l) :: (if f.pal.length = 0 then [] else [(plte, colsM f.pal)]) ++ (if (clrM f).length = 0 then [] else [(trns, clrM f)])
def ChSt (w W : World) (A : Option Addr) (c : Nat) (zs : List CR) : Prop := w.ownsRow W.heap.size 78 2 (.slice A zs.length c) zs.length (zs.flatMap encC) ∧ (∀ z ∈ zs, ChOwn w W.heap.size z) ∧ Below W.heap.size W w
theorem ChOwn.app {w w' W : World} {A A' : Option Addr} {c c' n m base : Nat} {xs ys : List Value} {obj : Obj} {z : CR} (h : w.ownsRow W.heap.size 78 2 (.slice A n c) n xs) (ha : Apped (w.alloc obj) W.heap.size 78 2 A n c xs m ys A' c' w') (hz : ChOwn w base z) : ChOwn w' base z :=
  (hz.alloc obj).kept ha.2.1 (own_own_ne (hz.alloc obj) (h.alloc obj) (by decide))
theorem ChSt.app {w w' W : World} {A A' : Option Addr} {c c' : Nat} {zs : List CR} {obj : Obj} {z : CR} (h : ChSt w W A c zs) (hz : ChOwn w W.heap.size z) (ha : Apped (w.alloc obj) W.heap.size 78 2 A zs.length c (zs.flatMap encC) 1 (encC z) A' c' w') : ChSt w' W A' c' (zs ++ [z]) := by
  refine ⟨?_, fun y hy => ?_, (h.2.2.alloc h.2.2.size obj).trans ha.2.2.1⟩
  · have h1 := ha.1
    rw [List.length_append, List.flatMap_append]
    simpa using h1
  · rcases List.mem_append.1 hy with hy | hy
    · exact (h.2.1 y hy).app h.1 ha
    · rw [List.mem_singleton.1 hy]
      exact hz.app h.1 ha
def ChEnd (f : Fm) (W : World) (e : Ending) (w' : World) : Prop := ∃ A c zs, e = .returned (.tuple #[.slice A zs.length c, .nilIface]) ∧ ChSt w' W A c zs ∧ zs.map (fun z => (z.nm, z.l)) = chunksM f

end Go.Proofs.Ytchkogfgkaaogaa
