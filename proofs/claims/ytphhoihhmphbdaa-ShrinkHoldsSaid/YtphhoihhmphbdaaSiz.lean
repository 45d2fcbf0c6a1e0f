/-
  (raster.Form).Chunks: what it says, in plain words; a row of one's own cut short.
  (raster.Form).Chunks.
  shrink.Size: a form's size.
-/
import Derived.Test.YtphhoihhmphbdaaHPut
import Derived.Test.YtphhoihhmphbdaaShG
import Derived.Test.YtphhoihhmphbdaaPair
import Derived.Test.YtphhoihhmphbdaaPsumP
namespace Go.Proofs.Ytphhoihhmphbdaa
open Go.RowKit Go.Shelf

/-- a pixel's colors -/
def pch (p : Px) : List Int := [p.1, p.2.1, p.2.2.1]
def colOf (p : Px) : List Int := (pch p).map (· / 256)
def colsM (l : List Px) : List Int := l.flatMap colOf
theorem colsM_length (l : List Px) : (colsM l).length = 3 * l.length := by
  induction l with
  | nil => rfl
  | cons p l ih => simp only [colsM, List.flatMap_cons, List.length_append, List.length_cons] at *; rw [ih]; simp [colOf, pch]; omega
theorem colsM_snoc (l : List Px) (p : Px) : colsM (l ++ [p]) = colsM l ++ colOf p := by simp [colsM]
def alphasM (l : List Px) : List Int := l.map fun p => p.2.2.2 / 256
theorem alphasM_snoc (l : List Px) (p : Px) : alphasM (l ++ [p]) = alphasM l ++ [p.2.2.2 / 256] := by simp [alphasM]
/-- one behind the last pixel that isn't opaque -/
def lastS (s : Nat × Nat) (p : Px) : Nat × Nat := (s.1 + 1, if p.2.2.2 = 65535 then s.2 else s.1 + 1)
def lastF (l : List Px) : Nat × Nat := l.foldl lastS (0, 0)
def lastM (l : List Px) : Nat := (lastF l).2
theorem lastF_snoc (l : List Px) (p : Px) : lastF (l ++ [p]) = lastS (lastF l) p := by simp [lastF]
theorem lastF_fst (l : List Px) : (lastF l).1 = l.length ∧ (lastF l).2 ≤ l.length := by
  rcases List.eq_nil_or_concat l with rfl | ⟨r, p, rfl⟩
  · exact ⟨rfl, Nat.le_refl _⟩
  · obtain ⟨h1, h2⟩ := lastF_fst r
    rw [List.concat_eq_append, lastF_snoc]
    unfold lastS
    simp only [List.length_append, List.length_singleton]
    refine ⟨by omega, ?_⟩
    split <;> omega
termination_by l.length
decreasing_by simp_all
theorem lastM_le (l : List Px) : lastM l ≤ l.length := (lastF_fst l).2
theorem lastM_snoc (l : List Px) (p : Px) : lastM (l ++ [p]) = if p.2.2.2 = 65535 then lastM l else l.length + 1 := by
  unfold lastM
  rw [lastF_snoc]
  unfold lastS
  simp only [(lastF_fst l).1]
def keyM (k : List Int) : List Int := k.flatMap fun n => [n / 256, n % 256]
theorem keyM_snoc (l : List Int) (n : Int) : keyM (l ++ [n]) = keyM l ++ [n / 256, n % 256] := by simp [keyM]
theorem keyM_length (l : List Int) : (keyM l).length = 2 * l.length := by
  induction l with
  | nil => rfl
  | cons p l ih => simp only [keyM, List.flatMap_cons, List.length_append, List.length_cons] at *; rw [ih]; simp; omega
def clrM (f : Fm) : List Int := (alphasM f.pal).take (lastM f.pal) ++ keyM f.key
theorem clrM_length (f : Fm) : (clrM f).length = lastM f.pal + 2 * f.key.length := by
  unfold clrM
  rw [List.length_append, keyM_length, List.length_take, alphasM, List.length_map, Nat.min_eq_left (lastM_le _)]
theorem px_bd {p : Px} (h : pxOk p = true) : (0 ≤ p.1 ∧ p.1 ≤ 65535) ∧ (0 ≤ p.2.1 ∧ p.2.1 ≤ 65535) ∧ (0 ≤ p.2.2.1 ∧ p.2.2.1 ≤ 65535) ∧ (0 ≤ p.2.2.2 ∧ p.2.2.2 ≤ 65535) := by
  unfold pxOk narrowOk at h
  simp only [Bool.and_eq_true, decide_eq_true_eq] at h
  obtain ⟨⟨⟨⟨⟨_, h1⟩, _⟩, ⟨⟨_, h2⟩, _⟩⟩, ⟨⟨_, h3⟩, _⟩⟩, ⟨⟨_, h4⟩, _⟩⟩ := h
  exact ⟨h1, h2, h3, h4⟩
theorem form_parts {f : Fm} (h : formOk f = true) : headErr f.w f.h f.d f.c f.l = 0 ∧ palB f = true ∧ (∀ p ∈ f.pal, pxOk p = true) ∧ keysB f = true := by
  unfold formOk at h
  simp only [Bool.and_eq_true, decide_eq_true_eq, List.all_eq_true] at h
  exact ⟨h.1.1.1, h.1.1.2, h.1.2, h.2⟩
theorem form_key {f : Fm} (h : formOk f = true) : ∀ n ∈ f.key, 0 ≤ n ∧ n ≤ 65535 := by
  obtain ⟨_, _, _, hk⟩ := form_parts h
  intro n hn
  unfold keysB at hk
  rw [Bool.or_eq_true, decide_eq_true_eq] at hk
  rcases hk with hk | hk
  · rw [List.eq_nil_of_length_eq_zero hk] at hn; cases hn
  · simp only [Bool.and_eq_true, List.all_eq_true] at hk
    have h1 := hk.2 n hn
    unfold keyB at h1
    rw [decide_eq_true_eq] at h1
    have := pw_bd f.d
    omega
theorem own_cut {w : World} {base k n c : Nat} {e : TypeId} {A : Option Addr} {xs : List Value} (h : w.ownsRow base e 1 (.slice A n c) n xs) (hk : k ≤ n) : w.ownsRow base e 1 (.slice A k c) k (xs.take k) := by
  have hl := h.1
  refine ⟨by rw [List.length_take]; omega, ?_⟩
  rcases h.2 with ⟨h1, h2⟩ | ⟨g, cap, cur, h1, h2, h3, h4, h5, h6, h7⟩
  · injection h1 with h1 _ h3
    subst h1 h3
    obtain rfl : k = 0 := by omega
    exact .inl ⟨rfl, rfl⟩
  · injection h1 with h1 _ h8
    subst h1 h8
    refine .inr ⟨g, c, cur, rfl, h2, h3, by omega, h5, h6, ?_⟩
    rw [← h7, List.take_take, Nat.mul_one, Nat.mul_one, Nat.min_eq_left hk]
theorem Two.cut {W w : World} {e : TypeId} {A B : Option Addr} {n c m d k : Nat} {xs ys : List Value} (h : Two W w e 1 A n c xs B m d ys) (hk : k ≤ m) : Two W w e 1 A n c xs B k d (ys.take k) :=
  ⟨h.1, own_cut h.2.1 hk, fun g h1 h2 => h.2.2.1 g h1 (by cases B <;> exact h2), h.2.2.2⟩

/-- a chunk, as its row holds it -/
structure CR where
  nm : ByteArray
  A : Option Addr
  c : Nat
  l : List Int
def encC (z : CR) : List Value := [.string z.nm, .slice z.A z.l.length z.c]
def ihdr : ByteArray := { data := #[73, 72, 68, 82] }
def plte : ByteArray := { data := #[80, 76, 84, 69] }
def trns : ByteArray := { data := #[116, 82, 78, 83] }
theorem chunk_info : (Try.prog.info? 153).map (fun i => (i.zero, i.size, i.bytes)) = some (some (.agg #[.string { data := #[] }, .slice none 0 0]), 2, 40) := by kernel_rfl
def ChOwn (w : World) (base : Nat) (z : CR) : Prop := w.ownsRow base 5 1 (.slice z.A z.l.length z.c) z.l.length (bytesV z.l)
/-- a form's chunks -/
def chunksM (f : Fm) : List (ByteArray × List Int) := (ihdr, hbytes f.w f.h f.d f.c f.l) :: (if f.pal.length = 0 then [] else [(plte, colsM f.pal)]) ++ (if (clrM f).length = 0 then [] else [(trns, clrM f)])
def ChSt (w W : World) (A : Option Addr) (c : Nat) (zs : List CR) : Prop := w.ownsRow W.heap.size 153 2 (.slice A zs.length c) zs.length (zs.flatMap encC) ∧ (∀ z ∈ zs, ChOwn w W.heap.size z) ∧ Below W.heap.size W w
theorem ChOwn.app {w w' W : World} {A A' : Option Addr} {c c' n m base : Nat} {xs ys : List Value} {obj : Obj} {z : CR} (h : w.ownsRow W.heap.size 153 2 (.slice A n c) n xs) (ha : Apped (w.alloc obj) W.heap.size 153 2 A n c xs m ys A' c' w') (hz : ChOwn w base z) : ChOwn w' base z :=
  (hz.alloc obj).kept ha.2.1 (own_own_ne (hz.alloc obj) (h.alloc obj) (by decide))
theorem ChSt.app {w w' W : World} {A A' : Option Addr} {c c' : Nat} {zs : List CR} {obj : Obj} {z : CR} (h : ChSt w W A c zs) (hz : ChOwn w W.heap.size z) (ha : Apped (w.alloc obj) W.heap.size 153 2 A zs.length c (zs.flatMap encC) 1 (encC z) A' c' w') : ChSt w' W A' c' (zs ++ [z]) := by
  refine ⟨?_, fun y hy => ?_, (h.2.2.alloc h.2.2.size obj).trans ha.2.2.1⟩
  · have h1 := ha.1
    rw [List.length_append, List.flatMap_append]
    simpa using h1
  · rcases List.mem_append.1 hy with hy | hy
    · exact (h.2.1 y hy).app h.1 ha
    · rw [List.mem_singleton.1 hy]
      exact hz.app h.1 ha
def ChEnd (f : Fm) (W : World) (e : Ending) (w' : World) : Prop := ∃ A c zs, e = .returned (.tuple #[.slice A zs.length c, .nilIface]) ∧ ChSt w' W A c zs ∧ zs.map (fun z => (z.nm, z.l)) = chunksM f

end Go.Proofs.Ytphhoihhmphbdaa

namespace Go.Proofs.Ytphhoihhmphbdaa
open Go.RowKit Go.Shelf

set_option maxRecDepth 100000 in
set_option maxHeartbeats 8000000 in
theorem chunks_any (f : Fm) (PA KA : Option Addr) (pc kc : Nat) (W : World) (hf : formOk f = true) (hp : RdP W W.heap.size PA f.pal) (hk : RdI W W.heap.size KA f.key) (hpm : f.pal.length ≤ 1000000) (hkm : f.key.length ≤ 1000000) :
    Calls Try.prog 108 #[.agg #[.int .i64 f.w, .int .i64 f.h, .int .i64 f.d, .int .i64 f.c, .int .i64 f.l, .slice PA f.pal.length pc, .slice KA f.key.length kc]] W (ChEnd f W) := by
  obtain ⟨hh, _, hpx, _⟩ := form_parts hf
  have hkey := form_key hf
  have Hf := hid hf
  have Hp := hid hp
  have Hk := hid hk
  have Hh := hid hh
  have Hpx := hid hpx
  have Hkey := hid hkey
  have Hw := hid (fbw_start f PA KA pc kc W)
  obtain ⟨i0, hi0, hz0, hz1, hz2⟩ := info_parts u8_info
  have Hi0 := hid hi0
  have Hz0 := hid hz0
  have Hz1 := hid hz1
  have Hz2 := hid hz2
  clear hf hp hk hh hpx hkey hi0 hz0 hz1 hz2
  obtain ⟨j0, hj0, hy0, hy1, hy2⟩ := info_parts chunk_info
  have Hj0 := hid hj0
  have Hy0 := hid hy0
  have Hy1 := hid hy1
  have Hy2 := hid hy2
  clear hj0 hy0 hy1 hy2
  go_enter Try.func108, Try.ntmps108
  go_wp2_with fail
  refine (fcheck_any f PA KA pc kc _ (Hw.out.rdp Hp.out) (Hw.out.rdi Hk.out) hpm hkm).mono ?_
  rintro e w1 ⟨he, hb⟩
  rw [Hf.out, if_pos rfl, errv_0] at he
  subst he
  have Hw1 := hid (Hw.out.below hb)
  have q0 := Hw1.out.1.cell 0
  have q1 := Hw1.out.1.cell 1
  have q2 := Hw1.out.1.cell 2
  have q3 := Hw1.out.1.cell 3
  have q4 := Hw1.out.1.cell 4
  simp only [List.getElem?_toArray, List.getElem?_cons_zero, List.getElem?_cons_succ] at q0 q1 q2 q3 q4
  clear hb Hw
  go_wp2_with fail
  refine (hput_any f.w f.h f.d f.c f.l _ Hh.out).mono ?_
  rintro e w2 ⟨Ab, cb, rfl, hown, hb⟩
  have Hw2 := hid (Hw1.out.below hb)
  have Hob := hid (own_base hown Hw1.out.2.size)
  clear hb hown q0 q1 q2 q3 q4 Hw1
  go_upto_region 8 with (fail)
  have Hwb := hid (Hw2.out.alloc (.cells #[.string { data := #[73, 72, 68, 82] }, .slice Ab 13 cb] 153))
  have Hbb := hid (Hob.out.alloc (.cells #[.string { data := #[73, 72, 68, 82] }, .slice Ab 13 cb] 153))
  have Hlb := hid (Blk.new w2 153 #[.string { data := #[73, 72, 68, 82] }, .slice Ab 13 cb])
  have hs2 := Hw2.out.2.size
  have hgb : W.heap.size ≤ w2.heap.size := hs2
  have Hlo := hid (own_blk_full (base := W.heap.size) (n := 1) (size := 2) Hlb.out hgb (by simp [maxLen]) (by simp))
  have hSl := Hlb.out.lt
  generalize w2.alloc (.cells #[.string { data := #[73, 72, 68, 82] }, .slice Ab 13 cb] 153) = wb at *
  generalize w2.heap.size = S at *
  clear hs2
  have hwbs : W.heap.size ≤ wb.heap.size := by omega
  have c1 := Hwb.out.1.cell 5
  simp only [List.getElem?_toArray, List.getElem?_cons_zero, List.getElem?_cons_succ] at c1
  go_upto_region 11 with (fail)
  clear c1
  go_loopw [8, 9, 10, 37] (fun cv lv last i wr => ∃ (j : Nat) (A : Option Addr) (c : Nat) (B : Option Addr) (d : Nat), j ≤ f.pal.length ∧ i = .int .i64 j ∧ cv = .slice A (3 * j) c ∧ lv = .slice B j d ∧ last = .int .i64 (lastM (f.pal.take j) : Nat) ∧ Two wb wr 5 1 A (3 * j) c (bytesV (colsM (f.pal.take j))) B j d (bytesV (alphasM (f.pal.take j)))) (fun _ _ _ i _ => f.pal.length - (intOf i).toNat)
  case atStart => exact ⟨0, none, 0, none, 0, by omega, rfl, rfl, rfl, rfl, two_start wb _ _⟩
  case round =>
    obtain ⟨j, A, c, B, d, hj, rfl, rfl, rfl, rfl, htwo⟩ := hrel
    have Ht := hid htwo
    have hszr := htwo.2.2.2.size
    clear htwo
    by_cases hlt : j < f.pal.length
    · obtain ⟨b, off, rfl, hbb, x0, x1, x2, x3⟩ := px_at (Rd.below Hp.out (Hwb.out.2.trans (Ht.out.2.2.2.mono hwbs)) (Nat.le_refl _)) hlt
      have Hcs := hid (show colsM (f.pal.take (j + 1)) = colsM (f.pal.take j) ++ colOf f.pal[j] by rw [List.take_succ_eq_append_getElem hlt, colsM_snoc])
      have Has := hid (show alphasM (f.pal.take (j + 1)) = alphasM (f.pal.take j) ++ [f.pal[j].2.2.2 / 256] by rw [List.take_succ_eq_append_getElem hlt, alphasM_snoc])
      have Hls := hid (show lastM (f.pal.take (j + 1)) = if f.pal[j].2.2.2 = 65535 then lastM (f.pal.take j) else j + 1 by
        rw [List.take_succ_eq_append_getElem hlt, lastM_snoc, List.length_take, Nat.min_eq_left hj])
      have hbd := px_bd (Hpx.out f.pal[j] (List.getElem_mem hlt))
      generalize f.pal[j] = p at *
      obtain ⟨p0, p1, p2, p3⟩ := p
      simp only at x0 x1 x2 x3 hbd
      have Hbd := hid hbd
      clear hbd
      have Hpb := hid ((Pend.new Ht.out 62 [.int .i64 p0, .int .i64 p1, .int .i64 p2, .int .i64 p3]).alloc (.cells #[.int .i64 p0, .int .i64 p1, .int .i64 p2] 3))
      have Hpl := hid (show Pend ((wr.alloc (.cells #[.int .i64 p0, .int .i64 p1, .int .i64 p2, .int .i64 p3] 62)).alloc (.cells #[.int .i64 p0, .int .i64 p1, .int .i64 p2] 3)) 3 (.slice A (3 * j) c) (.slice B j d) (wr.heap.size + 1) ((pch (p0, p1, p2, p3)).map (Value.int .i64)) from Pend.newp (Ht.out.alloc (.cells #[.int .i64 p0, .int .i64 p1, .int .i64 p2, .int .i64 p3] 62)) 3 ((pch (p0, p1, p2, p3)).map (Value.int .i64)) (by simp))
      have Htw := hid ((Ht.out.alloc (.cells #[.int .i64 p0, .int .i64 p1, .int .i64 p2, .int .i64 p3] 62)).alloc (.cells #[.int .i64 p0, .int .i64 p1, .int .i64 p2] 3))
      go_wp2_with fail
      clear Ht x0 x1 x2 x3
      generalize (wr.alloc (.cells #[.int .i64 p0, .int .i64 p1, .int .i64 p2, .int .i64 p3] 62)).alloc (.cells #[.int .i64 p0, .int .i64 p1, .int .i64 p2] 3) = wi at *
      generalize wr.heap.size = G at *
      clear wr
      go_loopw [8, 50] (fun cv i w5 => ∃ (k : Nat) (A5 : Option Addr) (c5 : Nat), k ≤ 3 ∧ i = .int .i64 k ∧ cv = .slice A5 (3 * j + k) c5 ∧ Two wb w5 5 1 A5 (3 * j + k) c5 (bytesV (colsM (f.pal.take j) ++ (colOf (p0, p1, p2, p3)).take k)) B j d (bytesV (alphasM (f.pal.take j))) ∧ Pend w5 62 (.slice A5 (3 * j + k) c5) (.slice B j d) G [.int .i64 p0, .int .i64 p1, .int .i64 p2, .int .i64 p3] ∧ Pend w5 3 (.slice A5 (3 * j + k) c5) (.slice B j d) (G + 1) ((pch (p0, p1, p2, p3)).map (Value.int .i64))) (fun _ i _ => 3 - (intOf i).toNat)
      case atStart => exact ⟨0, A, c, by omega, rfl, rfl, by simpa using Htw.out, Hpb.out, Hpl.out⟩
      case round =>
        obtain ⟨k, A5, c5, hk, rfl, rfl, ht5, hb5, hl5⟩ := hrel
        have Ht5 := hid ht5
        have Hb5 := hid hb5
        have Hl5 := hid hl5
        have hsz5 := ht5.2.2.2.size
        clear ht5 hb5 hl5 Htw Hpb Hpl
        by_cases hk3 : k < 3
        · have hkl : k < (pch (p0, p1, p2, p3)).length := hk3
          have y0 : wr.cell? ⟨G + 1, k, none⟩ = some (.int .i64 (pch (p0, p1, p2, p3))[k]) := by
            rw [Hl5.out.1.cell k, List.getElem?_toArray, List.getElem?_map, List.getElem?_eq_getElem hkl]
            rfl
          have hx : 0 ≤ (pch (p0, p1, p2, p3))[k] ∧ (pch (p0, p1, p2, p3))[k] ≤ 65535 := by
            obtain ⟨g1, g2, g3, _⟩ := Hbd.out
            have : k = 0 ∨ k = 1 ∨ k = 2 := by omega
            rcases this with rfl | rfl | rfl
            · exact g1
            · exact g2
            · exact g3
          have Htk := hid (show (colOf (p0, p1, p2, p3)).take (k + 1) = (colOf (p0, p1, p2, p3)).take k ++ [(pch (p0, p1, p2, p3))[k] / 256] by
            rw [List.take_succ_eq_append_getElem (show k < (colOf (p0, p1, p2, p3)).length from hk3)]
            simp [colOf])
          generalize (pch (p0, p1, p2, p3))[k] = x at *
          have hwx : IntKind.u8.wrap (x / 256) = x / 256 := wrap_small (by omega) (by omega)
          clear hkl
          go_wp2_with (at_builtin; refine wpList_app _ rfl _ _ _ rfl wb.heap.size 5 i0 (.int .u8 0) 1 1 Try.underlying28 Hi0.out Hz0.out Hz1.out Hz2.out rfl (by omega) A5 (3 * j + k) c5 _ rfl (Ht5.out.1.alloc _) _ _ 1 1 [.int .u8 (x / 256)] rfl (rd_one _ _ _ _ (Blk.new _ _ _)) (by simp) (by simp [Value.oneCell']) (by simp only [maxLen]; omega) (by omega) (by simp; omega) ?_; intro A6 c6 w6 ha6; have Ha6 := hid ha6; clear ha6)
          have h6 := hid ((Ht5.out.alloc _).app Ha6.out)
          go_roundw
          case rel =>
            refine ⟨k + 1, A6, c6, by omega, by go_num, rfl, ?_, h6.out.2 _ _ _ (Hb5.out.alloc _), h6.out.2 _ _ _ (Hl5.out.alloc _)⟩
            rw [Htk.out, ← List.append_assoc]
            have h7 := h6.out.1
            rw [show ([Value.int .u8 (x / 256)] : List Value) = bytesV [x / 256] from rfl, bytesV_append] at h7
            exact h7
          case measure => simp [intOf]; omega
        · obtain rfl : k = 3 := by omega
          have z0 : wr.cell? ⟨G, 3, none⟩ = some (.int .i64 p3) := Hb5.out.1.cell 3
          have hwx : IntKind.u8.wrap (p3 / 256) = p3 / 256 := wrap_small (by have := Hbd.out.2.2.2; omega) (by have := Hbd.out.2.2.2; omega)
          have Hrel := hid (fun (B6 : Option Addr) (d6 : Nat) (w6 : World) (obj : Obj) (ha6 : Apped (wr.alloc obj) wb.heap.size 5 1 B j d (bytesV (alphasM (f.pal.take j))) 1 [Value.int .u8 (p3 / 256)] B6 d6 w6) =>
            show Two wb w6 5 1 A5 (3 * (j + 1)) c5 (bytesV (colsM (f.pal.take (j + 1)))) B6 (j + 1) d6 (bytesV (alphasM (f.pal.take (j + 1)))) by
              have h7 := ((Ht5.out.swap.alloc obj).app ha6).1.swap
              rw [show ([Value.int .u8 (p3 / 256)] : List Value) = bytesV [p3 / 256] from rfl, bytesV_append, show (colOf (p0, p1, p2, p3)).take 3 = colOf (p0, p1, p2, p3) from rfl, ← Hcs.out, ← Has.out] at h7
              exact h7)
          by_cases h3 : p3 = 65535
          · have d3 : (p3 == 65535) = true := beq_iff_eq.2 h3
            have Hl1 := hid (Hls.out.trans (if_pos h3))
            clear h3
            go_wp2_with (at_builtin; refine wpList_app _ rfl _ _ _ rfl wb.heap.size 5 i0 (.int .u8 0) 1 1 Try.underlying28 Hi0.out Hz0.out Hz1.out Hz2.out rfl (by omega) B j d _ rfl (Ht5.out.2.1.alloc _) _ _ 1 1 [.int .u8 (p3 / 256)] rfl (rd_one _ _ _ _ (Blk.new _ _ _)) (by simp) (by simp [Value.oneCell']) (by simp only [maxLen]; omega) (by omega) (by simp; omega) ?_; intro B6 d6 w6 ha6; have z6 := (((Ht5.out.swap.alloc _).app ha6).2 _ _ _ (Hb5.out.swap.alloc _)).1.cell 3; simp only [List.getElem?_toArray, List.getElem?_cons_zero, List.getElem?_cons_succ] at z6; have Ha6 := hid ha6; clear ha6)
            go_roundw
            case rel => exact ⟨j + 1, A5, c5, B6, d6, by omega, by go_num, rfl, rfl, by rw [Hl1.out], Hrel.out _ _ _ _ Ha6.out⟩
            case measure => simp [intOf]; omega
          · have d3 : (p3 == 65535) = false := beq_eq_false_iff_ne.2 h3
            have Hl1 := hid (Hls.out.trans (if_neg h3))
            clear h3
            go_wp2_with (at_builtin; refine wpList_app _ rfl _ _ _ rfl wb.heap.size 5 i0 (.int .u8 0) 1 1 Try.underlying28 Hi0.out Hz0.out Hz1.out Hz2.out rfl (by omega) B j d _ rfl (Ht5.out.2.1.alloc _) _ _ 1 1 [.int .u8 (p3 / 256)] rfl (rd_one _ _ _ _ (Blk.new _ _ _)) (by simp) (by simp [Value.oneCell']) (by simp only [maxLen]; omega) (by omega) (by simp; omega) ?_; intro B6 d6 w6 ha6; have z6 := (((Ht5.out.swap.alloc _).app ha6).2 _ _ _ (Hb5.out.swap.alloc _)).1.cell 3; simp only [List.getElem?_toArray, List.getElem?_cons_zero, List.getElem?_cons_succ] at z6; have Ha6 := hid ha6; clear ha6)
            go_roundw
            case rel => exact ⟨j + 1, A5, c5, B6, d6, by omega, by go_num, rfl, rfl, by rw [Hl1.out]; go_num, Hrel.out _ _ _ _ Ha6.out⟩
            case measure => simp [intOf]; omega
    · obtain rfl : j = f.pal.length := by omega
      simp only [List.take_length] at Ht ⊢
      have hlm := lastM_le f.pal
      go_upto_region 22 with (fail)
      go_cut [9] from 74 to 76 (fun lv wc => lv = .slice B (lastM f.pal) d ∧ wr = wc)
      case first =>
        rcases Ht.out.2.1.2 with ⟨h1, h2⟩ | ⟨g, cap, cur, h1, h2, h3, h4, _⟩
        · injection h1 with h1 _ h8
          subst h1 h8
          have h0 : lastM f.pal = 0 := by omega
          clear h2 hlm
          go_wp2
          go_meet
          exact ⟨by rw [h0], rfl⟩
        · injection h1 with h1 _ h8
          subst h1 h8
          clear h3
          go_wp2
          go_meet
          exact ⟨by simp, rfl⟩
      case rest =>
        obtain ⟨rfl, rfl⟩ := hcut
        have Hc := hid (show Two wb wr 5 1 A (3 * f.pal.length) c (bytesV (colsM f.pal)) B (lastM f.pal) d (bytesV ((alphasM f.pal).take (lastM f.pal))) by
          have h := Ht.out.cut hlm
          rw [show (bytesV (alphasM f.pal)).take (lastM f.pal) = bytesV ((alphasM f.pal).take (lastM f.pal)) by simp [bytesV, List.map_take]] at h
          exact h)
        have k6 := (Hwb.out.1.below Ht.out.2.2.2 Hwb.out.1.lt).cell 6
        simp only [List.getElem?_toArray, List.getElem?_cons_zero, List.getElem?_cons_succ] at k6
        have hgw := Hwb.out.1.lt
        clear Ht
        go_upto_region 24 with (fail)
        clear k6
        go_loopw [9, 80] (fun lv i w7 => ∃ (j : Nat) (B7 : Option Addr) (d7 : Nat), j ≤ f.key.length ∧ i = .int .i64 j ∧ lv = .slice B7 (lastM f.pal + 2 * j) d7 ∧ Two wb w7 5 1 A (3 * f.pal.length) c (bytesV (colsM f.pal)) B7 (lastM f.pal + 2 * j) d7 (bytesV ((alphasM f.pal).take (lastM f.pal) ++ keyM (f.key.take j)))) (fun _ i _ => f.key.length - (intOf i).toNat)
        case atStart => exact ⟨0, B, d, by omega, rfl, rfl, by simpa [keyM] using Hc.out⟩
        case round =>
          obtain ⟨j, B7, d7, hj, rfl, rfl, ht7⟩ := hrel
          have Ht7 := hid ht7
          have hsz7 := ht7.2.2.2.size
          clear ht7 Hc
          by_cases hlt : j < f.key.length
          · obtain ⟨b, off, rfl, hbb, x0⟩ := int_at (Hk.out.below (Hwb.out.2.trans (Ht7.out.2.2.2.mono hwbs)) (Nat.le_refl _)) hlt
            have hx := Hkey.out f.key[j] (List.getElem_mem hlt)
            have Hkt := hid (show keyM (f.key.take (j + 1)) = keyM (f.key.take j) ++ [f.key[j] / 256, f.key[j] % 256] by rw [List.take_succ_eq_append_getElem hlt, keyM_snoc])
            generalize f.key[j] = x at *
            have hwx : IntKind.u8.wrap (x / 256) = x / 256 := wrap_small (by omega) (by omega)
            have hwy : IntKind.u8.wrap x = x % 256 := by rw [IntKind.wrap_u8]
            go_wp2_with (at_builtin; refine wpList_app _ rfl _ _ _ rfl wb.heap.size 5 i0 (.int .u8 0) 1 1 Try.underlying28 Hi0.out Hz0.out Hz1.out Hz2.out rfl (by omega) B7 (lastM f.pal + 2 * j) d7 _ rfl (Ht7.out.2.1.alloc _) _ _ 2 2 [.int .u8 (x / 256), .int .u8 (x % 256)] rfl (rd_all _ _ _ 2 rfl) (by simp) (by simp [Value.oneCell']) (by simp only [maxLen]; omega) (by omega) (by simp; omega) ?_; intro B8 d8 w8 ha8; have Ha8 := hid ha8; clear ha8)
            have H8 := hid ((Ht7.out.swap.alloc _).app Ha8.out).1.swap
            go_roundw
            case rel =>
              refine ⟨j + 1, B8, d8, by omega, by go_num, rfl, ?_⟩
              have h9 := H8.out
              rw [show ([Value.int .u8 (x / 256), Value.int .u8 (x % 256)] : List Value) = bytesV [x / 256, x % 256] from rfl, bytesV_append, List.append_assoc, ← Hkt.out] at h9
              exact h9
            case measure => simp [intOf]; omega
          · obtain rfl : j = f.key.length := by omega
            simp only [List.take_length] at Ht7
            have HS0 := hid (show ChSt wr W (some ⟨S, 0, none⟩) 1 [⟨ihdr, Ab, cb, hbytes f.w f.h f.d f.c f.l⟩] from
              ⟨own_below Hlo.out Ht7.out.2.2.2 (Nat.le_refl _), fun z hz => by rw [List.mem_singleton.1 hz]; exact own_below Hbb.out Ht7.out.2.2.2 (Nat.le_refl _), Hwb.out.2.trans (Ht7.out.2.2.2.mono hwbs)⟩)
            have hlc := colsM_length f.pal
            have hll := clrM_length f
            have Hcc := hid (show ChOwn wr W.heap.size ⟨plte, A, c, colsM f.pal⟩ by
              unfold ChOwn
              rw [hlc]
              exact own_base Ht7.out.1 hwbs)
            have Haa := hid (show ChOwn wr W.heap.size ⟨trns, B7, d7, clrM f⟩ by
              unfold ChOwn
              rw [hll]
              exact own_base Ht7.out.2.1 hwbs)
            have hszw := Ht7.out.2.2.2.size
            clear hlc hll
            generalize (some (⟨S, 0, none⟩ : Addr)) = A0 at HS0 ⊢
            go_upto_if 95 with (fail)
            go_cut [7] from 95 to 100 (fun lst w9 => ∃ (A9 : Option Addr) (c9 : Nat) (zs : List CR), lst = .slice A9 zs.length c9 ∧ ChSt w9 W A9 c9 zs ∧ zs.length ≤ 2 ∧ ChOwn w9 W.heap.size ⟨trns, B7, d7, clrM f⟩ ∧ zs.map (fun z => (z.nm, z.l)) = (ihdr, hbytes f.w f.h f.d f.c f.l) :: (if f.pal.length = 0 then [] else [(plte, colsM f.pal)]))
            case first =>
              by_cases hn : f.pal.length = 0
              · have Hn := hid hn
                have d1 : decide ((0 : Int) < ((3 * f.pal.length : Nat) : Int)) = false := decide_eq_false (by omega)
                have d2 : decide ((0 : Int) < 3 * (f.pal.length : Int)) = false := decide_eq_false (by omega)
                have d3 : decide (0 < f.pal.length) = false := decide_eq_false (by omega)
                have d4 : decide ((0 : Int) < (f.pal.length : Int)) = false := decide_eq_false (by omega)
                have hn1 : ¬ (0 < f.pal.length) := by omega
                clear hn
                go_wp2
                go_meet
                exact ⟨_, _, _, rfl, HS0.out, by simp, Haa.out, by rw [if_pos Hn.out]; rfl⟩
              · have Hn := hid hn
                have d1 : decide ((0 : Int) < ((3 * f.pal.length : Nat) : Int)) = true := decide_eq_true (by omega)
                have d2 : decide ((0 : Int) < 3 * (f.pal.length : Int)) = true := decide_eq_true (by omega)
                have d3 : decide (0 < f.pal.length) = true := decide_eq_true (by omega)
                have d4 : decide ((0 : Int) < (f.pal.length : Int)) = true := decide_eq_true (by omega)
                have hn1 : 0 < f.pal.length := by omega
                have He1 := hid (show encC ⟨plte, A, c, colsM f.pal⟩ = [.string { data := #[80, 76, 84, 69] }, .slice A (3 * f.pal.length) c] by unfold encC; simp only [colsM_length]; rfl)
                clear hn
                go_wp2_with (at_builtin; refine wpList_app _ rfl _ _ _ rfl W.heap.size 153 j0 (.agg #[.string { data := #[] }, .slice none 0 0]) 2 40 Try.underlying149 Hj0.out Hy0.out Hy1.out Hy2.out rfl (by omega) A0 1 1 _ rfl (HS0.out.1.alloc _) _ _ 1 1 [.string { data := #[80, 76, 84, 69] }, .slice A (3 * f.pal.length) c] rfl (rd_one _ _ _ _ (Blk.new _ _ _)) (by simp) (by simp [Value.oneCell']) (by simp only [maxLen]; omega) (by omega) (by simp; omega) ?_; intro A9 c9 w9 ha9; have Ha9 := hid ha9; clear ha9)
                go_meet
                have ha := Ha9.out
                rw [← He1.out] at ha
                exact ⟨A9, c9, _, rfl, HS0.out.app Hcc.out ha, by simp, Haa.out.app HS0.out.1 ha, by rw [if_neg Hn.out]; rfl⟩
            case rest =>
              obtain ⟨A9, c9, zs, rfl, hst, hz2, haa, hmap⟩ := hcut
              have Hst := hid hst
              have Haa9 := hid haa
              have Hmap := hid hmap
              have hsz9 := hst.2.2.size
              clear hst haa hmap HS0 Hcc Haa
              have hll := clrM_length f
              by_cases hm : lastM f.pal + 2 * f.key.length = 0
              · have Hm := hid (show (clrM f).length = 0 by omega)
                have d1 : decide ((0 : Int) < ((lastM f.pal + 2 * f.key.length : Nat) : Int)) = false := decide_eq_false (by omega)
                have d2 : decide ((0 : Int) < (lastM f.pal : Int) + 2 * (f.key.length : Int)) = false := decide_eq_false (by omega)
                have d3 : ¬ ((0 : Int) < (lastM f.pal : Int) + 2 * (f.key.length : Int)) := by omega
                clear hm hll
                go_wp2
                go_ret2
                refine ⟨A9, c9, zs, rfl, Hst.out, ?_⟩
                rw [Hmap.out]
                unfold chunksM
                rw [if_pos Hm.out, List.append_nil]
              · have Hm := hid (show ¬ (clrM f).length = 0 by omega)
                have d1 : decide ((0 : Int) < ((lastM f.pal + 2 * f.key.length : Nat) : Int)) = true := decide_eq_true (by omega)
                have d2 : decide ((0 : Int) < (lastM f.pal : Int) + 2 * (f.key.length : Int)) = true := decide_eq_true (by omega)
                have d3 : (0 : Int) < (lastM f.pal : Int) + 2 * (f.key.length : Int) := by omega
                have He2 := hid (show encC ⟨trns, B7, d7, clrM f⟩ = [.string { data := #[116, 82, 78, 83] }, .slice B7 (lastM f.pal + 2 * f.key.length) d7] by unfold encC; simp only [clrM_length]; rfl)
                clear hm hll
                go_wp2_with (at_builtin; refine wpList_app _ rfl _ _ _ rfl W.heap.size 153 j0 (.agg #[.string { data := #[] }, .slice none 0 0]) 2 40 Try.underlying149 Hj0.out Hy0.out Hy1.out Hy2.out rfl (by omega) A9 zs.length c9 _ rfl (Hst.out.1.alloc _) _ _ 1 1 [.string { data := #[116, 82, 78, 83] }, .slice B7 (lastM f.pal + 2 * f.key.length) d7] rfl (rd_one _ _ _ _ (Blk.new _ _ _)) (by simp) (by simp [Value.oneCell']) (by simp only [maxLen]; omega) (by omega) (by simp; omega) ?_; intro A10 c10 w10 ha10; have Ha10 := hid ha10; clear ha10)
                go_ret2
                have ha := Ha10.out
                rw [← He2.out] at ha
                refine ⟨A10, c10, zs ++ [⟨trns, B7, d7, clrM f⟩], by rw [List.length_append]; rfl, Hst.out.app Haa9.out ha, ?_⟩
                rw [List.map_append, Hmap.out]
                unfold chunksM
                rw [if_neg Hm.out]
                rfl

end Go.Proofs.Ytphhoihhmphbdaa

namespace Go.Proofs.Ytphhoihhmphbdaa
open Go.RowKit Go.Shelf

def csum (xs : List (ByteArray × List Int)) : Int := xs.foldl (fun s x => s + (12 + (x.2.length : Int))) 0
theorem csum_snoc (pre : List (ByteArray × List Int)) (x : ByteArray × List Int) : csum (pre ++ [x]) = csum pre + (12 + (x.2.length : Int)) := by simp [csum]
theorem csum_bd : ∀ (n : Nat) (xs : List (ByteArray × List Int)), xs.length = n → (∀ x ∈ xs, x.2.length ≤ 3000000) → 0 ≤ csum xs ∧ csum xs ≤ n * 3000012
  | 0, xs, h0, _ => by rw [List.eq_nil_of_length_eq_zero h0]; simp [csum]
  | n + 1, xs, h0, hx => by
    rcases List.eq_nil_or_concat xs with rfl | ⟨pre, x, rfl⟩
    · simp at h0
    · rw [List.concat_eq_append] at *
      have hl : pre.length = n := by simpa using h0
      obtain ⟨e2, e3⟩ := csum_bd n pre hl (fun y hy => hx y (List.mem_append_left _ hy))
      have x1 := hx x (by simp)
      rw [csum_snoc]
      exact ⟨by omega, by push_cast; omega⟩
/-- a form's size -/
def sizeM (f : Fm) : Int := if formOk f = true then dataM f.w f.h f.d f.c f.l + csum (chunksM f).tail else 0
theorem chunks_len (f : Fm) : (chunksM f).length ≤ 3 := by
  unfold chunksM
  simp only [List.length_append, List.length_cons]
  split <;> split <;> simp
theorem chunks_bd {f : Fm} (hpm : f.pal.length ≤ 1000000) (hkm : f.key.length ≤ 1000000) : ∀ x ∈ (chunksM f).tail, x.2.length ≤ 3000000 := by
  intro x hx
  unfold chunksM at hx
  have hx : x ∈ (if f.pal.length = 0 then [] else [(plte, colsM f.pal)]) ++ (if (clrM f).length = 0 then [] else [(trns, clrM f)]) := hx
  have h1 := colsM_length f.pal
  have h2 := clrM_length f
  have h3 := lastM_le f.pal
  rcases List.mem_append.1 hx with hx | hx
  · split at hx
    · cases hx
    · rw [List.mem_singleton.1 hx]
      show (colsM f.pal).length ≤ 3000000
      omega
  · split at hx
    · cases hx
    · rw [List.mem_singleton.1 hx]
      show (clrM f).length ≤ 3000000
      omega
set_option maxRecDepth 100000 in
set_option maxHeartbeats 4000000 in
theorem chunks_no (f : Fm) (PA KA : Option Addr) (pc kc : Nat) (W : World) (hf : formOk f = false) (hp : RdP W W.heap.size PA f.pal) (hk : RdI W W.heap.size KA f.key) (hpm : f.pal.length ≤ 1000000) (hkm : f.key.length ≤ 1000000) :
    Calls Try.prog 108 #[.agg #[.int .i64 f.w, .int .i64 f.h, .int .i64 f.d, .int .i64 f.c, .int .i64 f.l, .slice PA f.pal.length pc, .slice KA f.key.length kc]] W fun e w' => e = .returned (.tuple #[.slice none 0 0, .iface 42 (.int .i64 6)]) ∧ Below W.heap.size W w' := by
  have Hf := hid hf
  have Hp := hid hp
  have Hk := hid hk
  have Hw := hid (fbw_start f PA KA pc kc W)
  clear hf hp hk
  go_enter Try.func108, Try.ntmps108
  go_wp2_with fail
  refine (fcheck_any f PA KA pc kc _ (Hw.out.rdp Hp.out) (Hw.out.rdi Hk.out) hpm hkm).mono ?_
  rintro e w1 ⟨he, hb⟩
  rw [Hf.out, if_neg (by simp)] at he
  subst he
  have Hw1 := hid (Hw.out.below hb)
  clear hb Hw
  simp only [show errv 6 = Value.iface 42 (.int .i64 6) from rfl]
  go_wp2
  go_ret2
  exact ⟨rfl, Hw1.out.2⟩
set_option maxRecDepth 100000 in
set_option maxHeartbeats 8000000 in
theorem size_no (f : Fm) (PA KA : Option Addr) (pc kc : Nat) (W : World) (hf : formOk f = false) (hp : RdP W W.heap.size PA f.pal) (hk : RdI W W.heap.size KA f.key) (hpm : f.pal.length ≤ 1000000) (hkm : f.key.length ≤ 1000000) :
    Calls Try.prog 63 #[.agg #[.int .i64 f.w, .int .i64 f.h, .int .i64 f.d, .int .i64 f.c, .int .i64 f.l, .slice PA f.pal.length pc, .slice KA f.key.length kc]] W fun e w' => e = .returned (.int .i64 0) ∧ Below W.heap.size W w' := by
  have Hp := hid hp
  have Hk := hid hk
  have Hw := hid (fbw_start f PA KA pc kc W)
  clear hp hk
  go_enter Try.func63, Try.ntmps63
  go_wp2_with fail
  refine (chunks_no f PA KA pc kc _ hf (Hw.out.rdp Hp.out) (Hw.out.rdi Hk.out) hpm hkm).mono ?_
  rintro e w1 ⟨rfl, hb⟩
  have Hw1 := hid (Hw.out.below hb)
  clear hb Hw
  go_wp2
  go_ret
  exact ⟨rfl, Hw1.out.2⟩
set_option maxRecDepth 100000 in
set_option maxHeartbeats 8000000 in
theorem size_yes (f : Fm) (PA KA : Option Addr) (pc kc : Nat) (W : World) (hf : formOk f = true) (hp : RdP W W.heap.size PA f.pal) (hk : RdI W W.heap.size KA f.key) (hpm : f.pal.length ≤ 1000000) (hkm : f.key.length ≤ 1000000) :
    Calls Try.prog 63 #[.agg #[.int .i64 f.w, .int .i64 f.h, .int .i64 f.d, .int .i64 f.c, .int .i64 f.l, .slice PA f.pal.length pc, .slice KA f.key.length kc]] W fun e w' => e = .returned (.int .i64 (dataM f.w f.h f.d f.c f.l + csum (chunksM f).tail)) ∧ Below W.heap.size W w' := by
  have Hp := hid hp
  have Hk := hid hk
  have Hw := hid (fbw_start f PA KA pc kc W)
  obtain ⟨m1, m2⟩ := (dataM_eq (form_parts hf).1).2
  clear hp hk
  go_enter Try.func63, Try.ntmps63
  go_wp2_with fail
  refine (chunks_any f PA KA pc kc _ hf (Hw.out.rdp Hp.out) (Hw.out.rdi Hk.out) hpm hkm).mono ?_
  rintro e w1 ⟨A, c, zs, rfl, hst, hmap⟩
  have hb := hst.2.2
  have Hw1 := hid (Hw.out.below hb)
  have Hst := hid hst
  have Hmap := hid hmap
  have q0 := Hw1.out.1.cell 0
  have q1 := Hw1.out.1.cell 1
  have q2 := Hw1.out.1.cell 2
  have q3 := Hw1.out.1.cell 3
  have q4 := Hw1.out.1.cell 4
  simp only [List.getElem?_toArray, List.getElem?_cons_zero, List.getElem?_cons_succ] at q0 q1 q2 q3 q4
  clear hb Hw hst hmap
  go_wp2_with fail
  refine (data_any f.w f.h f.d f.c f.l _).mono ?_
  rintro e w2 ⟨rfl, hb⟩
  have hlz : zs.length = (chunksM f).length := by rw [← Hmap.out, List.length_map]
  have hlz3 := chunks_len f
  have hlz1 : 1 ≤ zs.length := by rw [hlz]; unfold chunksM; simp
  obtain ⟨A', c', hAc, hcap⟩ := own_form Hst.out.1
  injection hAc with hA1 _ hc1
  subst hA1 hc1
  obtain ⟨g, rfl, hg1, hg2⟩ := own_block Hst.out.1 (by omega)
  have Hrd := hid (own_rd (own_below Hst.out.1 hb (Nat.le_refl _)))
  have Hw2 := hid (Hw1.out.below hb)
  have Hcb := hid (chunks_bd (f := f) hpm hkm)
  have hw12 := hb.size
  have hzl : zs.length ≤ 3 := by omega
  clear hb Hst q0 q1 q2 q3 q4 Hw1 hlz hlz3
  obtain ⟨z0, zt, rfl⟩ : ∃ z0 zt, zs = z0 :: zt := by
    cases zs with
    | nil => simp at hlz1
    | cons z0 zt => exact ⟨z0, zt, rfl⟩
  have Htl := hid (show (chunksM f).tail = zt.map (fun z => (z.nm, z.l)) by rw [← Hmap.out]; rfl)
  have hzt : zt.length ≤ 2 := by simpa using hzl
  have hat : ∀ k, k < zt.length → ∀ o u, o < 2 → (encC (zt.getD k z0))[o]? = some u → w2.cell? ⟨g, 2 + k * 2 + o, none⟩ = some u := by
    intro k hk o u ho hu
    obtain ⟨b, off, hA, hb, hc⟩ := Hrd.out.at_ (k := 0) (by simp) (by omega)
    simp only [Option.some.injEq, Addr.mk.injEq] at hA
    obtain ⟨rfl, rfl, _⟩ := hA
    have h1 := hc ((k + 1) * 2 + o) u (by
      rw [flat_at encC 2 (z0 :: zt) (fun _ _ => rfl) (k + 1) o (zt.getD k z0) (by rw [List.getElem?_cons_succ, List.getD_eq_getElem?_getD, List.getElem?_eq_getElem hk]; rfl) ho]
      exact hu)
    rw [show 0 + ((k + 1) * 2 + o) = 2 + k * 2 + o by omega] at h1
    exact h1
  have Hat := hid hat
  simp only [List.length_cons] at hlz1 hzl hcap
  clear hat Hrd hlz1 hzl Hmap
  simp only [List.length_cons]
  go_upto_region 5 with (fail)
  go_cut [19, 20, 21] from 18 to 21 (fun sl ln i wc => ∃ off cc : Nat, sl = .slice (some ⟨g, off, none⟩) zt.length cc ∧ (0 < zt.length → off = 2) ∧ ln = .int .i64 (zt.length : Nat) ∧ i = .int .i64 0 ∧ w2 = wc)
  case first =>
    by_cases h1 : c = 1
    · subst h1
      have Hz := hid (show zt.length = 0 by omega)
      go_wp2
      go_meet
      exact ⟨0, 0, by simp [Hz.out], fun h => absurd h (by rw [Hz.out]; omega), by simp [Hz.out], rfl, rfl⟩
    · go_wp2
      go_meet
      exact ⟨2, c - 1, by simp, fun _ => rfl, rfl, rfl, rfl⟩
  case rest =>
  obtain ⟨off, cc, rfl, hoff, rfl, rfl, rfl⟩ := hcut
  go_upto_region 6 with (fail)
  go_loopw [5, 21] (fun sv i wr => ∃ k : Nat, k ≤ zt.length ∧ i = .int .i64 k ∧ sv = .int .i64 (dataM f.w f.h f.d f.c f.l + csum ((zt.take k).map (fun z => (z.nm, z.l)))) ∧ Below w2.heap.size w2 wr) (fun _ i _ => zt.length - (intOf i).toNat)
  case atStart => exact ⟨0, by omega, rfl, by simp [csum], Below.refl _ _⟩
  case round =>
    obtain ⟨k, hk, rfl, rfl, hbr⟩ := hrel
    have Hbr := hid hbr
    have hsr := hbr.size
    clear hbr
    have hcb := csum_bd k ((zt.take k).map (fun z => (z.nm, z.l))) (by rw [List.length_map, List.length_take, Nat.min_eq_left hk]) (fun x hx => Hcb.out x (by
      rw [Htl.out]
      exact (List.map_subset _ (List.take_subset _ _)) hx))
    have hkb : (k : Int) * 3000012 ≤ 2 * 3000012 := by omega
    by_cases hlt : k < zt.length
    · have hg : zt.getD k z0 = zt[k] := by rw [List.getD_eq_getElem?_getD, List.getElem?_eq_getElem hlt]; rfl
      obtain rfl := hoff (by omega)
      have x0 := (Hbr.out.cell (p := ⟨g, 2 + k * 2 + 0, none⟩) (by show g < w2.heap.size; have := Hw2.out.1.lt; omega)).trans (Hat.out k hlt 0 (.string zt[k].nm) (by omega) (by rw [hg]; rfl))
      have x1 := (Hbr.out.cell (p := ⟨g, 2 + k * 2 + 1, none⟩) (by show g < w2.heap.size; have := Hw2.out.1.lt; omega)).trans (Hat.out k hlt 1 (.slice zt[k].A zt[k].l.length zt[k].c) (by omega) (by rw [hg]; rfl))
      have hzb : zt[k].l.length ≤ 3000000 := Hcb.out (zt[k].nm, zt[k].l) (by rw [Htl.out]; exact List.mem_map_of_mem (List.getElem_mem hlt))
      have Hsn := hid (show csum ((zt.take (k + 1)).map (fun z => (z.nm, z.l))) = csum ((zt.take k).map (fun z => (z.nm, z.l))) + (12 + (zt[k].l.length : Int)) by
        rw [List.take_succ_eq_append_getElem hlt, List.map_append, List.map_singleton, csum_snoc])
      simp only [Nat.add_zero] at x0
      clear hg
      generalize zt[k] = z at *
      generalize csum ((zt.take k).map (fun z => (z.nm, z.l))) = cs at *
      obtain ⟨hcb1, hcb2⟩ := hcb
      go_wp2
      go_roundw
      case rel => exact ⟨k + 1, by omega, by go_num, by rw [Hsn.out]; congr 1; omega, Hbr.out.alloc hsr _⟩
      case measure => simp [intOf]; omega
    · obtain rfl : k = zt.length := by omega
      have Hfin := hid (show csum ((zt.take zt.length).map (fun z => (z.nm, z.l))) = csum (chunksM f).tail by rw [List.take_length, Htl.out])
      rw [Hfin.out] at hcb ⊢
      obtain ⟨hcb1, hcb2⟩ := hcb
      go_wp2
      go_ret
      exact ⟨rfl, Hw2.out.2.trans (Hbr.out.mono Hw2.out.2.size)⟩
theorem size_f (f : Fm) (PA KA : Option Addr) (pc kc : Nat) (W : World) (hp : RdP W W.heap.size PA f.pal) (hk : RdI W W.heap.size KA f.key) (hpm : f.pal.length ≤ 1000000) (hkm : f.key.length ≤ 1000000) :
    Calls Try.prog 63 #[.agg #[.int .i64 f.w, .int .i64 f.h, .int .i64 f.d, .int .i64 f.c, .int .i64 f.l, .slice PA f.pal.length pc, .slice KA f.key.length kc]] W fun e w' => e = .returned (.int .i64 (sizeM f)) ∧ Below W.heap.size W w' := by
  unfold sizeM
  cases hf : formOk f
  · rw [if_neg (by simp)]
    exact size_no f PA KA pc kc W hf hp hk hpm hkm
  · rw [if_pos rfl]
    exact size_yes f PA KA pc kc W hf hp hk hpm hkm

end Go.Proofs.Ytphhoihhmphbdaa
