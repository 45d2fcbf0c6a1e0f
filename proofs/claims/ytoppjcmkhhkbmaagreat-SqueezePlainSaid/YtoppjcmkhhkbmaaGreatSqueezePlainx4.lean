/-
  bits.Reader: what both orders share.
  bits.Reader in the high order: made, asked, read.
  bits.Reader: made, asked, read, in the low order.
  (*canon.Book).Read: a symbol by the rows of a book.
  Slices of bytes as strings.
  Slices of bytes as strings; burnishnum.Same, Copy and Kept.
  What tokens come to, in plain Lean: the errors in their order, the bytes.
  inflate.LengthBase, DistBase, LengthSymbol, DistSymbol: what each returns for every number.
  inflate.LengthSymbol, DistSymbol; burnishref06.Lens, Dists: what they return.
  Unpacking, in plain Lean: what bits say, from a place, onto tokens.
  What runs of lengths come to: the plain law, and burnishref10.Unruns.
  math/bits.Mul, and slices.Repeat of one number.
  zlib.Window: the least window of any tokens.
  block.reach and block.Unruns.
  For block.Runs: which lengths are out of form, and how many from a place on are the same.
  The plain law of block.Runs: its runs come to the lengths, and are no more than these.
-/
import Derived.Test.YtoppjcmkhhkbmaaGreatSqueezePlainx1
import Derived.Test.YtoppjcmkhhkbmaaGreatSqueezePlainx2
import Derived.Test.YtoppjcmkhhkbmaaGreatSqueezePlainx3
import Derived.Deep.DeepCutAuto
import Derived.Deep.CutRange
import Derived.Deep.CutBlock
import Derived.Deep.RegionHeld3
import Derived.BigRegion
import Derived.Laws.Cover4
import Derived.Laws.BytesArg
import Derived.Laws.CopyOwn
import Derived.Laws.MakeOwn
import Derived.Lib.Mul64
import Derived.Laws.Bits64b
import Derived.Shelf.Bits.Mul64
import Derived.Deep.RegionLaw
namespace Go.Proofs.YtoppjcmkhhkbmaaGreat
open Go.RowKit

theorem gr_set1 {w w0 : World} {g : Nat} (h : w0.grownBy w (some g)) (i : Nat) (u : Value) : w0.grownBy (w.setCell ⟨g, i, none⟩ u) (some g) :=
  ⟨h.os, h.tape, h.output, by simpa using h.size, fun k hk hr => (Below.heap_setCell w ⟨g, i, none⟩ u k (fun e => hr (by rw [e]))).trans (h.block k hk hr)⟩
end Go.Proofs.YtoppjcmkhhkbmaaGreat

namespace Go.Proofs.YtoppjcmkhhkbmaaGreat
open Go.RowKit
/-- a reader in memory, in the high order, so many bits read -/
structure BRH (w : World) (g : Nat) (A : Option Addr) (c : Nat) (bl : List Int) (k : Nat) : Prop where
  blk : Blk w g 230 #[.bool true, .slice A bl.length c, .int .i64 (k : Int)]
  row : w.ownsRow 0 5 1 (.slice A bl.length c) bl.length (bytesV bl)
  ok : ∀ x ∈ bl, isB x
  len : bl.length ≤ 10000000
  at_ : k ≤ 8 * bl.length
theorem BRH.ne {w : World} {g : Nat} {A : Option Addr} {c : Nat} {bl : List Int} {k : Nat} (h : BRH w g A c bl k) : (Value.slice A bl.length c).ownBlock = none ∨ (Value.slice A bl.length c).ownBlock ≠ some g :=
  .inr (fun e => own_blk_ne h.row h.blk (by decide) e.symm)
theorem BRH.below {w w' : World} {g : Nat} {A : Option Addr} {c : Nat} {bl : List Int} {k : Nat} (h : BRH w g A c bl k) (hb : Below w.heap.size w w') : BRH w' g A c bl k :=
  ⟨h.blk.below hb h.blk.lt, own_below h.row hb (Nat.le_refl _), h.ok, h.len, h.at_⟩
theorem BRH.turn {w w' : World} {g : Nat} {A : Option Addr} {c : Nat} {bl : List Int} {k j : Nat} (h : BRH w g A c bl k) (hg : w.grownBy w' (some g)) (hb : Blk w' g 230 #[.bool true, .slice A bl.length c, .int .i64 (j : Int)]) (hj : j ≤ 8 * bl.length) : BRH w' g A c bl j :=
  ⟨hb, h.row.kept hg h.ne, h.ok, h.len, hj⟩
end Go.Proofs.YtoppjcmkhhkbmaaGreat

namespace Go.Proofs.YtoppjcmkhhkbmaaGreat
open Go.RowKit

/-- a reader in memory, in the low order, so many bits read -/
structure BR (w : World) (g : Nat) (A : Option Addr) (c : Nat) (bl : List Int) (k : Nat) : Prop where
  blk : Blk w g 230 #[.bool false, .slice A bl.length c, .int .i64 (k : Int)]
  row : w.ownsRow 0 5 1 (.slice A bl.length c) bl.length (bytesV bl)
  ok : ∀ x ∈ bl, isB x
  len : bl.length ≤ 10000000
  at_ : k ≤ 8 * bl.length
theorem BR.ne {w : World} {g : Nat} {A : Option Addr} {c : Nat} {bl : List Int} {k : Nat} (h : BR w g A c bl k) : (Value.slice A bl.length c).ownBlock = none ∨ (Value.slice A bl.length c).ownBlock ≠ some g :=
  .inr (fun e => own_blk_ne h.row h.blk (by decide) e.symm)
theorem BR.below {w w' : World} {g : Nat} {A : Option Addr} {c : Nat} {bl : List Int} {k : Nat} (h : BR w g A c bl k) (hb : Below w.heap.size w w') : BR w' g A c bl k :=
  ⟨h.blk.below hb h.blk.lt, own_below h.row hb (Nat.le_refl _), h.ok, h.len, h.at_⟩
theorem BR.turn {w w' : World} {g : Nat} {A : Option Addr} {c : Nat} {bl : List Int} {k j : Nat} (h : BR w g A c bl k) (hg : w.grownBy w' (some g)) (hb : Blk w' g 230 #[.bool false, .slice A bl.length c, .int .i64 (j : Int)]) (hj : j ≤ 8 * bl.length) : BR w' g A c bl j :=
  ⟨hb, h.row.kept hg h.ne, h.ok, h.len, hj⟩
end Go.Proofs.YtoppjcmkhhkbmaaGreat

namespace Go.Proofs.YtoppjcmkhhkbmaaGreat
open Go.RowKit

def FN (l : List Int) (n : Nat) : Nat := (fstC (codesL l) (selN l (ordL l) n)).toNat
theorem below_alloc1 (w : World) (o : Obj) : Below w.heap.size w (w.alloc o) := (Below.refl _ _).alloc (Nat.le_refl _) o
end Go.Proofs.YtoppjcmkhhkbmaaGreat

namespace Go.Proofs.YtoppjcmkhhkbmaaGreat
open Go.RowKit

theorem conv_bytes {w : World} {B : Nat} {A : Option Addr} {l : List Int} {c : Nat} (h : Rd w B 1 A l.length (bytesV l)) :
    (Go.convert 22 9 (.slice A l.length c)).run Tryz.prog w = .ok (.string (strOfNums l)) w := by
  by_cases hl : l = []
  · subst hl
    cases A with
    | none => exact run_convert_bytes_nil w _ _ Tryz.underlying22 Tryz.underlying5 0 c _ Tryz.underlying9
    | some a =>
      rw [run_convert_bytes_string w _ _ _ _ _ _ Tryz.underlying22 Tryz.underlying5 Tryz.underlying9]
      rfl
  · have hpos : 0 < l.length := List.length_pos_iff.2 hl
    obtain ⟨b, off, rfl, _, hc⟩ := Rd.at_ h hpos (by omega)
    exact run_convert_bytes_arg w _ _ Tryz.underlying22 Tryz.underlying5 b off _ c l rfl (fun i hi => hc i _ (by simp [bytesV, List.getD, List.getElem?_eq_getElem hi])) _ Tryz.underlying9
end Go.Proofs.YtoppjcmkhhkbmaaGreat

namespace Go.Proofs.YtoppjcmkhhkbmaaGreat
open Go.RowKit

theorem same_any (A B : Option Addr) (c d : Nat) (l m : List Int) (W : World) (K : Nat) (h1 : Rd W K 1 A l.length (bytesV l)) (h2 : Rd W K 1 B m.length (bytesV m)) :
    Calls Tryz.prog 11 #[.slice A l.length c, .slice B m.length d] W fun e w' => e = .returned (.bool ((strOfNums l).toList == (strOfNums m).toList)) ∧ W = w' := by
  have k1 := conv_bytes (c := c) h1
  have k2 := conv_bytes (c := d) h2
  clear h1 h2
  generalize strOfNums l = x at *
  generalize strOfNums m = y at *
  go_enter Tryz.func11, Tryz.ntmps11
  go_wp2
  go_ret
  exact ⟨rfl, rfl⟩
theorem same_refl (A B : Option Addr) (c d : Nat) (l : List Int) (W : World) (K : Nat) (h1 : Rd W K 1 A l.length (bytesV l)) (h2 : Rd W K 1 B l.length (bytesV l)) :
    Calls Tryz.prog 11 #[.slice A l.length c, .slice B l.length d] W fun e w' => e = .returned (.bool true) ∧ W = w' :=
  (same_any A B c d l l W K h1 h2).mono fun e w' ⟨he, hw⟩ => ⟨by rw [he]; simp, hw⟩

/-- a copy of bytes, with its marks in its spare room -/
def CopiedB (l : List Int) (W : World) (e : Ending) (w' : World) : Prop :=
  e = .returned (.slice (some ⟨W.heap.size, 0, none⟩) l.length (l.length + 2)) ∧ Blk w' W.heap.size 5 (bytesV l ++ [Value.int .u8 165, Value.int .u8 90]).toArray ∧ Below W.heap.size W w'

set_option maxRecDepth 100000 in
set_option maxHeartbeats 1000000 in
theorem copy_any (A : Option Addr) (c : Nat) (l : List Int) (W : World) (hr : Rd W W.heap.size 1 A l.length (bytesV l)) (hm : l.length ≤ 10000000) :
    Calls Tryz.prog 10 #[.slice A l.length c] W (CopiedB l W) := by
  obtain ⟨i0, hi0, hz0, hz1, hz2⟩ := info_parts u8_info
  have Hmk := hid (show ∀ w : World, (Instr.makeSlice 22 (.int .i64 0) (.int .i64 ((l.length : Int) + 2))).run Tryz.prog w = .ok (.slice (some ⟨w.heap.size, 0, none⟩) 0 (l.length + 2)) (w.alloc (.cells (List.replicate (l.length + 2) (Value.int .u8 0)).toArray 5)) from by
    intro w
    have h := run_make (P := Tryz.prog) w 22 5 i0 (.int .u8 0) Tryz.underlying22 hi0 hz0 .i64 .i64 0 ((l.length : Int) + 2) (Int.le_refl _) (by omega) (by rw [hz2]; omega) (by omega)
    rw [hz1, made_list _ _ rfl] at h
    exact h)
  have Hr := hid hr
  have Hnil := hid (fun h => rd_nil hr (by omega) h)
  have Hi0 := hid hi0
  have Hz1 := hid hz1
  clear hi0 hz0 hz1 hz2 hr
  go_enter Tryz.func10, Tryz.ntmps10
  have hmk := Hmk.out
  have H0 := hid (Blk.new W 5 (List.replicate (l.length + 2) (Value.int .u8 0)).toArray)
  go_wp2_with (first
    | (at_builtin; refine wpList_room _ rfl (.tmp 6) (.tmp 7) _ rfl 5 i0 Tryz.underlying22 Hi0.out Hz1.out W.heap.size 0 (l.length + 2) _ rfl H0.out (by simp) W.heap.size A l.length c (bytesV l) rfl (Hr.out.alloc (Nat.le_refl _) _) Hnil.out bytesV_cells (by omega) ?_; intro w1 h1; have H1 := hid h1; clear h1)
    | (at_builtin; refine wpList_room _ rfl (.tmp 8) (.tmp 9) _ rfl 5 i0 Tryz.underlying22 Hi0.out Hz1.out W.heap.size l.length (l.length + 2) _ rfl (Blk.alloc H1.out.1 _) (by simp [bytesV]) (w1.heap.size + 1) _ 2 2 [.int .u8 165, .int .u8 90] rfl (rd_two _ _ _ _) (by simp) (by simp [Value.oneCell']) (by omega) ?_; intro w2 h2; have H2 := hid h2; clear h2))
  go_ret
  obtain ⟨g1, g2⟩ := copied_blk (n := l.length) (k := 2) (bytesV_length l) rfl H1.out rfl H2.out
  exact ⟨rfl, g1, g2⟩

theorem copyB_rd {w : World} {g : Nat} {t : TypeId} {l : List Int} {r : List Value} (h : Blk w g t (bytesV l ++ r).toArray) : Rd w w.heap.size 1 (some ⟨g, 0, none⟩) l.length (bytesV l) :=
  ⟨by simp [bytesV], fun _ => ⟨g, 0, rfl, h.lt, fun j u hu => by
    rw [h.cell (0 + j), Nat.zero_add, List.getElem?_toArray, List.getElem?_append_left (by have := (List.getElem?_eq_some_iff.1 hu).1; exact this), hu]⟩⟩

set_option maxRecDepth 100000 in
set_option maxHeartbeats 1000000 in
theorem kept_any (A : Option Addr) (c g : Nat) (l : List Int) (W : World) (K : Nat) (hg : Blk W g 5 (bytesV l ++ [Value.int .u8 165, Value.int .u8 90]).toArray) (hr : Rd W K 1 A l.length (bytesV l)) (hm : l.length ≤ 10000000) :
    Calls Tryz.prog 13 #[.slice (some ⟨g, 0, none⟩) l.length (l.length + 2), .slice A l.length c] W fun e w' => e = .returned (.bool true) ∧ W = w' := by
  have c1 : W.cell? ⟨g, l.length, none⟩ = some (.int .u8 165) := by
    rw [hg.cell l.length]
    have : l.length = (bytesV l).length := by simp [bytesV]
    simp [this]
  have c2 : W.cell? ⟨g, l.length + 1, none⟩ = some (.int .u8 90) := by
    rw [hg.cell (l.length + 1)]
    have : l.length = (bytesV l).length := by simp [bytesV]
    simp [this]
  have k1 := conv_bytes (c := l.length + 2) (copyB_rd hg)
  have k2 := conv_bytes (c := c) hr
  clear hg hr
  generalize strOfNums l = x at *
  go_enter Tryz.func13, Tryz.ntmps13
  go_wp2
  go_ret
  exact ⟨rfl, rfl⟩

end Go.Proofs.YtoppjcmkhhkbmaaGreat

namespace Go.Proofs.YtoppjcmkhhkbmaaGreat
open Go.RowKit

/-- is a token in form? -/
def tgood (t : Int × Int) : Bool := decide ((t.1 = 0 ∧ 0 ≤ t.2 ∧ t.2 ≤ 255) ∨ (3 ≤ t.1 ∧ t.1 ≤ 258 ∧ 1 ≤ t.2 ∧ t.2 ≤ 32768))
theorem tgood_true {t : Int × Int} : tgood t = true ↔ (t.1 = 0 ∧ 0 ≤ t.2 ∧ t.2 ≤ 255) ∨ (3 ≤ t.1 ∧ t.1 ≤ 258 ∧ 1 ≤ t.2 ∧ t.2 ≤ 32768) := by unfold tgood; simp
/-- how many bytes it stands for -/
def tn (t : Int × Int) : Int := if 0 < t.1 then t.1 else 1
theorem getD_isB {out : List Int} (h : ∀ x ∈ out, isB x) (i : Nat) : isB (out.getD i 0) := by
  rw [List.getD_eq_getElem?_getD]
  cases hi : out[i]? with
  | none => simp [isB]
  | some x => simp; exact h x (List.mem_of_getElem? hi)
theorem tn_pos {t : Int × Int} : 1 ≤ tn t := by unfold tn; split <;> omega

end Go.Proofs.YtoppjcmkhhkbmaaGreat

namespace Go.Proofs.YtoppjcmkhhkbmaaGreat
open Go.RowKit

/-- a length symbol's base; 0 where there is none -/
def lbase (s : Int) : Int := if s = 285 then 258 else if s - 257 < 8 then 3 + (s - 257) else 3 + (4 + (s - 257) % 4) * 2 ^ ((s - 257) / 4 - 1).toNat
def lextra (s : Int) : Int := if s = 285 then 0 else if s - 257 < 8 then 0 else (s - 257) / 4 - 1
def dbase (s : Int) : Int := if s < 4 then 1 + s else 1 + (2 + s % 2) * 2 ^ (s / 2 - 1).toNat
def dextra (s : Int) : Int := if s < 4 then 0 else s / 2 - 1

set_option maxHeartbeats 1000000 in
theorem lbase_yes (s : Int) (h1 : 257 ≤ s) (h2 : s ≤ 285) (w : World) : Calls Tryz.prog 83 #[.int .i64 s] w fun e w' => e = .returned (.tuple #[.int .i64 (lbase s), .int .i64 (lextra s), .bool true]) ∧ w = w' := by
  rcases (by omega : s = 257 ∨ s = 258 ∨ s = 259 ∨ s = 260 ∨ s = 261 ∨ s = 262 ∨ s = 263 ∨ s = 264 ∨ s = 265 ∨ s = 266 ∨ s = 267 ∨ s = 268 ∨ s = 269 ∨ s = 270 ∨ s = 271 ∨ s = 272 ∨ s = 273 ∨ s = 274 ∨ s = 275 ∨ s = 276 ∨ s = 277 ∨ s = 278 ∨ s = 279 ∨ s = 280 ∨ s = 281 ∨ s = 282 ∨ s = 283 ∨ s = 284 ∨ s = 285) with rfl | rfl | rfl | rfl | rfl | rfl | rfl | rfl | rfl | rfl | rfl | rfl | rfl | rfl | rfl | rfl | rfl | rfl | rfl | rfl | rfl | rfl | rfl | rfl | rfl | rfl | rfl | rfl | rfl
  all_goals
    go_enter Tryz.func83, Tryz.ntmps83
    go_wp2
    go_ret3
    exact ⟨rfl, rfl⟩

set_option maxHeartbeats 1000000 in
theorem dbase_yes (s : Int) (h1 : 0 ≤ s) (h2 : s ≤ 29) (w : World) : Calls Tryz.prog 84 #[.int .i64 s] w fun e w' => e = .returned (.tuple #[.int .i64 (dbase s), .int .i64 (dextra s), .bool true]) ∧ w = w' := by
  rcases (by omega : s = 0 ∨ s = 1 ∨ s = 2 ∨ s = 3 ∨ s = 4 ∨ s = 5 ∨ s = 6 ∨ s = 7 ∨ s = 8 ∨ s = 9 ∨ s = 10 ∨ s = 11 ∨ s = 12 ∨ s = 13 ∨ s = 14 ∨ s = 15 ∨ s = 16 ∨ s = 17 ∨ s = 18 ∨ s = 19 ∨ s = 20 ∨ s = 21 ∨ s = 22 ∨ s = 23 ∨ s = 24 ∨ s = 25 ∨ s = 26 ∨ s = 27 ∨ s = 28 ∨ s = 29) with rfl | rfl | rfl | rfl | rfl | rfl | rfl | rfl | rfl | rfl | rfl | rfl | rfl | rfl | rfl | rfl | rfl | rfl | rfl | rfl | rfl | rfl | rfl | rfl | rfl | rfl | rfl | rfl | rfl | rfl
  all_goals
    go_enter Tryz.func84, Tryz.ntmps84
    go_wp2
    go_ret3
    exact ⟨rfl, rfl⟩

end Go.Proofs.YtoppjcmkhhkbmaaGreat

namespace Go.Proofs.YtoppjcmkhhkbmaaGreat
open Go.RowKit

theorem lbase_257 : lbase 257 = 3 := by decide
theorem dbase_0 : dbase 0 = 1 := by decide

theorem lsym_no (n : Int) (h : n < 3 ∨ 258 < n) (w : World) : Calls Tryz.prog 82 #[.int .i64 n] w fun e w' => e = .returned (.tuple #[.int .i64 0, .bool false]) ∧ w = w' := by
  rcases h with h | h
  all_goals
    go_enter Tryz.func82, Tryz.ntmps82
    go_wp2
    go_ret2
    exact ⟨rfl, rfl⟩

/-- the symbol s is n's: the last one whose base is not above n -/
def LSym (n s : Int) : Prop := 257 ≤ s ∧ s ≤ 285 ∧ lbase s ≤ n ∧ (s = 285 ∨ n < lbase (s + 1))
def DSym (n s : Int) : Prop := 0 ≤ s ∧ s ≤ 29 ∧ dbase s ≤ n ∧ (s = 29 ∨ n < dbase (s + 1))
def SomeSym (P : Int → Prop) (w : World) (e : Ending) (w' : World) : Prop := ∃ s : Int, P s ∧ e = .returned (.tuple #[.int .i64 s, .bool true]) ∧ w = w'

theorem lsym_yes (n : Int) (h1 : 3 ≤ n) (h2 : n ≤ 258) (w : World) : Calls Tryz.prog 82 #[.int .i64 n] w (SomeSym (LSym n) w) := by
  go_enter Tryz.func82, Tryz.ntmps82
  go_wp2
  go_loop [4] (fun s => ∃ k : Int, 257 ≤ k ∧ k ≤ 285 ∧ (k = 285 ∨ n < lbase (k + 1)) ∧ s = .int .i64 k) (fun s => (intOf s).toNat)
  case atStart => exact ⟨285, by omega, by omega, .inl rfl, rfl⟩
  case round =>
    obtain ⟨k, hk1, hk2, hk3, rfl⟩ := hrel
    have H3 := hid hk3
    clear hk3
    by_cases hc : lbase k ≤ n
    · go_wp2_with (go_at_call 83; refine (lbase_yes _ (by omega) (by omega) _).mono ?_; rintro e w' ⟨rfl, rfl⟩)
      go_ret2
      exact ⟨k, ⟨hk1, hk2, hc, H3.out⟩, rfl, rfl⟩
    · have hne : 258 ≤ k := by
        rcases (by omega : k = 257 ∨ 258 ≤ k) with rfl | h
        · rw [lbase_257] at hc; omega
        · exact h
      have hnext : n < lbase (k - 1 + 1) := by rw [show k - 1 + 1 = k by omega]; omega
      have Hn := hid hnext
      clear hnext
      go_wp2_with (go_at_call 83; refine (lbase_yes _ (by omega) (by omega) _).mono ?_; rintro e w' ⟨rfl, rfl⟩)
      go_round
      case rel => exact ⟨k - 1, by omega, by omega, .inr Hn.out, rfl⟩
      case measure => simp [intOf]; omega

theorem dsym_no (n : Int) (h : n < 1 ∨ 32768 < n) (w : World) : Calls Tryz.prog 101 #[.int .i64 n] w fun e w' => e = .returned (.tuple #[.int .i64 0, .bool false]) ∧ w = w' := by
  rcases h with h | h
  all_goals
    go_enter Tryz.func101, Tryz.ntmps101
    go_wp2
    go_ret2
    exact ⟨rfl, rfl⟩

theorem dsym_yes (n : Int) (h1 : 1 ≤ n) (h2 : n ≤ 32768) (w : World) : Calls Tryz.prog 101 #[.int .i64 n] w (SomeSym (DSym n) w) := by
  go_enter Tryz.func101, Tryz.ntmps101
  go_wp2
  go_loop [4] (fun s => ∃ k : Int, 0 ≤ k ∧ k ≤ 29 ∧ (k = 29 ∨ n < dbase (k + 1)) ∧ s = .int .i64 k) (fun s => (intOf s + 1).toNat)
  case atStart => exact ⟨29, by omega, by omega, .inl rfl, rfl⟩
  case round =>
    obtain ⟨k, hk1, hk2, hk3, rfl⟩ := hrel
    have H3 := hid hk3
    clear hk3
    by_cases hc : dbase k ≤ n
    · go_wp2_with (go_at_call 84; refine (dbase_yes _ (by omega) (by omega) _).mono ?_; rintro e w' ⟨rfl, rfl⟩)
      go_ret2
      exact ⟨k, ⟨hk1, hk2, hc, H3.out⟩, rfl, rfl⟩
    · have hne : 1 ≤ k := by
        rcases (by omega : k = 0 ∨ 1 ≤ k) with rfl | h
        · rw [dbase_0] at hc; omega
        · exact h
      have hnext : n < dbase (k - 1 + 1) := by rw [show k - 1 + 1 = k by omega]; omega
      have Hn := hid hnext
      clear hnext
      go_wp2_with (go_at_call 84; refine (dbase_yes _ (by omega) (by omega) _).mono ?_; rintro e w' ⟨rfl, rfl⟩)
      go_round
      case rel => exact ⟨k - 1, by omega, by omega, .inr Hn.out, rfl⟩
      case measure => simp [intOf]; omega

/-- two new blocks, of 29 or 30 numbers each -/
def Tables (n : Nat) (f g : Nat → Int) (W : World) (e : Ending) (w' : World) : Prop :=
  e = .returned (.tuple #[.slice (some ⟨W.heap.size, 0, none⟩) n n, .slice (some ⟨W.heap.size + 1, 0, none⟩) n n]) ∧ Below W.heap.size W w' ∧ w'.heap.size = W.heap.size + 2 ∧
    (∀ k, k < n → w'.cell? ⟨W.heap.size, k, none⟩ = some (.int .i64 (f k))) ∧ (∀ k, k < n → w'.cell? ⟨W.heap.size + 1, k, none⟩ = some (.int .i64 (g k)))

theorem tab0 {W : World} {L M : Array Value} {t t' : TypeId} (n : Nat) (f : Nat → Int) (e : L = intRow n f) (k : Nat) (hk : k < n) : ((W.alloc (.cells L t)).alloc (.cells M t')).cell? ⟨W.heap.size, k, none⟩ = some (.int .i64 (f k)) := by
  rw [(Blk.alloc (Blk.new W t L) (.cells M t')).cell k, e]
  exact intRow_at n f k hk
theorem tab1 {W : World} {L M : Array Value} {t t' : TypeId} (n : Nat) (f : Nat → Int) (e : M = intRow n f) (k : Nat) (hk : k < n) : ((W.alloc (.cells L t)).alloc (.cells M t')).cell? ⟨W.heap.size + 1, k, none⟩ = some (.int .i64 (f k)) := by
  have h := (Blk.new (W.alloc (.cells L t)) t' M).cell k
  rw [World.size_alloc] at h
  rw [h, e]
  exact intRow_at n f k hk

theorem lens_any (W : World) : Calls Tryz.prog 35 #[] W (Tables 29 (fun k => lbase (257 + k)) (fun k => lextra (257 + k)) W) := by
  go_enter Tryz.func35, Tryz.ntmps35
  go_wp2
  go_ret2
  exact ⟨rfl, ((Below.refl _ _).alloc (Nat.le_refl _) _).alloc (by simp) _, by simp, fun k hk => tab0 29 (fun k => lbase (257 + k)) (by kernel_rfl) k hk, fun k hk => tab1 29 (fun k => lextra (257 + k)) (by kernel_rfl) k hk⟩

theorem dists_any (W : World) : Calls Tryz.prog 36 #[] W (Tables 30 (fun k => dbase k) (fun k => dextra k) W) := by
  go_enter Tryz.func36, Tryz.ntmps36
  go_wp2
  go_ret2
  exact ⟨rfl, ((Below.refl _ _).alloc (Nat.le_refl _) _).alloc (by simp) _, by simp, fun k hk => tab0 30 (fun k => dbase k) (by kernel_rfl) k hk, fun k hk => tab1 30 (fun k => dextra k) (by kernel_rfl) k hk⟩

end Go.Proofs.YtoppjcmkhhkbmaaGreat

namespace Go.Proofs.YtoppjcmkhhkbmaaGreat
def ordT : List Nat := [16, 17, 18, 0, 8, 7, 9, 6, 10, 5, 11, 4, 12, 3, 13, 2, 14, 1, 15]
def fixL : List Int := List.replicate 144 8 ++ (List.replicate 112 9 ++ (List.replicate 24 7 ++ List.replicate 8 8))
end Go.Proofs.YtoppjcmkhhkbmaaGreat

namespace Go.Proofs.YtoppjcmkhhkbmaaGreat
open Go.RowKit

def rv (out : List Int) (s : Int) : Int := if s = 16 then out.getLast?.getD 0 else if s = 17 ∨ s = 18 then 0 else s
def rn (s e : Int) : Int := if s = 16 ∨ s = 17 then 3 + e else if s = 18 then 11 + e else 1
def rtop (s : Int) : Int := if s = 16 then 3 else if s = 17 then 7 else if s = 18 then 127 else 0
def rbad (out : List Int) (s e : Int) : Prop := s < 0 ∨ 18 < s ∨ e < 0 ∨ (s = 16 ∧ out = []) ∨ rtop s < e
instance (out : List Int) (s e : Int) : Decidable (rbad out s e) := by unfold rbad; exact inferInstance
/-- what runs come to behind what stands already; nothing where one is out of form -/
def unr (out : List Int) : List (Int × Int) → Option (List Int)
  | [] => some out
  | (s, e) :: r => if rbad out s e then none else unr (out ++ List.replicate (rn s e).toNat (rv out s)) r

theorem unr_bad {out : List Int} {s e : Int} {r : List (Int × Int)} (h : rbad out s e) : unr out ((s, e) :: r) = none := by rw [unr, if_pos h]
theorem unr_step {out : List Int} {s e : Int} {r : List (Int × Int)} (h : ¬ rbad out s e) : unr out ((s, e) :: r) = unr (out ++ List.replicate (rn s e).toNat (rv out s)) r := by rw [unr, if_neg h]
end Go.Proofs.YtoppjcmkhhkbmaaGreat

namespace Go.Proofs.YtoppjcmkhhkbmaaGreat
open Go.RowKit

set_option maxHeartbeats 1000000 in
theorem mul64_any (x y : Nat) (hx : x < 18446744073709551616) (hy : y < 18446744073709551616) (w : World) :
    Calls Tryz.prog 176 #[.int .u64 x, .int .u64 y] w fun e w' => e = .returned (.tuple #[.int .u64 ((x * y / 18446744073709551616 : Nat) : Int), .int .u64 ((x * y % 18446744073709551616 : Nat) : Int)]) ∧ w' = w := by
  obtain ⟨bd, bt, bw, hhi⟩ := Lib.mul64_hi x y hx hy
  have ba := Lib.half_mul_le (a := x / 4294967296) (b := y / 4294967296) (by omega) (by omega)
  have bb := Lib.half_mul_le (a := x / 4294967296) (b := y % 4294967296) (by omega) (by omega)
  have bc := Lib.half_mul_le (a := x % 4294967296) (b := y / 4294967296) (by omega) (by omega)
  have ba' : x / 4294967296 * (y / 4294967296) < 18446744073709551616 := by omega
  have bb' : x / 4294967296 * (y % 4294967296) < 18446744073709551616 := by omega
  have bc' : x % 4294967296 * (y / 4294967296) < 18446744073709551616 := by omega
  have bh1 : x / 4294967296 * (y / 4294967296) + (x / 4294967296 * (y % 4294967296) + x % 4294967296 * (y % 4294967296) / 4294967296) / 4294967296 < 18446744073709551616 := by omega
  have bh : x / 4294967296 * (y / 4294967296) + (x / 4294967296 * (y % 4294967296) + x % 4294967296 * (y % 4294967296) / 4294967296) / 4294967296 + ((x / 4294967296 * (y % 4294967296) + x % 4294967296 * (y % 4294967296) / 4294967296) % 4294967296 + x % 4294967296 * (y / 4294967296)) / 4294967296 < 18446744073709551616 := by omega
  go_enter Tryz.func176, Tryz.ntmps176
  go_wp2
  simp only [Mul64.maskN x hx, Mul64.maskN y hy, Mul64.divN, Mul64.mulN, Mul64.addN, Mul64.wrapN _ bd, Mul64.wrapN _ bb', Mul64.wrapN _ bt, Mul64.maskN _ bt, Mul64.wrapN _ bc', Mul64.wrapN _ bw, Mul64.wrapN _ ba', Mul64.wrapN _ bh1, Mul64.wrapN _ bh, Mul64.wrapM (x * y)]
  rw [hhi]
  go_ret2
  exact ⟨rfl, rfl⟩

theorem mul_any (x y : Nat) (hx : x < 18446744073709551616) (hy : y < 18446744073709551616) (w : World) :
    Calls Tryz.prog 159 #[.int .u64 x, .int .u64 y] w fun e w' => e = .returned (.tuple #[.int .u64 ((x * y / 18446744073709551616 : Nat) : Int), .int .u64 ((x * y % 18446744073709551616 : Nat) : Int)]) ∧ w' = w := by
  go_enter Tryz.func159, Tryz.ntmps159
  go_wp2_with (go_at_call 176; refine (mul64_any x y hx hy _).mono ?_; rintro e w' ⟨rfl, rfl⟩)
  go_ret2
  exact ⟨rfl, rfl⟩

theorem mul_one_any (y : Nat) (hy : y < 18446744073709551616) (w : World) :
    Calls Tryz.prog 159 #[.int .u64 1, .int .u64 y] w fun e w' => e = .returned (.tuple #[.int .u64 0, .int .u64 y]) ∧ w' = w := by
  have h := mul_any 1 y (by omega) hy w
  rw [show 1 * y / 18446744073709551616 = 0 by omega, show 1 * y % 18446744073709551616 = y by omega] at h
  exact h

theorem rep_splice (v : Value) (zs : List Value) (m q : Nat) : splice (List.replicate m v ++ zs.drop m) m (List.replicate q v) = List.replicate (m + q) v ++ zs.drop (m + q) := by
  unfold splice
  rw [List.take_left' (by simp), ← List.append_assoc, List.replicate_append_replicate, List.length_replicate, List.drop_append, List.drop_eq_nil_of_le (by simp), List.nil_append, List.length_replicate, List.drop_drop]
  congr 2
  omega

/-- what slices.Repeat of one number hands back: a new row of it -/
def RepEnd (v : Int) (n : Nat) (W : World) (e : Ending) (w' : World) : Prop :=
  ∃ g, e = .returned (.slice (some ⟨g, 0, none⟩) n n) ∧ W.heap.size ≤ g ∧ Blk w' g 3 (intsV (List.replicate n v)).toArray ∧ Below W.heap.size W w'

theorem take_rep {v : Value} {zs : List Value} {m q j : Nat} {u : Value} (hq : q ≤ m) (h : (List.replicate q v)[j]? = some u) : (List.replicate m v ++ zs.drop m)[j]? = some u := by
  have hj : j < q := by
    rcases Nat.lt_or_ge j q with h1 | h1
    · exact h1
    · rw [List.getElem?_eq_none (by simpa using h1)] at h; cases h
  rw [List.getElem?_append_left (by simp; omega)]
  rw [List.getElem?_replicate, if_pos (by omega)]
  rwa [List.getElem?_replicate, if_pos hj] at h

set_option maxRecDepth 100000 in
set_option maxHeartbeats 4000000 in
theorem repeat_any (b : Nat) (c : Nat) (v : Int) (n : Nat) (W : World) (h1 : 1 ≤ n) (hn : n ≤ 1000) (hr : RdI W W.heap.size (some ⟨b, 0, none⟩) [v]) :
    Calls Tryz.prog 135 #[.slice (some ⟨b, 0, none⟩) 1 c, .int .i64 n] W (RepEnd v n W) := by
  have hx : W.cell? ⟨b, 0, none⟩ = some (.int .i64 v) := by
    obtain ⟨b', off, e, _, hc⟩ := int_at hr (j := 0) (by simp)
    obtain ⟨rfl, rfl⟩ : b = b' ∧ 0 = off := by simpa using e
    simpa using hc
  have hb : b < W.heap.size := by
    obtain ⟨b', off, e, hb, hc⟩ := int_at hr (j := 0) (by simp)
    obtain ⟨rfl, rfl⟩ : b = b' ∧ 0 = off := by simpa using e
    exact hb
  clear hr
  obtain ⟨i0, hi0, hz0, hz1, hz2⟩ := info_parts int_info
  obtain ⟨zs, hzs⟩ : ∃ zs : List Value, zs = (madeCells (Value.int .i64 0).cells (n * 1)).toList := ⟨_, rfl⟩
  have hzl : zs.length = n := by rw [hzs]; simp [madeCells]
  have hmk : ∀ w : World, (Instr.makeSlice 65 (.int .i64 (n : Int)) (.int .i64 (n : Int))).run Tryz.prog w = .ok (.slice (some ⟨w.heap.size, 0, none⟩) n n) (w.alloc (.cells zs.toArray 3)) := by
    intro w
    have := run_make (P := Tryz.prog) w 65 3 i0 (.int .i64 0) Tryz.underlying65 hi0 hz0 .i64 .i64 n n (by omega) (Int.le_refl _) (by rw [hz2]; omega) (by omega)
    rw [hz1] at this
    simp only [Int.toNat_natCast] at this
    rw [this, hzs]
  have Hsz := hid (show (Tryz.prog.info? 3).map (·.size) = some 1 by rw [hi0]; simp [hz1])
  have Hzl := hid hzl
  have Hx := hid hx
  clear hzs hzl hi0 hz0 hz1 hz2 hx
  have n1 : ¬ (n : Int) < 0 := by omega
  go_enter Tryz.func135, Tryz.ntmps135
  go_wp2_with fail
  refine (mul_one_any n (by omega) _).mono ?_
  rintro e w1 ⟨rfl, rfl⟩
  have hsrc : ∀ (o : Obj) (j : Nat) (u : Value), [Value.int .i64 v][j]? = some u → (w1.alloc o).cell? ((⟨b, 0, none⟩ : Addr).add j) = some u := by
    intro o j u hu
    have hj : j = 0 := by
      rcases Nat.eq_zero_or_pos j with h | h
      · exact h
      · rw [List.getElem?_eq_none (by simp; omega)] at hu; cases hu
    subst hj
    simp at hu
    subst hu
    rw [show (⟨b, 0, none⟩ : Addr).add 0 = ⟨b, 0, none⟩ from rfl, World.cell?_alloc_past _ _ _ (by exact hb)]
    exact Hx.out
  obtain ⟨w2, hcp, hg2, hb2⟩ : ∃ w2, (Builtin.copy_ #[65, 65] 3 #[.slice (some ⟨w1.heap.size, 0, none⟩) n n, .slice (some ⟨b, 0, none⟩) 1 c]).run Tryz.prog (w1.alloc (.cells zs.toArray 3)) = .ok (.int .i64 1) w2 ∧
      Blk w2 w1.heap.size 3 (List.replicate 1 (Value.int .i64 v) ++ zs.drop 1).toArray ∧ Below w1.heap.size w1 w2 := by
    refine ⟨_, run_copy_row (P := Tryz.prog) _ _ _ _ _ w1.heap.size 0 n n ⟨b, 0, none⟩ 1 c zs.toArray 3 [.int .i64 v] Tryz.underlying65 Hsz.out (Blk.new w1 3 zs.toArray) (show 1 = min 1 n by omega) (hsrc _) (by simp [Hzl.out]; omega) (by simp [Value.oneCell']), ?_, ?_⟩
    · refine (setRow_heap _ w1.heap.size zs.toArray _ 3 (0, 0) (Blk.new w1 3 zs.toArray)).trans ?_
      simp
    · exact below_setRow ((Below.refl _ _).alloc (Nat.le_refl _) _) (Nat.le_refl _) _
  go_wp2_with fail
  have HB2 := hid hb2
  have HG3 := hid hg2
  have hz2 := hb2.size
  clear hb2 hg2 hsrc hcp
  go_loopw [8] (fun i wr => ∃ m : Nat, 1 ≤ m ∧ m ≤ n ∧ i = .int .i64 m ∧ Blk wr w1.heap.size 3 (List.replicate m (Value.int .i64 v) ++ zs.drop m).toArray ∧ Below w1.heap.size w1 wr) (fun i _ => n - (intOf i).toNat)
  case atStart => exact ⟨1, by omega, h1, rfl, HG3.out, HB2.out⟩
  case round =>
    obtain ⟨m, hm1, hm, rfl, hg, hbw⟩ := hrel
    have Hg := hid hg
    have Hbw := hid hbw
    clear hg hbw
    by_cases hlt : m < n
    · obtain ⟨q, hq1, hq2, hq3, hqq⟩ : ∃ q, q ≤ m ∧ m + q ≤ n ∧ 1 ≤ q ∧ q = min m (n - m) := ⟨min m (n - m), by omega, by omega, by omega, rfl⟩
      have hcut : ∀ (j : Nat) (u : Value), (List.replicate q (Value.int .i64 v))[j]? = some u → wr.drew.cell? ((⟨w1.heap.size, 0, none⟩ : Addr).add j) = some u := by
        intro j u hu
        have := take_rep (m := m) (zs := zs) hq1 hu
        rw [show (⟨w1.heap.size, 0, none⟩ : Addr).add j = ⟨w1.heap.size, 0 + j, none⟩ from by unfold Addr.add; split <;> simp_all, (Blk.drew Hg.out).cell (0 + j)]
        simpa using this
      obtain ⟨w3, hcp, hg3, hb3⟩ : ∃ w3, (Builtin.copy_ #[65, 65] 3 #[.slice (some ⟨w1.heap.size, m, none⟩) (n - m) (n - m), .slice (some ⟨w1.heap.size, 0, none⟩) m n]).run Tryz.prog wr.drew = .ok (.int .i64 q) w3 ∧
          Blk w3 w1.heap.size 3 (List.replicate (m + q) (Value.int .i64 v) ++ zs.drop (m + q)).toArray ∧ Below w1.heap.size w1 w3 := by
        have hrun := run_copy_row (P := Tryz.prog) wr.drew 65 65 3 3 w1.heap.size m (n - m) (n - m) ⟨w1.heap.size, 0, none⟩ m n _ 3 (List.replicate q (Value.int .i64 v)) Tryz.underlying65 Hsz.out (Blk.drew Hg.out) (by rw [List.length_replicate]; exact hqq) hcut (by simp [Hzl.out]; omega) (by intro u hu; rw [List.eq_of_mem_replicate hu]; rfl)
        rw [List.length_replicate] at hrun
        refine ⟨_, hrun, ?_, below_setRow Hbw.out.drew (Nat.le_refl _) _⟩
        refine (setRow_heap _ w1.heap.size _ _ 3 (0, 0) (Blk.drew Hg.out)).trans ?_
        have h := rep_splice (Value.int .i64 v) zs m q
        unfold splice at h
        rw [List.length_replicate] at h
        exact congrArg (fun l => some (Obj.cells (List.toArray l) 3 (0, 0))) ((List.append_assoc _ _ _).trans h)
      have Hg3 := hid hg3
      have Hb3 := hid hb3
      have Hw := hid (show IntKind.i64.wrap ((m : Int) + (q : Int)) = ((m + q : Nat) : Int) by rw [IntKind.wrap_i64]; omega)
      clear hg3 hb3 hcut hqq
      go_upto_region 9 with (fail)
      go_region_held3 (fun _ => True) (trivial) (fail)
      all_goals
        go_wp2
        go_roundw
        case rel => exact ⟨m + q, by omega, by omega, by rw [Hw.out], Hg3.out, Hb3.out⟩
        case measure => simp only [intOf, Hw.out]; omega
    · have e : m = n := by omega
      subst e
      go_wp2
      go_ret
      refine ⟨_, rfl, Nat.le_refl _, ?_, Hbw.out⟩
      have h := Hg.out
      rw [List.drop_eq_nil_of_le (by rw [Hzl.out]; exact Nat.le_refl _), List.append_nil] at h
      simpa [intsV] using h

end Go.Proofs.YtoppjcmkhhkbmaaGreat

namespace Go.Proofs.YtoppjcmkhhkbmaaGreat
open Go.RowKit

def farStep (m : Int) (t : Int × Int) : Int := if 0 < t.1 then (if m < t.2 then t.2 else m) else m
def far (l : List (Int × Int)) : Int := l.foldl farStep 0
def IsWin (v : Int) : Prop := v = 256 ∨ v = 512 ∨ v = 1024 ∨ v = 2048 ∨ v = 4096 ∨ v = 8192 ∨ v = 16384 ∨ v = 32768
/-- v is the least window for distances up to m -/
def Win (v m : Int) : Prop := IsWin v ∧ (v = 32768 ∨ m ≤ v) ∧ (v = 256 ∨ v / 2 < m)
/-- y comes of the window x by doubling, as long as the token (tl, td) reaches beyond it -/
def Mid (x tl td y : Int) : Prop := (IsWin x → IsWin y) ∧ 0 ≤ y ∧ x ≤ y ∧ (y = x ∨ (0 < tl ∧ y / 2 < td))
theorem Mid.start (x tl td : Int) (hx : 256 ≤ x) : Mid x tl td x := ⟨id, by omega, by omega, .inl rfl⟩
theorem Mid.step {x tl td y : Int} (h : Mid x tl td y) (g1 : 0 < tl) (g2 : y < td) (g3 : y < 32768) : Mid x tl td (2 * y) := by
  obtain ⟨h1, h0, h2, h3⟩ := h
  refine ⟨fun hx => ?_, by omega, ?_, .inr ⟨g1, by omega⟩⟩
  · have := h1 hx
    unfold IsWin at *; omega
  · omega
theorem Win.next {x m tl td y : Int} (h : Win x m) (hm : Mid x tl td y) (hgo : ¬ (0 < tl ∧ y < td ∧ y < 32768)) : Win y (farStep m (tl, td)) := by
  obtain ⟨w1, w2, w3⟩ := h
  obtain ⟨h1, h0, h2, h3⟩ := hm
  have hy := h1 w1
  have hyb : 256 ≤ y ∧ y ≤ 32768 := by unfold IsWin at hy; omega
  refine ⟨hy, ?_, ?_⟩ <;> unfold farStep <;> simp only <;> (repeat' split) <;> omega
end Go.Proofs.YtoppjcmkhhkbmaaGreat

namespace Go.Proofs.YtoppjcmkhhkbmaaGreat
open Go.RowKit

def rl (s : Int) : Int := if s = 16 ∨ s = 17 then 3 else if s = 18 then 11 else 1
def rb (s : Int) : Int := if s = 16 then 2 else if s = 17 then 3 else if s = 18 then 7 else 0
theorem reach_any (s : Int) (W : World) : Calls Tryz.prog 125 #[.int .i64 s] W fun e w' => e = .returned (.tuple #[.int .i64 (rl s), .int .i64 (rb s)]) ∧ w' = W := by
  by_cases h1 : s = 16
  · subst h1
    go_enter Tryz.func125, Tryz.ntmps125
    go_wp2
    go_ret2
    exact ⟨rfl, rfl⟩
  · by_cases h2 : s = 17
    · subst h2
      clear h1
      go_enter Tryz.func125, Tryz.ntmps125
      go_wp2
      go_ret2
      exact ⟨rfl, rfl⟩
    · by_cases h3 : s = 18
      · subst h3
        clear h1 h2
        go_enter Tryz.func125, Tryz.ntmps125
        go_wp2
        go_ret2
        exact ⟨rfl, rfl⟩
      · have e1 : (s == 16) = false := beq_eq_false_iff_ne.2 h1
        have e2 : (s == 17) = false := beq_eq_false_iff_ne.2 h2
        have e3 : (s == 18) = false := beq_eq_false_iff_ne.2 h3
        have hl : rl s = 1 := by unfold rl; rw [if_neg (by omega), if_neg h3]
        have hb : rb s = 0 := by unfold rb; rw [if_neg h1, if_neg h2, if_neg h3]
        rw [hl, hb]
        clear hl hb h1 h2 h3
        go_enter Tryz.func125, Tryz.ntmps125
        go_wp2
        go_ret2
        exact ⟨rfl, rfl⟩

theorem rdi_one (w : World) (v : Int) : RdI (w.alloc (.cells #[.int .i64 v] 3)) (w.heap.size + 1) (some ⟨w.heap.size, 0, none⟩) [v] := RdI.new (by simp)

end Go.Proofs.YtoppjcmkhhkbmaaGreat

namespace Go.Proofs.YtoppjcmkhhkbmaaGreat.BlockRuns
open Go.RowKit Go.Proofs.YtoppjcmkhhkbmaaGreat

/-- a length that is out of form -/
def badl (n : Int) : Bool := decide (n < 0 ∨ 15 < n)
theorem badl_false {n : Int} : badl n = false ↔ 0 ≤ n ∧ n ≤ 15 := by unfold badl; simp
theorem badl_true {n : Int} : badl n = true ↔ n < 0 ∨ 15 < n := by unfold badl; simp

theorem badl_yes (n : Int) (h : badl n = true) (w : World) : Calls Tryz.prog 153 #[.int .i64 n] w fun e w' => e = .returned (.bool true) ∧ w = w' := by
  rcases badl_true.1 h with h1 | h1
  all_goals
    clear h
    go_enter Tryz.func153, Tryz.ntmps153
    go_wp2
    go_ret
    exact ⟨rfl, rfl⟩
theorem badl_no (n : Int) (h : badl n = false) (w : World) : Calls Tryz.prog 153 #[.int .i64 n] w fun e w' => e = .returned (.bool false) ∧ w = w' := by
  obtain ⟨h1, h2⟩ := badl_false.1 h
  clear h
  go_enter Tryz.func153, Tryz.ntmps153
  go_wp2
  go_ret
  exact ⟨ret_bool (by simp; omega), rfl⟩

def LongIdx (l : List Int) (W : World) (e : Ending) (w' : World) : Prop := ∃ r : Int, e = .returned (.int .i64 r) ∧ ((r < 0 ∧ l.any badl = false) ∨ (0 ≤ r ∧ l.any badl = true)) ∧ W = w'

theorem anyl_take (p : Int → Bool) (l : List Int) (j : Nat) (hj : j < l.length) : (l.take (j + 1)).any p = ((l.take j).any p || p l[j]) := by
  rw [List.take_succ_eq_append_getElem hj, List.any_append]; simp

theorem indexl_any (A : Option Addr) (c : Nat) (l : List Int) (W : World) (B : Nat) (hr : RdI W B A l) (hm : l.length ≤ maxLen) :
    Calls Tryz.prog 156 #[.slice A l.length c, .func (.func 153) #[] #[]] W (LongIdx l W) := by
  unfold maxLen at hm
  have Hr := hid hr
  clear hr
  go_enter Tryz.func156, Tryz.ntmps156
  go_wp2
  go_loop [8] (fun i => ∃ j : Nat, j ≤ l.length ∧ i = .int .i64 j ∧ (l.take j).any badl = false) (fun i => l.length - (intOf i).toNat)
  case atStart => exact ⟨0, by omega, rfl, rfl⟩
  case round =>
    obtain ⟨j, hj, rfl, hno⟩ := hrel
    have Hno := hid hno
    clear hno
    by_cases hlt : j < l.length
    · obtain ⟨b, off, rfl, hbb, h0⟩ := int_at Hr.out hlt
      have Hs := hid (anyl_take badl l j hlt)
      cases hb : badl l[j]
      · have Hb := hid hb
        clear hb
        go_wp2_with (refine (badl_no _ Hb.out _).mono ?_; rintro e w' ⟨rfl, rfl⟩)
        go_round
        case rel => exact ⟨j + 1, by omega, by go_num, by rw [Hs.out, Hno.out, Hb.out]; rfl⟩
        case measure => simp [intOf]; omega
      · have Hb := hid hb
        clear hb
        go_wp2_with (refine (badl_yes _ Hb.out _).mono ?_; rintro e w' ⟨rfl, rfl⟩)
        go_ret
        exact ⟨j, rfl, .inr ⟨by omega, List.any_eq_true.2 ⟨l[j], List.getElem_mem hlt, Hb.out⟩⟩, rfl⟩
    · go_wp2
      go_ret
      have e : j = l.length := by omega
      subst e
      exact ⟨-1, rfl, .inl ⟨by omega, by have := Hno.out; rwa [List.take_length] at this⟩, rfl⟩

theorem containsl_any (A : Option Addr) (c : Nat) (l : List Int) (W : World) (B : Nat) (hr : RdI W B A l) (hm : l.length ≤ maxLen) (g : Bool) (hg : l.any badl = g) :
    Calls Tryz.prog 127 #[.slice A l.length c, .func (.func 153) #[] #[]] W fun e w' => e = .returned (.bool g) ∧ W = w' := by
  have Hg := hid hg
  clear hg
  have H := hid (indexl_any A c l W B hr hm)
  clear hr hm
  go_enter Tryz.func127, Tryz.ntmps127
  go_wp2_with (refine H.out.mono ?_; rintro e w' ⟨r, rfl, hr, rfl⟩)
  go_ret
  refine ⟨ret_bool ?_, rfl⟩
  rcases hr with ⟨h1, h2⟩ | ⟨h1, h2⟩
  · have := Hg.out.symm.trans h2; subst this; simp; omega
  · have := Hg.out.symm.trans h2; subst this; simp; omega

/-- counts in form, at most m of them -/
def goodc (l : List Int) (m : Int) : Bool := decide ((l.length : Int) ≤ m) && !l.any badl

/-- how many numbers from a place on are the same as the one there -/
def same1 (v : Int) : List Int → Nat
  | [] => 0
  | x :: r => if x = v then same1 v r + 1 else 0
theorem same1_le (v : Int) (l : List Int) : same1 v l ≤ l.length := by
  induction l with
  | nil => exact Nat.le_refl _
  | cons x r ih => unfold same1; split <;> simp <;> omega

theorem same_any (A : Option Addr) (c : Nat) (l : List Int) (j : Nat) (hj : j < l.length) (W : World) (B : Nat) (hr : RdI W B A l) (hm : l.length ≤ 1000000) :
    Calls Tryz.prog 154 #[.slice A l.length c, .int .i64 j] W fun e w' => e = .returned (.int .i64 ((1 + same1 l[j] (l.drop (j + 1)) : Nat) : Int)) ∧ ∃ n, w' = W.drewN n := by
  have Hr := hid hr
  clear hr
  go_enter Tryz.func154, Tryz.ntmps154
  go_wp2
  go_loopw [5] (fun i wr => ∃ k n : Nat, 1 ≤ k ∧ j + k ≤ l.length ∧ i = .int .i64 k ∧ 1 + same1 l[j] (l.drop (j + 1)) = k + same1 l[j] (l.drop (j + k)) ∧ wr = W.drewN n) (fun i _ => l.length - (intOf i).toNat)
  case atStart => exact ⟨1, 0, by omega, by omega, rfl, rfl, rfl⟩
  case round =>
    obtain ⟨k, n, hk1, hk, rfl, hs, rfl⟩ := hrel
    have Hs := hid hs
    clear hs
    obtain ⟨b, off, rfl, hbb, q0⟩ := int_at Hr.out hj
    by_cases hlt : j + k < l.length
    · obtain ⟨b', off', hA, hbb', p0⟩ := int_at Hr.out hlt
      obtain ⟨rfl, rfl⟩ : b = b' ∧ off = off' := by simpa using hA
      have Hd := hid (show l.drop (j + k) = l[j + k] :: l.drop (j + k + 1) from List.drop_eq_getElem_cons hlt)
      have hc : (j : Int) + k < l.length := by omega
      have hdc : decide ((j : Int) + k < l.length) = true := decide_eq_true hc
      by_cases hq : l[j + k] = l[j]
      · have Hn : Hid (1 + same1 l[j] (l.drop (j + 1)) = k + 1 + same1 l[j] (l.drop (j + (k + 1)))) := by
          have h := Hs.out
          rw [Hd.out, same1, if_pos hq] at h
          rw [show j + (k + 1) = j + k + 1 by omega]
          exact h.trans (by omega)
        rw [hq] at p0
        generalize l[j] = v at *
        go_wp2_with fail
        go_quiet (fail)
        go_wp2
        go_roundw
        case rel => exact ⟨k + 1, n + nq, by omega, by omega, by go_num, Hn.out, by simp⟩
        case measure => simp [intOf]; omega
      · have Hn : Hid (1 + same1 l[j] (l.drop (j + 1)) = k) := by
          have h := Hs.out
          rw [Hd.out, same1, if_neg hq] at h
          exact h
        have hq2 : (l[j + k] == l[j]) = false := beq_eq_false_iff_ne.2 hq
        generalize hv : l[j] = v at *
        generalize l[j + k] = x at *
        go_wp2_with fail
        go_quiet (fail)
        go_wp2
        go_ret
        refine ⟨?_, n + nq, by simp⟩
        show Ending.returned (.int .i64 (k : Int)) = _
        rw [hv, Hn.out]
    · have hkk : j + k = l.length := by omega
      have Hn : Hid (1 + same1 l[j] (l.drop (j + 1)) = k) := by
        have h := Hs.out
        rw [List.drop_eq_nil_of_le (show l.length ≤ j + k by omega)] at h
        exact h
      have hc : ¬ (j : Int) + k < l.length := by omega
      have hdc : decide ((j : Int) + k < l.length) = false := decide_eq_false hc
      go_wp2_with fail
      go_quiet (fail)
      go_wp2
      go_ret
      refine ⟨?_, n + nq, by simp⟩
      show Ending.returned (.int .i64 (k : Int)) = _
      rw [Hn.out]

end Go.Proofs.YtoppjcmkhhkbmaaGreat.BlockRuns

namespace Go.Proofs.YtoppjcmkhhkbmaaGreat.BlockRuns
open Go.RowKit Go.Proofs.YtoppjcmkhhkbmaaGreat

/-- which symbol a run gets: v stands n times, behind prev -/
def cho (prev : Option Int) (v : Int) (n : Nat) : Int := if v = 0 ∧ 11 ≤ n then 18 else if v = 0 ∧ 3 ≤ n then 17 else if prev = some v ∧ 3 ≤ n then 16 else v
/-- how many lengths a run takes at most -/
def rmax (s : Int) : Nat := if s = 16 then 6 else if s = 17 then 10 else if s = 18 then 138 else 1
def took (prev : Option Int) (v : Int) (n : Nat) : Nat := min n (rmax (cho prev v n))
/-- the runs of lengths behind prev -/
def runsOf : Nat → Option Int → List Int → List (Int × Int)
  | 0, _, _ => []
  | _ + 1, _, [] => []
  | f + 1, prev, v :: r => (cho prev v (1 + same1 v r), (took prev v (1 + same1 v r) : Int) - rl (cho prev v (1 + same1 v r))) :: runsOf f (some v) ((v :: r).drop (took prev v (1 + same1 v r)))

theorem same1_take (v : Int) (l : List Int) (m : Nat) (h : m ≤ same1 v l) : l.take m = List.replicate m v := by
  induction l generalizing m with
  | nil => simp [same1] at h; subst h; rfl
  | cons x r ih =>
    unfold same1 at h
    cases m with
    | zero => rfl
    | succ m =>
      split at h
      · rename_i hx
        subst hx
        rw [List.take_succ_cons, ih m (by omega), List.replicate_succ]
      · omega
theorem took_pos (prev : Option Int) (v : Int) (n : Nat) (hn : 1 ≤ n) : 1 ≤ took prev v n := by
  unfold took rmax; (repeat' split) <;> omega
theorem took_le (prev : Option Int) (v : Int) (n : Nat) : took prev v n ≤ n := Nat.min_le_left _ _

theorem runs_back (f : Nat) (out l : List Int) (hf : l.length ≤ f) (hl : ∀ x ∈ l, 0 ≤ x ∧ x ≤ 15) : unr out (runsOf f out.getLast? l) = some (out ++ l) ∧ (runsOf f out.getLast? l).length ≤ l.length := by
  induction f generalizing out l with
  | zero =>
    have : l = [] := List.eq_nil_of_length_eq_zero (by omega)
    subst this
    simp [runsOf, unr]
  | succ f ih =>
    cases l with
    | nil => simp [runsOf, unr]
    | cons v r =>
      obtain ⟨v0, v1⟩ := hl v (by simp)
      generalize hn : 1 + same1 v r = n
      have hn1 : 1 ≤ n := by omega
      have ht := took_pos out.getLast? v n hn1
      have ht2 := took_le out.getLast? v n
      have htk : (v :: r).take (took out.getLast? v n) = List.replicate (took out.getLast? v n) v := by
        refine same1_take v (v :: r) _ ?_
        unfold same1
        rw [if_pos rfl]
        omega
      have hlen : took out.getLast? v n ≤ (v :: r).length := by
        have := same1_le v r
        simp; omega
      have key : ¬ rbad out (cho out.getLast? v n) ((took out.getLast? v n : Int) - rl (cho out.getLast? v n)) ∧ (rn (cho out.getLast? v n) ((took out.getLast? v n : Int) - rl (cho out.getLast? v n))).toNat = took out.getLast? v n ∧ rv out (cho out.getLast? v n) = v := by
        unfold took cho
        by_cases c1 : v = 0 ∧ 11 ≤ n
        · rw [if_pos c1]
          obtain ⟨rfl, c1⟩ := c1
          refine ⟨?_, ?_, rfl⟩
          · unfold rbad rtop rmax rl
            simp
            omega
          · unfold rn rmax rl
            simp
            omega
        · rw [if_neg c1]
          by_cases c2 : v = 0 ∧ 3 ≤ n
          · rw [if_pos c2]
            obtain ⟨rfl, c2⟩ := c2
            refine ⟨?_, ?_, rfl⟩
            · unfold rbad rtop rmax rl
              simp
              omega
            · unfold rn rmax rl
              simp
              omega
          · rw [if_neg c2]
            by_cases c3 : out.getLast? = some v ∧ 3 ≤ n
            · rw [if_pos c3]
              obtain ⟨c3, c4⟩ := c3
              have ho : out ≠ [] := by rintro rfl; simp at c3
              refine ⟨?_, ?_, by unfold rv; rw [if_pos rfl, c3]; rfl⟩
              · unfold rbad rtop rmax rl
                simp [ho]
                omega
              · unfold rn rmax rl
                simp
                omega
            · rw [if_neg c3]
              have e1 : ¬ v = 16 := by omega
              have e2 : ¬ v = 17 := by omega
              have e3 : ¬ v = 18 := by omega
              refine ⟨?_, ?_, by unfold rv; rw [if_neg e1, if_neg (by omega)]⟩
              · unfold rbad rtop rmax rl
                simp [e1, e2, e3]
                omega
              · unfold rn rmax rl
                simp [e1, e2, e3]
                omega
      obtain ⟨k1, k2, k3⟩ := key
      have hrest := ih (out ++ List.replicate (took out.getLast? v n) v) ((v :: r).drop (took out.getLast? v n)) (by simp at hf ⊢; omega) (fun x hx => hl x (List.mem_of_mem_drop hx))
      have hlast : (out ++ List.replicate (took out.getLast? v n) v).getLast? = some v := by
        rw [List.getLast?_append, List.getLast?_replicate, if_neg (by omega)]; rfl
      rw [hlast] at hrest
      simp only [runsOf, hn]
      rw [unr, if_neg k1, k2, k3]
      refine ⟨?_, ?_⟩
      · rw [hrest.1, List.append_assoc, ← htk, List.take_append_drop]
      · have := hrest.2
        simp at this ⊢
        omega

end Go.Proofs.YtoppjcmkhhkbmaaGreat.BlockRuns
