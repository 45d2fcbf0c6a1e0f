/-
  canon.NewBook; (*canon.Book).beyond.
-/
import Derived.Test.YtegmbjkpjglgpaaCanC
namespace Go.Proofs.Ytegmbjkpjglgpaa
open Go.RowKit

/-- the book of lengths -/
structure BookOf (l : List Int) (b : BM) : Prop where
  lens : b.lens = l
  codes : b.codes = codesL l
  ord : b.ord = ordL l
  rows : ∀ n, n < 17 → b.S n = selN l (ordL l) n ∧ b.F n = fstC (codesL l) (b.S n)
def NewBookEnd (l : List Int) (W : World) (e : Ending) (w' : World) : Prop :=
  (lensB l = false ∧ e = .returned (.tuple #[.pointer none, .iface 40 (.int .i64 6)]) ∧ Below W.heap.size W w') ∨
  (lensB l = true ∧ ∃ g b, e = .returned (.tuple #[.pointer (some ⟨g, 0, none⟩), .nilIface]) ∧ W.heap.size ≤ g ∧ BK w' g b ∧ BookOf l b ∧ Below W.heap.size W w')
theorem ordL_sum (l : List Int) : ∀ n, ((List.range n).flatMap (fun i => rowF l (i + 1))).length = sumR (fun i => (rowF l (i + 1)).length) n
  | 0 => rfl
  | n + 1 => by
    rw [List.range_succ, List.flatMap_append, List.length_append, ordL_sum l n]
    simp [sumR]
theorem ordL_len {l : List Int} : (ordL l).length ≤ l.length := by
  unfold ordL
  rw [ordL_sum]
  have key : ∀ k, k ≤ l.length → sumR (fun i => (rowF (l.take k) (i + 1)).length) 16 ≤ k := by
    intro k
    induction k with
    | zero =>
      intro _
      have : ∀ m, sumR (fun i => (rowF (l.take 0) (i + 1)).length) m = 0 := by
        intro m
        induction m with
        | zero => rfl
        | succ m ihm =>
          unfold sumR
          rw [ihm]
          simp [rowF]
      rw [this]
      exact Nat.le_refl _
    | succ k ih =>
      intro hk
      have ih := ih (by omega)
      rw [List.take_succ_eq_append_getElem (by omega)]
      generalize l[k] = x
      have e : (fun i => (rowF (l.take k ++ [x]) (i + 1)).length) = (fun i => (rowF (l.take k) (i + 1)).length + (if x = ((i + 1 : Nat) : Int) then 1 else 0)) := by
        funext i
        rw [rowF_snoc, List.length_append]
        congr 1
        split <;> rfl
      rw [e, sumR_add, sumR_pick (fun _ => 1) x 16]
      split <;> omega
  have := key l.length (Nat.le_refl _)
  rw [List.take_length] at this
  exact this
set_option maxRecDepth 100000 in
theorem newBook_any (A : Option Addr) (c : Nat) (l : List Int) (W : World) (h : RdI W W.heap.size A l) (hn : A = none → c = 0) (hm : l.length ≤ 1000) : Calls Try.prog 137 #[.slice A l.length c] W (NewBookEnd l W) := by
  have H := hid h
  have Hn := hid hn
  have FR := hid (free_any A c l W h (by unfold maxLen; omega))
  clear h hn
  obtain ⟨L, hL⟩ : ∃ L, L = l.length := ⟨_, rfl⟩
  have HL := hid hL
  rw [← hL] at hm
  have fr := FR.out
  rw [← hL] at fr ⊢
  have FR2 := hid fr
  clear fr FR hL
  go_enter Try.func137, Try.ntmps137
  go_wp2_with fail
  refine (FR2.out).mono ?_
  rintro e w1 ⟨rfl, (⟨hb, rfl⟩ | ⟨hb, rfl⟩)⟩
  · have Hb := hid hb
    clear hb FR2
    have hor := order_any A c l w1 H.out (by rw [← HL.out]; exact hm)
    rw [← HL.out] at hor
    have OR := hid hor
    clear hor
    go_wp2_with fail
    refine (OR.out).mono ?_
    rintro e w2 ⟨OA, oc, rfl, ho, hb2⟩
    have hok := sl_ok Hb.out
    have hbi := bind_any A OA c oc l (ordL l) w2 (H.out.below hb2 (Nat.le_refl _) |>.more hb2.size) Hn.out (own_base ho (Nat.zero_le _)) hok (fun s hs => (ordL_mem.1 hs).1) (by rw [← HL.out]; exact hm) (Nat.le_trans ordL_len (by rw [← HL.out]; exact hm))
    rw [← HL.out] at hbi
    have BI := hid hbi
    have B2 := hid hb2
    clear ho hb2 hok hbi OR
    obtain ⟨O, hO⟩ : ∃ O, O = (ordL l).length := ⟨_, rfl⟩
    have bi := BI.out
    rw [← hO] at bi ⊢
    have BI2 := hid bi
    clear bi BI hO
    go_wp2_with fail
    refine (BI2.out).mono ?_
    rintro e w3 ⟨g, b, rfl, hg, hK, h1, h2, h3, h4, hb3⟩
    have R := hid (show NewBookEnd l w1 (.returned (.tuple #[.pointer (some ⟨g, 0, none⟩), .nilIface])) w3 from .inr ⟨Hb.out, g, b, rfl, Nat.le_trans B2.out.size hg, hK, ⟨h1, h2, h3, fun n hn => by have := h4 n hn; rw [h2] at this; exact this⟩, B2.out.trans (hb3.mono B2.out.size)⟩)
    clear hg hK h1 h2 h3 h4 hb3 BI2
    go_wp2_with fail
    go_ret2
    exact R.out
  · have Hb := hid hb
    clear hb FR2
    go_wp2_with fail
    go_ret2
    exact .inl ⟨Hb.out, rfl, Below.refl _ _⟩
end Go.Proofs.Ytegmbjkpjglgpaa
