/-
  burnishref02.closed, known.
-/
import Derived.Test.YtegmbjkpjglgpaaWpS
import Derived.Deep.QuietTactic
import Derived.BigQuiet
namespace Go.Proofs.Ytegmbjkpjglgpaa
open Go.RowKit Go.Lib

/-- a wish as the reference holds it -/
def kdV : WV → Int
  | .n _ => 1
  | .s _ => 2
  | .t _ => 3
def nuV : WV → Int
  | .n x => x
  | _ => 0
def sxV : WV → ByteArray
  | .s x => x
  | _ => ⟨#[]⟩
def blV : WV → Bool
  | .t b => b
  | _ => false
def encRw (x : Wsh) : List Value := [.string x.1, .int .i64 (kdV x.2), .int .i64 (nuV x.2), .string (sxV x.2), .bool (blV x.2)]
def rwV (x : Wsh) : Value := .agg #[.string x.1, .int .i64 (kdV x.2), .int .i64 (nuV x.2), .string (sxV x.2), .bool (blV x.2)]
def ClEnd (x : Wsh) (W : World) (e : Ending) (w' : World) : Prop := e = .returned (rwV x) ∧ Below W.heap.size W w'
theorem below_two (W : World) (o p : Obj) : Below W.heap.size W ((W.alloc o).alloc p) := ((Below.refl _ _).alloc (Nat.le_refl _) _).alloc (by simp) _
set_option maxRecDepth 100000 in
set_option maxHeartbeats 2000000 in
theorem closed_any (q : QS) (hq : endsS q.st = true) (N T : Option Addr) (c d bn bt : Nat) (W : World) (hn : W.ownsRow bn 21 1 (.slice N q.nm.length c) q.nm.length (runesV q.nm)) (ht : W.ownsRow bt 21 1 (.slice T q.tx.length d) q.tx.length (runesV q.tx)) (h0 : 0 ≤ q.n) (h1 : q.n ≤ 999999999) :
    Calls Try.prog 86 #[.int .i64 (q.st : Int), .slice N q.nm.length c, .slice T q.tx.length d, .int .i64 q.n, .bool q.mi] W (ClEnd q.closed W) := by
  have cn : ∀ w, Below W.heap.size W w → (Go.convert 24 9 (.slice N q.nm.length c)).run Try.prog w = .ok (.string (runesBytes q.nm)) w := fun w hw => conv_runes (own_below hn hw (Nat.le_refl _)) rfl
  have ct : ∀ w, Below W.heap.size W w → (Go.convert 24 9 (.slice T q.tx.length d)).run Try.prog w = .ok (.string (runesBytes q.tx)) w := fun w hw => conv_runes (own_below ht hw (Nat.le_refl _)) rfl
  have HV : Hid (q.closed = (runesBytes q.nm, q.val)) := hid rfl
  have HQ : Hid (q.val = if q.st = 1 then .t true else if q.st = 3 then wordV (runesBytes q.tx) else if q.st = 9 then .s (runesBytes q.tx) else .n (if q.mi = true then -q.n else q.n)) := hid rfl
  generalize q.closed = qc at *
  generalize q.val = qv at *
  generalize runesBytes q.nm = bn2 at *
  generalize runesBytes q.tx = bt2 at *
  generalize q.nm.length = ln at *
  generalize q.tx.length = lt at *
  generalize q.n = nn at *
  generalize q.mi = mi at *
  generalize q.st = st at *
  clear hn ht
  have hB0 : Below W.heap.size W W := Below.refl _ _
  have hBa : ∀ (w : World) (o : Obj), Below W.heap.size W w → Below W.heap.size W (w.alloc o) := fun w o h => h.alloc h.size o
  have hB2 : ∀ (o p : Obj), Below W.heap.size W ((W.alloc o).alloc p) := below_two W
  have hq5 : st = 1 ∨ st = 3 ∨ st = 5 ∨ st = 6 ∨ st = 9 := by
    unfold endsS at hq
    simpa only [Bool.or_eq_true, beq_iff_eq] using hq
  clear hq
  have FIN := hid (fun (v : WV) (hv : qc = (bn2, v)) (w' : World) (hb : Below W.heap.size W w') => show ClEnd qc W (.returned (rwV (bn2, v))) w' from ⟨by rw [hv], hb⟩)
  rcases hq5 with hq | hq | hq | hq | hq
  · subst hq
    have HX := hid (show qc = (bn2, .t true) by rw [HV.out, HQ.out]; rfl)
    go_enter Try.func86, Try.ntmps86
    go_wp2_with fail
    refine bodyPost_ret (v := rwV (bn2, .t true)) (by simp [results, Try.results86, go_sem, rwV, kdV, nuV, sxV, blV]) rfl (FIN.out _ HX.out _ (hB2 _ _))
  · subst hq
    have HQ3 := hid (show qv = wordV bt2 by rw [HQ.out]; rfl)
    cases f1 : (bt2.toList == [116, 114, 117, 101])
    · cases f2 : (bt2.toList == [102, 97, 108, 115, 101])
      · have HX := hid (show qc = (bn2, .s bt2) by rw [HV.out, HQ3.out]; unfold wordV; rw [f1, f2]; rfl)
        go_enter Try.func86, Try.ntmps86
        go_wp2_with fail
        refine bodyPost_ret (v := rwV (bn2, .s bt2)) (by simp [results, Try.results86, go_sem, rwV, kdV, nuV, sxV, blV]) rfl (FIN.out _ HX.out _ (hB2 _ _))
      · have HX := hid (show qc = (bn2, .t false) by rw [HV.out, HQ3.out]; unfold wordV; rw [f1, f2]; rfl)
        go_enter Try.func86, Try.ntmps86
        go_wp2_with fail
        refine bodyPost_ret (v := rwV (bn2, .t false)) (by simp [results, Try.results86, go_sem, rwV, kdV, nuV, sxV, blV]) rfl (FIN.out _ HX.out _ (hB2 _ _))
    · have HX := hid (show qc = (bn2, .t true) by rw [HV.out, HQ3.out]; unfold wordV; rw [f1]; rfl)
      go_enter Try.func86, Try.ntmps86
      go_wp2_with fail
      refine bodyPost_ret (v := rwV (bn2, .t true)) (by simp [results, Try.results86, go_sem, rwV, kdV, nuV, sxV, blV]) rfl (FIN.out _ HX.out _ (hB2 _ _))
  · subst hq
    have HQ3 := hid (show qv = .n (if mi = true then -nn else nn) by rw [HQ.out]; rfl)
    have hng : wrap64 (-nn) = -nn := IntWalk.wrap64_in _ (by omega)
    cases mi with
    | true =>
      have HX := hid (show qc = (bn2, .n (-nn)) by rw [HV.out, HQ3.out]; rfl)
      go_enter Try.func86, Try.ntmps86
      go_wp2_with fail
      refine bodyPost_ret (v := rwV (bn2, .n (-nn))) (by simp [results, Try.results86, go_sem, rwV, kdV, nuV, sxV, blV]) rfl (FIN.out _ HX.out _ (hB2 _ _))
    | false =>
      have HX := hid (show qc = (bn2, .n nn) by rw [HV.out, HQ3.out]; rfl)
      go_enter Try.func86, Try.ntmps86
      go_wp2_with fail
      refine bodyPost_ret (v := rwV (bn2, .n nn)) (by simp [results, Try.results86, go_sem, rwV, kdV, nuV, sxV, blV]) rfl (FIN.out _ HX.out _ (hB2 _ _))
  · subst hq
    have HQ3 := hid (show qv = .n (if mi = true then -nn else nn) by rw [HQ.out]; rfl)
    have hng : wrap64 (-nn) = -nn := IntWalk.wrap64_in _ (by omega)
    cases mi with
    | true =>
      have HX := hid (show qc = (bn2, .n (-nn)) by rw [HV.out, HQ3.out]; rfl)
      go_enter Try.func86, Try.ntmps86
      go_wp2_with fail
      refine bodyPost_ret (v := rwV (bn2, .n (-nn))) (by simp [results, Try.results86, go_sem, rwV, kdV, nuV, sxV, blV]) rfl (FIN.out _ HX.out _ (hB2 _ _))
    | false =>
      have HX := hid (show qc = (bn2, .n nn) by rw [HV.out, HQ3.out]; rfl)
      go_enter Try.func86, Try.ntmps86
      go_wp2_with fail
      refine bodyPost_ret (v := rwV (bn2, .n nn)) (by simp [results, Try.results86, go_sem, rwV, kdV, nuV, sxV, blV]) rfl (FIN.out _ HX.out _ (hB2 _ _))
  · subst hq
    have HX := hid (show qc = (bn2, .s bt2) by rw [HV.out, HQ.out]; rfl)
    go_enter Try.func86, Try.ntmps86
    go_wp2_with fail
    refine bodyPost_ret (v := rwV (bn2, .s bt2)) (by simp [results, Try.results86, go_sem, rwV, kdV, nuV, sxV, blV]) rfl (FIN.out _ HX.out _ (hB2 _ _))

set_option maxRecDepth 100000 in
set_option maxHeartbeats 2000000 in
theorem known_any (A N : Option Addr) (c d bn : Nat) (L : List Wsh) (nm : List Int) (W : World) (h : Rd W W.heap.size 5 A L.length (L.flatMap encRw)) (hm : L.length ≤ 1000000) (hn : W.ownsRow bn 21 1 (.slice N nm.length d) nm.length (runesV nm)) :
    Calls Try.prog 85 #[.slice A L.length c, .slice N nm.length d] W fun e w' => e = .returned (.bool (knownP (runesBytes nm) L)) ∧ Below W.heap.size W w' := by
  have H := hid h
  have cn : ∀ w, Below W.heap.size W w → (Go.convert 24 9 (.slice N nm.length d)).run Try.prog w = .ok (.string (runesBytes nm)) w := fun w hw => conv_runes (own_below hn hw (Nat.le_refl _)) rfl
  have CN := hid cn
  clear h hn cn
  generalize runesBytes nm = nb at *
  generalize nm.length = nl at *
  go_enter Try.func85, Try.ntmps85
  go_wp2_with fail
  go_loopw [5] (fun iv wr => ∃ i : Nat, i ≤ L.length ∧ iv = .int .i64 (i : Int) ∧ Hid (∀ k, k < i → ∀ x, L[k]? = some x → (x.1.toList == nb.toList) = false) ∧ Hid (Below W.heap.size W wr)) (fun i _ => L.length - (intOf i).toNat)
  case atStart => exact ⟨0, by omega, rfl, hid (fun k hk => by omega), hid (Below.refl _ _)⟩
  case round =>
    obtain ⟨i, hi, rfl, Hall, B⟩ := hrel
    by_cases hlt : i < L.length
    · have d1 : decide (i < L.length) = true := decide_eq_true hlt
      have d2 : decide ((i : Int) < (L.length : Int)) = true := decide_eq_true (by omega)
      obtain ⟨b, off, rfl, hb, hcl⟩ := (H.out.below B.out (Nat.le_refl _)).at_ (k := i) hlt (by omega)
      have c0 : wr.cell? ⟨b, off + i * 5, none⟩ = some (.string L[i].1) := hcl (i * 5 + 0) _ ((flat_at encRw 5 L (fun _ _ => rfl) i 0 L[i] (List.getElem?_eq_getElem hlt) (by omega)).trans rfl)
      have hx : L[i]? = some L[i] := List.getElem?_eq_getElem hlt
      generalize L[i] = x at *
      obtain ⟨xn, xv⟩ := x
      dsimp only at c0
      have Hx := hid hx
      have cw : ∀ k, (Go.convert 24 9 (.slice N nl d)).run Try.prog (wr.drewN k) = .ok (.string nb) (wr.drewN k) := fun k => CN.out (wr.drewN k) (below_drewN B.out k)
      clear hcl hx
      go_upto_region 4 with (fail)
      first | go_quiet (fail) | fail
      have B1 := hid (show Below W.heap.size W (wr.drewN nq) from below_drewN B.out nq)
      cases hq : (xn.toList == nb.toList)
      · have Hq := hid hq
        clear hq
        go_wp2
        go_roundw
        case rel =>
          refine ⟨i + 1, by omega, by go_num, hid (fun k hk y hy => ?_), B1⟩
          by_cases h : k < i
          · exact Hall.out k h y hy
          · obtain rfl : k = i := by omega
            rw [Hx.out] at hy
            injection hy with hy
            rw [← hy]
            exact Hq.out
        case measure => simp [intOf]; omega
      · have Ha := hid (show knownP nb L = true from List.any_eq_true.2 ⟨_, List.mem_of_getElem? Hx.out, hq⟩)
        clear hq
        go_wp2
        go_ret
        exact ⟨by rw [Ha.out]; rfl, B1.out⟩
    · have d1 : decide (i < L.length) = false := decide_eq_false hlt
      have d2 : decide ((i : Int) < (L.length : Int)) = false := decide_eq_false (by omega)
      have Ha := hid (show knownP nb L = false from List.any_eq_false.2 fun x hx => by
        obtain ⟨k, hk, rfl⟩ := List.getElem_of_mem hx
        have := Hall.out k (by omega) _ (List.getElem?_eq_getElem hk)
        rw [this]
        exact Bool.false_ne_true)
      go_wp2
      go_ret
      exact ⟨by rw [Ha.out]; rfl, B.out⟩
end Go.Proofs.Ytegmbjkpjglgpaa
