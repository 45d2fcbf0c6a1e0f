/-
  inflate: numbers and symbols taken.
  inflate: a block of kind 0.
-/
import Derived.Test.YtegmbjkpjglgpaaInfSt
import Derived.Test.YtegmbjkpjglgpaaInfPut
namespace Go.Proofs.Ytegmbjkpjglgpaa
open Go.RowKit

theorem takeSt_none (v : Ev) (s : Sk) (lp dp : Value) (bs : List (Nat × BM)) (n : Nat) (hn : n ≤ 32) (W : World) (h : St v W s lp dp bs) (ht : tkM (bitsL v.bl) s.k n = none) :
    Calls Try.prog 129 #[.pointer (some ⟨v.gr, 0, none⟩), .int .i64 (n : Int)] W fun e w' => e = .returned (.tuple #[.int .i64 0, .iface 40 (.int .i64 8)]) ∧ St v w' s lp dp bs ∧ W.grownBy w' (some v.gr) := by
  have h1 : 8 * v.bl.length < s.k + n := by
    unfold tkM at ht
    rw [bitsL_length] at ht
    by_cases h : 8 * v.bl.length < s.k + n
    · exact h
    · rw [if_neg h] at ht; cases ht
  refine (take_end v.gr v.A v.c v.bl s.k n hn W h.rd h1).mono ?_
  rintro e w1 ⟨rfl, hr, hg⟩
  exact ⟨rfl, h.turn hr hg, hg⟩
theorem takeSt_some (v : Ev) (s : Sk) (lp dp : Value) (bs : List (Nat × BM)) (n : Nat) (hn : n ≤ 32) (x : Int) (W : World) (h : St v W s lp dp bs) (ht : tkM (bitsL v.bl) s.k n = some x) :
    Calls Try.prog 129 #[.pointer (some ⟨v.gr, 0, none⟩), .int .i64 (n : Int)] W fun e w' => e = .returned (.tuple #[.int .i64 x, .nilIface]) ∧ St v w' ⟨s.k + n, s.size, s.toks⟩ lp dp bs ∧ W.grownBy w' (some v.gr) := by
  have h1 : s.k + n ≤ 8 * v.bl.length ∧ x = numL (bitsL v.bl) s.k n := by
    unfold tkM at ht
    rw [bitsL_length] at ht
    by_cases h : 8 * v.bl.length < s.k + n
    · rw [if_pos h] at ht; cases ht
    · rw [if_neg h] at ht; injection ht with ht; exact ⟨by omega, ht.symm⟩
  refine (take_ok v.gr v.A v.c v.bl s.k n hn W h.rd h1.1).mono ?_
  rintro e w1 ⟨rfl, hr, hg⟩
  exact ⟨by rw [h1.2], h.turn hr hg, hg⟩
theorem tkM_bd {L : List Int} (hL : ∀ x ∈ L, isBit x) {k n : Nat} {x : Int} (h : tkM L k n = some x) : 0 ≤ x ∧ x < 2 ^ n := by
  unfold tkM at h
  split at h
  · cases h
  · injection h with h
    rw [← h]
    exact numL_bd hL k n
/-- a symbol -/
theorem rdB_eq {l : List Int} (hl : lensB l = true) {m : List Nat} {s ln cd : Nat} (hL : LastOf l m s ln cd) {L : List Int} (hLb : ∀ x ∈ L, isBit x) (k : Nat) : rdB l ln cd L k 17 1 0 (ordL l).length = Cd.rdC (slOf l) (btF L k) (L.length - k) 16 1 0 := by
  have hO := sl_ok hl
  have e : slOf l = m.map (fun s => (s, lenOf l s)) ++ [(s, lenOf l s)] := by unfold slOf; rw [hL.ord]; simp
  have ho : (ordL l).length = Cd.openN (slOf l) 1 := by rw [Cd.openN_one hO]; simp [slOf]
  have hp : 0 < Cd.tot (slOf l) := by
    rw [e, Cd.tot_append, Cd.tot_cons]
    have := Cd.pw_pos (lenOf l s)
    show 0 < _ + (Cd.pw (lenOf l s) + _)
    omega
  unfold rdB
  rw [ho, hL.cod, hL.len]
  exact Cd.rdP_eq hO e (FN l) (fun n => selN l (ordL l) n) (btF L k) (L.length - k) (fun i => (btF_le hLb k i).1) (fun n => selN_rowOf l n) (fun n h1 h2 h3 => (fst_nat hl n h1 h2).2.2 h3) 16 1 0 rfl (Nat.le_refl _) (by rw [Cd.low_one hO]; omega) (by rw [Nat.zero_mul]; exact hp)
theorem lastOf_ex {l : List Int} (h : ordL l ≠ []) : ∃ m s ln cd, LastOf l m s ln cd :=
  ⟨(ordL l).dropLast, (ordL l).getLast h, _, _, (List.dropLast_concat_getLast h).symm, rfl, rfl⟩
/-- a book without codes -/
theorem read_empty (gb : Nat) (b : BM) (l : List Int) (rp : Value) (W : World) (hK : BK W gb b) (hB : BookOf l b) (h0 : ordL l = []) :
    Calls Try.prog 140 #[.pointer (some ⟨gb, 0, none⟩), rp] W fun e w' => e = .returned (.tuple #[.int .i64 0, .iface 40 (.int .i64 2)]) ∧ Below W.heap.size W w' := by
  have q2 := (bk_cell0 hK).2.2
  have hgw := hK.blk.lt
  rw [hB.ord, h0, List.length_nil] at q2
  clear hK hB h0
  go_enter Try.func140, Try.ntmps140
  go_upto_region 3 with (fail)
  go_quiet (fail)
  have B0 := hid (below_drewN (Below.refl W.heap.size W) nq)
  generalize W.drewN nq = w0 at *
  clear q2 hgw
  go_wp2_with fail
  go_loopw [7] (fun v7 wr => v7 = .int .i64 0 ∧ Below W.heap.size W wr) (fun _ _ => 0)
  case atStart => exact ⟨rfl, B0.out⟩
  clear B0
  case round =>
    obtain ⟨rfl, hb⟩ := hrel
    go_wp2_with fail
    go_ret2
    exact ⟨rfl, hb⟩
/-- how a symbol's reading ends -/
def SymEnd (v : Ev) (s : Sk) (lp dp : Value) (bs : List (Nat × BM)) (W : World) (r : Except Int (Nat × Nat)) (e : Ending) (w' : World) : Prop :=
  W.grownBy w' (some v.gr) ∧ match r with
  | .error k => e = .returned (.tuple #[.int .i64 0, .iface 40 (.int .i64 k)]) ∧ ∃ k1, St v w' ⟨k1, s.size, s.toks⟩ lp dp bs
  | .ok (y, k1) => e = .returned (.tuple #[.int .i64 (y : Int), .nilIface]) ∧ St v w' ⟨k1, s.size, s.toks⟩ lp dp bs
theorem symSt (v : Ev) (s : Sk) (lp dp : Value) (bs : List (Nat × BM)) (gb : Nat) (b : BM) (l : List Int) (hb : (gb, b) ∈ bs) (hB : BookOf l b) (hl : lensB l = true) (W : World) (h : St v W s lp dp bs) :
    Calls Try.prog 140 #[.pointer (some ⟨gb, 0, none⟩), .pointer (some ⟨v.gr, 0, none⟩)] W (SymEnd v s lp dp bs W (symM l (bitsL v.bl) s.k)) := by
  by_cases h0 : ordL l = []
  · refine (read_empty gb b l _ W (h.bks _ hb) hB h0).mono ?_
    rintro e w1 ⟨rfl, hb1⟩
    have : symM l (bitsL v.bl) s.k = .error 2 := if_pos h0
    rw [this]
    exact ⟨gr_below1 (World.grownBy.refl _ _) hb1, rfl, s.k, h.below hb1⟩
  · obtain ⟨m, y, ln, cd, hL⟩ := lastOf_ex h0
    have e1 := rdB_eq hl hL (bitsL_bit v.bl) s.k
    have e2 : symM l (bitsL v.bl) s.k = (match rdB l ln cd (bitsL v.bl) s.k 17 1 0 (ordL l).length with
      | .sym y n => .ok (y, s.k + n)
      | .short => .error 8
      | .bad => .error 2) := by rw [e1]; exact if_neg h0
    rw [e2]
    refine (read_any gb b l m y ln cd v.gr v.A v.c v.bl s.k W (h.bks _ hb) hB hl hL h.rd).mono ?_
    rintro e w1 ⟨hg, h1⟩
    cases hr : rdB l ln cd (bitsL v.bl) s.k 17 1 0 (ordL l).length with
    | sym y n =>
      rw [hr] at h1
      exact ⟨hg, h1.1, h.turn h1.2 hg⟩
    | short =>
      rw [hr] at h1
      obtain ⟨k1, h2⟩ := h1.2
      exact ⟨hg, h1.1, k1, h.turn h2 hg⟩
    | bad =>
      rw [hr] at h1
      obtain ⟨k1, h2⟩ := h1.2
      exact ⟨hg, h1.1, k1, h.turn h2 hg⟩
theorem own_own_ne {w : World} {b1 b2 n1 n2 z1 z2 : Nat} {t1 t2 : TypeId} {v1 v2 : Value} {x1 x2 : List Value} (h1 : w.ownsRow b1 t1 z1 v1 n1 x1) (h2 : w.ownsRow b2 t2 z2 v2 n2 x2) (hne : t2 ≠ t1) : v1.ownBlock = none ∨ v1.ownBlock ≠ v2.ownBlock := by
  rcases h1.2 with ⟨rfl, _⟩ | ⟨g, cap, cur, rfl, _, hh, _⟩
  · exact .inl rfl
  · exact .inr (own_blk_ne (g := g) (cs := cur) h2 hh hne)
theorem BR.app {w w' : World} {g : Nat} {A : Option Addr} {c : Nat} {bl : List Int} {k base n z : Nat} {v : Value} {xs : List Value} (h : BR w g A c bl k) (ho : w.ownsRow base 3 z v n xs) (hg : w.grownBy w' v.ownBlock) : BR w' g A c bl k :=
  ⟨h.blk.grown hg (own_blk_ne ho h.blk (by decide)), h.row.kept hg (own_own_ne h.row ho (by decide)), h.ok, h.len, h.at_⟩
theorem gr_belowC {W w w' : World} {r : Option Nat} (h : W.grownBy w r) (hb : Below W.heap.size w w') : W.grownBy w' r :=
  ⟨hb.os.trans h.os, hb.tape.trans h.tape, hb.output.trans h.output, Nat.le_trans h.size hb.size, fun k hk hr => (hb.block k hk).trans (h.block k hk hr)⟩
theorem own_turn {v : Ev} {w w' : World} {s : Sk} {lp dp : Value} {bs : List (Nat × BM)} {base n c : Nat} {A : Option Addr} {xs : List Value} (h : St v w s lp dp bs) (hg : w.grownBy w' (some v.gr)) (ho : w.ownsRow base 3 1 (.slice A n c) n xs) : w'.ownsRow base 3 1 (.slice A n c) n xs := ho.kept hg (.inr (own_blk_ne ho h.rd.blk (by decide)).symm)
theorem blk_turn {v : Ev} {w w' : World} {s : Sk} {lp dp : Value} {bs : List (Nat × BM)} {g : Nat} {cs : Array Value} (h : St v w s lp dp bs) (hg : w.grownBy w' (some v.gr)) (hb : Blk w g 3 cs) : Blk w' g 3 cs := hb.grown hg (fun e => by
  injection e with e
  have hr := h.rd.blk
  rw [← e] at hr
  unfold Blk at hb hr
  rw [hb] at hr
  injection hr with hr
  injection hr with _ hr
  exact absurd hr (by decide))
/-- several numbers -/
theorem intsV_snoc (l : List Int) (x : Int) : intsV (l ++ [x]) = intsV l ++ [.int .i64 x] := by simp [intsV]
def takesM (L : List Int) : List Nat → Nat → List Int → Option (Nat × List Int)
  | [], k, out => some (k, out)
  | c :: cs, k, out => match tkM L k c with
    | none => none
    | some x => takesM L cs (k + c) (out ++ [x])
def TakesEnd (v : Ev) (s : Sk) (lp dp : Value) (bs : List (Nat × BM)) (W : World) (r : Option (Nat × List Int)) (e : Ending) (w' : World) : Prop :=
  match r with
  | none => e = .returned (.tuple #[.slice none 0 0, .iface 40 (.int .i64 8)]) ∧ ∃ k1, St v w' ⟨k1, s.size, s.toks⟩ lp dp bs
  | some (k1, out) => ∃ A c, e = .returned (.tuple #[.slice A out.length c, .nilIface]) ∧ w'.ownsRow W.heap.size 3 1 (.slice A out.length c) out.length (intsV out) ∧ St v w' ⟨k1, s.size, s.toks⟩ lp dp bs
set_option maxRecDepth 100000 in
set_option maxHeartbeats 4000000 in
theorem takes_any (v : Ev) (s : Sk) (lp dp : Value) (bs : List (Nat × BM)) (ga c : Nat) (cs : List Nat) (hm : cs.length ≤ 100) (hc : ∀ x ∈ cs, x ≤ 32) (W : World) (h : St v W s lp dp bs) (hr : Blk W ga 3 (intsV (natsV cs)).toArray) :
    Calls Try.prog 115 #[.pointer (some ⟨v.g, 0, none⟩), .slice (some ⟨ga, 0, none⟩) cs.length c] W (TakesEnd v s lp dp bs W (takesM (bitsL v.bl) cs s.k [])) := by
  have H := hid h
  have Hr := hid hr
  have Hc := hid hc
  obtain ⟨N, hN⟩ : ∃ N, N = cs.length := ⟨_, rfl⟩
  have HN := hid hN
  obtain ⟨i0, hi0, hz0, hz1, hz2⟩ := info_parts int_info
  have Hi0 := hid hi0
  have Hz0 := hid hz0
  have Hz1 := hid hz1
  have Hz2 := hid hz2
  rw [← hN] at hm ⊢
  clear h hr hc hN hi0 hz0 hz1 hz2
  go_enter Try.func115, Try.ntmps115
  go_wp2_with fail
  go_loopw [6, 13] (fun v6 v13 wr => ∃ (j n k : Nat) (A' : Option Addr) (c' : Nat) (out : List Int), j ≤ N ∧ n ≤ j ∧ v6 = .slice A' n c' ∧ v13 = .int .i64 (j : Int) ∧ Hid (n = out.length) ∧ Hid (takesM (bitsL v.bl) cs s.k [] = takesM (bitsL v.bl) (cs.drop j) k out) ∧ Hid (wr.ownsRow W.heap.size 3 1 (.slice A' n c') n (intsV out)) ∧ Hid (BR wr v.gr v.A v.c v.bl k) ∧ Hid (W.grownBy wr (some v.gr))) (fun _ i _ => N - (intOf i).toNat)
  case atStart => exact ⟨0, 0, s.k, none, 0, [], by omega, by omega, rfl, rfl, hid rfl, hid rfl, hid (World.ownsRow_nil _ _ _ _), hid H.out.rd, hid (World.grownBy.refl _ _)⟩
  case round =>
    obtain ⟨j, n, k, A', c', out, hj, hnj, rfl, rfl, Hn, He, Ho, Rd, G⟩ := hrel
    have S := hid (H.out.turn Rd.out G.out)
    have R := hid (blk_turn H.out G.out Hr.out)
    by_cases hlt : j < N
    · have d1 : decide (j < N) = true := decide_eq_true hlt
      have hjc : j < cs.length := by rw [← HN.out]; exact hlt
      obtain ⟨x, hx⟩ : ∃ x, x = cs[j] := ⟨_, rfl⟩
      have hx32 : x ≤ 32 := by rw [hx]; exact Hc.out _ (List.getElem_mem hjc)
      have q0 : wr.cell? ⟨ga, j, none⟩ = some (.int .i64 (x : Int)) := (R.out.cell j).trans (by simp [intsV, natsV, hx, List.getElem?_eq_getElem hjc])
      obtain ⟨T, tc, hk, _⟩ := S.out.tok
      unfold workCs at hk
      have c0 := hk.cell 0
      simp only [List.getElem?_toArray, List.getElem?_cons_zero] at c0
      have hgw := hk.lt
      have hd : cs.drop j = x :: cs.drop (j + 1) := by rw [hx]; exact List.drop_eq_getElem_cons hjc
      have Hd := hid hd
      clear hk hx hjc hd
      cases ht : tkM (bitsL v.bl) k x with
      | none =>
        have HE := hid (show takesM (bitsL v.bl) cs s.k [] = none by rw [He.out, Hd.out]; unfold takesM; rw [ht])
        have Ht := hid ht
        clear ht
        go_wp2_with fail
        refine (takeSt_none v ⟨k, s.size, s.toks⟩ lp dp bs x hx32 _ S.out Ht.out).mono ?_
        rintro e w2 ⟨rfl, hS2, _⟩
        have S2 := hid hS2
        clear hS2
        go_wp2_with fail
        go_ret2
        unfold TakesEnd
        rw [HE.out]
        exact ⟨rfl, k, S2.out⟩
      | some y =>
        have HE := hid (show takesM (bitsL v.bl) cs s.k [] = takesM (bitsL v.bl) (cs.drop (j + 1)) (k + x) (out ++ [y]) by rw [He.out, Hd.out, takesM, ht])
        have Ht := hid ht
        clear ht
        go_wp2_with fail
        refine (takeSt_some v ⟨k, s.size, s.toks⟩ lp dp bs x hx32 y _ S.out Ht.out).mono ?_
        rintro e w2 ⟨rfl, hS2, hg2⟩
        have S2 := hid hS2
        have O2 := hid (own_turn S.out hg2 Ho.out)
        have Z2 := hid (gr_trans1 G.out hg2)
        clear hS2 hg2 S Ho R Rd G q0 c0 hgw
        go_wp2_with (at_builtin; refine wpList_app _ rfl _ _ _ rfl W.heap.size 3 i0 (.int .i64 0) 1 8 Try.underlying53 Hi0.out Hz0.out Hz1.out Hz2.out rfl (by omega) A' n c' (intsV out) rfl (O2.out.alloc _) _ _ 1 1 [.int .i64 y] rfl (rd_one _ _ _ _ (Blk.new _ _ _)) (by simp) (by simp [Value.oneCell']) (by simp only [maxLen]; omega) (by omega) (by have := Z2.out.size; simp; omega) ?_; intro A4 c4 w4 ha4; have Ha4 := hid ha4; clear ha4)
        obtain ⟨hown4, hgr4, hb4, _⟩ := Ha4.out
        refine ⟨⟨j + 1, n + 1, k + x, A4, c4, out ++ [y], by omega, by omega, rfl, by go_num, hid (by rw [List.length_append, Hn.out]; rfl), HE, hid (by rw [intsV_snoc]; exact hown4), hid ((S2.out.rd.below (below_alloc1 _ _)).app (O2.out.alloc _) hgr4), hid (gr_belowC (gr_below1 Z2.out (below_alloc1 _ _)) hb4)⟩, by simp [intOf]; omega⟩
    · have d1 : decide (j < N) = false := decide_eq_false hlt
      have HE := hid (show takesM (bitsL v.bl) cs s.k [] = some (k, out) by rw [He.out, List.drop_eq_nil_of_le (by rw [← HN.out]; omega), takesM])
      go_wp2_with fail
      go_ret2
      unfold TakesEnd
      rw [HE.out]
      refine ⟨A', c', ?_, ?_, S.out⟩
      · rw [← Hn.out]; rfl
      · rw [← Hn.out]; exact Ho.out
end Go.Proofs.Ytegmbjkpjglgpaa

namespace Go.Proofs.Ytegmbjkpjglgpaa
open Go.RowKit

theorem xor16 {a b : Nat} (ha : a < 65536) : a ^^^ b = 65535 ↔ a + b = 65535 := by
  have hc : a ^^^ 65535 = 65535 - a := by
    apply Nat.eq_of_testBit_eq
    intro i
    rw [Nat.testBit_xor, show 65535 - a = 2 ^ 16 - (a + 1) by omega, Nat.testBit_two_pow_sub_succ (by omega), show 65535 = 2 ^ 16 - 1 by rfl, Nat.testBit_two_pow_sub_one]
    by_cases hi : i < 16
    · simp [hi]
    · have : a.testBit i = false := Nat.testBit_lt_two_pow (Nat.lt_of_lt_of_le ha (Nat.pow_le_pow_right (n := 2) (by decide) (show 16 ≤ i by omega)))
      simp [hi, this]
  constructor
  · intro h
    have : b = a ^^^ 65535 := by rw [← h, ← Nat.xor_assoc, Nat.xor_self, Nat.zero_xor]
    omega
  · intro h
    have : b = a ^^^ 65535 := by omega
    rw [this, ← Nat.xor_assoc, Nat.xor_self, Nat.zero_xor]
theorem i64_xor16 (a b : Nat) (ha : a < 65536) (hb : b < 65536) : bits .xor .i64 (a : Int) (b : Int) = ((a ^^^ b : Nat) : Int) := by
  have hx : a ^^^ b < 2 ^ 16 := Nat.xor_lt_two_pow (by omega) (by omega)
  have h1 : (BitVec.ofInt 64 (a : Int)).toNat = a := by
    rw [BitVec.ofInt_natCast, BitVec.toNat_ofNat]; exact Nat.mod_eq_of_lt (by omega)
  have h2 : (BitVec.ofInt 64 (b : Int)).toNat = b := by
    rw [BitVec.ofInt_natCast, BitVec.toNat_ofNat]; exact Nat.mod_eq_of_lt (by omega)
  show IntKind.i64.wrap ((BitVec.ofInt 64 (a : Int) ^^^ BitVec.ofInt 64 (b : Int)).toNat : Int) = _
  rw [BitVec.toNat_xor, h1, h2, wraps62 _ (by omega) (by omega)]
/-- how a block's part ends -/
def StEnd (v : Ev) (lp dp : Value) (bs : List (Nat × BM)) (r : Except Int Sk) (e : Ending) (w' : World) : Prop :=
  match r with
  | .error k => e = .returned (.iface 40 (.int .i64 k)) ∧ Frm v w'
  | .ok s2 => e = .returned .nilIface ∧ St v w' s2 lp dp bs
theorem stEnd_err {v : Ev} {lp dp : Value} {bs : List (Nat × BM)} {r : Except Int Sk} {e : Ending} {w' : World} {k : Int} (h : r = .error k) (he : e = .returned (.iface 40 (.int .i64 k))) (hb : Frm v w') : StEnd v lp dp bs r e w' := by rw [h]; exact ⟨he, hb⟩
theorem stEnd_ok {v : Ev} {lp dp : Value} {bs : List (Nat × BM)} {r : Except Int Sk} {e : Ending} {w' : World} {s2 : Sk} (h : r = .ok s2) (he : e = .returned .nilIface) (hb : St v w' s2 lp dp bs) : StEnd v lp dp bs r e w' := by rw [h]; exact ⟨he, hb⟩
theorem alignSt (v : Ev) (s : Sk) (lp dp : Value) (bs : List (Nat × BM)) (W : World) (h : St v W s lp dp bs) :
    Calls Try.prog 130 #[.pointer (some ⟨v.gr, 0, none⟩)] W fun e w' => e = .returned (.tuple #[]) ∧ St v w' ⟨(s.k + 7) / 8 * 8, s.size, s.toks⟩ lp dp bs := by
  refine (align_any v.gr v.A v.c v.bl s.k W h.rd).mono ?_
  rintro e w1 ⟨rfl, hr, hg⟩
  exact ⟨rfl, h.turn hr hg⟩
set_option maxRecDepth 100000 in
set_option maxHeartbeats 8000000 in
theorem stored_any (v : Ev) (s : Sk) (lp dp : Value) (bs : List (Nat × BM)) (W : World) (h : St v W s lp dp bs) :
    Calls Try.prog 116 #[.pointer (some ⟨v.g, 0, none⟩)] W (StEnd v lp dp bs (storedM (bitsL v.bl) v.most s)) := by
  have H := hid h
  obtain ⟨T, tc, hk, _⟩ := h.tok
  unfold workCs at hk
  have c0 := hk.cell 0
  simp only [List.getElem?_toArray, List.getElem?_cons_zero] at c0
  have hgw := hk.lt
  clear h hk
  obtain ⟨k0, hk0⟩ : ∃ k0, k0 = (s.k + 7) / 8 * 8 := ⟨_, rfl⟩
  have Hk0 := hid hk0
  clear hk0
  go_enter Try.func116, Try.ntmps116
  go_wp2_with fail
  refine (alignSt v s lp dp bs _ H.out).mono ?_
  rintro e w1 ⟨rfl, hS1⟩
  rw [← Hk0.out] at hS1
  have S1 := hid hS1
  clear hS1 c0 hgw
  go_wp2_with fail
  have Sa := hid (S1.out.below (below_alloc1 w1 (.cells #[.int .i64 16, .int .i64 16] 3)))
  have Ba := hid (Blk.new w1 3 #[.int .i64 16, .int .i64 16])
  refine (takes_any v ⟨k0, s.size, s.toks⟩ lp dp bs w1.heap.size 2 [16, 16] (by decide) (by decide) _ Sa.out Ba.out).mono ?_
  intro e w2 hT
  clear Sa Ba
  cases ht1 : tkM (bitsL v.bl) k0 16 with
  | none =>
    have HE := hid (show storedM (bitsL v.bl) v.most s = .error 8 by unfold storedM; rw [← Hk0.out, ht1])
    have e1 : takesM (bitsL v.bl) [16, 16] k0 [] = none := by unfold takesM; rw [ht1]
    rw [e1] at hT
    obtain ⟨rfl, k1, hS2⟩ := hT
    have S2 := hid hS2
    clear hS2 ht1 e1
    go_wp2_with fail
    go_ret
    exact stEnd_err HE.out rfl S2.out.frm
  | some a =>
    cases ht2 : tkM (bitsL v.bl) (k0 + 16) 16 with
    | none =>
      have HE := hid (show storedM (bitsL v.bl) v.most s = .error 8 by unfold storedM; rw [← Hk0.out, ht1]; dsimp only; rw [ht2])
      have e1 : takesM (bitsL v.bl) [16, 16] k0 [] = none := by unfold takesM; rw [ht1]; dsimp only; unfold takesM; rw [ht2]
      rw [e1] at hT
      obtain ⟨rfl, k1, hS2⟩ := hT
      have S2 := hid hS2
      clear hS2 ht1 ht2 e1
      go_wp2_with fail
      go_ret
      exact stEnd_err HE.out rfl S2.out.frm
    | some b =>
      have e1 : takesM (bitsL v.bl) [16, 16] k0 [] = some (k0 + 16 + 16, [a, b]) := by unfold takesM; rw [ht1]; dsimp only; unfold takesM; rw [ht2]; rfl
      rw [e1] at hT
      obtain ⟨A2, c2, rfl, hown, hS2⟩ := hT
      have ha := tkM_bd (bitsL_bit v.bl) ht1
      have hb := tkM_bd (bitsL_bit v.bl) ht2
      obtain ⟨x, rfl⟩ := Int.eq_ofNat_of_zero_le ha.1
      obtain ⟨y, rfl⟩ := Int.eq_ofNat_of_zero_le hb.1
      have hx : x < 65536 := by have : (2 : Int) ^ 16 = 65536 := by decide
                                omega
      have hy : y < 65536 := by have : (2 : Int) ^ 16 = 65536 := by decide
                                omega
      obtain ⟨q, off, rfl, hq, z0⟩ := int_at (own_rdi hown) (j := 0) (by simp)
      obtain ⟨q', off', e2, hq', z1⟩ := int_at (own_rdi hown) (j := 1) (by simp)
      injection e2 with e2
      injection e2 with e2 e3
      subst e2 e3
      simp only [List.getElem_cons_zero, List.getElem_cons_succ, Nat.add_zero] at z0 z1
      have S2 := hid hS2
      have Ht1 := hid ht1
      have Ht2 := hid ht2
      have xe := i64_xor16 x y hx hy
      have HM := hid (show storedM (bitsL v.bl) v.most s = (if (x : Int) + (y : Int) ≠ 65535 then .error 2 else if v.most < s.size + (x : Int) then .error 4 else bytesM (bitsL v.bl) x ⟨k0 + 32, s.size, s.toks⟩) by
        unfold storedM
        rw [← Hk0.out, ht1]
        dsimp only
        rw [ht2]
        rfl)
      have hx16 := xor16 (b := y) hx
      clear hS2 hown ht1 ht2 e1 ha hb hq'
      obtain ⟨z, hz⟩ : ∃ z, z = x ^^^ y := ⟨_, rfl⟩
      rw [← hz] at xe hx16
      clear hz
      go_wp2_with fail
      by_cases hxy : x + y = 65535
      · obtain rfl := hx16.2 hxy
        have HM2 := hid (HM.out.trans (if_neg (by omega)))
        obtain ⟨T, tc, hk, _⟩ := S2.out.tok
        unfold workCs at hk
        have m0 := hk.cell 0
        have m1 := hk.cell 1
        have m2 := hk.cell 2
        simp only [List.getElem?_toArray, List.getElem?_cons_zero, List.getElem?_cons_succ] at m0 m1 m2
        have hgw := hk.lt
        obtain ⟨hs0, hs1, hs2, _⟩ := S2.out.sz
        simp only at hs0 hs1 hs2
        obtain ⟨most, hmost⟩ : ∃ most, most = v.most := ⟨_, rfl⟩
        obtain ⟨sz, hsz⟩ : ∃ sz, sz = s.size := ⟨_, rfl⟩
        rw [← hmost] at m1 hs1 hs2
        rw [← hsz] at m2 hs0 hs1
        have tm : IntKind.i64.wrap (most - sz) = most - sz := IntWalk.i64_in _ (by omega)
        have Hmost := hid hmost
        have Hsz := hid hsz
        clear hk hmost hsz hxy HM hx16
        by_cases hbig : most - sz < (x : Int)
        · have db : decide (most - sz < (x : Int)) = true := decide_eq_true hbig
          have HE := hid (HM2.out.trans (if_pos (by rw [← Hmost.out, ← Hsz.out]; omega)))
          clear hbig
          go_quiet (fail)
          go_wp2_with fail
          go_quiet (fail)
          go_wp2_with fail
          go_ret
          exact stEnd_err HE.out rfl (S2.out.below (below_drewN (Below.refl _ _) _)).frm
        · have db : decide (most - sz < (x : Int)) = false := decide_eq_false hbig
          have HE := hid (HM2.out.trans (if_neg (by rw [← Hmost.out, ← Hsz.out]; omega)))
          have Hbig := hid (show sz + x ≤ most by omega)
          clear hbig HM2
          go_quiet (fail)
          go_wp2_with fail
          go_quiet (fail)
          go_wp2_with fail
          have S3 := hid (fun z => S2.out.below (below_drewN (Below.refl _ _) z))
          generalize hw3 : w2.drewN _ = w3
          have S3 := hid (show St v w3 _ lp dp bs by rw [← hw3]; exact S3.out _)
          clear hw3
          clear z0 z1 m0 m1 m2 hgw hq S2
          go_loopw [53] (fun v53 wr => ∃ (j : Nat) (sj : Sk), j ≤ x ∧ v53 = .int .i64 (j : Int) ∧ Hid (storedM (bitsL v.bl) v.most s = bytesM (bitsL v.bl) (x - j) sj) ∧ Hid (sj.size = sz + j) ∧ Hid (St v wr sj lp dp bs)) (fun i _ => x - (intOf i).toNat)
          case atStart => exact ⟨0, ⟨k0 + 32, s.size, s.toks⟩, by omega, rfl, HE, hid (by rw [Hsz.out]; simp), S3⟩
          clear S3
          case round =>
            obtain ⟨j, sj, hj, rfl, He, Hs, S⟩ := hrel
            by_cases hlt : j < x
            · have dj : decide (j < x) = true := decide_eq_true hlt
              obtain ⟨T2, tc2, hk, _⟩ := S.out.tok
              unfold workCs at hk
              have m0 := hk.cell 0
              simp only [List.getElem?_toArray, List.getElem?_cons_zero] at m0
              have hgw := hk.lt
              obtain ⟨f, hf⟩ : ∃ f, x - j = f + 1 := ⟨x - j - 1, by omega⟩
              have Hf := hid hf
              clear hk hf
              cases ht : tkM (bitsL v.bl) sj.k 8 with
              | none =>
                have HE2 := hid (show storedM (bitsL v.bl) v.most s = .error 8 by rw [He.out, Hf.out, bytesM, ht])
                have Ht := hid ht
                clear ht
                go_wp2_with fail
                refine (takeSt_none v sj lp dp bs 8 (by decide) _ S.out Ht.out).mono ?_
                rintro e w4 ⟨rfl, hS4, _⟩
                have S4 := hid hS4
                clear hS4
                go_wp2_with fail
                go_ret
                exact stEnd_err HE2.out rfl S4.out.frm
              | some b8 =>
                have HE2 := hid (show storedM (bitsL v.bl) v.most s = bytesM (bitsL v.bl) (x - (j + 1)) ⟨sj.k + 8, sj.size + 1, sj.toks ++ [(0, b8)]⟩ by rw [He.out, Hf.out, bytesM, ht, show x - (j + 1) = f by have := Hf.out; omega])
                have Ht := hid ht
                clear ht
                go_wp2_with fail
                refine (takeSt_some v sj lp dp bs 8 (by decide) b8 _ S.out Ht.out).mono ?_
                rintro e w4 ⟨rfl, hS4, _⟩
                have S4 := hid hS4
                obtain ⟨T4, tc4, hk4, _⟩ := hS4.tok
                clear hS4 m0 hgw
                have hgw := hk4.lt
                go_wp2_with fail
                refine (putW_any v ⟨sj.k + 8, sj.size, sj.toks⟩ 0 b8 lp dp bs _ S4.out (.inl rfl)).mono ?_
                intro e w5 hP
                have e5 : putM v.most (0, b8) ⟨sj.k + 8, sj.size, sj.toks⟩ = .ok ⟨sj.k + 8, sj.size + 1, sj.toks ++ [(0, b8)]⟩ := by
                  unfold putM
                  rw [if_neg (by simp), if_neg (by show ¬ v.most < sj.size + 1; rw [Hs.out, ← Hmost.out]; have := Hbig.out; omega)]
                  rfl
                unfold PutW at hP
                rw [e5] at hP
                obtain ⟨rfl, hS5⟩ := hP
                have S5 := hid hS5
                clear hS5 e5
                go_wp2_with fail
                exact ⟨⟨j + 1, _, by omega, by go_num, HE2, hid (by show sj.size + 1 = _; rw [Hs.out]; push_cast; omega), S5⟩, by simp [intOf]; omega⟩
            · have dj : decide (j < x) = false := decide_eq_false hlt
              have HE2 := hid (show storedM (bitsL v.bl) v.most s = .ok sj by rw [He.out, show x - j = 0 by omega, bytesM])
              go_wp2_with fail
              go_ret
              exact stEnd_ok HE2.out rfl S.out
      · have n0 : (((z : Int)) == 65535) = false := by rw [beq_eq_false_iff_ne]; intro h; exact hxy (hx16.1 (by omega))
        have HE := hid (HM.out.trans (if_pos (by omega)))
        clear hxy hx16 HM
        go_quiet (fail)
        go_wp2_with fail
        go_ret
        exact stEnd_err HE.out rfl (S2.out.below (below_drewN (Below.refl _ _) _)).frm
end Go.Proofs.Ytegmbjkpjglgpaa
