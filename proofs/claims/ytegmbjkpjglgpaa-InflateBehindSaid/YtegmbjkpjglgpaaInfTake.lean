/-
  inflate: numbers and symbols taken.
-/
import Derived.Test.YtegmbjkpjglgpaaInfSt
namespace Go.Proofs.Ytegmbjkpjglgpaa
open Go.RowKit

theorem takeSt_none (v : Ev) (s : Sk) (lp dp : Value) (bs : List (Nat × BM)) (n : Nat) (hn : n ≤ 32) (W : World) (h : St v W s lp dp bs) (ht : tkM (bitsL v.bl) s.k n = none) :
    Calls Try.prog 129 #[.pointer (some ⟨v.gr, 0, none⟩), .int .i64 (n : Int)] W fun e w' => e = .returned (.tuple #[.int .i64 0, .iface 40 (.int .i64 8)]) ∧ St v w' s lp dp bs ∧ W.grownBy w' (some v.gr) := by
  have h1 : 8 * v.bl.length < s.k + n := by
    unfold tkM at ht
    rw [bitsL_length] at ht
    by_cases h : 8 * v.bl.length < s.k + n
    · exact h
    · rw [if_neg h] at ht; cases ht
  refine (take_end v.gr v.A v.c v.bl s.k n hn W h.rd h1).mono ?_
  rintro e w1 ⟨rfl, hr, hg⟩
  exact ⟨rfl, h.turn hr hg, hg⟩
theorem takeSt_some (v : Ev) (s : Sk) (lp dp : Value) (bs : List (Nat × BM)) (n : Nat) (hn : n ≤ 32) (x : Int) (W : World) (h : St v W s lp dp bs) (ht : tkM (bitsL v.bl) s.k n = some x) :
    Calls Try.prog 129 #[.pointer (some ⟨v.gr, 0, none⟩), .int .i64 (n : Int)] W fun e w' => e = .returned (.tuple #[.int .i64 x, .nilIface]) ∧ St v w' ⟨s.k + n, s.size, s.toks⟩ lp dp bs ∧ W.grownBy w' (some v.gr) := by
  have h1 : s.k + n ≤ 8 * v.bl.length ∧ x = numL (bitsL v.bl) s.k n := by
    unfold tkM at ht
    rw [bitsL_length] at ht
    by_cases h : 8 * v.bl.length < s.k + n
    · rw [if_pos h] at ht; cases ht
    · rw [if_neg h] at ht; injection ht with ht; exact ⟨by omega, ht.symm⟩
  refine (take_ok v.gr v.A v.c v.bl s.k n hn W h.rd h1.1).mono ?_
  rintro e w1 ⟨rfl, hr, hg⟩
  exact ⟨by rw [h1.2], h.turn hr hg, hg⟩
theorem tkM_bd {L : List Int} (hL : ∀ x ∈ L, isBit x) {k n : Nat} {x : Int} (h : tkM L k n = some x) : 0 ≤ x ∧ x < 2 ^ n := by
  unfold tkM at h
  split at h
  · cases h
  · injection h with h
    rw [← h]
    exact numL_bd hL k n
/-- a symbol -/
theorem rdB_eq {l : List Int} (hl : lensB l = true) {m : List Nat} {s ln cd : Nat} (hL : LastOf l m s ln cd) {L : List Int} (hLb : ∀ x ∈ L, isBit x) (k : Nat) : rdB l ln cd L k 17 1 0 (ordL l).length = Cd.rdC (slOf l) (btF L k) (L.length - k) 16 1 0 := by
  have hO := sl_ok hl
  have e : slOf l = m.map (fun s => (s, lenOf l s)) ++ [(s, lenOf l s)] := by unfold slOf; rw [hL.ord]; simp
  have ho : (ordL l).length = Cd.openN (slOf l) 1 := by rw [Cd.openN_one hO]; simp [slOf]
  have hp : 0 < Cd.tot (slOf l) := by
    rw [e, Cd.tot_append, Cd.tot_cons]
    have := Cd.pw_pos (lenOf l s)
    show 0 < _ + (Cd.pw (lenOf l s) + _)
    omega
  unfold rdB
  rw [ho, hL.cod, hL.len]
  exact Cd.rdP_eq hO e (FN l) (fun n => selN l (ordL l) n) (btF L k) (L.length - k) (fun i => (btF_le hLb k i).1) (fun n => selN_rowOf l n) (fun n h1 h2 h3 => (fst_nat hl n h1 h2).2.2 h3) 16 1 0 rfl (Nat.le_refl _) (by rw [Cd.low_one hO]; omega) (by rw [Nat.zero_mul]; exact hp)
theorem lastOf_ex {l : List Int} (h : ordL l ≠ []) : ∃ m s ln cd, LastOf l m s ln cd :=
  ⟨(ordL l).dropLast, (ordL l).getLast h, _, _, (List.dropLast_concat_getLast h).symm, rfl, rfl⟩
/-- a book without codes -/
theorem read_empty (gb : Nat) (b : BM) (l : List Int) (rp : Value) (W : World) (hK : BK W gb b) (hB : BookOf l b) (h0 : ordL l = []) :
    Calls Try.prog 140 #[.pointer (some ⟨gb, 0, none⟩), rp] W fun e w' => e = .returned (.tuple #[.int .i64 0, .iface 40 (.int .i64 2)]) ∧ Below W.heap.size W w' := by
  have q2 := (bk_cell0 hK).2.2
  have hgw := hK.blk.lt
  rw [hB.ord, h0, List.length_nil] at q2
  clear hK hB h0
  go_enter Try.func140, Try.ntmps140
  go_upto_region 3 with (fail)
  go_quiet (fail)
  have B0 := hid (below_drewN (Below.refl W.heap.size W) nq)
  generalize W.drewN nq = w0 at *
  clear q2 hgw
  go_wp2_with fail
  go_loopw [7] (fun v7 wr => v7 = .int .i64 0 ∧ Below W.heap.size W wr) (fun _ _ => 0)
  case atStart => exact ⟨rfl, B0.out⟩
  clear B0
  case round =>
    obtain ⟨rfl, hb⟩ := hrel
    go_wp2_with fail
    go_ret2
    exact ⟨rfl, hb⟩
/-- how a symbol's reading ends -/
def SymEnd (v : Ev) (s : Sk) (lp dp : Value) (bs : List (Nat × BM)) (W : World) (r : Except Int (Nat × Nat)) (e : Ending) (w' : World) : Prop :=
  W.grownBy w' (some v.gr) ∧ match r with
  | .error k => e = .returned (.tuple #[.int .i64 0, .iface 40 (.int .i64 k)]) ∧ ∃ k1, St v w' ⟨k1, s.size, s.toks⟩ lp dp bs
  | .ok (y, k1) => e = .returned (.tuple #[.int .i64 (y : Int), .nilIface]) ∧ St v w' ⟨k1, s.size, s.toks⟩ lp dp bs
theorem symSt (v : Ev) (s : Sk) (lp dp : Value) (bs : List (Nat × BM)) (gb : Nat) (b : BM) (l : List Int) (hb : (gb, b) ∈ bs) (hB : BookOf l b) (hl : lensB l = true) (W : World) (h : St v W s lp dp bs) :
    Calls Try.prog 140 #[.pointer (some ⟨gb, 0, none⟩), .pointer (some ⟨v.gr, 0, none⟩)] W (SymEnd v s lp dp bs W (symM l (bitsL v.bl) s.k)) := by
  by_cases h0 : ordL l = []
  · refine (read_empty gb b l _ W (h.bks _ hb) hB h0).mono ?_
    rintro e w1 ⟨rfl, hb1⟩
    have : symM l (bitsL v.bl) s.k = .error 2 := if_pos h0
    rw [this]
    exact ⟨gr_below1 (World.grownBy.refl _ _) hb1, rfl, s.k, h.below hb1⟩
  · obtain ⟨m, y, ln, cd, hL⟩ := lastOf_ex h0
    have e1 := rdB_eq hl hL (bitsL_bit v.bl) s.k
    have e2 : symM l (bitsL v.bl) s.k = (match rdB l ln cd (bitsL v.bl) s.k 17 1 0 (ordL l).length with
      | .sym y n => .ok (y, s.k + n)
      | .short => .error 8
      | .bad => .error 2) := by rw [e1]; exact if_neg h0
    rw [e2]
    refine (read_any gb b l m y ln cd v.gr v.A v.c v.bl s.k W (h.bks _ hb) hB hl hL h.rd).mono ?_
    rintro e w1 ⟨hg, h1⟩
    cases hr : rdB l ln cd (bitsL v.bl) s.k 17 1 0 (ordL l).length with
    | sym y n =>
      rw [hr] at h1
      exact ⟨hg, h1.1, h.turn h1.2 hg⟩
    | short =>
      rw [hr] at h1
      obtain ⟨k1, h2⟩ := h1.2
      exact ⟨hg, h1.1, k1, h.turn h2 hg⟩
    | bad =>
      rw [hr] at h1
      obtain ⟨k1, h2⟩ := h1.2
      exact ⟨hg, h1.1, k1, h.turn h2 hg⟩
theorem own_own_ne {w : World} {b1 b2 n1 n2 z1 z2 : Nat} {t1 t2 : TypeId} {v1 v2 : Value} {x1 x2 : List Value} (h1 : w.ownsRow b1 t1 z1 v1 n1 x1) (h2 : w.ownsRow b2 t2 z2 v2 n2 x2) (hne : t2 ≠ t1) : v1.ownBlock = none ∨ v1.ownBlock ≠ v2.ownBlock := by
  rcases h1.2 with ⟨rfl, _⟩ | ⟨g, cap, cur, rfl, _, hh, _⟩
  · exact .inl rfl
  · exact .inr (own_blk_ne (g := g) (cs := cur) h2 hh hne)
theorem BR.app {w w' : World} {g : Nat} {A : Option Addr} {c : Nat} {bl : List Int} {k base n z : Nat} {v : Value} {xs : List Value} (h : BR w g A c bl k) (ho : w.ownsRow base 3 z v n xs) (hg : w.grownBy w' v.ownBlock) : BR w' g A c bl k :=
  ⟨h.blk.grown hg (own_blk_ne ho h.blk (by decide)), h.row.kept hg (own_own_ne h.row ho (by decide)), h.ok, h.len, h.at_⟩
theorem gr_belowC {W w w' : World} {r : Option Nat} (h : W.grownBy w r) (hb : Below W.heap.size w w') : W.grownBy w' r :=
  ⟨hb.os.trans h.os, hb.tape.trans h.tape, hb.output.trans h.output, Nat.le_trans h.size hb.size, fun k hk hr => (hb.block k hk).trans (h.block k hk hr)⟩
theorem own_turn {v : Ev} {w w' : World} {s : Sk} {lp dp : Value} {bs : List (Nat × BM)} {base n c : Nat} {A : Option Addr} {xs : List Value} (h : St v w s lp dp bs) (hg : w.grownBy w' (some v.gr)) (ho : w.ownsRow base 3 1 (.slice A n c) n xs) : w'.ownsRow base 3 1 (.slice A n c) n xs := ho.kept hg (.inr (own_blk_ne ho h.rd.blk (by decide)).symm)
theorem blk_turn {v : Ev} {w w' : World} {s : Sk} {lp dp : Value} {bs : List (Nat × BM)} {g : Nat} {cs : Array Value} (h : St v w s lp dp bs) (hg : w.grownBy w' (some v.gr)) (hb : Blk w g 3 cs) : Blk w' g 3 cs := hb.grown hg (fun e => by
  injection e with e
  have hr := h.rd.blk
  rw [← e] at hr
  unfold Blk at hb hr
  rw [hb] at hr
  injection hr with hr
  injection hr with _ hr
  exact absurd hr (by decide))
/-- several numbers -/
theorem intsV_snoc (l : List Int) (x : Int) : intsV (l ++ [x]) = intsV l ++ [.int .i64 x] := by simp [intsV]
def takesM (L : List Int) : List Nat → Nat → List Int → Option (Nat × List Int)
  | [], k, out => some (k, out)
  | c :: cs, k, out => match tkM L k c with
    | none => none
    | some x => takesM L cs (k + c) (out ++ [x])
def TakesEnd (v : Ev) (s : Sk) (lp dp : Value) (bs : List (Nat × BM)) (W : World) (r : Option (Nat × List Int)) (e : Ending) (w' : World) : Prop :=
  match r with
  | none => e = .returned (.tuple #[.slice none 0 0, .iface 40 (.int .i64 8)]) ∧ ∃ k1, St v w' ⟨k1, s.size, s.toks⟩ lp dp bs
  | some (k1, out) => ∃ A c, e = .returned (.tuple #[.slice A out.length c, .nilIface]) ∧ w'.ownsRow W.heap.size 3 1 (.slice A out.length c) out.length (intsV out) ∧ St v w' ⟨k1, s.size, s.toks⟩ lp dp bs
set_option maxRecDepth 100000 in
set_option maxHeartbeats 4000000 in
theorem takes_any (v : Ev) (s : Sk) (lp dp : Value) (bs : List (Nat × BM)) (ga c : Nat) (cs : List Nat) (hm : cs.length ≤ 100) (hc : ∀ x ∈ cs, x ≤ 32) (W : World) (h : St v W s lp dp bs) (hr : Blk W ga 3 (intsV (natsV cs)).toArray) :
    Calls Try.prog 115 #[.pointer (some ⟨v.g, 0, none⟩), .slice (some ⟨ga, 0, none⟩) cs.length c] W (TakesEnd v s lp dp bs W (takesM (bitsL v.bl) cs s.k [])) := by
  have H := hid h
  have Hr := hid hr
  have Hc := hid hc
  obtain ⟨N, hN⟩ : ∃ N, N = cs.length := ⟨_, rfl⟩
  have HN := hid hN
  obtain ⟨i0, hi0, hz0, hz1, hz2⟩ := info_parts int_info
  have Hi0 := hid hi0
  have Hz0 := hid hz0
  have Hz1 := hid hz1
  have Hz2 := hid hz2
  rw [← hN] at hm ⊢
  clear h hr hc hN hi0 hz0 hz1 hz2
  go_enter Try.func115, Try.ntmps115
  go_wp2_with fail
  go_loopw [6, 13] (fun v6 v13 wr => ∃ (j n k : Nat) (A' : Option Addr) (c' : Nat) (out : List Int), j ≤ N ∧ n ≤ j ∧ v6 = .slice A' n c' ∧ v13 = .int .i64 (j : Int) ∧ Hid (n = out.length) ∧ Hid (takesM (bitsL v.bl) cs s.k [] = takesM (bitsL v.bl) (cs.drop j) k out) ∧ Hid (wr.ownsRow W.heap.size 3 1 (.slice A' n c') n (intsV out)) ∧ Hid (BR wr v.gr v.A v.c v.bl k) ∧ Hid (W.grownBy wr (some v.gr))) (fun _ i _ => N - (intOf i).toNat)
  case atStart => exact ⟨0, 0, s.k, none, 0, [], by omega, by omega, rfl, rfl, hid rfl, hid rfl, hid (World.ownsRow_nil _ _ _ _), hid H.out.rd, hid (World.grownBy.refl _ _)⟩
  case round =>
    obtain ⟨j, n, k, A', c', out, hj, hnj, rfl, rfl, Hn, He, Ho, Rd, G⟩ := hrel
    have S := hid (H.out.turn Rd.out G.out)
    have R := hid (blk_turn H.out G.out Hr.out)
    by_cases hlt : j < N
    · have d1 : decide (j < N) = true := decide_eq_true hlt
      have hjc : j < cs.length := by rw [← HN.out]; exact hlt
      obtain ⟨x, hx⟩ : ∃ x, x = cs[j] := ⟨_, rfl⟩
      have hx32 : x ≤ 32 := by rw [hx]; exact Hc.out _ (List.getElem_mem hjc)
      have q0 : wr.cell? ⟨ga, j, none⟩ = some (.int .i64 (x : Int)) := (R.out.cell j).trans (by simp [intsV, natsV, hx, List.getElem?_eq_getElem hjc])
      obtain ⟨T, tc, hk, _⟩ := S.out.tok
      unfold workCs at hk
      have c0 := hk.cell 0
      simp only [List.getElem?_toArray, List.getElem?_cons_zero] at c0
      have hgw := hk.lt
      have hd : cs.drop j = x :: cs.drop (j + 1) := by rw [hx]; exact List.drop_eq_getElem_cons hjc
      have Hd := hid hd
      clear hk hx hjc hd
      cases ht : tkM (bitsL v.bl) k x with
      | none =>
        have HE := hid (show takesM (bitsL v.bl) cs s.k [] = none by rw [He.out, Hd.out]; unfold takesM; rw [ht])
        have Ht := hid ht
        clear ht
        go_wp2_with fail
        refine (takeSt_none v ⟨k, s.size, s.toks⟩ lp dp bs x hx32 _ S.out Ht.out).mono ?_
        rintro e w2 ⟨rfl, hS2, _⟩
        have S2 := hid hS2
        clear hS2
        go_wp2_with fail
        go_ret2
        unfold TakesEnd
        rw [HE.out]
        exact ⟨rfl, k, S2.out⟩
      | some y =>
        have HE := hid (show takesM (bitsL v.bl) cs s.k [] = takesM (bitsL v.bl) (cs.drop (j + 1)) (k + x) (out ++ [y]) by rw [He.out, Hd.out, takesM, ht])
        have Ht := hid ht
        clear ht
        go_wp2_with fail
        refine (takeSt_some v ⟨k, s.size, s.toks⟩ lp dp bs x hx32 y _ S.out Ht.out).mono ?_
        rintro e w2 ⟨rfl, hS2, hg2⟩
        have S2 := hid hS2
        have O2 := hid (own_turn S.out hg2 Ho.out)
        have Z2 := hid (gr_trans1 G.out hg2)
        clear hS2 hg2 S Ho R Rd G q0 c0 hgw
        go_wp2_with (at_builtin; refine wpList_app _ rfl _ _ _ rfl W.heap.size 3 i0 (.int .i64 0) 1 8 Try.underlying53 Hi0.out Hz0.out Hz1.out Hz2.out rfl (by omega) A' n c' (intsV out) rfl (O2.out.alloc _) _ _ 1 1 [.int .i64 y] rfl (rd_one _ _ _ _ (Blk.new _ _ _)) (by simp) (by simp [Value.oneCell']) (by simp only [maxLen]; omega) (by omega) (by have := Z2.out.size; simp; omega) ?_; intro A4 c4 w4 ha4; have Ha4 := hid ha4; clear ha4)
        obtain ⟨hown4, hgr4, hb4, _⟩ := Ha4.out
        refine ⟨⟨j + 1, n + 1, k + x, A4, c4, out ++ [y], by omega, by omega, rfl, by go_num, hid (by rw [List.length_append, Hn.out]; rfl), HE, hid (by rw [intsV_snoc]; exact hown4), hid ((S2.out.rd.below (below_alloc1 _ _)).app (O2.out.alloc _) hgr4), hid (gr_belowC (gr_below1 Z2.out (below_alloc1 _ _)) hb4)⟩, by simp [intOf]; omega⟩
    · have d1 : decide (j < N) = false := decide_eq_false hlt
      have HE := hid (show takesM (bitsL v.bl) cs s.k [] = some (k, out) by rw [He.out, List.drop_eq_nil_of_le (by rw [← HN.out]; omega), takesM])
      go_wp2_with fail
      go_ret2
      unfold TakesEnd
      rw [HE.out]
      refine ⟨A', c', ?_, ?_, S.out⟩
      · rw [← Hn.out]; rfl
      · rw [← Hn.out]; exact Ho.out
end Go.Proofs.Ytegmbjkpjglgpaa
