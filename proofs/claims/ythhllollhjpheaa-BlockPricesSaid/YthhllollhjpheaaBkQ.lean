/-
  Blocks, plainly: a block that is written is read again; tokens that come to a text fit it.
  The reference's Literals; the law's cases: the text that tokens come to.
-/
import Derived.Test.YthhllollhjpheaaBkV
import Derived.Test.YthhllollhjpheaaExpRef
namespace Go.Proofs.Ythhllollhjpheaa
open Go.RowKit Cd

theorem fixD_code : ∀ s : Fin 30, cdB usuD s.val = cdB fixD s.val := by decide +kernel
theorem fixD_pos : ∀ s : Fin 30, 0 < fixD.getD s.val 0 := by decide +kernel
theorem fixD_lens : lensB fixD = true := by decide +kernel
theorem tokB_usu (t : Int × Int) : tokB fixL usuD t = tokB fixL fixD t := by
  unfold tokB
  have := fixD_code ⟨dsN t.2, by have := dsN_bd t.2; omega⟩
  simp only at this
  rw [this]
theorem toksB_usu (l : List (Int × Int)) : toksB fixL usuD l = toksB fixL fixD l := by
  unfold toksB
  rw [show tokB fixL usuD = tokB fixL fixD from funext tokB_usu]
theorem has_usu {l : List (Int × Int)} (hg : ∀ t ∈ l, tgood t = true) : ∀ t ∈ l, tgood t = true ∧ hasT fixL fixD t := by
  intro t ht
  refine ⟨hg t ht, ?_⟩
  have h := (usual_good hg).has t ht
  unfold hasT at h ⊢
  split
  next h0 => rw [if_pos h0] at h; exact h
  next h0 =>
    rw [if_neg h0] at h
    exact ⟨h.1, fixD_pos ⟨dsN t.2, by have := dsN_bd t.2; omega⟩⟩
theorem head_bits (b : Bool) {kind : Int} (h0 : 0 ≤ kind) (h2 : kind ≤ 2) : dgS false (2 * kind + (if b then 1 else 0)) 3 = dgS false (if b then 1 else 0) 1 ++ dgS false kind 2 := by
  rcases (show kind = 0 ∨ kind = 1 ∨ kind = 2 by omega) with rfl | rfl | rfl <;> cases b <;> decide +kernel
/-- the books of kind 2 are whole -/
theorem sum_trim (k : Nat) (l : List Int) : (trimM k l).sum = l.sum := by
  conv => rhs; rw [← List.take_append_drop (trimN k l l.length) l]
  rw [List.sum_append]
  have : ∀ m : List Int, (∀ x ∈ m, x = 0) → m.sum = 0 := by
    intro m
    induction m with
    | nil => exact fun _ => rfl
    | cons x m ih => intro h; rw [List.sum_cons, ih fun y hy => h y (List.mem_cons_of_mem _ hy), h x List.mem_cons_self]; rfl
  rw [this (l.drop (trimN k l l.length)) fun x hx => ?_]
  · unfold trimM; omega
  · obtain ⟨i, hi, rfl⟩ := List.mem_iff_getElem.1 hx
    rw [List.length_drop] at hi
    rw [List.getElem_drop]
    have := trimN_zero k l l.length (trimN k l l.length + i) (by omega) (by omega)
    rw [← getD_at (by omega)] at this
    exact this
theorem SN_cst (x : Nat) : ∀ n, Mg.SN n (fun _ => x) = n * x
  | 0 => by rw [Mg.SN]; omega
  | n + 1 => by rw [Mg.SN, SN_cst x n, Nat.add_mul]; omega
theorem best_few {c : List Int} {K : Nat} (hK : (itemsOf c).length ≤ 2 ^ (K + 1)) (h1 : (itemsOf c).length ≤ 1) : (bestLs (itemsOf c) K c.length).sum ≤ 1 := by
  have hl := items_gl c
  have e : (bestLs (itemsOf c) K c.length).sum = ((Mg.SN c.length (fun s => if 0 < c.getD s 0 then 1 else 0) : Nat) : Int) := by
    unfold bestLs
    rw [sum_SN (bestAt (itemsOf c) K) _ (fun _ => rfl)]
    congr 1
    refine Mg.SN_congr fun s hs => ?_
    by_cases hp : 0 < c.getD s 0
    · rw [if_pos hp]
      have hm := (itemsOf_sy c s).2 ⟨hs, hp⟩
      have h2 : (itemsOf c).length = 1 := by
        obtain ⟨i, hi, _⟩ := sOf_ex hl hm
        omega
      exact best_one hl h2 hm
    · rw [if_neg hp]
      exact best_none hl (fun hm => hp ((itemsOf_sy c s).1 hm).2) hK
  rw [e, sum_of c fun _ => 1, SN_cst]
  omega
theorem own_whole {l : List (Int × Int)} (hg : ∀ t ∈ l, tgood t = true) : fullB (ownM l).L = true ∧ fullB (ownM l).O = true ∧ (fullB (ownM l).D = true ∨ (ownM l).D.sum ≤ 1) := by
  have hG := own_good hg
  obtain ⟨hR, _, _⟩ := own_runs hg
  obtain ⟨e1, e2⟩ := cnt_len l
  have nn := cntM_nn (l := l)
  have t1 : (twoM (cntM l).1).length = 286 := by rw [twoM_len, e1]
  have k1 : (itemsOf (twoM (cntM l).1)).length ≤ 2 ^ (14 + 1) := Nat.le_trans (itemsOf_le _) (by rw [t1]; decide)
  have k2 : (itemsOf (cntM l).2).length ≤ 2 ^ (14 + 1) := Nat.le_trans (itemsOf_le _) (by rw [e2]; decide)
  have u1 : 2 ≤ (itemsOf (twoM (cntM l).1)).length := by rw [itemsOf_used]; exact twoM_used (by omega) nn.1
  refine ⟨?_, ?_, ?_⟩
  · unfold fullB
    rw [hG.lL, Bool.true_and, decide_eq_true_iff]
    show Go.Proofs.Ythhllollhjpheaa.kraft (litM l) = 65536
    unfold litM
    rw [kraft_trim]
    have := kraft_best k1 (by omega)
    rw [t1, if_pos u1] at this
    exact this
  · unfold fullB
    rw [hR.l, Bool.true_and, decide_eq_true_iff]
    show Go.Proofs.Ythhllollhjpheaa.kraft (oneM (runM2 (litM l ++ dstM l))) = 65536
    unfold oneM
    have hc : ∀ (R : List (Int × Int)) (c : List Int), c.length = 19 → (∀ x ∈ c, 0 ≤ x) → (R.foldl (fun c r => incL c r.1.toNat) c).length = 19 ∧ ∀ x ∈ R.foldl (fun c r => incL c r.1.toNat) c, 0 ≤ x := by
      intro R
      induction R with
      | nil => exact fun c h1 h2 => ⟨h1, h2⟩
      | cons r R ih => exact fun c h1 h2 => ih _ (by rw [incL_len, h1]) (inc_nn c _ h2)
    have hh := hc (runM2 (litM l ++ dstM l)) (List.replicate 19 0) (List.length_replicate ..) (fun x hx => by rw [(List.mem_replicate.1 hx).2]; exact Int.le_refl 0)
    have c1 : (oneC (runM2 (litM l ++ dstM l))).length = 19 := hh.1
    have c2 : ∀ x ∈ oneC (runM2 (litM l ++ dstM l)), 0 ≤ x := hh.2
    generalize oneC (runM2 (litM l ++ dstM l)) = c at *
    have t3 : (twoM c).length = 19 := by rw [twoM_len, c1]
    have k3 : (itemsOf (twoM c)).length ≤ 2 ^ (6 + 1) := Nat.le_trans (itemsOf_le _) (by rw [t3]; decide)
    have u3 : 2 ≤ (itemsOf (twoM c)).length := by rw [itemsOf_used]; exact twoM_used (by omega) c2
    have := kraft_best k3 (by omega)
    rw [t3, if_pos u3] at this
    exact this
  · by_cases h2 : 2 ≤ (itemsOf (cntM l).2).length
    · left
      unfold fullB
      rw [hG.lD, Bool.true_and, decide_eq_true_iff]
      show Go.Proofs.Ythhllollhjpheaa.kraft (dstM l) = 65536
      unfold dstM
      rw [kraft_trim]
      have := kraft_best k2 (by omega)
      rw [e2, if_pos h2] at this
      exact this
    · right
      show (dstM l).sum ≤ 1
      unfold dstM
      rw [sum_trim]
      have := best_few (c := (cntM l).2) k2 (by omega)
      rw [e2] at this
      exact this
theorem wrN_zero (O : List Int) : ∀ n j, wrN O n ≤ j → j < n → O.getD (ordT.getD j 0) 0 = 0
  | 0, j, _, h => absurd h (Nat.not_lt_zero _)
  | n + 1, j, h1, h2 => by
    unfold wrN at h1
    split at h1
    next h3 =>
      rcases Nat.lt_or_ge j n with h4 | h4
      · exact wrN_zero O n j h1 h4
      · rw [show j = n by omega]; exact h3.2
    next => omega
theorem ord_all : ∀ i : Fin 19, ∃ j, j < 19 ∧ ordT.getD j 0 = i.val := by decide
theorem own_lens (l : List (Int × Int)) : 257 ≤ (ownM l).L.length ∧ (ownM l).L.length ≤ 286 := by
  have n1 : (litM l).length = trimN 257 (bestLs (itemsOf (twoM (cntM l).1)) 14 286) 286 := by unfold litM; rw [trim_len, bestLs_len]
  have a1 := trimN_ge 257 (bestLs (itemsOf (twoM (cntM l).1)) 14 286) 286 (by omega)
  have a2 := trimN_le 257 (bestLs (itemsOf (twoM (cntM l).1)) 14 286) 286
  show 257 ≤ (litM l).length ∧ (litM l).length ≤ 286
  omega
/-- the plan of kind 2 is read again -/
theorem dyn_back {l : List (Int × Int)} (hg : ∀ t ∈ l, tgood t = true) {B rest : List Int} {k : Nat} (hk : k ≤ B.length) (h : At B k (headB (ownM l).L (ownM l).D (ownM l).R (ownM l).O) rest) :
    dynM B k = .ok (k + (headB (ownM l).L (ownM l).D (ownM l).R (ownM l).O).length, (ownM l).L, (ownM l).D) := by
  have hG := own_good hg
  have hl := own_lens l
  obtain ⟨hR, _, hu⟩ := own_runs hg
  obtain ⟨f1, f2, f3⟩ := own_whole hg
  generalize (ownM l).L = L at *
  generalize (ownM l).D = D at *
  generalize (ownM l).R = R at *
  generalize (ownM l).O = O at *
  have hn2 := hG.n2
  have hn3 := hG.n3
  have hp := hG.p
  have e5 : (2 : Int) ^ 5 = 32 := by decide
  have e4 : (2 : Int) ^ 4 = 16 := by decide
  have hw := wrN_bd O 19 (by omega)
  unfold headB at h
  have k1 := h.app.len0 hk
  rw [dgS_len] at k1
  have h1 : At B (k + 5) _ _ := h.then (dgS_len _ _ _)
  have k2 := h1.app.len0 k1
  rw [dgS_len] at k2
  have h2 : At B (k + 10) _ _ := h1.then (dgS_len _ _ _)
  have k3 := h2.app.len0 (show k + 10 ≤ B.length by omega)
  rw [dgS_len] at k3
  have h3 : At B (k + 14) _ _ := h2.then (dgS_len _ _ _)
  have hO : ∀ x ∈ O, 0 ≤ x ∧ x ≤ 7 := hR.b7
  have htl : (ordT.take (wrN O 19)).length = wrN O 19 := by rw [List.length_take]; exact Nat.min_eq_left hw.2
  obtain ⟨sm, s1, s2, s3⟩ := small_back hO (ordT.take (wrN O 19)) (k + 14) (List.replicate 19 0) _ k3 h3.app (fun o ho => by
    rw [List.length_replicate]
    have : ∀ o ∈ ordT, o < 19 := by decide
    exact this o (List.mem_of_mem_take ho))
  rw [htl] at s1
  have hsm : sm = O := by
    refine List.ext_getElem (by rw [s2, List.length_replicate, hR.n]) fun i h4 h5 => ?_
    rw [getD_at h4, getD_at h5, s3]
    split
    · rfl
    next hi =>
      have hi19 : i < 19 := by rw [hR.n] at h5; exact h5
      obtain ⟨j, hj, hij⟩ := ord_all ⟨i, hi19⟩
      simp only at hij
      have hz := wrN_zero O 19 j (by
        rcases Nat.lt_or_ge j (wrN O 19) with h6 | h6
        · exfalso
          apply hi
          rw [← hij]
          have h7 : j < (ordT.take (wrN O 19)).length := by rw [htl]; exact h6
          have h8 : (ordT.take (wrN O 19))[j] = ordT.getD j 0 := by
            rw [List.getElem_take, List.getD_eq_getElem?_getD, List.getElem?_eq_getElem (show j < ordT.length from hj)]
            rfl
          rw [← h8]
          exact List.getElem_mem h7
        · exact h6) hj
      rw [hij] at hz
      rw [hz, List.getD_eq_getElem?_getD, List.getElem?_replicate]
      split <;> rfl
  rw [hsm] at s1
  have k4 := h3.app.len0 k3
  have hob : (ordT.take (wrN O 19)).flatMap (fun s => dgS false (O.getD s 0) 3) = onesB O (ordT.take (wrN O 19)) := rfl
  have hol : (onesB O (ordT.take (wrN O 19))).length = 3 * wrN O 19 := by rw [onesB_len, htl]
  rw [hol] at k4
  have h4 : At B (k + 14 + 3 * wrN O 19) _ _ := h3.then hol
  have hrow := row_back hR.l R (L ++ D).length (k + 14 + 3 * wrN O 19) [] (L ++ D) rest k4 h4 hu (fun r hr => (hR.r r hr).1) (by have := unr_len R hu; simpa using this)
  rw [List.length_append] at hrow
  unfold dynM
  rw [tk_back h.app hk (by omega) (by omega)]
  dsimp only
  rw [if_neg (by omega), tk_back h1.app k1 (by omega) (by omega)]
  dsimp only
  rw [if_neg (by omega), tk_back h2.app (show k + 10 ≤ B.length by omega) (by omega) (by omega)]
  dsimp only
  rw [show ((wrN O 19 : Nat) - 4 : Int).toNat + 4 = wrN O 19 by omega, s1]
  dsimp only
  rw [if_neg (by rw [f2]; decide), show 258 + ((L.length : Int) - 257).toNat + ((D.length : Int) - 1).toNat = L.length + D.length by omega, hrow]
  dsimp only
  rw [show 257 + ((L.length : Int) - 257).toNat = L.length by omega, List.take_left, List.drop_left, if_neg ?_]
  · congr 2
    unfold headB
    simp only [List.length_append, dgS_len, hol]
    omega
  · rintro (h5 | h5 | ⟨h5, h6⟩)
    · rw [f1] at h5; cases h5
    · rw [List.getD_eq_getElem?_getD, List.getElem?_append_left (by omega), ← List.getD_eq_getElem?_getD] at h5
      omega
    · rcases f3 with f3 | f3
      · rw [f3] at h5; cases h5
      · omega
/-- how many bytes a block comes to, its tokens -/
def blkN (kind : Int) (l : List (Int × Int)) (text : List Int) : Int := if kind = 0 then text.length else sumT l
def litsN (text : List Int) : List (Int × Int) := text.map fun c => (0, c)
def blkT (kind : Int) (l : List (Int × Int)) (text : List Int) : List (Int × Int) := if kind = 0 then litsN text else l
theorem block_back {l : List (Int × Int)} {text : List Int} {kind : Int} (last : Bool) (hg : ∀ t ∈ l, tgood t = true) (h0 : 0 ≤ kind) (h2 : kind ≤ 2) (ht : kind = 0 → text.length ≤ 65535 ∧ ∀ c ∈ text, isB c) {B rest : List Int} {k : Nat} {most size : Int} {toks : List (Int × Int)}
    (hk : k ≤ B.length) (h : At B k (wrB k last kind l text) rest) (hs : kind ≠ 0 → scan most l size = 0) (hm : kind = 0 → size + text.length ≤ most) :
    blockM B most ⟨k, size, toks⟩ = .ok (last, ⟨k + (wrB k last kind l text).length, size + blkN kind l text, toks ++ blkT kind l text⟩) := by
  unfold wrB at h
  rw [head_bits last h0 h2, List.append_assoc] at h
  have k1 := h.app.len0 hk
  rw [dgS_len] at k1
  have h1 : At B (k + 1) _ _ := h.then (dgS_len _ _ _)
  have k2 := h1.app.len0 k1
  rw [dgS_len] at k2
  have h3 : At B (k + 3) _ _ := h1.then (dgS_len _ _ _)
  unfold blockM
  dsimp only
  rw [tk_back h.app hk (by split <;> decide) (by split <;> decide)]
  dsimp only
  rw [tk_back h1.app k1 h0 (by have : (2 : Int) ^ 2 = 4 := by decide
                               omega)]
  dsimp only
  have hlast : decide ((if last = true then (1 : Int) else 0) = 1) = last := by cases last <;> decide
  have hlen : (wrB k last kind l text).length = 3 + (if kind = 0 then stB (k + 3) text else (if kind = 2 then headB (ownM l).L (ownM l).D (ownM l).R (ownM l).O else []) ++ toksB (planM kind l).L (planM kind l).D l).length := by
    unfold wrB
    rw [List.length_append, dgS_len]
  rw [hlast, hlen]
  rcases (show kind = 0 ∨ kind = 1 ∨ kind = 2 by omega) with rfl | rfl | rfl
  · rw [if_pos rfl] at h3 ⊢
    rw [stored_back (show k + 3 ≤ B.length by omega) h3 (ht rfl).2 (ht rfl).1 (hm rfl)]
    unfold blkN blkT litsN
    rw [if_pos rfl, if_pos rfl, if_pos rfl]
    dsimp only
    rw [Nat.add_assoc]
  · rw [if_neg (by decide), if_neg (by decide), List.nil_append] at h3
    rw [if_neg (by decide), if_pos rfl]
    have e : toksB (planM 1 l).L (planM 1 l).D l = toksB fixL fixD l := toksB_usu l
    rw [e] at h3
    rw [all_back fix_lens.1 fixD_lens (fix_pos ⟨256, by decide⟩) (show k + 3 ≤ B.length by omega) h3 (has_usu hg) (hs (by decide))]
    unfold blkN blkT
    rw [if_neg (by decide), if_neg (by decide), if_neg (by decide), if_neg (by decide), List.nil_append, e]
    dsimp only
    rw [Nat.add_assoc]
  · rw [if_neg (by decide), if_pos rfl] at h3
    rw [if_neg (by decide), if_neg (by decide), if_pos rfl]
    have hd := dyn_back hg (show k + 3 ≤ B.length by omega) h3.app
    rw [hd]
    dsimp only
    have hG := own_good hg
    have k5 := h3.app.len0 (show k + 3 ≤ B.length by omega)
    have h5 := h3.then rfl
    have hp2 : planM 2 l = ownM l := rfl
    rw [hp2] at h5 ⊢
    rw [all_back hG.lL hG.lD hG.p k5 h5 (fun t ht => ⟨hg t ht, hG.has t ht⟩) (hs (by decide))]
    unfold blkN blkT
    have n20 : ¬ (2 : Int) = 0 := by decide
    rw [if_neg n20, if_neg n20, if_neg n20, if_pos rfl, List.length_append]
    dsimp only
    have ek : ∀ a b : Nat, k + 3 + a + b = k + (3 + (a + b)) := fun a b => by omega
    rw [ek]
/-- tokens that come to a text fit it -/
theorem getD_left {a b : List Int} {i : Nat} (h : i < a.length) : (a ++ b).getD i 0 = a.getD i 0 := by
  rw [List.getD_eq_getElem?_getD, List.getElem?_append_left h, ← List.getD_eq_getElem?_getD]
theorem iterB_pre (t : Int × Int) (out : List Int) : ∀ n, ∃ s, iterB t n out = out ++ s ∧ s.length = n
  | 0 => ⟨[], by simp [iterB], rfl⟩
  | n + 1 => by
    obtain ⟨s, h1, h2⟩ := iterB_pre t out n
    refine ⟨s ++ [if 0 < t.1 then (iterB t n out).getD ((iterB t n out).length - t.2.toNat) 0 else t.2], ?_, by rw [List.length_append, h2]; rfl⟩
    rw [iterB, stepB, h1, List.append_assoc]
theorem iterB_get (t : Int × Int) (out : List Int) (hd : 0 < t.1 → 1 ≤ t.2.toNat ∧ t.2.toNat ≤ out.length) : ∀ n i, i < n → (iterB t n out).getD (out.length + i) 0 = if 0 < t.1 then (iterB t n out).getD (out.length + i - t.2.toNat) 0 else t.2
  | 0, i, h => absurd h (Nat.not_lt_zero _)
  | n + 1, i, h => by
    have hl := iterB_length t out n
    rw [iterB, stepB]
    rcases Nat.lt_or_ge i n with h1 | h1
    · rw [getD_left (by omega), iterB_get t out hd n i h1]
      split
      next h2 => rw [getD_left (by omega)]
      next h2 => rfl
    · obtain rfl : i = n := by omega
      split
      next h2 =>
        have := hd h2
        rw [getD_left (a := iterB t i out) (i := out.length + i - t.2.toNat) (by omega), List.getD_eq_getElem?_getD, List.getElem?_append_right (by omega), hl, Nat.sub_self]
        rfl
      next h2 =>
        rw [List.getD_eq_getElem?_getD, List.getElem?_append_right (by omega), hl, Nat.sub_self]
        rfl
theorem lay_pre (l : List (Int × Int)) : ∀ out : List Int, ∃ s, l.foldl layTok out = out ++ s := by
  induction l with
  | nil => exact fun out => ⟨[], by simp⟩
  | cons t l ih =>
    intro out
    obtain ⟨s, hs⟩ := ih (layTok out t)
    obtain ⟨s1, h1, _⟩ := iterB_pre t out (tn t).toNat
    refine ⟨s1 ++ s, ?_⟩
    rw [List.foldl_cons, hs, layTok, h1, List.append_assoc]
theorem fit_lay {most : Int} : ∀ (l : List (Int × Int)) (pre T : List Int), scan most l ((pre.length : Int) + T.length) = 0 → fitM ((l.foldl layTok (pre ++ T)).drop pre.length) T.length l = true
  | [], pre, T, _ => by
    unfold fitM
    simp
  | t :: l, pre, T, h => by
    obtain ⟨h1, h2⟩ := scan_cons h
    obtain ⟨s1, e1, n1⟩ := iterB_pre t (pre ++ T) (tn t).toNat
    have ht : tgood t = true := by
      unfold terr at h1
      by_cases hh : tgood t = false
      · rw [if_pos hh] at h1; exact absurd h1 (by decide)
      · simpa using hh
    have hf : 0 < t.1 → t.2 ≤ (pre.length : Int) + T.length := by
      intro h0
      unfold terr at h1
      rw [if_neg (by rw [ht]; decide)] at h1
      by_cases hh : 0 < t.1 ∧ (pre.length : Int) + T.length < t.2
      · rw [if_pos hh] at h1; exact absurd h1 (by decide)
      · omega
    have hg := tgood_true.1 ht
    have htn := tln_eq t
    have htl : tln t = (tn t).toNat := rfl
    have ih := fit_lay l pre (T ++ s1) (by rw [List.length_append, n1, ← htl]; push_cast; rw [htn, ← Int.add_assoc]; exact h2)
    rw [← List.append_assoc, ← e1] at ih
    have e3 : (T ++ s1).length = T.length + tln t := by rw [List.length_append, n1, ← htl]
    rw [e3] at ih
    rw [List.foldl_cons]
    show fitM ((l.foldl layTok (iterB t (tn t).toNat (pre ++ T))).drop pre.length) T.length (t :: l) = true
    obtain ⟨s2, e2⟩ := lay_pre l (iterB t (tn t).toNat (pre ++ T))
    have hlen : (iterB t (tn t).toNat (pre ++ T)).length = pre.length + T.length + tln t := by rw [iterB_length, List.length_append, htl]
    have hget : ∀ i, i < T.length + tln t → ((l.foldl layTok (iterB t (tn t).toNat (pre ++ T))).drop pre.length).getD i 0 = (iterB t (tn t).toNat (pre ++ T)).getD (pre.length + i) 0 := by
      intro i hi
      rw [List.getD_eq_getElem?_getD, List.getElem?_drop, ← List.getD_eq_getElem?_getD, e2, getD_left (by omega)]
    have hL : T.length + tln t ≤ ((l.foldl layTok (iterB t (tn t).toNat (pre ++ T))).drop pre.length).length := by
      rw [List.length_drop, e2, List.length_append]; omega
    unfold fitM
    rw [ih, Bool.and_true]
    generalize (l.foldl layTok (iterB t (tn t).toNat (pre ++ T))).drop pre.length = text at *
    have hit := iterB_get t (pre ++ T) (fun h0 => by rw [List.length_append]; have := hf h0; omega) (tn t).toNat
    rw [List.length_append] at hit
    unfold fitT
    rw [ht, Bool.true_and, Bool.and_eq_true, decide_eq_true_iff]
    refine ⟨hL, ?_⟩
    split
    next h0 =>
      have := hit 0 (by have := tln_pos t; omega)
      rw [if_neg (by omega)] at this
      rw [hget T.length (by have := tln_pos t; omega), beq_iff_eq]
      exact this
    next h0 =>
      rw [List.all_eq_true]
      intro i hi
      rw [List.mem_range] at hi
      have h3 := hit i (by omega)
      rw [if_pos (by omega)] at h3
      unfold farB
      rw [Bool.or_eq_true, decide_eq_true_iff, beq_iff_eq]
      by_cases hd : (((T.length + i : Nat) : Int)) < t.2
      · exact .inl hd
      · right
        rw [hget (T.length + i) (by omega), hget (T.length + i - t.2.toNat) (by omega), ← Nat.add_assoc, h3]
        congr 1
        omega
theorem lay_lits : ∀ (b out : List Int), (litsN b).foldl layTok out = out ++ b
  | [], out => by simp [litsN]
  | c :: b, out => by
    unfold litsN
    rw [List.map_cons, List.foldl_cons]
    have := lay_lits b (out ++ [c])
    unfold litsN at this
    have e : layTok out (0, c) = out ++ [c] := rfl
    rw [e, this, List.append_assoc]
    rfl
theorem sum_lits : ∀ b : List Int, sumT (litsN b) = b.length
  | [] => rfl
  | c :: b => by
    have := sum_lits b
    unfold sumT litsN at this ⊢
    rw [List.map_cons, List.map_cons, List.sum_cons, this, List.length_cons]
    show (1 : Int) + _ = _
    omega
theorem scan_app (most : Int) : ∀ (a b : List (Int × Int)) (s : Int), scan most (a ++ b) s = 0 → scan most a s = 0 ∧ scan most b (s + sumT a) = 0
  | [], b, s, h => ⟨rfl, by unfold sumT; simpa using h⟩
  | t :: a, b, s, h => by
    obtain ⟨h1, h2⟩ := scan_cons h
    obtain ⟨h3, h4⟩ := scan_app most a b _ h2
    refine ⟨?_, ?_⟩
    · rw [scan, if_pos h1]; exact h3
    · unfold sumT at h4 ⊢
      rw [List.map_cons, List.sum_cons, ← Int.add_assoc]
      exact h4
theorem scan_bd {most : Int} : ∀ {l : List (Int × Int)} {s : Int}, scan most l s = 0 → s ≤ most → s + sumT l ≤ most
  | [], s, _, h => by unfold sumT; simpa using h
  | t :: l, s, h, _ => by
    obtain ⟨h1, h2⟩ := scan_cons h
    have : s + tn t ≤ most := by
      unfold terr at h1
      split at h1
      · exact absurd h1 (by decide)
      · split at h1
        · exact absurd h1 (by decide)
        · split at h1
          · exact absurd h1 (by decide)
          · omega
    have := scan_bd h2 this
    unfold sumT at this ⊢
    rw [List.map_cons, List.sum_cons, ← Int.add_assoc]
    exact this
theorem lay_len : ∀ (l : List (Int × Int)) (out : List Int), ((l.foldl layTok out).length : Int) = out.length + sumT l
  | [], out => by unfold sumT; simp
  | t :: l, out => by
    rw [List.foldl_cons, lay_len l, layTok, iterB_length]
    have := tn_pos (t := t)
    unfold sumT
    rw [List.map_cons, List.sum_cons]
    push_cast
    omega
/-- what stands behind a text ahead -/
theorem fit_behind {most : Int} {before : List Int} {l : List (Int × Int)} (h : scan most (litsN before ++ l) 0 = 0) : fitM (((litsN before ++ l).foldl layTok []).drop before.length) 0 l = true := by
  obtain ⟨_, h2⟩ := scan_app most _ _ _ h
  rw [sum_lits, Int.zero_add] at h2
  rw [List.foldl_append, lay_lits, List.nil_append]
  have := fit_lay l before [] (by simpa using h2)
  rw [List.append_nil] at this
  exact this
/-- how many bits are written -/
theorem lenOf_eq {l : List Int} (hl : lensB l = true) (s : Nat) : ((lenOf l s : Nat) : Int) = l.getD s 0 := by
  have h := cntB_at (b := 16) (c := l) (lensB_iff.1 hl).2.1 (by omega) s
  unfold lenOf
  omega
theorem tok_bits {L D : List Int} (hL : lensB L = true) (hD : lensB D = true) {t : Int × Int} (hg : tgood t = true) : ((tokB L D t).length : Int) = tokBits L D t := by
  unfold tokB tokBits
  have h1 := lenOf_eq hL t.2.toNat
  have h2 := lenOf_eq hL (lsN t.1)
  have h3 := lenOf_eq hD (dsN t.2)
  split
  · rw [cdB_len]; exact h1
  next h =>
    have hb : 3 ≤ t.1 ∧ t.1 ≤ 258 ∧ 1 ≤ t.2 ∧ t.2 ≤ 32768 := by rcases tgood_true.1 hg with h | h <;> omega
    have h4 := (lrest hb.1 hb.2.1).2.2
    have h5 := (drest hb.2.2.1 hb.2.2.2).2.2
    rw [List.length_append, List.length_append, List.length_append, cdB_len, cdB_len, dgS_len, dgS_len]
    omega
theorem toks_bits {L D : List Int} (hL : lensB L = true) (hD : lensB D = true) {l : List (Int × Int)} (hg : ∀ t ∈ l, tgood t = true) : ((toksB L D l).length : Int) = bodyM L D l := by
  unfold toksB bodyM
  rw [List.length_append, cdB_len]
  have h1 := lenOf_eq hL 256
  have h2 : ((l.flatMap (tokB L D)).length : Int) = (l.map (tokBits L D)).sum := by
    induction l with
    | nil => rfl
    | cons t l ih =>
      have h3 := ih fun x hx => hg x (List.mem_cons_of_mem _ hx)
      have h4 := tok_bits hL hD (hg t List.mem_cons_self)
      rw [List.flatMap_cons, List.length_append, List.map_cons, List.sum_cons]
      omega
  omega
theorem runs_bits {O : List Int} (hO : lensB O = true) (R : List (Int × Int)) : ((R.flatMap (runB O)).length : Int) = (R.map (runBits O)).sum := by
  induction R with
  | nil => rfl
  | cons r R ih =>
    have h1 := lenOf_eq hO r.1.toNat
    have h3 := rb_bd r.1
    have h4 : (runB O r).length = lenOf O r.1.toNat + (rb r.1).toNat := by unfold runB; rw [List.length_append, cdB_len, dgS_len]
    rw [List.flatMap_cons, List.length_append, List.map_cons, List.sum_cons]
    unfold runBits
    unfold runBits at ih
    omega
theorem headB_bits {l : List (Int × Int)} (hg : ∀ t ∈ l, tgood t = true) : ((headB (ownM l).L (ownM l).D (ownM l).R (ownM l).O).length : Int) = headM (ownM l) := by
  obtain ⟨h1, _, _⟩ := own_runs hg
  have h2 := runs_bits h1.l (ownM l).R
  have h3 := (wrN_bd (ownM l).O 19 (by omega)).2
  have h4 : (ordT.take (wrN (ownM l).O 19)).length = wrN (ownM l).O 19 := by rw [List.length_take]; exact Nat.min_eq_left h3
  unfold headB headM
  simp only [List.length_append, dgS_len, onesB_len, h4]
  omega
theorem wrB_bits {l : List (Int × Int)} (hg : ∀ t ∈ l, tgood t = true) (k : Nat) (last : Bool) {kind : Int} (text : List Int) (h0 : 0 ≤ kind) (h2 : kind ≤ 2) :
    ((wrB k last kind l text).length : Int) ≤ bitsM kind l text ∧ (kind ≠ 0 → ((wrB k last kind l text).length : Int) = bitsM kind l text) ∧ 3 ≤ (wrB k last kind l text).length := by
  have hG := plan_good (kind := kind) hg
  have ht := toks_bits hG.lL hG.lD hg
  have e : (wrB k last kind l text).length = 3 + (if kind = 0 then stB (k + 3) text else (if kind = 2 then headB (ownM l).L (ownM l).D (ownM l).R (ownM l).O else []) ++ toksB (planM kind l).L (planM kind l).D l).length := by
    unfold wrB
    rw [List.length_append, dgS_len]
  rw [e]
  by_cases hk : kind = 0
  · subst hk
    rw [if_pos rfl]
    have : (stB (k + 3) text).length = (8 - (k + 3) % 8) % 8 + (16 + (16 + 8 * text.length)) := by
      unfold stB padB
      simp only [List.length_append, List.length_replicate, dgS_len, bytB_len]
    have e2 : bitsM 0 l text = 42 + 8 * text.length := rfl
    rw [this, e2]
    omega
  · rw [if_neg hk, bits_of hk]
    by_cases hk2 : kind = 2
    · subst hk2
      have hh := headB_bits hg
      have e3 : headK 2 l = headM (ownM l) := rfl
      rw [if_pos rfl, List.length_append, e3]
      omega
    · obtain rfl : kind = 1 := by omega
      have e3 : headK 1 l = 0 := rfl
      rw [if_neg (by decide), List.nil_append, e3]
      omega
end Go.Proofs.Ythhllollhjpheaa

namespace Go.Proofs.Ythhllollhjpheaa
open Go.RowKit

theorem tok_infoB : (Try.prog.info? 54).map (fun i => (i.zero, i.size, i.bytes)) = some (some (.agg #[.int .i64 0, .int .i64 0]), 2, 16) := by kernel_rfl
theorem lits_snoc (l : List Int) {j : Nat} (hj : j < l.length) : litsN (l.take (j + 1)) = litsN (l.take j) ++ [(0, l.getD j 0)] := by
  unfold litsN
  rw [List.take_succ_eq_append_getElem hj, List.map_append, getD_at hj]
  rfl
theorem lits_len (l : List Int) : (litsN l).length = l.length := by unfold litsN; rw [List.length_map]
set_option maxRecDepth 100000 in
set_option maxHeartbeats 4000000 in
theorem lits_any (A : Option Addr) (c : Nat) (l : List Int) (W : World) (hr : Rd W W.heap.size 1 A l.length (bytesV l)) (hm : l.length ≤ 1000000) (hB : ∀ x ∈ l, isB x) :
    Calls Try.prog 39 #[.slice A l.length c] W fun e w' => ∃ A' c', e = .returned (.slice A' l.length c') ∧ w'.ownsRow W.heap.size 54 2 (.slice A' l.length c') l.length ((litsN l).flatMap encTok) ∧ Below W.heap.size W w' := by
  obtain ⟨i0, hi0, hz0, hz1, hz2⟩ := info_parts tok_infoB
  have Hi0 := hid hi0
  have Hz0 := hid hz0
  have Hz1 := hid hz1
  have Hz2 := hid hz2
  have Hr := hid hr
  have HB := hid hB
  clear hi0 hz0 hz1 hz2 hr hB
  go_enter Try.func39, Try.ntmps39
  go_wp2
  go_loopw [3, 4] (fun o i wr => ∃ (j : Nat) (A' : Option Addr) (c' : Nat), j ≤ l.length ∧ i = .int .i64 j ∧ o = .slice A' j c' ∧ Hid (wr.ownsRow W.heap.size 54 2 (.slice A' j c') j ((litsN (l.take j)).flatMap encTok)) ∧ Hid (Below W.heap.size W wr)) (fun _ i _ => l.length - (intOf i).toNat)
  case atStart => exact ⟨0, none, 0, by omega, rfl, rfl, hid (World.ownsRow_nil _ _ _ _), hid (Below.refl _ _)⟩
  case round =>
    obtain ⟨j, A', c', hj, rfl, rfl, Hown, Hb⟩ := hrel
    have hsz := Hb.out.size
    by_cases hlt : j < l.length
    · obtain ⟨b, off, rfl, hbb, q0⟩ := byte_at (Hr.out.below Hb.out (Nat.le_refl _)) hlt
      have Htk := hid (lits_snoc l hlt)
      have hvB : isB (l.getD j 0) := getD_isB HB.out j
      unfold isB at hvB
      generalize l.getD j 0 = v at *
      go_wp2_with (at_builtin; refine wpList_app _ rfl _ _ _ rfl W.heap.size 54 i0 (.agg #[.int .i64 0, .int .i64 0]) 2 16 Try.underlying23 Hi0.out Hz0.out Hz1.out Hz2.out rfl (by omega) _ j c' _ rfl (Hown.out.alloc _) _ _ 1 1 [.int .i64 0, .int .i64 v] rfl (rd_one _ _ _ _ (Blk.new _ _ _)) (by simp) (by intro u hu; simp at hu; rcases hu with rfl | rfl <;> rfl) (by simp only [maxLen]; omega) (by omega) (by simp; omega) ?_; rintro A3 c3 w3 ⟨hown3, hgr3, hb3, _⟩)
      go_roundw
      case rel => exact ⟨j + 1, A3, c3, by omega, by go_num, rfl, hid (by rw [Htk.out, List.flatMap_append, List.flatMap_cons, List.flatMap_nil, List.append_nil]; exact hown3), hid ((Hb.out.alloc hsz _).trans hb3)⟩
      case measure => simp [intOf]; omega
    · have ej : j = l.length := by omega
      subst ej
      rw [List.take_length] at Hown
      go_wp2_with fail
      go_ret
      exact ⟨A', c', rfl, Hown.out, Hb.out⟩
end Go.Proofs.Ythhllollhjpheaa
