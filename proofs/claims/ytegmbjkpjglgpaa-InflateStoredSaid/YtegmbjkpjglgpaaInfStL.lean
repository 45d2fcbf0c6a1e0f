/-
  burnishlaw06.InflateStored: walked.
-/
import Derived.Test.YtegmbjkpjglgpaaInfAl
import Derived.Test.YtegmbjkpjglgpaaInfStP
namespace Go.Proofs.Ytegmbjkpjglgpaa
open Go.RowKit

def packC (ps : List (List Int)) : List Int := (ps.map (blkB 0)).flatten
theorem packC_snoc (ps : List (List Int)) (p : List Int) : packC (ps ++ [p]) = packC ps ++ blkB 0 p := by simp [packC]
theorem packB_snoc (p : List Int) : ∀ ps : List (List Int), packB (ps ++ [p]) = packC ps ++ blkB 1 p
  | [] => by simp [packC, packB]
  | [q] => by simp [packC, packB]
  | q :: r :: s => by
    have ih := packB_snoc p (r :: s)
    rw [List.cons_append] at ih
    show blkB 0 q ++ packB (r :: (s ++ [p])) = _
    rw [ih]
    simp [packC]
theorem not8 : ∀ t : Fin 256, bits .xor .u8 IntKind.u8.max (t.val : Int) = 255 - (t.val : Int) := by decide +kernel
theorem not8' {t : Int} (h0 : 0 ≤ t) (h1 : t < 256) : bits .xor .u8 IntKind.u8.max t = 255 - t := by
  obtain ⟨k, rfl⟩ := Int.eq_ofNat_of_zero_le h0
  exact not8 ⟨k, by omega⟩
theorem piece_len {b : List Int} {a rem n : Nat} (h : rem + a ≤ n) (hn : n = b.length) : ((b.drop a).take rem).length = rem := by rw [List.length_take, List.length_drop, ← hn]; omega
theorem piece_flat {b : List Int} {ps : List (List Int)} {a rem : Nat} (h : ps.flatten = b.take a) : (ps ++ [(b.drop a).take rem]).flatten = b.take (rem + a) := by
  rw [List.flatten_append, h, List.flatten_singleton, Nat.add_comm, List.take_add]
theorem piece_ok {b : List Int} {ps : List (List Int)} {a rem : Nat} (h : ∀ p ∈ ps, (∀ x ∈ p, isB x) ∧ p.length < 65536) (hb : ∀ x ∈ b, isB x) (hr : rem < 65536) : ∀ p ∈ ps ++ [(b.drop a).take rem], (∀ x ∈ p, isB x) ∧ p.length < 65536 := by
  intro p hp
  rcases List.mem_append.1 hp with hp | hp
  · exact h p hp
  · rw [List.mem_singleton.1 hp]
    exact ⟨fun x hx => hb x (List.mem_of_mem_drop (List.mem_of_mem_take hx)), by rw [List.length_take]; omega⟩
theorem piece_val (last : Int) {pk p : List Int} {rem : Nat} (h : p.length = rem) : bytesV pk ++ [.int .u8 last, .int .u8 ((rem : Int) % 256), .int .u8 ((rem : Int) / 256), .int .u8 (255 - (rem : Int) % 256), .int .u8 (255 - (rem : Int) / 256)] ++ bytesV p = bytesV (pk ++ blkB last p) := by
  unfold blkB
  rw [h]
  simp [bytesV]
theorem blkB_ok {last : Int} {p : List Int} (hl : isB last) (h : ∀ x ∈ p, isB x) (hn : p.length < 65536) : ∀ x ∈ blkB last p, isB x := by
  intro x hx
  unfold blkB at hx
  rcases List.mem_append.1 hx with hx | hx
  · simp only [List.mem_cons, List.not_mem_nil, or_false] at hx
    unfold isB at hl ⊢
    omega
  · exact h x hx
theorem packB_ok : ∀ ps : List (List Int), (∀ p ∈ ps, (∀ x ∈ p, isB x) ∧ p.length < 65536) → ∀ x ∈ packB ps, isB x
  | [], _ => fun x hx => by cases hx
  | [p], h => fun x hx => blkB_ok (by unfold isB; decide) (h p (by simp)).1 (h p (by simp)).2 x hx
  | p :: q :: r, h => fun x hx => by
    rcases List.mem_append.1 hx with hx | hx
    · exact blkB_ok (by unfold isB; decide) (h p (by simp)).1 (h p (by simp)).2 x hx
    · exact packB_ok (q :: r) (fun p hp => h p (by simp at hp ⊢; right; exact hp)) x hx
theorem own_nil0 {w : World} {base t sz n c k : Nat} {A : Option Addr} {xs : List Value} (h : w.ownsRow base t sz (.slice A n c) k xs) : A = none → c = 0 := by
  rintro rfl
  rcases h.2 with ⟨e, _⟩ | ⟨g, cap, cur, e, _⟩
  · cases e; rfl
  · cases e
theorem stored_far (A B : Option Addr) (c d : Nat) (b cuts : List Int) (W : World) (hm : 60000 < b.length ∨ 50 < cuts.length) :
    Calls Try.prog 6 #[.slice A b.length c, .slice B cuts.length d] W fun e w' => e = .returned (.bool true) ∧ Below W.heap.size W w' := by
  obtain ⟨n, hn⟩ : ∃ n, n = b.length := ⟨_, rfl⟩
  obtain ⟨m, hmm⟩ : ∃ m, m = cuts.length := ⟨_, rfl⟩
  rw [← hn, ← hmm] at hm ⊢
  clear hn hmm
  by_cases h1 : 60000 < n
  · have d1 : decide (60000 < n) = true := decide_eq_true h1
    have d2 : decide ((60000 : Int) < (n : Int)) = true := decide_eq_true (by omega)
    clear hm h1
    go_enter Try.func6, Try.ntmps6
    go_wp2_with fail
    refine (alive6_any W).mono ?_
    rintro e w1 ⟨rfl, hb1⟩
    go_wp2_with fail
    go_ret
    exact ⟨rfl, hb1⟩
  · have h2 : 50 < m := by omega
    have d1 : decide (60000 < n) = false := decide_eq_false h1
    have d2 : decide ((60000 : Int) < (n : Int)) = false := decide_eq_false (by omega)
    have d3 : decide (50 < m) = true := decide_eq_true h2
    have d4 : decide ((50 : Int) < (m : Int)) = true := decide_eq_true (by omega)
    clear hm h1 h2
    go_enter Try.func6, Try.ntmps6
    go_wp2_with fail
    refine (alive6_any W).mono ?_
    rintro e w1 ⟨rfl, hb1⟩
    go_wp2_with fail
    go_ret
    exact ⟨rfl, hb1⟩
set_option maxRecDepth 100000 in
set_option maxHeartbeats 8000000 in
theorem stored_near (A B : Option Addr) (c d : Nat) (b cuts : List Int) (W : World) (hr : Rd W W.heap.size 1 A b.length (bytesV b)) (hr2 : RdI W W.heap.size B cuts) (hok : ∀ x ∈ b, isB x) (hcap : b.length ≤ c) (hm : b.length ≤ 60000) (hm2 : cuts.length ≤ 50) :
    Calls Try.prog 6 #[.slice A b.length c, .slice B cuts.length d] W fun e w' => e = .returned (.bool true) ∧ Below W.heap.size W w' := by
  have H := hid hr
  have H2 := hid hr2
  have Ok := hid hok
  obtain ⟨i0, hi0, hz0, hz1, hz2⟩ := info_parts byte_info
  have Hi0 := hid hi0
  have Hz0 := hid hz0
  have Hz1 := hid hz1
  have Hz2 := hid hz2
  obtain ⟨n, hn⟩ : ∃ n, n = b.length := ⟨_, rfl⟩
  obtain ⟨m, hmm⟩ : ∃ m, m = cuts.length := ⟨_, rfl⟩
  have Hn := hid hn
  have Hmm := hid hmm
  rw [← hn] at hm hcap ⊢
  rw [← hmm] at hm2 ⊢
  have d1 : decide (60000 < n) = false := decide_eq_false (by omega)
  have d2 : decide ((60000 : Int) < (n : Int)) = false := decide_eq_false (by omega)
  have d3 : decide (50 < m) = false := decide_eq_false (by omega)
  have d4 : decide ((50 : Int) < (m : Int)) = false := decide_eq_false (by omega)
  clear hr hr2 hok hn hmm hi0 hz0 hz1 hz2
  go_enter Try.func6, Try.ntmps6
  go_wp2_with fail
  refine (alive6_any W).mono ?_
  rintro e w1 ⟨rfl, hb1⟩
  have B1 := hid hb1
  clear hb1
  go_wp2_with fail
  have E0 := hid (show (w1.alloc (.cells #[] 5)).ownsRow W.heap.size 5 1 (.slice (some ⟨w1.heap.size, 0, none⟩) 0 0) 0 [] from own_of_blk (n := 0) (Blk.new w1 _ #[]) B1.out.size rfl (by decide))
  have B2 := hid (B1.out.trans ((below_alloc1 w1 (.cells #[] 5)).mono B1.out.size))
  go_loopw [5, 6, 7] (fun v5 v6 v7 wr => ∃ (j a np : Nat) (A' : Option Addr) (c' : Nat) (ps : List (List Int)), v5 = .slice A' np c' ∧ v6 = .int .i64 (a : Int) ∧ v7 = .int .i64 (j : Int) ∧ j ≤ m + 1 ∧ a ≤ n ∧ np ≤ a + 5 * j ∧ Hid (ps.length = j) ∧ Hid (ps.flatten = b.take a) ∧ Hid (∀ p ∈ ps, (∀ x ∈ p, isB x) ∧ p.length < 65536) ∧ Hid (np = (if j ≤ m then packC ps else packB ps).length) ∧ Hid (m < j → a = n) ∧ Hid (wr.ownsRow W.heap.size 5 1 (.slice A' np c') np (bytesV (if j ≤ m then packC ps else packB ps))) ∧ Hid (Below W.heap.size W wr)) (fun _ _ i _ => m + 1 - (intOf i).toNat)
  case atStart => exact ⟨0, 0, 0, _, _, [], rfl, rfl, rfl, by omega, by omega, by omega, hid rfl, hid (by simp), hid (fun p hp => by cases hp), hid (by simp [packC]), hid (fun h => by omega), hid (by rw [if_pos (by omega)]; exact E0.out), B2⟩
  clear E0 B1 B2
  case round =>
    obtain ⟨j, a, np, A', c', ps, rfl, rfl, rfl, hj, ha, hnp, Hl, Hf, Hp, Hnp, Ha, O, Bw⟩ := hrel
    by_cases hjm : j ≤ m
    · have dj : decide (j ≤ m) = true := decide_eq_true hjm
      have dj2 : decide ((j : Int) ≤ (m : Int)) = true := decide_eq_true (by omega)
      obtain ⟨rem, hrem⟩ : ∃ rem, rem = n - a := ⟨_, rfl⟩
      have tw : IntKind.i64.wrap ((n : Int) - (a : Int)) = (rem : Int) := (IntWalk.i64_in _ (by omega)).trans (by omega)
      have hrn : rem + a = n := by omega
      clear hrem
      by_cases hlt : j < m
      · have dl : decide (j < m) = true := decide_eq_true hlt
        have dl2 : decide ((j : Int) < (m : Int)) = true := decide_eq_true (by omega)
        obtain ⟨cb, coff, hcB, hcb, x0⟩ := int_at (H2.out.below Bw.out (Nat.le_refl _)) (j := j) (by rw [← Hmm.out]; exact hlt)
        rw [hcB]
        have hcbl : cb < wr.heap.size := Nat.lt_of_lt_of_le hcb Bw.out.size
        generalize cuts[j]'(by rw [← Hmm.out]; exact hlt) = xc at *
        go_upto_region 15 with (fail)
        obtain ⟨k, hk⟩ : ∃ k : Nat, (k : Int) = (IntKind.u64.wrap xc).tmod ((rem : Int) + 1) := ⟨((IntKind.u64.wrap xc).tmod ((rem : Int) + 1)).toNat, Int.toNat_of_nonneg (Int.tmod_nonneg _ (by rw [IntKind.wrap_u64]; omega))⟩
        have hk1 : k ≤ rem := by
          have := Int.tmod_lt_of_pos (IntKind.u64.wrap xc) (show (0 : Int) < (rem : Int) + 1 by omega)
          omega
        have hk2 : k + a ≤ n := by omega
        obtain ⟨a2, ha2⟩ : ∃ a2, k + a = a2 := ⟨_, rfl⟩
        have tk : wrap64 ((IntKind.u64.wrap xc).tmod ((rem : Int) + 1)) = (k : Int) := by rw [← hk]; unfold wrap64; omega
        rw [tk]
        clear tk hk x0 hcB
        obtain ⟨lo, hlo⟩ : ∃ lo : Int, lo = (k : Int) % 256 := ⟨_, rfl⟩
        obtain ⟨hi, hhi⟩ : ∃ hi : Int, hi = (k : Int) / 256 := ⟨_, rfl⟩
        have x1 := not8' (t := (k : Int) % 256) (by omega) (by omega)
        have x2 := not8' (t := (k : Int) / 256) (by omega) (by omega)
        have O1 := hid (fun o => (O.out.alloc o))
        have hz := Bw.out.size
        go_upto_region 16 with (at_builtin; refine wpList_app _ rfl _ _ _ rfl W.heap.size 5 i0 (.int .u8 0) 1 1 Try.underlying42 Hi0.out Hz0.out Hz1.out Hz2.out rfl (by omega) A' np c' _ rfl (O1.out _) _ _ 5 5 [.int .u8 0, .int .u8 _, .int .u8 _, .int .u8 _, .int .u8 _] rfl (own_rd (own_of_blk (base := 0) (n := 5) (Blk.new _ _ _) (Nat.zero_le _) rfl (by decide))) (by simp) (by simp [Value.oneCell']) (by simp only [maxLen]; omega) (by omega) (by simp; omega) ?_; intro A4 c4 w4 ha4; have Ha4 := hid ha4; clear ha4)
        rw [show (if IntKind.u8.signed = true then (-1 : Int) else IntKind.u8.max) = IntKind.u8.max from rfl, x1, x2] at Ha4
        obtain ⟨hown4, _, hb4, _⟩ := Ha4.out
        have O4 := hid hown4
        have B4 := hid (Bw.out.trans ((below_alloc1 wr _).mono hz |>.trans hb4))
        clear hown4 hb4 Ha4 O1 x1 x2 hlo hhi
        rcases Nat.eq_zero_or_pos k with h0 | h0
        · subst h0
          have tw2 : IntKind.i64.wrap ((a : Int) + ((0 : Nat) : Int)) = (a2 : Int) := (IntWalk.i64_in _ (by omega)).trans (by omega)
          have han : a2 = a := by omega
          cases A
          all_goals
            go_wp2_with (at_builtin; refine wpList_app _ rfl _ _ _ rfl W.heap.size 5 i0 (.int .u8 0) 1 1 Try.underlying42 Hi0.out Hz0.out Hz1.out Hz2.out rfl (by omega) A4 (np + 5) c4 _ rfl O4.out _ _ 0 _ [] rfl (Rd.nil (B := 0)) (by simp) (by simp) (by simp only [maxLen]; omega) (by omega) (by have := B4.out.size; omega) ?_; intro A5 c5 w5 ha5; have Ha5 := hid ha5; clear ha5)
            all_goals
              obtain ⟨hown5, _, hb5, _⟩ := Ha5.out
              exact ⟨⟨j + 1, a2, np + 5, A5, c5, ps ++ [(b.drop a).take 0], rfl, by rw [han], by go_num, by omega, by omega, by omega, hid (by rw [List.length_append, Hl.out]; rfl), hid (by rw [piece_flat Hf.out, Nat.zero_add, han]), hid (piece_ok Hp.out Ok.out (by decide)), hid (by rw [Hnp.out, if_pos hjm, if_pos (by omega), packC_snoc, List.length_append, blkB_len]; rfl), hid (fun h => by omega), hid (by rw [if_pos (by omega), packC_snoc]; rw [if_pos hjm] at hown5; rw [← piece_val (rem := 0) 0 rfl]; exact hown5), hid (B4.out.trans hb5)⟩, by simp [intOf]; omega⟩
        · obtain ⟨bb, off, rfl, hbb, hcc⟩ := H.out.2 (by rw [bytesV_length, ← Hn.out]; omega)
          have hca : ¬ c = a := by omega
          have hca2 : (c == a) = false := by rw [beq_eq_false_iff_ne]; exact hca
          have tw2 : IntKind.i64.wrap ((a : Int) + (k : Int)) = (a2 : Int) := (IntWalk.i64_in _ (by omega)).trans (by omega)
          have tna : a2 - a = k := by omega
          have R4 : Rd w4 w4.heap.size 1 (some ⟨bb, off + a, none⟩) k (bytesV ((b.drop a).take k)) := by
            have hlen : ((b.drop a).take k).length = k := by rw [List.length_take, List.length_drop, ← Hn.out]; omega
            refine ⟨by rw [bytesV_length, hlen, Nat.mul_one], fun _ => ⟨bb, off + a, rfl, Nat.lt_of_lt_of_le hbb B4.out.size, fun k u hu => ?_⟩⟩
            have hh := hcc (a + k) u (by
              unfold bytesV at hu ⊢
              rw [List.getElem?_map] at hu ⊢
              rw [List.getElem?_take] at hu
              split at hu
              · rw [List.getElem?_drop] at hu; exact hu
              · cases hu)
            rw [Nat.add_assoc]
            exact (B4.out.cell (p := ⟨bb, off + (a + k), none⟩) hbb).trans hh
          have R4 := hid R4
          clear hcc
          go_wp2_with (at_builtin; refine wpList_app _ rfl _ _ _ rfl W.heap.size 5 i0 (.int .u8 0) 1 1 Try.underlying42 Hi0.out Hz0.out Hz1.out Hz2.out rfl (by omega) A4 (np + 5) c4 _ rfl O4.out _ _ k _ (bytesV ((b.drop a).take k)) rfl R4.out (by simp) bytesV_cells (by simp only [maxLen]; omega) (by omega) (by have := B4.out.size; omega) ?_; intro A5 c5 w5 ha5; have Ha5 := hid ha5; clear ha5)
          obtain ⟨hown5, _, hb5, _⟩ := Ha5.out
          exact ⟨⟨j + 1, a2, np + 5 + k, A5, c5, ps ++ [(b.drop a).take k], rfl, rfl, by go_num, by omega, by omega, by omega, hid (by rw [List.length_append, Hl.out]; rfl), hid (by rw [piece_flat Hf.out, show k + a = a2 by omega]), hid (piece_ok Hp.out Ok.out (by omega)), hid (by rw [Hnp.out, if_pos hjm, if_pos (by omega), packC_snoc, List.length_append, blkB_len, piece_len (hk2) Hn.out]; omega), hid (fun h => by omega), hid (by rw [if_pos (by omega), packC_snoc]; rw [if_pos hjm] at hown5; rw [← piece_val 0 (piece_len (hk2) Hn.out)]; exact hown5), hid (B4.out.trans hb5)⟩, by simp [intOf]; omega⟩
      · have dl : decide (j < m) = false := decide_eq_false hlt
        have dl2 : decide ((j : Int) < (m : Int)) = false := decide_eq_false (by omega)
        go_upto_region 15 with (fail)
        obtain ⟨lo, hlo⟩ : ∃ lo : Int, lo = (rem : Int) % 256 := ⟨_, rfl⟩
        obtain ⟨hi, hhi⟩ : ∃ hi : Int, hi = (rem : Int) / 256 := ⟨_, rfl⟩
        have x1 := not8' (t := (rem : Int) % 256) (by omega) (by omega)
        have x2 := not8' (t := (rem : Int) / 256) (by omega) (by omega)
        have O1 := hid (fun o => (O.out.alloc o))
        have hz := Bw.out.size
        go_upto_region 16 with (at_builtin; refine wpList_app _ rfl _ _ _ rfl W.heap.size 5 i0 (.int .u8 0) 1 1 Try.underlying42 Hi0.out Hz0.out Hz1.out Hz2.out rfl (by omega) A' np c' _ rfl (O1.out _) _ _ 5 5 [.int .u8 1, .int .u8 _, .int .u8 _, .int .u8 _, .int .u8 _] rfl (own_rd (own_of_blk (base := 0) (n := 5) (Blk.new _ _ _) (Nat.zero_le _) rfl (by decide))) (by simp) (by simp [Value.oneCell']) (by simp only [maxLen]; omega) (by omega) (by simp; omega) ?_; intro A4 c4 w4 ha4; have Ha4 := hid ha4; clear ha4)
        rw [show (if IntKind.u8.signed = true then (-1 : Int) else IntKind.u8.max) = IntKind.u8.max from rfl, x1, x2] at Ha4
        obtain ⟨hown4, _, hb4, _⟩ := Ha4.out
        have O4 := hid hown4
        have B4 := hid (Bw.out.trans ((below_alloc1 wr _).mono hz |>.trans hb4))
        clear hown4 hb4 Ha4 O1 x1 x2 hlo hhi
        rcases Nat.eq_zero_or_pos rem with h0 | h0
        · subst h0
          have tw2 : IntKind.i64.wrap ((a : Int) + ((0 : Nat) : Int)) = (n : Int) := (IntWalk.i64_in _ (by omega)).trans (by omega)
          have han : a = n := by omega
          cases A
          all_goals
            go_wp2_with (at_builtin; refine wpList_app _ rfl _ _ _ rfl W.heap.size 5 i0 (.int .u8 0) 1 1 Try.underlying42 Hi0.out Hz0.out Hz1.out Hz2.out rfl (by omega) A4 (np + 5) c4 _ rfl O4.out _ _ 0 _ [] rfl (Rd.nil (B := 0)) (by simp) (by simp) (by simp only [maxLen]; omega) (by omega) (by have := B4.out.size; omega) ?_; intro A5 c5 w5 ha5; have Ha5 := hid ha5; clear ha5)
            all_goals
              obtain ⟨hown5, _, hb5, _⟩ := Ha5.out
              exact ⟨⟨j + 1, n, np + 5, A5, c5, ps ++ [(b.drop a).take 0], rfl, rfl, by go_num, by omega, Nat.le_refl _, by omega, hid (by rw [List.length_append, Hl.out]; rfl), hid (by rw [piece_flat Hf.out, Nat.zero_add, han]), hid (piece_ok Hp.out Ok.out (by decide)), hid (by rw [Hnp.out, if_pos hjm, if_neg (by omega), packB_snoc, List.length_append, blkB_len]; rfl), hid (fun _ => rfl), hid (by rw [if_neg (by omega), packB_snoc]; rw [if_pos hjm] at hown5; rw [← piece_val (rem := 0) 1 rfl]; exact hown5), hid (B4.out.trans hb5)⟩, by simp [intOf]; omega⟩
        · obtain ⟨bb, off, rfl, hbb, hcc⟩ := H.out.2 (by rw [bytesV_length, ← Hn.out]; omega)
          have hca : ¬ c = a := by omega
          have hca2 : (c == a) = false := by rw [beq_eq_false_iff_ne]; exact hca
          have tw2 : IntKind.i64.wrap ((a : Int) + (rem : Int)) = (n : Int) := (IntWalk.i64_in _ (by omega)).trans (by omega)
          have tna : n - a = rem := by omega
          have R4 : Rd w4 w4.heap.size 1 (some ⟨bb, off + a, none⟩) rem (bytesV ((b.drop a).take rem)) := by
            have hlen : ((b.drop a).take rem).length = rem := by rw [List.length_take, List.length_drop, ← Hn.out]; omega
            refine ⟨by rw [bytesV_length, hlen, Nat.mul_one], fun _ => ⟨bb, off + a, rfl, Nat.lt_of_lt_of_le hbb B4.out.size, fun k u hu => ?_⟩⟩
            have hh := hcc (a + k) u (by
              unfold bytesV at hu ⊢
              rw [List.getElem?_map] at hu ⊢
              rw [List.getElem?_take] at hu
              split at hu
              · rw [List.getElem?_drop] at hu; exact hu
              · cases hu)
            rw [Nat.add_assoc]
            exact (B4.out.cell (p := ⟨bb, off + (a + k), none⟩) hbb).trans hh
          have R4 := hid R4
          clear hcc
          go_wp2_with (at_builtin; refine wpList_app _ rfl _ _ _ rfl W.heap.size 5 i0 (.int .u8 0) 1 1 Try.underlying42 Hi0.out Hz0.out Hz1.out Hz2.out rfl (by omega) A4 (np + 5) c4 _ rfl O4.out _ _ rem _ (bytesV ((b.drop a).take rem)) rfl R4.out (by simp) bytesV_cells (by simp only [maxLen]; omega) (by omega) (by have := B4.out.size; omega) ?_; intro A5 c5 w5 ha5; have Ha5 := hid ha5; clear ha5)
          obtain ⟨hown5, _, hb5, _⟩ := Ha5.out
          exact ⟨⟨j + 1, n, np + 5 + rem, A5, c5, ps ++ [(b.drop a).take rem], rfl, rfl, by go_num, by omega, Nat.le_refl _, by omega, hid (by rw [List.length_append, Hl.out]; rfl), hid (by rw [piece_flat Hf.out, hrn]), hid (piece_ok Hp.out Ok.out (by omega)), hid (by rw [Hnp.out, if_pos hjm, if_neg (by omega), packB_snoc, List.length_append, blkB_len, piece_len (Nat.le_of_eq hrn) Hn.out]; omega), hid (fun _ => rfl), hid (by rw [if_neg (by omega), packB_snoc]; rw [if_pos hjm] at hown5; rw [← piece_val 1 (piece_len (Nat.le_of_eq hrn) Hn.out)]; exact hown5), hid (B4.out.trans hb5)⟩, by simp [intOf]; omega⟩
    · have dj : decide (j ≤ m) = false := decide_eq_false hjm
      have dj2 : decide ((j : Int) ≤ (m : Int)) = false := decide_eq_false (by omega)
      have han := Ha.out (by omega)
      subst han
      rw [if_neg hjm] at Hnp O
      have hne : ps ≠ [] := by intro e; have := Hl.out; rw [e] at this; simp at this; omega
      have hfl : ps.flatten = b := by rw [Hf.out, Hn.out, List.take_length]
      have hB := packB_ok ps Hp.out
      have hc0 : A' = none → c' = 0 := own_nil0 O.out
      have Ob := hid (own_rd O.out)
      have hl2 : ps.flatten.length = a := by rw [hfl, Hn.out]
      obtain ⟨K, hK⟩ : ∃ K, K = packB ps := ⟨_, rfl⟩
      have im : ∀ q : Int, 0 ≤ q → q ≤ 4194304 → infM (bitsL K) q = if q < (a : Int) then .error 4 else .ok ⟨8 * K.length, (a : Int), litT b⟩ := fun q h0 h1 => by rw [hK, infM_pack q h0 h1 ps hne Hp.out, hl2, hfl]
      rw [← hK] at hB Ob Hnp
      have hnK := Hnp.out
      subst hnK
      have I1 := hid (fun (w : World) (h : Below wr.heap.size wr w) (q : Int) => inflate_any A' c' K q w (Ob.out.below h (Nat.le_refl _) |>.more h.size) hc0 hB (by omega))
      have im1 := hid (im a (by omega) (by omega))
      have im2 := hid (fun h : 0 < a => im ((a : Int) - 1) (by omega) (by omega))
      have HKl := hid (show (8 * K.length + 7) / 8 = K.length by omega)
      clear im hB hc0 hne hfl hl2 hK Hl Hf Hp Hnp O
      have Hl0 := hid (lay_lit b [])
      rw [List.nil_append] at Hl0
      go_wp2_with fail
      refine (I1.out wr (Below.refl _ _) (a : Int)).mono ?_
      rintro e w1 ⟨hb1, hE⟩
      rw [im1.out, if_neg (by omega)] at hE
      obtain ⟨A1, c1, rfl, ho1⟩ := hE
      rw [show (8 * K.length + 7) / 8 = K.length from HKl.out]
      rw [show ((litT b).foldl layTok []) = b from Hl0.out] at ho1 ⊢
      have B1 := hid hb1
      have O1 := hid (own_rd ho1)
      have hs := same_refl A1 A c1 c b w1 w1.heap.size (own_rd ho1) ((H.out.below (Bw.out.trans (hb1.mono Bw.out.size)) (Nat.le_refl _)).more (Nat.le_trans Bw.out.size hb1.size))
      rw [← Hn.out] at hs ⊢
      have HS := hid hs
      clear ho1 hb1 hs
      by_cases ha0 : a = 0
      · subst ha0
        go_wp2_with fail
        refine HS.out.mono ?_
        rintro e w2 ⟨rfl, rfl⟩
        go_wp2_with fail
        go_ret
        exact ⟨rfl, Bw.out.trans (B1.out.mono Bw.out.size)⟩
      · have ha1 : 0 < a := by omega
        have tw : IntKind.i64.wrap ((a : Int) - 1) = (a : Int) - 1 := IntWalk.i64_in _ (by omega)
        have de : (a == 0) = false := by rw [beq_eq_false_iff_ne]; exact ha0
        go_wp2_with fail
        refine HS.out.mono ?_
        rintro e w2 ⟨rfl, rfl⟩
        go_wp2_with fail
        refine (I1.out w1 B1.out ((a : Int) - 1)).mono ?_
        rintro e w2 ⟨hb2, hE⟩
        rw [im2.out ha1, if_pos (by omega)] at hE
        have hE : e = .returned (.tuple #[.slice none 0 0, .int .i64 0, .iface 40 (.int .i64 4)]) := hE
        subst hE
        have B2 := hid hb2
        clear hb2
        go_wp2_with fail
        refine (is_no 4 4 (by decide) _).mono ?_
        rintro e w3 ⟨rfl, rfl⟩
        go_wp2_with fail
        go_ret
        exact ⟨rfl, (Bw.out.trans (B1.out.mono Bw.out.size)).trans (B2.out.mono (Nat.le_trans Bw.out.size B1.out.size))⟩
theorem stored_law (A B : Option Addr) (c d : Nat) (b cuts : List Int) (W : World) (hr : Rd W W.heap.size 1 A b.length (bytesV b)) (hr2 : RdI W W.heap.size B cuts) (hok : ∀ x ∈ b, isB x) (hcap : b.length ≤ c) :
    Calls Try.prog 6 #[.slice A b.length c, .slice B cuts.length d] W fun e w' => e = .returned (.bool true) ∧ Below W.heap.size W w' := by
  by_cases h : 60000 < b.length ∨ 50 < cuts.length
  · exact stored_far A B c d b cuts W h
  · exact stored_near A B c d b cuts W hr hr2 hok hcap (by omega) (by omega)
end Go.Proofs.Ytegmbjkpjglgpaa
