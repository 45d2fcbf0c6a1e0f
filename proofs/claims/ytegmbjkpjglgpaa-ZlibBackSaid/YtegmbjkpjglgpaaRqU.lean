/-
  burnishref06.Inflate; burnishlaw06.InflateBytes: walked.
-/
import Derived.Test.YtegmbjkpjglgpaaRqT
import Derived.Test.YtegmbjkpjglgpaaApU
namespace Go.Proofs.Ytegmbjkpjglgpaa
open Go.RowKit

theorem out_len {most : Int} : ∀ (l : List (Int × Int)) (s : Int) (out : List Int), scan most l s = 0 → (out.length : Int) ≤ s → s ≤ most → ((l.foldl layTok out).length : Int) ≤ most
  | [], s, out, _, h1, h2 => by show (out.length : Int) ≤ most; omega
  | t :: r, s, out, h, h1, h2 => by
    rw [scan] at h
    have hp := tn_pos (t := t)
    by_cases ht : terr most s t = 0
    · rw [if_pos ht] at h
      have hm : s + tn t ≤ most := by
        unfold terr at ht
        split at ht
        · cases ht
        · split at ht
          · cases ht
          · split at ht
            · cases ht
            · omega
      refine out_len r (s + tn t) (layTok out t) h ?_ hm
      unfold layTok
      rw [iterB_length]
      omega
    · rw [if_neg ht] at h
      exact absurd h ht
/-- what packed bytes are unpacked to, by the reference -/
def RIn (bl : List Int) (most : Int) (W : World) (e : Ending) (w' : World) : Prop := Below W.heap.size W w' ∧ match infM (bitsL bl) most with
  | .error k => k ≠ 0 ∧ e = .returned (.tuple #[.slice none 0 0, .int .i64 0, .int .i64 k])
  | .ok s2 => ∃ A c, e = .returned (.tuple #[.slice A (s2.toks.foldl layTok []).length c, .int .i64 (((s2.k + 7) / 8 : Nat) : Int), .int .i64 0]) ∧ w'.ownsRow W.heap.size 5 1 (.slice A (s2.toks.foldl layTok []).length c) (s2.toks.foldl layTok []).length (bytesV (s2.toks.foldl layTok []))
set_option maxRecDepth 100000 in
theorem rinf_any (A : Option Addr) (c : Nat) (bl : List Int) (most : Int) (W : World) (hr : Rd W W.heap.size 1 A bl.length (bytesV bl)) (hb : ∀ x ∈ bl, isB x) (hm : bl.length ≤ 10000) (h20 : most ≤ 20000 ∨ 4194304 < most) : Calls Try.prog 21 #[.slice A bl.length c, .int .i64 most] W (RIn bl most W) := by
  have RT := hid (rtok_any A c bl most W hr hb hm)
  have HB := hid hb
  obtain ⟨n, hn⟩ : ∃ n, n = bl.length := ⟨_, rfl⟩
  rw [← hn] at RT ⊢
  clear hr hb hm hn
  go_enter Try.func21, Try.ntmps21
  go_wp2_with fail
  refine RT.out.mono ?_
  intro e w1 hE
  obtain ⟨hb1, hE⟩ := hE
  have B1 := hid hb1
  clear hb1
  cases hi : infM (bitsL bl) most with
  | error k =>
    rw [hi] at hE
    obtain ⟨hk0, rfl⟩ := hE
    have Hi := hid hi
    have H0 := hid hk0
    have d0 : (k == 0) = false := by rw [beq_eq_false_iff_ne]; exact hk0
    have d0b : (k != 0) = true := by rw [bne, d0]; rfl
    clear hi hk0
    go_wp2_with fail
    go_ret3
    refine ⟨B1.out, ?_⟩
    rw [Hi.out]
    exact ⟨H0.out, rfl⟩
  | ok s2 =>
    rw [hi] at hE
    obtain ⟨T, tc, rfl, ho, hlen⟩ := hE
    have Hi := hid hi
    have hsn := infM_sound (bitsL_bit bl) hi
    have hme : expRes most s2.toks = 0 := by unfold expRes; rw [if_neg (by omega)]; exact hsn.2.2.1
    have hmo : expOut most s2.toks = s2.toks.foldl layTok [] := by unfold expOut; rw [if_pos hme]
    have EX := hid (refExpandB_any T tc s2.toks most w1 (own_rd ho) (by omega))
    unfold ExpEnd at EX
    rw [hme, hmo] at EX
    obtain ⟨nt, hnt⟩ : ∃ nt, nt = s2.toks.length := ⟨_, rfl⟩
    rw [← hnt] at EX ⊢
    clear hi ho hlen hsn hme hmo hnt
    go_wp2_with fail
    refine EX.out.mono ?_
    rintro e w2 ⟨A2, c2, rfl, ho2, hb2⟩
    have O2 := hid ho2
    have B2 := hid hb2
    obtain ⟨no, hno⟩ : ∃ no, no = (s2.toks.foldl layTok []).length := ⟨_, rfl⟩
    have Hno := hid hno
    rw [← hno]
    clear ho2 hb2 hno
    go_wp2_with fail
    go_ret3
    refine ⟨B1.out.trans (B2.out.mono B1.out.size), ?_⟩
    rw [Hi.out]
    refine ⟨A2, c2, by rw [Hno.out]; rfl, own_base O2.out B1.out.size⟩
theorem dist2 {a b : SlU} {p : Nat} (ha : ∀ g, (slvU a).ownBlock = some g → p < g) (hb : (slvU b).ownBlock = some p) : Dist [a, b] := by
  intro i j s u hs hu hij g hg
  match i, j with
  | 0, 0 => exact absurd rfl hij
  | 0, 1 => simp at hs hu; subst hs hu; have := ha g hg; rw [hb]; intro e; injection e; omega
  | 1, 0 => simp at hs hu; subst hs hu; rw [hb] at hg; injection hg with hg; intro e; have := ha g e; omega
  | 1, 1 => exact absurd rfl hij
  | i + 2, _ => simp at hs
  | _, j + 2 => simp at hu
theorem own_copyU {w : World} {base g : Nat} {l : List Int} (h : Blk w g 5 (bytesV l ++ [Value.int .u8 165, Value.int .u8 90]).toArray) (hb : base ≤ g) (hm : l.length ≤ 10000000) :
    w.ownsRow base 5 1 (.slice (some ⟨g, 0, none⟩) l.length (l.length + 2)) l.length (bytesV l) :=
  ⟨by simp [bytesV], .inr ⟨g, l.length + 2, _, rfl, hb, h, by omega, by unfold maxLen; omega, by simp [bytesV], by simp [bytesV]⟩⟩
def apX2 (xs : List Value) (p : List Int) : Nat → List Value := fun i => if i = 0 then xs else bytesV p
theorem apart2 {w : World} {base n c gp : Nat} {A : Option Addr} {xs : List Value} {p : List Int} (ha : w.ownsRow base 5 1 (.slice A n c) n xs) (hn : n ≤ 10000000) (hab : ∀ g, (Value.slice A n c).ownBlock = some g → gp < g)
    (hp : Blk w gp 5 (bytesV p ++ [Value.int .u8 165, Value.int .u8 90]).toArray) (hb : base ≤ gp) (hpl : p.length ≤ 1000000) :
    Calls Try.prog 25 #[.slice (some ⟨w.heap.size, 0, none⟩) 2 2] (w.alloc (.cells #[.slice A n c, .slice (some ⟨gp, 0, none⟩) p.length (p.length + 2)] 42)) fun e w' => e = .returned (.bool true) ∧ Below base w w' := by
  have hbw : base ≤ w.heap.size := by have := hp.lt; omega
  refine (apart_any w.heap.size 2 base [(A, n, c), (some ⟨gp, 0, none⟩, p.length, p.length + 2)] (apX2 xs p) _ (Blk.new w _ _) ?_ (dist2 hab rfl) (by simp; omega) (by simp) ?_).mono fun e w' ⟨he, hw⟩ => ⟨he, ((Below.refl _ _).alloc hbw _).trans hw⟩
  · intro k s hs
    match k with
    | 0 => simp at hs; subst hs; exact ha.alloc _
    | 1 => simp at hs; subst hs; exact (own_copyU hp hb (by omega)).alloc _
    | k + 2 => simp at hs
  · intro s hs
    simp at hs
    rcases hs with rfl | rfl <;> simp only <;> omega
set_option maxRecDepth 100000 in
theorem bytes_far (A : Option Addr) (c : Nat) (b : List Int) (most : Int) (W : World) (h : 300 < b.length ∨ (20000 < most ∧ most ≤ 4194304)) :
    Calls Try.prog 5 #[.slice A b.length c, .int .i64 most] W fun e w' => e = .returned (.bool true) ∧ Below W.heap.size W w' := by
  obtain ⟨n, hn⟩ : ∃ n, n = b.length := ⟨_, rfl⟩
  rw [← hn] at h ⊢
  clear hn
  by_cases h1 : 300 < n
  · have d1 : decide (300 < n) = true := decide_eq_true h1
    have d2 : decide ((300 : Int) < (n : Int)) = true := decide_eq_true (by omega)
    clear h h1
    go_enter Try.func5, Try.ntmps5
    go_wp2_with fail
    refine (alive6_any W).mono ?_
    rintro e w1 ⟨rfl, hb1⟩
    go_wp2_with fail
    go_ret
    exact ⟨rfl, hb1⟩
  · have h2 : 20000 < most ∧ most ≤ 4194304 := by omega
    have d1 : decide (300 < n) = false := decide_eq_false h1
    have d2 : decide ((300 : Int) < (n : Int)) = false := decide_eq_false (by omega)
    have d3 : decide (20000 < most) = true := decide_eq_true h2.1
    have d4 : decide (most ≤ 4194304) = true := decide_eq_true h2.2
    clear h h1 h2
    go_enter Try.func5, Try.ntmps5
    go_wp2_with fail
    refine (alive6_any W).mono ?_
    rintro e w1 ⟨rfl, hb1⟩
    go_wp2_with fail
    go_ret
    exact ⟨rfl, hb1⟩
set_option maxRecDepth 100000 in
set_option maxHeartbeats 4000000 in
theorem bytes_near (A : Option Addr) (c : Nat) (b : List Int) (most : Int) (W : World) (hr : Rd W W.heap.size 1 A b.length (bytesV b)) (hok : ∀ x ∈ b, isB x) (h1 : b.length ≤ 300) (h2 : ¬ (20000 < most ∧ most ≤ 4194304)) :
    Calls Try.prog 5 #[.slice A b.length c, .int .i64 most] W fun e w' => e = .returned (.bool true) ∧ Below W.heap.size W w' := by
  have CP := hid (fun (w : World) (h : Below W.heap.size W w) => copy_any A c b w ((hr.below h (Nat.le_refl _)).more h.size) (by omega))
  have RT := hid (fun (w : World) (h : Below W.heap.size W w) => rinf_any A c b most w ((hr.below h (Nat.le_refl _)).more h.size) hok (by omega) (by omega))
  have TK := hid (fun (g : Nat) (w : World) (h : Blk w g 5 (bytesV b ++ [Value.int .u8 165, Value.int .u8 90]).toArray) => inflate_any (some ⟨g, 0, none⟩) (b.length + 2) b most w (copied_rd h) (fun h => by cases h) hok (by omega))
  have KE := hid (fun (g : Nat) (w : World) (h : Blk w g 5 (bytesV b ++ [Value.int .u8 165, Value.int .u8 90]).toArray) (hw : Below W.heap.size W w) => kept_any A c g b w w.heap.size h ((hr.below hw (Nat.le_refl _)).more hw.size) (by omega))
  have AP := hid (fun (g : Nat) (w : World) (hg : W.heap.size ≤ g) (h : Blk w g 5 (bytesV b ++ [Value.int .u8 165, Value.int .u8 90]).toArray) (A1 : Option Addr) (n1 c1 : Nat) (xs : List Value) (ha : w.ownsRow W.heap.size 5 1 (.slice A1 n1 c1) n1 xs) (hn : n1 ≤ 10000000) (hab : ∀ p, (Value.slice A1 n1 c1).ownBlock = some p → g < p) => apart2 ha hn hab h hg (by omega))
  obtain ⟨n, hn⟩ : ∃ n, n = b.length := ⟨_, rfl⟩
  have hh : (most < 0 ∨ 4194304 < most) ∨ most ≤ 20000 := by omega
  have HH := hid hh
  unfold CopiedB at CP
  rw [← hn] at h1 CP RT TK KE AP ⊢
  have d1 : decide (300 < n) = false := decide_eq_false (by omega)
  have d2 : decide ((300 : Int) < (n : Int)) = false := decide_eq_false (by omega)
  have hd34 : decide (20000 < most) = false ∨ (decide (20000 < most) = true ∧ decide (most ≤ 4194304) = false) := by
    by_cases h : 20000 < most
    · exact .inr ⟨decide_eq_true h, decide_eq_false (by omega)⟩
    · exact .inl (decide_eq_false h)
  clear hr hok hn h2 hh
  rcases hd34 with d3 | ⟨d3, d4⟩
  all_goals
    go_enter Try.func5, Try.ntmps5
    go_wp2_with fail
    refine (alive6_any W).mono ?_
    rintro e w1 ⟨rfl, hb1⟩
    have B1 := hid hb1
    clear hb1
    go_wp2_with fail
    refine (CP.out w1 B1.out).mono ?_
    rintro e w2 ⟨rfl, hk2, hb2⟩
    obtain ⟨g, hg⟩ : ∃ g, g = w1.heap.size := ⟨_, rfl⟩
    have Hg := hid (show W.heap.size ≤ g by rw [hg]; exact B1.out.size)
    rw [← hg] at hk2 ⊢
    have BK2 := hid hk2
    have B2 := hid (B1.out.trans (hb2.mono B1.out.size))
    clear hk2 hb2 hg
    go_wp2_with fail
    refine (TK.out g w2 BK2.out).mono ?_
    intro e w3 hE3
    obtain ⟨hb3, hE3⟩ := hE3
    have B3 := hid (B2.out.trans (hb3.mono B2.out.size))
    have BK3 := hid (BK2.out.below hb3 BK2.out.lt)
    have RW := hid (RT.out w3 B3.out)
    clear hb3
    cases hi : infM (bitsL b) most with
    | error k =>
      rw [hi] at hE3
      have hE3 : e = .returned (.tuple #[.slice none 0 0, .int .i64 0, .iface 40 (.int .i64 k)]) := hE3
      subst hE3
      have Hi := hid hi
      clear hi
      go_wp2_with fail
      refine RW.out.mono ?_
      intro e w4 hE4
      obtain ⟨hb4, hE4⟩ := hE4
      rw [Hi.out] at hE4
      obtain ⟨hk0, rfl⟩ := hE4
      have B4 := hid (B3.out.trans (hb4.mono B3.out.size))
      have BK4 := hid (BK3.out.below hb4 BK3.out.lt)
      have HK0 := hid hk0
      clear hb4 hk0
      have SM := hid (same_refl none none 0 0 [] w4 0 Rd.nil Rd.nil)
      go_wp2_with fail
      refine SM.out.mono ?_
      rintro e w5 ⟨rfl, rfl⟩
      go_wp2_with fail
      refine (num_ne k HK0.out _).mono ?_
      rintro e w6 ⟨rfl, rfl⟩
      go_wp2_with fail
      refine (KE.out g _ BK4.out B4.out).mono ?_
      rintro e w6 ⟨rfl, rfl⟩
      go_wp2_with fail
      refine (AP.out g _ Hg.out BK4.out none 0 0 [] (World.ownsRow_nil _ _ _ _) (by decide) (fun p h => by cases h)).mono ?_
      rintro e w6 ⟨rfl, hb6⟩
      have B6 := hid (B4.out.trans hb6)
      clear hb6
      go_wp2_with fail
      go_ret
      exact ⟨rfl, B6.out⟩
    | ok s2 =>
      rw [hi] at hE3
      obtain ⟨T, tc, he3, ho3⟩ := hE3
      have Hi := hid hi
      have hsn := infM_sound (bitsL_bit b) hi
      have hout := out_len s2.toks 0 [] hsn.2.2.1 (by simp) hsn.1
      have hm20 : (s2.toks.foldl layTok []).length ≤ 4194304 := by omega
      have hf := own_form ho3
      have HT := hid (show ∀ p, (Value.slice T (s2.toks.foldl layTok []).length tc).ownBlock = some p → g < p from fun p hp => by
        rcases ho3.2 with ⟨e1, _⟩ | ⟨g', cap, cur, e1, hb', _⟩
        · rw [e1] at hp; cases hp
        · rw [e1] at hp
          have : g' = p := by simpa [Value.ownBlock] using hp
          have := BK2.out.lt
          omega)
      obtain ⟨os, hos⟩ : ∃ os, os = s2.toks.foldl layTok [] := ⟨_, rfl⟩
      have Hos := hid hos
      rw [← hos] at he3 ho3 HT hm20
      subst he3
      have O3 := hid ho3
      obtain ⟨no, hno⟩ : ∃ no, no = os.length := ⟨_, rfl⟩
      have Hno := hid hno
      rw [← hno] at HT hm20 ⊢
      clear hi ho3 hsn hout hf hos hno
      go_wp2_with fail
      refine RW.out.mono ?_
      intro e w4 hE4
      obtain ⟨hb4, hE4⟩ := hE4
      rw [Hi.out] at hE4
      obtain ⟨T4, tc4, he4, ho4⟩ := hE4
      rw [← Hos.out] at he4 ho4
      subst he4
      have B4 := hid (B3.out.trans (hb4.mono B3.out.size))
      have BK4 := hid (BK3.out.below hb4 BK3.out.lt)
      have O34 := hid (own_below O3.out hb4 (Nat.le_refl _))
      have SM := hid (same_refl T T4 tc tc4 os w4 w4.heap.size (own_rd O34.out) (own_rd ho4))
      have OW := hid (show w4.ownsRow W.heap.size 5 1 (.slice T no tc) no (bytesV os) from by rw [Hno.out]; exact own_base O34.out B2.out.size)
      rw [← Hno.out] at SM ⊢
      clear hb4 ho4
      go_wp2_with fail
      refine SM.out.mono ?_
      rintro e w5 ⟨rfl, rfl⟩
      go_wp2_with fail
      refine (num_nil _).mono ?_
      rintro e w6 ⟨rfl, rfl⟩
      go_wp2_with fail
      refine (KE.out g _ BK4.out B4.out).mono ?_
      rintro e w6 ⟨rfl, rfl⟩
      go_wp2_with fail
      refine (AP.out g _ Hg.out BK4.out T no tc _ OW.out (by omega) HT.out).mono ?_
      rintro e w6 ⟨rfl, hb6⟩
      have B6 := hid (B4.out.trans hb6)
      clear hb6
      go_wp2_with fail
      go_ret
      exact ⟨rfl, B6.out⟩
theorem bytes_law (A : Option Addr) (c : Nat) (b : List Int) (most : Int) (W : World) (hr : Rd W W.heap.size 1 A b.length (bytesV b)) (hok : ∀ x ∈ b, isB x) :
    Calls Try.prog 5 #[.slice A b.length c, .int .i64 most] W fun e w' => e = .returned (.bool true) ∧ Below W.heap.size W w' := by
  by_cases h : 300 < b.length ∨ (20000 < most ∧ most ≤ 4194304)
  · exact bytes_far A c b most W h
  · exact bytes_near A c b most W hr hok (by omega) (by omega)
end Go.Proofs.Ytegmbjkpjglgpaa
