/-
  BlockWrites: for every case the law returns true: a block in form is read as its tokens, in as many bits as are told. No condition.
-/
import Derived.Test.YthhllollhjpheaaGreatBkWwx19
import Derived.Test.YthhllollhjpheaaGreatBkWwx25
namespace Go.Proofs.YthhllollhjpheaaGreat
open Go.RowKit
theorem scan_lits {most : Int} : ∀ (b : List Int) (s : Int), (∀ x ∈ b, isB x) → s + b.length ≤ most → scan most (litsN b) s = 0
  | [], _, _, _ => rfl
  | c :: b, s, hb, hm => by
    have h := hb c List.mem_cons_self
    unfold isB at h
    rw [List.length_cons] at hm
    have e : litsN (c :: b) = (0, c) :: litsN b := rfl
    have et : tn (0, c) = 1 := rfl
    rw [e, scan, if_pos ?_, et]
    · exact scan_lits b (s + 1) (fun x hx => hb x (List.mem_cons_of_mem _ hx)) (by omega)
    · unfold terr
      rw [if_neg (by rw [show tgood (0, c) = true from tgood_true.2 (.inl ⟨rfl, h.1, h.2⟩)]; decide), if_neg (by intro h2; exact absurd (show (0 : Int) < 0 from h2.1) (by decide)), if_neg (by rw [et]; omega)]
theorem fit_lits {b : List Int} (hb : ∀ x ∈ b, isB x) : fitM b 0 (litsN b) = true := by
  have h := fit_behind (most := b.length) (before := []) (l := litsN b) (scan_lits b 0 hb (by omega))
  have e : ((litsN [] ++ litsN b).foldl layTok []).drop ([] : List Int).length = b := by
    show ((litsN b).foldl layTok []) = b
    rw [lay_lits, List.nil_append]
  rw [e] at h
  exact h
theorem good_lits {b : List Int} (hb : ∀ x ∈ b, isB x) (hm : b.length ≤ 65535) : blkGood 0 (litsN b) b = true := by
  unfold blkGood
  rw [fit_lits hb]
  simp [hm]
theorem okTok_lits {b : List Int} (hb : ∀ x ∈ b, isB x) : ∀ t ∈ litsN b, okTok t := by
  intro t ht
  obtain ⟨c, hc, rfl⟩ := List.mem_map.1 ht
  have h := hb c hc
  unfold isB at h
  refine ⟨show (Lit.int .i64 0).wf = true by decide, ?_⟩
  show (Lit.int .i64 c).wf = true
  simp [Lit.wf, IntKind.min, IntKind.max, IntKind.signed, IntKind.bits]
  omega
theorem bits_small {kind : Int} {l : List (Int × Int)} {text : List Int} (h : blkGood kind l text = true) : bitsM kind l text ≤ 20000 + 50 * l.length + 8 * text.length := by
  obtain ⟨h0, h2, hf, _⟩ := good_parts h
  have hg := fit_good hf
  by_cases hk : kind = 0
  · subst hk
    have : bitsM 0 l text = 42 + 8 * text.length := rfl
    omega
  · have h1 := headK_bd (kind := kind) hg
    have h3 := body_bd (plan_good (kind := kind) hg) hg
    rw [bits_of hk]
    omega
theorem encTok_cellsW {l : List (Int × Int)} : ∀ u ∈ l.flatMap encTok, u.oneCell' = true := by
  intro u hu
  obtain ⟨t, _, ht⟩ := List.mem_flatMap.1 hu
  simp [encTok] at ht
  rcases ht with rfl | rfl <;> rfl
theorem own_nilW {w : World} {base : Nat} {e : TypeId} {size n c : Nat} {A : Option Addr} {xs : List Value} (h : w.ownsRow base e size (.slice A n c) n xs) (hA : A = none) : n = 0 := by
  subst hA
  rcases h.2 with ⟨h1, _⟩ | ⟨g, cap, cur, h1, _⟩
  · injection h1
  · injection h1 with h1; cases h1
theorem wpList_appG {P : Program} {w : World} {ops : Array Oper} {rest : List Oper} {o : Oper} {a : Act} {Q : Exit → Act → World → Prop} (hgd : Region.wanted o (yielded ops a.tmps) = true) (s x : Operand) (t : TypeId)
    (ho : o.op = .call { callee := .builtin .append, args := #[s, x], argTypes := #[t, t] })
    (base : Nat) (e : TypeId) (i : TypeInfo) (z : Value) (size bytes : Nat) (ht : P.underlying t = some (.slice e)) (hi : P.info? e = some i) (hz : i.zero = some z)
    (hsize : i.size = size) (hby : i.bytes = bytes) (hzs : z.cells.size = size) (hsz : 0 < size)
    (A : Option Addr) (n c : Nat) (xs : List Value) (hs : a.eval s = .slice A n c) (hown : w.ownsRow base e size (.slice A n c) n xs)
    (B : Nat) (X : Option Addr) (m d : Nat) (news : List Value) (hx : a.eval x = .slice X m d) (hr : Rd w B size X m news) (hnil : X = none → m = 0) (h1 : ∀ u ∈ news, u.oneCell' = true)
    (h63 : n + m ≤ maxLen) (hbytes : (n + m) * bytes ≤ 140737488355328) (hbase : base ≤ w.heap.size)
    (h : ∀ A' c' w', Apped w base e size A n c xs m news A' c' w' → wpList P ops Q rest (a.put o.dst (.slice A' (n + m) c')) w') : wpList P ops Q (o :: rest) a w :=
  wpList_step fun K hK => by
    rw [if_pos hgd]
    exact wp_app w s x t ho base e i z size bytes ht hi hz hsize hby hzs hsz A n c xs hs hown B X m d news hx hr hnil h1 h63 hbytes hbase fun A' c' w' h2 => hK _ _ (h A' c' w' h2)
theorem row_set3W {w : World} {base t sz n g : Nat} {v : Value} {xs : List Value} {cs : Array Value} (ho : w.ownsRow base t sz v n xs) (hz : Blk w g 36 cs) (ht : t ≠ 36) (u0 u1 u2 : Value) :
    (((w.setCell ⟨g, 0, none⟩ u0).setCell ⟨g, 1, none⟩ u1).setCell ⟨g, 2, none⟩ u2).ownsRow base t sz v n xs := by
  have h1 : ∀ {w : World} {cs : Array Value} (i : Nat) (u : Value), w.ownsRow base t sz v n xs → Blk w g 36 cs → (w.setCell ⟨g, i, none⟩ u).ownsRow base t sz v n xs := fun i u ho hz => ownsRow_setCell_other ho (fun e => own_blk_ne ho hz ht e.symm) u
  exact h1 2 u2 (h1 1 u1 (h1 0 u0 ho hz) (hz.set_ 0 u0)) ((hz.set_ 0 u0).set_ 1 u1)
theorem empty_tokrowW (w : World) (t : TypeId) : (w.alloc (.cells #[] t)).ownsRow w.heap.size t 2 (.slice (some ⟨w.heap.size, 0, none⟩) 0 0) 0 [] :=
  ⟨rfl, .inr ⟨w.heap.size, 0, #[], rfl, Nat.le_refl _, Blk.new w t #[], Nat.le_refl _, by simp [maxLen], rfl, rfl⟩⟩
end Go.Proofs.YthhllollhjpheaaGreat
namespace Go.Proofs.YthhllollhjpheaaGreat.BlockWrites
open Go.ChangeShapes Go.WideShapes Go.ChangeAt Go.RowKit Go.Proofs.YthhllollhjpheaaGreat
set_option maxRecDepth 100000 in
set_option maxHeartbeats 16000000 in
theorem walk (A X : Option Addr) (ca cx : Nat) (b : List Int) (l : List (Int × Int)) (kind : Int) (last : Bool) (W : World) (ha : Rd W W.heap.size 1 A b.length (bytesV b)) (hx : Rd W W.heap.size 2 X l.length (l.flatMap encTok)) (hB : ∀ x ∈ b, isB x) (hok : ∀ t ∈ l, okTok t) :
    Calls Tryz.prog 3 #[.agg #[.slice A b.length ca, .slice X l.length cx, .int .i64 kind, .bool last]] W fun e w' => e = .returned (.bool true) ∧ Below W.heap.size W w' := by
  have hal := ((Below.refl W.heap.size W).alloc (Nat.le_refl _) (.cells #[.slice A b.length ca, .slice X l.length cx, .int .i64 kind, .bool last] 25))
  have ZB := hid (Blk.new W 25 #[.slice A b.length ca, .slice X l.length cx, .int .i64 kind, .bool last])
  have Hb := hid hal
  have Ha := hid ha
  have Hx := hid hx
  have HB := hid hB
  have Hok := hid hok
  have HX0 := hid (fun h : X = none => rd_nil hx (by omega) h)
  obtain ⟨i0, hi0, hz0, hz1, hz2⟩ := info_parts tok_infoB
  have Hi0 := hid hi0
  have Hz0 := hid hz0
  have Hz1 := hid hz1
  have Hz2 := hid hz2
  clear ha hx hB hal hok hi0 hz0 hz1 hz2
  go_enter Tryz.func3, Tryz.ntmps3
  go_upto_region 1 with (fail)
  generalize W.alloc (.cells #[.slice A b.length ca, .slice X l.length cx, .int .i64 kind, .bool last] 25) = w0 at *
  obtain ⟨g, hg⟩ : ∃ g, g = W.heap.size := ⟨_, rfl⟩
  rw [← hg] at ZB ⊢
  clear hg
  go_wp2_with fail
  refine (alive10 w0).mono ?_
  rintro e w1 ⟨rfl, hb1⟩
  have B1 := hid (Hb.out.trans (hb1.mono Hb.out.size))
  have Z1 := hid (ZB.out.below hb1 ZB.out.lt)
  clear hb1 Hb ZB
  have q0 := Z1.out.cell 0
  have q1 := Z1.out.cell 1
  have q2 := Z1.out.cell 2
  have q3 := Z1.out.cell 3
  simp only [List.getElem?_toArray, List.getElem?_cons_zero, List.getElem?_cons_succ] at q0 q1 q2 q3
  have hq := Z1.out.lt
  have TX := hid (text_any A X ca cx b l kind last w1 (rd_up Ha.out B1.out) (rd_up Hx.out B1.out) HB.out)
  go_wp2_with fail
  refine TX.out.mono ?_
  rintro e w2 ⟨he, hb2⟩
  have B2 := hid (B1.out.trans (hb2.mono B1.out.size))
  have Z2 := hid (Z1.out.below hb2 Z1.out.lt)
  clear hb2 B1 Z1 TX q0 q1 q2 q3 hq
  have q0 := Z2.out.cell 0
  have q1 := Z2.out.cell 1
  have q2 := Z2.out.cell 2
  have q3 := Z2.out.cell 3
  simp only [List.getElem?_toArray, List.getElem?_cons_zero, List.getElem?_cons_succ] at q0 q1 q2 q3
  have hq := Z2.out.lt
  by_cases hc : b.length ≤ 1000 ∧ l.length ≤ 300 ∧ cRes b l = 0
  case neg =>
    rw [if_neg hc] at he
    subst he
    go_wp2_with fail
    go_ret
    exact ⟨rfl, B2.out⟩
  rw [if_pos hc] at he
  obtain ⟨A2, c2, rfl, hr2, hn2⟩ := he
  obtain ⟨hc1, hc2, hc3⟩ := hc
  by_cases hk0 : kind < 0
  · have d0 : decide (kind < 0) = true := decide_eq_true hk0
    go_wp2_with fail
    go_ret
    exact ⟨rfl, B2.out⟩
  have d0 : decide (kind < 0) = false := decide_eq_false hk0
  by_cases hk2 : 2 < kind
  · have d2 : decide (2 < kind) = true := decide_eq_true hk2
    go_wp2_with fail
    go_ret
    exact ⟨rfl, B2.out⟩
  have d2 : decide (2 < kind) = false := decide_eq_false hk2
  have hlen := (cTxt_len hc3).1
  have HSC := hid (cTxt_len hc3).2
  have HF := hid (cTxt_fit hc3)
  have HTB := hid (cTxt_isB hc3)
  have HSL := hid (scan_app _ _ _ _ (cRes_scan hc3)).1
  generalize cTxt b l = T at *
  have R2 := hid hr2
  have N2 := hid hn2
  have hm : l.length ≤ 1000000 := by omega
  have hm2 : T.length ≤ 1000000 := by omega
  clear hr2 hn2 hc3
  go_upto_region 6 with (fail)
  go_wp2_with fail
  refine (newW_any false w2).mono ?_
  rintro e w3 ⟨rfl, hM, b3⟩
  have M3 := hid hM
  obtain ⟨gw, hgw⟩ : ∃ g, g = w2.heap.size := ⟨_, rfl⟩
  have G3 := hid b3
  have hgW : W.heap.size ≤ gw := by have := B2.out.size; omega
  have hgz := Z2.out.lt
  rw [← hgw] at M3 G3 hgz ⊢
  have HG2 := hid (Nat.le_of_eq hgw)
  have HG2' := hid (Nat.le_of_eq hgw.symm)
  clear hgw hM b3 q0 q1 q2 q3 hq d0 d2
  have Z3 := hid (Z2.out.below G3.out hgz)
  obtain ⟨L1, hL1⟩ : ∃ L, L = wrB 0 false 0 (litsN b) b := ⟨_, rfl⟩
  have HL1 := hid hL1
  have hgw3 := M3.out.blk.lt
  have hg3z := G3.out.size
  have Hs3 := hid (show W.heap.size ≤ w3.heap.size by omega)
  have RA3 := hid (rd_up (rd_up Ha.out B2.out) (G3.out.mono HG2'.out))
  clear hL1 hg3z Z2
  have q0 := Z3.out.cell 0
  have q1 := Z3.out.cell 1
  have q2 := Z3.out.cell 2
  have q3 := Z3.out.cell 3
  simp only [List.getElem?_toArray, List.getElem?_cons_zero, List.getElem?_cons_succ] at q0 q1 q2 q3
  have hq := Z3.out.lt
  have CB := hid (fun (w : World) (h : Below w3.heap.size w3 w) => (show w.cell? ⟨g, 0, none⟩ = some (.slice A b.length ca) from by
    have k0 := (Z3.out.below h Z3.out.lt).cell 0
    simp only [List.getElem?_toArray, List.getElem?_cons_zero] at k0
    exact k0))
  go_upto_region 7 with (fail)
  refine free_lit (S := ((Option Addr × Nat) × (Option Addr × Nat)) × World) (fun i => (i == 3) || (i == 7))
    (fun x i => [.pointer (some ⟨gw, 0, none⟩), .pointer (some ⟨g, 0, none⟩), .slice A b.length ca, .slice x.1.1.1 b.length x.1.1.2, .pointer (some ⟨g, 0, none⟩), .slice A b.length ca, .agg #[.int .i64 0, .slice x.1.1.1 b.length x.1.1.2, .slice A b.length ca], .nilIface, .bool false].getD i undef)
    (fun x => x.2) (fun k x => match k with | 0 => x = (((none, 0), (none, 0)), w3.drew) | 1 => Below w3.heap.size w3 x.2 ∧ x.2.ownsRow w3.heap.size 67 2 (.slice x.1.1.1 b.length x.1.1.2) b.length ((litsN b).flatMap encTok) | 2 => Below gw w3 x.2 ∧ WrS x.2 gw false x.1.2.1 x.1.2.2 gw L1 | _ => False)
    (fun i => if i ≤ 5 then 0 else if i ≤ 7 then 1 else 2) (fun i => 2) (fun _ => false) (fun _ => false) ?af ?ab 2 ((((none, 0), (none, 0)), w3.drew)) (by kernel_rfl) (by kernel_rfl) (by kernel_rfl) (by kernel_rfl) (by kernel_rfl) (by kernel_rfl) (by kernel_rfl) rfl rfl ?haf ?hab ?hy ?hQ
  case haf =>
    intro x
    simp only [actOf, dstAt, List.length_cons, List.length_nil, Nat.reduceAdd, List.getElem?_cons_zero, List.getElem?_cons_succ, Option.bind_some, if_true, List.getD_cons_zero, List.getD_cons_succ, Act.put, List.setIfInBounds_toArray, List.set_cons_zero, List.set_cons_succ]
    rfl
  case hab =>
    intro x
    simp only [actOf, dstAt, List.length_cons, List.length_nil, Nat.reduceAdd, List.getElem?_cons_zero, List.getElem?_cons_succ, Option.bind_some, Bool.not_false, if_true, List.getD_cons_zero, List.getD_cons_succ, Act.put, List.setIfInBounds_toArray, List.set_cons_zero, List.set_cons_succ]
    rfl
  case hy =>
    intro k x hR
    have c0 : x.2.cell? ⟨g, 0, none⟩ = some (.slice A b.length ca) := by
      match k, hR with
      | 0, h => rw [show x = (((none, 0), (none, 0)), w3.drew) from h]; exact CB.out _ (Below.refl _ _).drew
      | 1, h => exact CB.out _ h.1
      | 2, h =>
        have k0 := (Z3.out.below h.1 hgz).cell 0
        simp only [List.getElem?_toArray, List.getElem?_cons_zero] at k0
        exact k0
    simp only [AllY]
    refine ⟨?_, ?_, ?_, ?_, ?_, ?_, ?_, ?_, ?_, trivial⟩
    case refine_4 =>
      intro hk
      obtain rfl : k = 0 := hk
      obtain rfl : x = (((none, 0), (none, 0)), w3.drew) := hR
      refine .inr (.inr ⟨14, #[.slice A b.length ca], w3.drew, by simp [go_sem, Act.eval], ?_⟩)
      refine (lits_any A ca b w3.drew (rd_up RA3.out (Below.refl _ _).drew) (by omega) HB.out).mono ?_
      rintro e w5 ⟨A5, c5, rfl, o5, b5⟩
      exact ⟨_, rfl, (((A5, c5), (none, 0)), w5), ⟨(Below.refl _ _).drew.trans b5, o5⟩, rfl, rfl, fun i hi hd hn => by
        have hd : (if i ≤ 5 then 0 else if i ≤ 7 then 1 else 2) ≤ 0 := hd
        have hn : i ≠ 3 := hn
        rcases (show i = 0 ∨ i = 1 ∨ i = 2 ∨ i = 4 ∨ i = 5 by
          by_cases h : i ≤ 5
          · omega
          · rw [if_neg h] at hd; split at hd <;> omega) with rfl | rfl | rfl | rfl | rfl <;> rfl⟩
    case refine_8 =>
      intro hk
      obtain rfl : k = 1 := hk
      obtain ⟨⟨⟨x1, x2⟩, ⟨x3, x4⟩⟩, x5⟩ := x
      have hb : Below w3.heap.size w3 x5 := hR.1
      have ho : x5.ownsRow w3.heap.size 67 2 (.slice x1 b.length x2) b.length ((litsN b).flatMap encTok) := hR.2
      have hM := M3.out.below' hb
      have hll := lits_len b
      have hwg := write_good gw none 0 gw [] x1 A x2 ca 0 false (litsN b) b x5 (TextS.of_own ho (by decide) hgw3 (fun a h => by cases h)) (TextS.of_rd ((Ha.out.below (B2.out.trans (G3.out.mono hgW)) (Nat.le_refl _)).below hb Hs3.out) hgW hM (by have := hb.size; omega)) (by rw [hll]; omega) (by omega) (okTok_lits HB.out) HB.out hM (by have := hb.size; omega) (by decide) (good_lits HB.out (by omega))
      rw [hll] at hwg
      refine .inr (.inr ⟨13, #[.pointer (some ⟨gw, 0, none⟩), .agg #[.int .i64 0, .slice x1 b.length x2, .slice A b.length ca], .bool false], x5, by simp [go_sem, Act.eval], ?_⟩)
      refine hwg.mono ?_
      rintro e w6 ⟨rfl, A6, c6, M6, T6⟩
      refine ⟨_, rfl, (((x1, x2), (A6, c6)), w6), ⟨(hb.mono (by omega)).trans (hM.low T6 (by have := hb.size; omega)), by rw [HL1.out]; exact M6⟩, rfl, rfl, fun i hi hd hn => ?_⟩
      have hd : (if i ≤ 5 then 0 else if i ≤ 7 then 1 else 2) ≤ 1 := hd
      have hn : i ≠ 7 := hn
      rcases (show i = 0 ∨ i = 1 ∨ i = 2 ∨ i = 3 ∨ i = 4 ∨ i = 5 ∨ i = 6 by
          by_cases h : i ≤ 5
          · omega
          · rw [if_neg h] at hd; split at hd <;> omega) with rfl | rfl | rfl | rfl | rfl | rfl | rfl <;> rfl
    all_goals exact fun _ _ => .inl (by simp [execOp, go_sem, Act.eval, c0])
  case hQ =>
    rintro ⟨⟨⟨x1, x2⟩, ⟨A4, c4⟩⟩, w4⟩ hR
    have g4 : Below gw w3 w4 := hR.1
    have m4 : WrS w4 gw false A4 c4 gw L1 := hR.2
    have G4 := hid (G3.out.trans g4)
    have M4 := hid m4
    have Z4 := hid (Z3.out.below g4 hgz)
    show Exit.then _ _ .normal _ w4
    clear hR g4 m4 G3 M3 Z3 CB q0 q1 q2 q3 hq hgw3 RA3
    have hL1n : L1.length ≤ 9000 := by
      have := (wrB_bits (scan_good HSL.out) 0 false (kind := 0) b (by omega) (by omega)).1
      rw [← HL1.out] at this
      have e : bitsM 0 (litsN b) b = 42 + 8 * b.length := rfl
      omega
    obtain ⟨k1, hk1⟩ : ∃ k, k = L1.length := ⟨_, rfl⟩
    have HK1 := hid hk1
    have LN := hid (lenS_any false gw A4 c4 gw L1 w4 M4.out)
    rw [← hk1] at LN hL1n
    clear hk1
    go_wp2_with fail
    refine LN.out.mono ?_
    rintro e w5 ⟨rfl, rfl⟩
    clear LN
    have CB := hid (fun (w : World) (h : Below w4.heap.size w4 w) => (show w.cell? ⟨g, 1, none⟩ = some (.slice X l.length cx) ∧ w.cell? ⟨g, 2, none⟩ = some (.int .i64 kind) from by
      have k1 := (Z4.out.below h Z4.out.lt).cell 1
      have k2 := (Z4.out.below h Z4.out.lt).cell 2
      simp only [List.getElem?_toArray, List.getElem?_cons_zero, List.getElem?_cons_succ] at k1 k2
      exact ⟨k1, k2⟩))
    have B4 := hid (B2.out.trans (G4.out.mono hgW))
    have RX4 := hid (rd_up Hx.out B4.out)
    have RT4 := hid ((R2.out.below G4.out HG2'.out).more (show w2.heap.size ≤ w4.heap.size from G4.out.size))
    have q0 := Z4.out.cell 0
    have q1 := Z4.out.cell 1
    have q2 := Z4.out.cell 2
    have q3 := Z4.out.cell 3
    simp only [List.getElem?_toArray, List.getElem?_cons_zero, List.getElem?_cons_succ] at q0 q1 q2 q3
    have hq := Z4.out.lt
    have hgw4 := M4.out.blk.lt
    go_upto_region 10 with (fail)
    refine set_lit (S := (((Nat × (Option Addr × Nat)) × Nat) × Nat) × World) [2, 5, 7, 9, 10]
      (fun x i => [.pointer (some ⟨g, 2, none⟩), .int .i64 kind, .slice (some ⟨x.1.1.1.1, 0, none⟩) 0 0, .pointer (some ⟨g, 1, none⟩), .slice X l.length cx, .slice x.1.1.1.2.1 l.length x.1.1.1.2.2, .slice A2 T.length c2, .slice (some ⟨x.1.1.2, 0, none⟩) T.length (T.length + 2), .agg #[.int .i64 kind, .slice x.1.1.1.2.1 l.length x.1.1.1.2.2, .slice (some ⟨x.1.1.2, 0, none⟩) T.length (T.length + 2)], .pointer (some ⟨x.1.2, 0, none⟩), undef].getD i undef)
      (fun x => x.2) (fun lz x => Below w4.heap.size w4 x.2 ∧ (lz.getD 0 false = true → lz.getD 1 false = false → x.2.ownsRow w4.heap.size 67 2 (.slice (some ⟨x.1.1.1.1, 0, none⟩) 0 0) 0 []) ∧ (lz.getD 1 false = true → x.2.ownsRow w4.heap.size 67 2 (.slice x.1.1.1.2.1 l.length x.1.1.1.2.2) l.length (l.flatMap encTok)) ∧ (lz.getD 2 false = true → w4.heap.size ≤ x.1.1.2 ∧ Blk x.2 x.1.1.2 5 (bytesV T ++ [Value.int .u8 165, Value.int .u8 90]).toArray) ∧ (lz.getD 3 false = true → lz.getD 4 false = false → w4.heap.size ≤ x.1.2 ∧ Blk x.2 x.1.2 36 #[.int .i64 0, .slice none 0 0, .slice none 0 0]) ∧ (lz.getD 4 false = true → (lz.getD 0 false = true ∧ lz.getD 1 false = true ∧ lz.getD 2 false = true ∧ lz.getD 3 false = true) ∧ w4.heap.size ≤ x.1.2 ∧ Blk x.2 x.1.2 36 #[.int .i64 kind, .slice x.1.1.1.2.1 l.length x.1.1.1.2.2, .slice (some ⟨x.1.1.2, 0, none⟩) T.length (T.length + 2)]))
      (fun i => if i = 5 then [2] else if i = 8 then [5, 7, 2] else if i = 10 then [9, 5, 7, 2] else []) ?af5 (((((0, (none, 0)), 0), 0), w4.drew)) (by kernel_rfl) (by kernel_rfl) (by kernel_rfl) (by kernel_rfl) (by kernel_rfl) rfl ?hR05 ?haf5 ?hy5 ?hQ5
    case haf5 =>
      intro x
      simp only [actOf, dstAt, List.length_cons, List.length_nil, Nat.reduceAdd, List.getElem?_cons_zero, List.getElem?_cons_succ, Option.bind_some, if_true, List.getD_cons_zero, List.getD_cons_succ, Act.put, List.setIfInBounds_toArray, List.set_cons_zero, List.set_cons_succ]
      rfl
    case hR05 => exact ⟨(Below.refl _ _).drew, fun h => absurd h (by decide), fun h => absurd h (by decide), fun h => absurd h (by decide), fun h => absurd h (by decide), fun h => absurd h (by decide)⟩
    case hy5 =>
      intro s xw hR
      obtain ⟨⟨⟨⟨g2, ⟨A5, c5⟩⟩, g7⟩, g9⟩, wx⟩ := xw
      obtain ⟨hb, r0, r1, r2, r3, r4⟩ := hR
      have hb : Below w4.heap.size w4 wx := hb
      have r0 : s 2 = true → s 5 = false → wx.ownsRow w4.heap.size 67 2 (.slice (some ⟨g2, 0, none⟩) 0 0) 0 [] := r0
      have r1 : s 5 = true → wx.ownsRow w4.heap.size 67 2 (.slice A5 l.length c5) l.length (l.flatMap encTok) := r1
      have r2 : s 7 = true → w4.heap.size ≤ g7 ∧ Blk wx g7 5 (bytesV T ++ [Value.int .u8 165, Value.int .u8 90]).toArray := r2
      have r3 : s 9 = true → s 10 = false → w4.heap.size ≤ g9 ∧ Blk wx g9 36 #[.int .i64 0, .slice none 0 0, .slice none 0 0] := r3
      have r4 : s 10 = true → (s 2 = true ∧ s 5 = true ∧ s 7 = true ∧ s 9 = true) ∧ w4.heap.size ≤ g9 ∧ Blk wx g9 36 #[.int .i64 kind, .slice A5 l.length c5, .slice (some ⟨g7, 0, none⟩) T.length (T.length + 2)] := r4
      obtain ⟨c1, c2'⟩ := CB.out wx hb
      have hsz := hb.size
      simp only [AllY]
      refine ⟨?_, ?_, ?_, ?_, ?_, ?_, ?_, ?_, ?_, ?_, ?_, trivial⟩
      case refine_3 =>
        intro h2 hd
        refine .inl ⟨.slice (some ⟨wx.heap.size, 0, none⟩) 0 0, wx.alloc (.cells #[] 67), by simp [execOp, go_sem], ((((wx.heap.size, (A5, c5)), g7), g9), wx.alloc (.cells #[] 67)), ⟨hb.alloc hsz _, fun _ _ => own_base (empty_tokrowW wx 67) hsz, fun h => ?_, fun h => ?_, fun h h' => ?_, fun h => ?_⟩, rfl, rfl, fun j hj hc hne => ?_⟩
        · have h : (s 5 || 5 == 2) = true := h
          simp at h
          exact (r1 h).alloc _
        · have h : (s 7 || 7 == 2) = true := h
          simp at h
          exact ⟨(r2 h).1, (r2 h).2.alloc _⟩
        · have h : (s 9 || 9 == 2) = true := h
          have h' : (s 10 || 10 == 2) = false := h'
          simp at h h'
          exact ⟨(r3 h h').1, (r3 h h').2.alloc _⟩
        · have h : (s 10 || 10 == 2) = true := h
          simp at h
          exact absurd (r4 h).1.1 (by rw [h2]; decide)
        · have hj : j < 11 := hj
          rcases (show j = 0 ∨ j = 1 ∨ j = 2 ∨ j = 3 ∨ j = 4 ∨ j = 5 ∨ j = 6 ∨ j = 7 ∨ j = 8 ∨ j = 9 ∨ j = 10 by omega) with rfl | rfl | rfl | rfl | rfl | rfl | rfl | rfl | rfl | rfl | rfl <;> first | rfl | exact absurd rfl hne | exact absurd hc (by decide)
      case refine_6 =>
        intro h5 hd
        have h2 := hd 2 (by decide)
        refine turn_app _ _ _ rfl w4.heap.size 67 i0 (.agg #[.int .i64 0, .int .i64 0]) 2 16 Tryz.underlying23 Hi0.out Hz0.out Hz1.out Hz2.out rfl (by omega) (some ⟨g2, 0, none⟩) 0 0 [] rfl (r0 h2 h5) _ X l.length cx (l.flatMap encTok) rfl (rd_up RX4.out hb) HX0.out (by intro u hu; obtain ⟨t, _, ht⟩ := List.mem_flatMap.1 hu; simp [encTok] at ht; rcases ht with rfl | rfl <;> rfl) (by simp only [maxLen]; omega) (by omega) hsz ?_
        intro A6 c6 w6 ha
        have hg := ha.2.1
        have hbl : Below w4.heap.size wx w6 := ha.2.2.1
        have ob : (Value.slice (some ⟨g2, 0, none⟩) 0 0).ownBlock = none ∨ ∃ k, (Value.slice (some ⟨g2, 0, none⟩) 0 0).ownBlock = some k := by
          cases (Value.slice (some ⟨g2, 0, none⟩) 0 0).ownBlock
          · exact .inl rfl
          · exact .inr ⟨_, rfl⟩
        refine ⟨((((g2, (A6, c6)), g7), g9), w6), ⟨hb.trans hbl, fun h h' => ?_, fun h => ?_, fun h => ?_, fun h h' => ?_, fun h => ?_⟩, rfl, ?_, fun j hj hc hne => ?_⟩
        · have h' : (s 5 || 5 == 5) = false := h'
          simp at h'
        · have := ha.1
          rw [Nat.zero_add, List.nil_append] at this
          exact this
        · have h : (s 7 || 7 == 5) = true := h
          simp at h
          exact ⟨(r2 h).1, (r2 h).2.grown hg (own_blk_ne (r0 h2 h5) (r2 h).2 (by decide))⟩
        · have h : (s 9 || 9 == 5) = true := h
          have h' : (s 10 || 10 == 5) = false := h'
          simp at h h'
          exact ⟨(r3 h h').1, (r3 h h').2.grown hg (own_blk_ne (r0 h2 h5) (r3 h h').2 (by decide))⟩
        · have h : (s 10 || 10 == 5) = true := h
          simp at h
          exact absurd (r4 h).1.2.1 (by rw [h5]; decide)
        · show Value.slice A6 l.length c6 = Value.slice A6 (0 + l.length) c6
          rw [Nat.zero_add]
        · have hj : j < 11 := hj
          rcases (show j = 0 ∨ j = 1 ∨ j = 2 ∨ j = 3 ∨ j = 4 ∨ j = 5 ∨ j = 6 ∨ j = 7 ∨ j = 8 ∨ j = 9 ∨ j = 10 by omega) with rfl | rfl | rfl | rfl | rfl | rfl | rfl | rfl | rfl | rfl | rfl <;> first | rfl | exact absurd rfl hne | exact absurd hc (by decide)
      case refine_8 =>
        intro h7 hd
        refine .inr (.inr ⟨16, #[.slice A2 T.length c2], wx, by simp [go_sem, Act.eval], ?_⟩)
        refine (copy_any A2 c2 T wx (rd_up RT4.out hb) (by omega)).mono ?_
        rintro e w6 ⟨rfl, k6, b6⟩
        refine ⟨_, rfl, ((((g2, (A5, c5)), wx.heap.size), g9), w6), ⟨hb.trans (b6.mono hsz), fun h h' => ?_, fun h => ?_, fun h => ⟨hsz, k6⟩, fun h h' => ?_, fun h => ?_⟩, rfl, rfl, fun j hj hc hne => ?_⟩
        · have h : (s 2 || 2 == 7) = true := h
          have h' : (s 5 || 5 == 7) = false := h'
          simp at h h'
          exact own_below (r0 h h') b6 (Nat.le_refl _)
        · have h : (s 5 || 5 == 7) = true := h
          simp at h
          exact own_below (r1 h) b6 (Nat.le_refl _)
        · have h : (s 9 || 9 == 7) = true := h
          have h' : (s 10 || 10 == 7) = false := h'
          simp at h h'
          exact ⟨(r3 h h').1, (r3 h h').2.below b6 (r3 h h').2.lt⟩
        · have h : (s 10 || 10 == 7) = true := h
          simp at h
          exact absurd (r4 h).1.2.2.1 (by rw [h7]; decide)
        · have hj : j < 11 := hj
          rcases (show j = 0 ∨ j = 1 ∨ j = 2 ∨ j = 3 ∨ j = 4 ∨ j = 5 ∨ j = 6 ∨ j = 7 ∨ j = 8 ∨ j = 9 ∨ j = 10 by omega) with rfl | rfl | rfl | rfl | rfl | rfl | rfl | rfl | rfl | rfl | rfl <;> first | rfl | exact absurd rfl hne | exact absurd hc (by decide)
      case refine_10 =>
        intro h9 hd
        refine .inl ⟨.pointer (some ⟨wx.heap.size, 0, none⟩), wx.alloc (.cells #[.int .i64 0, .slice none 0 0, .slice none 0 0] 36), by simp [execOp, go_sem], ((((g2, (A5, c5)), g7), wx.heap.size), wx.alloc (.cells #[.int .i64 0, .slice none 0 0, .slice none 0 0] 36)), ⟨hb.alloc hsz _, fun h h' => ?_, fun h => ?_, fun h => ?_, fun h h' => ⟨hsz, Blk.new _ _ _⟩, fun h => ?_⟩, rfl, rfl, fun j hj hc hne => ?_⟩
        · have h : (s 2 || 2 == 9) = true := h
          have h' : (s 5 || 5 == 9) = false := h'
          simp at h h'
          exact (r0 h h').alloc _
        · have h : (s 5 || 5 == 9) = true := h
          simp at h
          exact (r1 h).alloc _
        · have h : (s 7 || 7 == 9) = true := h
          simp at h
          exact ⟨(r2 h).1, (r2 h).2.alloc _⟩
        · have h : (s 10 || 10 == 9) = true := h
          simp at h
          exact absurd (r4 h).1.2.2.2 (by rw [h9]; decide)
        · have hj : j < 11 := hj
          rcases (show j = 0 ∨ j = 1 ∨ j = 2 ∨ j = 3 ∨ j = 4 ∨ j = 5 ∨ j = 6 ∨ j = 7 ∨ j = 8 ∨ j = 9 ∨ j = 10 by omega) with rfl | rfl | rfl | rfl | rfl | rfl | rfl | rfl | rfl | rfl | rfl <;> first | rfl | exact absurd rfl hne | exact absurd hc (by decide)
      case refine_11 =>
        intro h10 hd
        have h9 := hd 9 (by decide)
        have h5 := hd 5 (by decide)
        have h7 := hd 7 (by decide)
        obtain ⟨s1, k1⟩ := r3 h9 h10
        have x0 := k1.cell 0
        have x1 := k1.cell 1
        have x2 := k1.cell 2
        simp only [List.getElem?_toArray, List.getElem?_cons_zero, List.getElem?_cons_succ] at x0 x1 x2
        have fz := fun o => k1.frozen o
        have hll := k1.lt
        refine .inr (.inl ⟨((wx.setCell ⟨g9, 0, none⟩ (.int .i64 kind)).setCell ⟨g9, 1, none⟩ (.slice A5 l.length c5)).setCell ⟨g9, 2, none⟩ (.slice (some ⟨g7, 0, none⟩) T.length (T.length + 2)), by simp [execOp, go_sem, Act.eval, x0, x1, x2, fz], rfl, ((((g2, (A5, c5)), g7), g9), ((wx.setCell ⟨g9, 0, none⟩ (.int .i64 kind)).setCell ⟨g9, 1, none⟩ (.slice A5 l.length c5)).setCell ⟨g9, 2, none⟩ (.slice (some ⟨g7, 0, none⟩) T.length (T.length + 2))), ⟨((hb.setCell s1 _).setCell s1 _).setCell s1 _, fun h h' => ?_, fun h => ?_, fun h => ?_, fun h h' => ?_, fun h => ?_⟩, rfl, rfl, fun j hj hc hne => rfl⟩)
        · have h' : (s 5 || 5 == 10) = false := h'
          simp [h5] at h'
        · exact row_set3W (r1 h5) k1 (by decide) _ _ _
        · have hne : g7 ≠ g9 := blk_ne (r2 h7).2 k1 (by decide)
          exact ⟨(r2 h7).1, (((r2 h7).2.far (p := ⟨g9, 0, none⟩) hne _).far (p := ⟨g9, 1, none⟩) hne _).far (p := ⟨g9, 2, none⟩) hne _⟩
        · have h' : (s 10 || 10 == 10) = false := h'
          simp at h'
        · refine ⟨⟨?_, ?_, ?_, ?_⟩, s1, ((k1.set_ 0 _).set_ 1 _).set_ 2 _⟩
          · show (s 2 || 2 == 10) = true; rw [hd 2 (by decide)]; rfl
          · show (s 5 || 5 == 10) = true; rw [h5]; rfl
          · show (s 7 || 7 == 10) = true; rw [h7]; rfl
          · show (s 9 || 9 == 10) = true; rw [h9]; rfl
      all_goals exact fun _ _ => .inl (by simp [execOp, go_sem, Act.eval, c1, c2'])
    case hQ5 =>
      rintro ⟨⟨⟨⟨g2, ⟨A5, c5⟩⟩, g7⟩, g9⟩, w5⟩ hR
      obtain ⟨hb, _, r1, r2, _, r4⟩ := hR
      have hb : Below w4.heap.size w4 w5 := hb
      have O5 := hid (r1 rfl)
      have K5 := hid (r2 rfl)
      have Y5 := hid (r4 rfl).2
      show Exit.then _ _ .normal _ w5
      have G5 := hid (G4.out.trans (hb.mono (by omega)))
      have M5 := hid (M4.out.below' hb)
      have Z5 := hid (Z4.out.below hb Z4.out.lt)
      have B5 := hid (B2.out.trans (G5.out.mono hgW))
      have hsz5 := hb.size
      have HA4 := hid (fun (a : Addr) (h : A4 = some a) => (M4.out.far a h).2.2)
      clear hb r1 r2 r4 G4 M4 Z4 CB B4 RX4 RT4 q0 q1 q2 q3 hq
      have y0 := Y5.out.2.cell 0
      have y1 := Y5.out.2.cell 1
      have y2 := Y5.out.2.cell 2
      simp only [List.getElem?_toArray, List.getElem?_cons_zero, List.getElem?_cons_succ] at y0 y1 y2
      have hy := Y5.out.2.lt
      have hgd : blkGood kind l T = true := by
        unfold blkGood
        rw [HF.out, Bool.true_and, Bool.and_eq_true, decide_eq_true_iff, decide_eq_true_iff]
        exact ⟨by omega, fun _ => by omega⟩
      have RB := hid (copyB_rd K5.out.2)
      have BT := hid (bits10_any A5 (some ⟨g7, 0, none⟩) c5 (T.length + 2) kind l T w5 (own_rd O5.out) RB.out hm hm2 Hok.out HTB.out true hgd)
      go_wp2_with fail
      refine BT.out.mono ?_
      rintro e w6 ⟨rfl, b6⟩
      have G6 := hid (G5.out.trans (b6.mono (by have := HG2.out; omega)))
      have M6 := hid (M5.out.below' b6)
      have Z6 := hid (Z5.out.below b6 Z5.out.lt)
      have O6 := hid (own_below O5.out b6 (Nat.le_refl _))
      have K6 := hid (K5.out.2.below b6 K5.out.2.lt)
      have Y6 := hid (Y5.out.2.below b6 Y5.out.2.lt)
      have B6 := hid (B2.out.trans (G6.out.mono hgW))
      have hgs6 : w4.heap.size ≤ w6.heap.size := Nat.le_trans hsz5 b6.size
      have hg7 := K5.out.1
      have hg9 := Y5.out.1
      clear b6 G5 M5 Z5 O5 K5 Y5 B5 RB BT y0 y1 y2 hy
      obtain ⟨nb, hnb⟩ : ∃ n, n = bitsM kind l T := ⟨_, rfl⟩
      rw [← hnb]
      have HNB := hid (show ((wrB k1 last kind l T).length : Int) ≤ nb ∧ (kind ≠ 0 → ((wrB k1 last kind l T).length : Int) = nb) by
        rw [hnb]
        have := wrB_bits (fit_good HF.out) k1 last (kind := kind) T (by omega) (by omega)
        exact ⟨this.1, this.2.1⟩)
      have Hgd := hid hgd
      clear hnb hgd
      have WG := hid (write_good gw A4 c4 gw L1 A5 (some ⟨g7, 0, none⟩) c5 (T.length + 2) kind last l T w6 (TextS.of_own O6.out (by decide) hgw4 HA4.out) (.inr ⟨g7, 0, rfl, K6.out.lt, by omega, fun a h => by have := HA4.out a h; omega, fun j u hu => by
        rw [Nat.zero_add, K6.out.cell j, List.getElem?_toArray, List.getElem?_append_left (List.getElem?_eq_some_iff.1 hu).1]
        exact hu⟩) hm hm2 Hok.out HTB.out M6.out (by omega) (by rw [← HK1.out]; omega) Hgd.out)
      rw [← HK1.out] at WG
      have y0 := Y6.out.cell 0
      have y1 := Y6.out.cell 1
      have y2 := Y6.out.cell 2
      simp only [List.getElem?_toArray, List.getElem?_cons_zero, List.getElem?_cons_succ] at y0 y1 y2
      have hy := Y6.out.lt
      have q0 := Z6.out.cell 0
      have q1 := Z6.out.cell 1
      have q2 := Z6.out.cell 2
      have q3 := Z6.out.cell 3
      simp only [List.getElem?_toArray, List.getElem?_cons_zero, List.getElem?_cons_succ] at q0 q1 q2 q3
      have hq := Z6.out.lt
      go_wp2_with fail
      refine WG.out.mono ?_
      rintro e w7 ⟨rfl, A7, c7, m7, t7⟩
      have M7 := hid m7
      have T7 := hid t7
      have lo := M6.out.low t7 (show gw ≤ w6.heap.size by omega)
      have G7 := hid (G6.out.trans lo)
      have Z7 := hid (Z6.out.below lo hgz)
      have B7 := hid (B2.out.trans (G7.out.mono hgW))
      have K7 := hid (t7.blk K6.out (by omega) (fun a h => by have := HA4.out a h; omega))
      have Y7 := hid (t7.other M6.out Y6.out (by decide) (by decide))
      have O7 := hid (TRow.tw t7 M6.out (TRow.own O6.out) (by decide) (by decide))
      have R7 := hid ((R2.out.below G7.out HG2'.out).more (show w2.heap.size ≤ w7.heap.size from G7.out.size))
      clear m7 t7 lo WG G6 M6 Z6 O6 K6 Y6 B6 q0 q1 q2 q3 hq y0 y1 y2 hy
      have y0 := Y7.out.cell 0
      have y1 := Y7.out.cell 1
      have y2 := Y7.out.cell 2
      simp only [List.getElem?_toArray, List.getElem?_cons_zero, List.getElem?_cons_succ] at y0 y1 y2
      have hy := Y7.out.lt
      have KP := hid (kept_any A2 c2 g7 T w7 w7.heap.size K7.out R7.out (by omega))
      go_wp2_with fail
      refine KP.out.mono ?_
      rintro e w8 ⟨rfl, rfl⟩
      have TR := hid (tokens_reflK A5 X c5 cx l w7 w7.heap.size (O7.out.rd (by rw [flat_length encTok 2 l (fun _ _ => rfl)])) (rd_up Hx.out B7.out) (by omega))
      have q0 := Z7.out.cell 0
      have q1 := Z7.out.cell 1
      have q2 := Z7.out.cell 2
      have q3 := Z7.out.cell 3
      simp only [List.getElem?_toArray, List.getElem?_cons_zero, List.getElem?_cons_succ] at q0 q1 q2 q3
      have hq := Z7.out.lt
      go_wp2_with fail
      refine TR.out.mono ?_
      rintro e w8 ⟨rfl, nd, hw8⟩
      have b8 : Below w7.heap.size w7 w8 := by rw [hw8]; exact below_drewN (Below.refl _ _) nd
      clear hw8
      have G8 := hid (G7.out.trans (b8.mono (by have := G7.out.size; have := HG2.out; omega)))
      have M8 := hid (M7.out.below' b8)
      have Z8 := hid (Z7.out.below b8 Z7.out.lt)
      have R8 := hid (rd_up R7.out b8)
      clear b8 G7 M7 Z7 R7 B7 K7 Y7 O7 KP TR y0 y1 y2 hy q0 q1 q2 q3 hq
      obtain ⟨dn, hdn⟩ : ∃ d, d = (wrB k1 last kind l T).length := ⟨_, rfl⟩
      obtain ⟨L2, hL2⟩ : ∃ L, L = L1 ++ wrB k1 last kind l T := ⟨_, rfl⟩
      rw [← hdn] at HNB
      rw [← hL2] at M8
      have hl2 : L2.length = k1 + dn := by rw [hL2, List.length_append, hdn, HK1.out]
      have HL2 := hid hL2
      have LN := hid (lenS_any false gw A7 c7 gw L2 w8 M8.out)
      rw [hl2] at LN
      have Hl2 := hid hl2
      have Hdn := hid hdn
      have hdb : dn ≤ 200000 := by
        have h1 := bits_small Hgd.out
        have h2 := (wrB_bits (fit_good HF.out) k1 last (kind := kind) T (by omega) (by omega)).1
        rw [← hdn] at h2
        omega
      clear hdn hL2 hl2
      go_wp2_with fail
      refine LN.out.mono ?_
      rintro e w9 ⟨rfl, rfl⟩
      clear LN
      have q0 := Z8.out.cell 0
      have q1 := Z8.out.cell 1
      have q2 := Z8.out.cell 2
      have q3 := Z8.out.cell 3
      simp only [List.getElem?_toArray, List.getElem?_cons_zero, List.getElem?_cons_succ] at q0 q1 q2 q3
      have hq := Z8.out.lt
      have hde : (k1 : Int) + (dn : Int) - (k1 : Int) = (dn : Int) := by omega
      go_upto_region 15 with (fail)
      clear hde
      go_cut [102] from 90 to 102 (fun v wq => v = .bool false ∧ w8 = wq)
      case first =>
        by_cases kp : 0 < kind
        · obtain rfl : (dn : Int) = nb := HNB.out.2 (by omega)
          clear HNB
          go_wp2
          go_meet
          exact ⟨rfl, rfl⟩
        · have n1 : ¬ nb < (dn : Int) := by have := HNB.out.1; omega
          have e1 : decide (nb < (dn : Int)) = false := decide_eq_false n1
          clear HNB
          go_wp2
          go_meet
          exact ⟨rfl, rfl⟩
      case rest =>
        obtain ⟨rfl, rfl⟩ := hcut
        obtain ⟨bs, hbs⟩ : ∃ bs : List Bq, bs = ⟨0, litsN b, b⟩ :: ⟨kind, l, T⟩ :: (if last then [] else [⟨1, [], []⟩]) := ⟨_, rfl⟩
        have HBS := hid hbs
        have HW3 := hid (show wrAll 0 bs = L2 ++ (if last then [] else wrB (k1 + dn) true 1 [] []) by
          rw [hbs, HL2.out]
          have e1 : ∀ r : List Bq, wrAll 0 (⟨0, litsN b, b⟩ :: ⟨kind, l, T⟩ :: r) = L1 ++ (wrB k1 r.isEmpty kind l T ++ wrAll (k1 + (wrB k1 r.isEmpty kind l T).length) r) := by
            intro r
            show wrB 0 false 0 (litsN b) b ++ _ = _
            rw [← HL1.out]
            show L1 ++ wrAll (0 + (wrB 0 false 0 (litsN b) b).length) _ = _
            rw [← HL1.out, Nat.zero_add, ← HK1.out]
            rfl
          rw [e1]
          cases last with
          | true =>
            show L1 ++ (wrB k1 true kind l T ++ []) = _
            rw [List.append_nil]
            show _ = L1 ++ wrB k1 true kind l T ++ []
            rw [List.append_nil]
          | false =>
            show L1 ++ (wrB k1 false kind l T ++ (wrB (k1 + (wrB k1 false kind l T).length) true 1 [] [] ++ [])) = L1 ++ wrB k1 false kind l T ++ wrB (k1 + dn) true 1 [] []
            rw [List.append_nil, ← List.append_assoc, Hdn.out])
        have HTA := hid (show toksAll bs = litsN b ++ blkT kind l T by
          rw [hbs]
          unfold toksAll
          cases last
          · show litsN b ++ (blkT kind l T ++ ([] ++ [])) = _
            rw [List.append_nil, List.append_nil]
          · show litsN b ++ (blkT kind l T ++ []) = _
            rw [List.append_nil])
        have HOK := hid (show okRun 20000 0 bs by
          rw [hbs]
          have hblt : ((litsN b).map tn).sum = b.length := sum_lits b
          refine ⟨⟨scan_good HSL.out, ⟨Int.le_refl 0, show (0 : Int) ≤ 2 by decide⟩, fun _ => ⟨by show b.length ≤ 65535; omega, HB.out⟩, fun h => absurd rfl h, fun _ => by show (0 : Int) + b.length ≤ 20000; omega⟩, ⟨⟨fit_good HF.out, ⟨by show 0 ≤ kind; omega, by show kind ≤ 2; omega⟩, fun _ => ⟨by show T.length ≤ 65535; omega, HTB.out⟩, fun _ => ?_, fun h => ?_⟩, ?_⟩⟩
          · show scan 20000 l (0 + blkN 0 (litsN b) b) = 0
            have e : (0 : Int) + blkN 0 (litsN b) b = b.length := by show (0 : Int) + (b.length : Int) = _; omega
            rw [e]
            exact HSC.out
          · show (0 : Int) + blkN 0 (litsN b) b + T.length ≤ 20000
            have e : (0 : Int) + blkN 0 (litsN b) b = b.length := by show (0 : Int) + (b.length : Int) = _; omega
            rw [e]
            omega
          · cases last
            · exact ⟨⟨fun t ht => (by cases ht), ⟨show (0 : Int) ≤ 1 by decide, show (1 : Int) ≤ 2 by decide⟩, fun h => absurd (show (1 : Int) = 0 from h) (by decide), fun _ => rfl, fun h => absurd (show (1 : Int) = 0 from h) (by decide)⟩, trivial⟩
            · trivial)
        have Hne := hid (show bs ≠ [] by rw [hbs]; exact List.cons_ne_nil _ _)
        clear hbs
        have M8b := hid M8.out
        have q0 := Z8.out.cell 0
        have q1 := Z8.out.cell 1
        have q2 := Z8.out.cell 2
        have q3 := Z8.out.cell 3
        simp only [List.getElem?_toArray, List.getElem?_cons_zero, List.getElem?_cons_succ] at q0 q1 q2 q3
        have hq := Z8.out.lt
        go_upto_region 17 with (fail)
        go_cut [111] from 103 to 111 (fun v wq => v = .bool false ∧ ∃ A9 c9, Hid (WrS wq gw false A9 c9 gw (wrAll 0 bs)) ∧ Hid (Below gw w8 wq))
        case first =>
          cases last with
          | true =>
            have E := hid (show WrS w8 gw false A7 c7 gw (wrAll 0 bs) by rw [HW3.out]; show WrS w8 gw false A7 c7 gw (L2 ++ []); rw [List.append_nil]; exact M8.out)
            go_wp2
            go_meet
            exact ⟨rfl, A7, c7, E, hid (Below.refl _ _)⟩
          | false =>
            have WG3 := hid (write_good gw A7 c7 gw L2 none none 0 0 1 true [] [] w8 (.inl rfl) (.inl rfl) (by decide) (by decide) (fun t ht => by cases ht) (fun t ht => by cases ht) M8.out (by have := M8.out.blk.lt; omega) (by rw [Hl2.out]; omega) (by decide +kernel))
            rw [Hl2.out] at WG3
            rw [show ([] : List (Int × Int)).length = 0 from rfl, show ([] : List Int).length = 0 from rfl] at WG3
            go_wp2_with fail
            refine WG3.out.mono ?_
            rintro e w9 ⟨rfl, A9, c9, m9, t9⟩
            have E := hid (show WrS w9 gw false A9 c9 gw (wrAll 0 bs) by rw [HW3.out]; exact m9)
            have lo := hid (M8.out.low t9 (by have := M8.out.blk.lt; omega))
            clear WG3 m9 t9
            go_wp2
            go_meet
            exact ⟨rfl, A9, c9, E, lo⟩
        case rest =>
          obtain ⟨rfl, A9, c9, M9, lo⟩ := hcut
          have G9 := hid (G8.out.trans lo.out)
          have Z9 := hid (Z8.out.below lo.out hgz)
          have hw3 : (wrAll 0 bs).length ≤ 300000 := by
            rw [HW3.out, List.length_append, Hl2.out]
            have : (if last = true then [] else wrB (k1 + dn) true 1 [] []).length ≤ 20000 := by
              split
              · exact Nat.zero_le _
              · have h1 := (wrB_bits (l := []) (fun t ht => by cases ht) (k1 + dn) true (kind := 1) [] (by omega) (by omega)).1
                have h2 := bits_small (kind := 1) (l := []) (text := []) (by decide +kernel)
                simp only [List.length_nil] at h2
                omega
            omega
          clear lo M8 M8b G8 Z8 R8 HW3 HL2 Hl2 Hdn q0 q1 q2 q3 hq
          have BY := hid (bytesS_any false gw A9 c9 gw (wrAll 0 bs) wc M9.out (by omega))
          unfold BytEnd at BY
          obtain ⟨out, hout⟩ : ∃ o, o = pkS false (fillS false (wrAll 0 bs)) := ⟨_, rfl⟩
          have hfb := (fill_bits (wrAll_bit bs 0)).2
          have hia := inf_all Hne.out (by omega) (by omega) HOK.out
          have hob : ∀ x ∈ out, isB x := by
            rw [hout]
            exact pkS_B false (fun x hx => by
              rw [show fillS false (wrAll 0 bs) = wrAll 0 bs ++ List.replicate ((8 - (wrAll 0 bs).length % 8) % 8) 0 from fillN_eq _ _] at hx
              rcases List.mem_append.1 hx with h | h
              · exact wrAll_bit bs 0 x h
              · rw [(List.mem_replicate.1 h).2]; exact .inl rfl)
          rw [← hout] at BY hfb hia
          have HIA := hid hia
          have HOB := hid hob
          have HFB := hid hfb
          have hol : out.length ≤ 100000 := by rw [hfb]; omega
          clear hout hfb hia hob
          have q0 := Z9.out.cell 0
          have q1 := Z9.out.cell 1
          have q2 := Z9.out.cell 2
          have q3 := Z9.out.cell 3
          simp only [List.getElem?_toArray, List.getElem?_cons_zero, List.getElem?_cons_succ] at q0 q1 q2 q3
          have hq := Z9.out.lt
          go_wp2_with fail
          refine BY.out.mono ?_
          rintro e w10 ⟨A10, c10, rfl, o10, b10⟩
          have O10 := hid o10
          have G10 := hid (G9.out.trans (b10.mono (by have := G9.out.size; have := HG2.out; omega)))
          have Z10 := hid (Z9.out.below b10 Z9.out.lt)
          clear o10 b10 G9 Z9 BY M9 q0 q1 q2 q3 hq
          obtain ⟨tk, htk⟩ : ∃ tk, tk = litsN b ++ blkT kind l T := ⟨_, rfl⟩
          rw [HTA.out, ← htk] at HIA
          have HTK := hid htk
          clear htk
          obtain ⟨kw, hkw⟩ : ∃ k, k = (wrAll 0 bs).length := ⟨_, rfl⟩
          rw [← hkw] at HIA HFB
          clear hkw
          have RT := hid (rtok_in (fun v w s h hL A D c d l m hl hd hlm hdm hll hdl => rsyms_any h hL A D c d l m hl hd hlm hdm hll hdl) A10 c10 out 20000 w10 (own_rd O10.out) HOB.out hol (by omega) (by omega))
          unfold RTk at RT
          rw [HIA.out] at RT
          dsimp only at RT
          rw [← HFB.out] at RT
          generalize out.length = on at *
          have q0 := Z10.out.cell 0
          have q1 := Z10.out.cell 1
          have q2 := Z10.out.cell 2
          have q3 := Z10.out.cell 3
          simp only [List.getElem?_toArray, List.getElem?_cons_zero, List.getElem?_cons_succ] at q0 q1 q2 q3
          have hq := Z10.out.lt
          go_wp2_with fail
          refine RT.out.mono ?_
          rintro e w11 ⟨b11, T9, tc, rfl, o11, htl⟩
          have O11 := hid o11
          have G11 := hid (G10.out.trans (b11.mono (by have := G10.out.size; have := HG2.out; omega)))
          have Z11 := hid (Z10.out.below b11 Z10.out.lt)
          clear o11 b11 RT G10 Z10 O10 q0 q1 q2 q3 hq HIA HFB HOB HTA HOK
          have B11 := hid (B2.out.trans (G11.out.mono hgW))
          have R11 := hid ((R2.out.below G11.out HG2'.out).more (show w2.heap.size ≤ w11.heap.size from G11.out.size))
          have q0 := Z11.out.cell 0
          have q1 := Z11.out.cell 1
          have q2 := Z11.out.cell 2
          have q3 := Z11.out.cell 3
          simp only [List.getElem?_toArray, List.getElem?_cons_zero, List.getElem?_cons_succ] at q0 q1 q2 q3
          have hq := Z11.out.lt
          by_cases hk : kind = 0
          · subst hk
            have et : tk = litsN b ++ litsN T := by rw [HTK.out]; rfl
            subst et
            rw [show (litsN b ++ litsN T).length = b.length + T.length by rw [List.length_append, lits_len, lits_len]] at O11 htl ⊢
            have LT := hid (lits_any A2 c2 T w11 R11.out (by omega) HTB.out)
            go_wp2_with fail
            with_reducible refine LT.out.mono ?_
            rintro e w12 ⟨A12, c12, rfl, o12, b12⟩
            have B12 := hid (B11.out.trans (b12.mono B11.out.size))
            have Z12 := hid (Z11.out.below b12 Z11.out.lt)
            have O12 := hid (own_below O11.out b12 (Nat.le_refl _))
            have P12 := hid o12
            have hN12 := hid (fun h : A12 = none => own_nilW P12.out h)
            clear o12 b12 LT B11 Z11 O11 R11 q0 q1 q2 q3 hq
            have Hw12 := hid (lits_any A ca b w12 (rd_up Ha.out B12.out) (by omega) HB.out)
            have q0 := Z12.out.cell 0
            have q1 := Z12.out.cell 1
            have q2 := Z12.out.cell 2
            have q3 := Z12.out.cell 3
            simp only [List.getElem?_toArray, List.getElem?_cons_zero, List.getElem?_cons_succ] at q0 q1 q2 q3
            have hq := Z12.out.lt
            have hR12 := own_rd P12.out
            have R12 := hid hR12
            clear hR12
            go_wp2_with fail
            refine Hw12.out.mono ?_
            rintro e w13 ⟨A13, c13, rfl, o13, b13⟩
            have O13 := hid o13
            have B13 := hid (B12.out.trans (b13.mono B12.out.size))
            have T13 := hid ((own_rd O12.out).below b13 (Nat.le_refl _))
            have R13 := hid (rd_up R12.out b13)
            have hs13 := b13.size
            clear o13 b13 Hw12 R12 q0 q1 q2 q3 hq
            go_wp2_with (at_builtin; refine wpList_appG rfl _ _ _ rfl w12.heap.size 67 i0 (.agg #[.int .i64 0, .int .i64 0]) 2 16 Tryz.underlying23 Hi0.out Hz0.out Hz1.out Hz2.out rfl (by omega) A13 b.length c13 ((litsN b).flatMap encTok) rfl O13.out _ A12 T.length c12 ((litsN T).flatMap encTok) rfl R13.out hN12.out encTok_cellsW (by simp only [maxLen]; omega) (by omega) hs13 ?_; intro A14 c14 w14 ha14; have Ha14 := hid ha14; clear ha14)
            have hln : (litsN b ++ litsN T).length = b.length + T.length := by rw [List.length_append, lits_len]; rw [lits_len]
            have TK := tokens_reflK T9 A14 tc c14 (litsN b ++ litsN T) w14 w14.heap.size (by rw [hln]; exact (T13.out.below Ha14.out.2.2.1 (Nat.le_refl _)).more (Nat.le_trans hs13 Ha14.out.2.2.1.size)) (by rw [hln, List.flatMap_append]; exact own_rd Ha14.out.1) (by rw [hln]; omega)
            rw [hln] at TK
            have TKh := hid TK
            have B14 := hid (B13.out.trans (Ha14.out.2.2.1.mono (by have := B12.out.size; omega)))
            clear TK hln Ha14 O13 T13 R13
            go_wp2_with fail
            refine TKh.out.mono ?_
            rintro e w15 ⟨rfl, nd, hw15⟩
            have E := hid (show Below W.heap.size W w15 by rw [hw15]; exact below_drewN B14.out nd)
            clear hw15
            go_wp2_with fail
            go_ret
            exact ⟨rfl, E.out⟩
          · have et : tk = litsN b ++ l := by rw [HTK.out]; unfold blkT; rw [if_neg hk]
            subst et
            rw [show (litsN b ++ l).length = b.length + l.length by rw [List.length_append, lits_len]] at O11 htl ⊢
            have ek : (kind == 0) = false := by simpa using hk
            have Z12 := Z11
            have B12 := B11
            have O12 := O11
            obtain ⟨w12, hw12⟩ : ∃ w12, w12 = w11 := ⟨_, rfl⟩
            rw [← hw12] at Z12 B12 O12 q0 q1 q2 q3 hq ⊢
            clear B11 Z11 O11 R11 hw12 q0 q1 q2 q3 hq
            have Hw12 := hid (lits_any A ca b w12 (rd_up Ha.out B12.out) (by omega) HB.out)
            have q0 := Z12.out.cell 0
            have q1 := Z12.out.cell 1
            have q2 := Z12.out.cell 2
            have q3 := Z12.out.cell 3
            simp only [List.getElem?_toArray, List.getElem?_cons_zero, List.getElem?_cons_succ] at q0 q1 q2 q3
            have hq := Z12.out.lt
            have hR12 := rd_up Hx.out B12.out
            have R12 := hid hR12
            clear hR12
            go_wp2_with fail
            refine Hw12.out.mono ?_
            rintro e w13 ⟨A13, c13, rfl, o13, b13⟩
            have O13 := hid o13
            have B13 := hid (B12.out.trans (b13.mono B12.out.size))
            have T13 := hid ((own_rd O12.out).below b13 (Nat.le_refl _))
            have R13 := hid (rd_up R12.out b13)
            have hs13 := b13.size
            clear o13 b13 Hw12 R12 q0 q1 q2 q3 hq
            go_wp2_with (at_builtin; refine wpList_appG rfl _ _ _ rfl w12.heap.size 67 i0 (.agg #[.int .i64 0, .int .i64 0]) 2 16 Tryz.underlying23 Hi0.out Hz0.out Hz1.out Hz2.out rfl (by omega) A13 b.length c13 ((litsN b).flatMap encTok) rfl O13.out _ X l.length cx ((l).flatMap encTok) rfl R13.out HX0.out encTok_cellsW (by simp only [maxLen]; omega) (by omega) hs13 ?_; intro A14 c14 w14 ha14; have Ha14 := hid ha14; clear ha14)
            have hln : (litsN b ++ l).length = b.length + l.length := by rw [List.length_append, lits_len]
            have TK := tokens_reflK T9 A14 tc c14 (litsN b ++ l) w14 w14.heap.size (by rw [hln]; exact (T13.out.below Ha14.out.2.2.1 (Nat.le_refl _)).more (Nat.le_trans hs13 Ha14.out.2.2.1.size)) (by rw [hln, List.flatMap_append]; exact own_rd Ha14.out.1) (by rw [hln]; omega)
            rw [hln] at TK
            have TKh := hid TK
            have B14 := hid (B13.out.trans (Ha14.out.2.2.1.mono (by have := B12.out.size; omega)))
            clear TK hln Ha14 O13 T13 R13
            go_wp2_with fail
            refine TKh.out.mono ?_
            rintro e w15 ⟨rfl, nd, hw15⟩
            have E := hid (show Below W.heap.size W w15 by rw [hw15]; exact below_drewN B14.out nd)
            clear hw15
            go_wp2_with fail
            go_ret
            exact ⟨rfl, E.out⟩
set_option maxRecDepth 100000
set_option maxRecDepth 100000 in
theorem lifted (os : Os) (started : os.Started) (H : Type) (enc : TypeId × Value → H) :
    ReturnsInHanded {} Tryz.checked os 3 .any (Rows.blockWritesSpec.pre6 enc Tryz.prog Tryz.f3 Rows.blockWritesRow.domain false) (Rows.blockWritesSpec.post enc Tryz.prog Tryz.f3 false true false false) :=
  law_lifted own laidOut started (by kernel_rfl) Tryz.func3 rfl rfl Tryz.underlying4
    (by rw [Tryz.params3]; intro t ht; simp at ht; rcases ht with rfl <;> exact ⟨by kernel_rfl, of_decide_eq_true (by kernel_rfl)⟩)
    (by
      intro ds h
      match ds, h with
      | [_], _ => exact ⟨rfl, rfl, rfl⟩)
    (ChangeSpec.witness6 (enc := enc) (C := Tryz.checked) false ⟨#[], #[.agg #[.slice none 0 0, .slice none 0 0, .int .i64 0, .bool false]], []⟩ 8 (by kernel_rfl) (by kernel_rfl) (by kernel_rfl) (by kernel_rfl))
    (by
      intro W base args ds ps hval0 hA0
      have hval : ∀ (j : Nat) t v, Tryz.f3.params[j]? = some t → args[j]? = some v → Value.okWide Tryz.prog W .any base t v := hval0
      have hA : DataW.TrodAll enc Tryz.prog W 0 (fun _ => true) true Tryz.f3.params.toList args.toList ds ps := hA0
      clear hval0 hA0
      rw [Tryz.params3] at hA hval
      obtain ⟨v0, vs0, d0, ds0, p0, q0, hargs, rfl, rfl, h0, r0⟩ := trodAll_cons hA
      obtain ⟨rfl, rfl, rfl⟩ := trodAll_nil r0
      obtain rfl : args = #[v0] := by cases args; simp_all
      obtain ⟨A0, ca0, b0, X0, cx0, l0, kind0, last0, rfl, hB0, hr0, hz0, hok0, hx0, hzx0, hk0⟩ := open_case (hval 0 25 v0 rfl rfl) h0
      exact walk A0 X0 ca0 cx0 b0 l0 kind0 last0 W hr0 hx0 hB0 hok0)

theorem over : Rows.blockWritesRow.holds Tryz.pinned (OpenSpec.ofChange Rows.blockWritesSpec) :=
  OpenClaim.holds_of_wide 3 Tryz.f3 rfl rfl rfl rfl rfl rfl rfl ⟨rfl, rfl, rfl, rfl, rfl⟩ rfl rfl rfl rfl rfl (by kernel_rfl) Tryz.func3 (by kernel_rfl)
    (of_decide_eq_true (by kernel_rfl)) (by unfold Func.isWrapper; first | (rw [if_pos (by decide +kernel)]; kernel_rfl) | (rw [if_neg (by decide +kernel)]; exact ⟨rfl, rfl⟩))
    (fun os started H enc _ => lifted os started H enc)

theorem proved : Rows.BlockWritesSaid := over
#print axioms proved
end Go.Proofs.YthhllollhjpheaaGreat.BlockWrites
