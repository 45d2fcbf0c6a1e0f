/-
  The laws of layer 10: cases (their text), a fixed fact.
-/
import Derived.Test.YthhllollhjpheaaBkQ
import Derived.Test.YthhllollhjpheaaBkWr
import Derived.Test.YthhllollhjpheaaExpRef
import Derived.Test.YthhllollhjpheaaReg
import Derived.Test.YthhllollhjpheaaSlc
import Derived.Lib.SlBytesConst
namespace Go.Proofs.Ythhllollhjpheaa
open Go.RowKit Go.ChangeShapes Go.WideShapes Go.ChangeAt

/-- what a case's tokens come to -/
def cRes (b : List Int) (l : List (Int × Int)) : Int := expRes 20000 (litsN b ++ l)
def cTxt (b : List Int) (l : List (Int × Int)) : List Int := (expOut 20000 (litsN b ++ l)).drop b.length
theorem cRes_scan {b : List Int} {l : List (Int × Int)} (h : cRes b l = 0) : scan 20000 (litsN b ++ l) 0 = 0 := by
  unfold cRes expRes at h
  rw [if_neg (by omega)] at h
  exact h
theorem cOut {b : List Int} {l : List (Int × Int)} (h : cRes b l = 0) : expOut 20000 (litsN b ++ l) = (litsN b ++ l).foldl layTok [] := by
  unfold cRes at h
  unfold expOut
  rw [if_pos h]
theorem cTxt_fit {b : List Int} {l : List (Int × Int)} (h : cRes b l = 0) : fitM (cTxt b l) 0 l = true := by
  unfold cTxt
  rw [cOut h]
  exact fit_behind (cRes_scan h)
theorem cOut_len {b : List Int} {l : List (Int × Int)} (h : cRes b l = 0) : (expOut 20000 (litsN b ++ l)).length = b.length + (cTxt b l).length ∧ ((cTxt b l).length : Int) = sumT l := by
  have h1 := lay_len (litsN b ++ l) []
  have h2 : sumT (litsN b ++ l) = b.length + sumT l := by
    unfold sumT
    rw [List.map_append, List.sum_append]
    have := sum_lits b
    unfold sumT at this
    rw [this]
  have h4 : 0 ≤ sumT l := by
    unfold sumT
    have h5 : ∀ l : List (Int × Int), 0 ≤ (l.map tn).sum := by
      intro l
      induction l with
      | nil => exact Int.le_refl 0
      | cons t l ih => rw [List.map_cons, List.sum_cons]; have := tn_pos (t := t); omega
    exact h5 l
  have h3 : (cTxt b l).length = (expOut 20000 (litsN b ++ l)).length - b.length := by unfold cTxt; rw [List.length_drop]
  rw [cOut h] at h3 ⊢
  rw [List.length_nil, h2] at h1
  omega
theorem cTxt_len {b : List Int} {l : List (Int × Int)} (h : cRes b l = 0) : b.length + (cTxt b l).length ≤ 20000 ∧ scan 20000 l b.length = 0 := by
  have h1 := cRes_scan h
  have h2 := (cOut_len h).2
  obtain ⟨h3, h4⟩ := scan_app _ _ _ _ h1
  have h5 := scan_bd h4 (scan_bd h3 (by omega))
  rw [sum_lits, Int.zero_add] at h4 h5
  exact ⟨by omega, h4⟩
theorem lay_isB {l : List (Int × Int)} : ∀ {out : List Int}, (∀ t ∈ l, tgood t = true) → (∀ x ∈ out, isB x) → ∀ x ∈ l.foldl layTok out, isB x := by
  induction l with
  | nil => exact fun _ h => h
  | cons t l ih => exact fun hg h => ih (fun x hx => hg x (List.mem_cons_of_mem _ hx)) (iterB_isB (hg t List.mem_cons_self) h _)
theorem scan_good {most : Int} : ∀ {l : List (Int × Int)} {s : Int}, scan most l s = 0 → ∀ t ∈ l, tgood t = true
  | [], _, _ => fun t h => by cases h
  | t :: l, s, h => by
    obtain ⟨h1, h2⟩ := scan_cons h
    intro x hx
    rcases List.mem_cons.1 hx with rfl | hx
    · unfold terr at h1
      cases hh : tgood x with
      | true => rfl
      | false => rw [hh, if_pos rfl] at h1; exact absurd h1 (by decide)
    · exact scan_good h2 x hx
theorem cTxt_isB {b : List Int} {l : List (Int × Int)} (h : cRes b l = 0) : ∀ x ∈ cTxt b l, isB x := by
  intro x hx
  unfold cTxt at hx
  rw [cOut h] at hx
  exact lay_isB (scan_good (cRes_scan h)) (fun _ h => by cases h) x (List.mem_of_mem_drop hx)
def TextEnd (b : List Int) (l : List (Int × Int)) (W : World) (e : Ending) (w' : World) : Prop :=
  (if b.length ≤ 1000 ∧ l.length ≤ 300 ∧ cRes b l = 0 then ∃ A' c', e = .returned (.tuple #[.slice A' (cTxt b l).length c', .bool true]) ∧ Rd w' w'.heap.size 1 A' (cTxt b l).length (bytesV (cTxt b l)) ∧ (A' = none → c' = 0)
    else e = .returned (.tuple #[.slice none 0 0, .bool false])) ∧ Below W.heap.size W w'
set_option maxRecDepth 100000 in
set_option maxHeartbeats 8000000 in
theorem text_far (A X : Option Addr) (ca cx : Nat) (b : List Int) (l : List (Int × Int)) (kind : Int) (last : Bool) (W : World) (hf : ¬ (b.length ≤ 1000 ∧ l.length ≤ 300)) :
    Calls Try.prog 14 #[.agg #[.slice A b.length ca, .slice X l.length cx, .int .i64 kind, .bool last]] W (TextEnd b l W) := by
  have ZB := hid (Blk.new W 25 #[.slice A b.length ca, .slice X l.length cx, .int .i64 kind, .bool last])
  have Hb := hid ((Below.refl W.heap.size W).alloc (Nat.le_refl _) (.cells #[.slice A b.length ca, .slice X l.length cx, .int .i64 kind, .bool last] 25))
  have Hf := hid hf
  clear hf
  go_enter Try.func14, Try.ntmps14
  go_upto_region 1 with (fail)
  generalize W.alloc (.cells #[.slice A b.length ca, .slice X l.length cx, .int .i64 kind, .bool last] 25) = w0 at *
  obtain ⟨g, hg⟩ : ∃ g, g = W.heap.size := ⟨_, rfl⟩
  rw [← hg] at ZB ⊢
  clear hg
  have q0 := ZB.out.cell 0
  have q1 := ZB.out.cell 1
  simp only [List.getElem?_toArray, List.getElem?_cons_zero, List.getElem?_cons_succ] at q0 q1
  have hq := ZB.out.lt
  have E : ∀ e, e = Ending.returned (.tuple #[.slice none 0 0, .bool false]) → TextEnd b l W e w0 := fun e he => ⟨by rw [if_neg (fun h => Hf.out ⟨h.1, h.2.1⟩)]; exact he, Hb.out⟩
  have EE := hid E
  clear E
  by_cases h1 : b.length ≤ 1000
  · have h2 : 300 < l.length := by have := Hf.out; omega
    have d1 : decide (1000 < b.length) = false := decide_eq_false (by omega)
    have d2 : decide ((1000 : Int) < (b.length : Int)) = false := decide_eq_false (by omega)
    have d3 : decide (300 < l.length) = true := decide_eq_true (by omega)
    have d4 : decide ((300 : Int) < (l.length : Int)) = true := decide_eq_true (by omega)
    go_wp2_with fail
    refine bodyPost_ret (v := .tuple #[.slice none 0 0, .bool false]) (by simp [results, Try.results14, go_sem]) rfl ?_
    exact EE.out _ rfl
  · have d1 : decide (1000 < b.length) = true := decide_eq_true (by omega)
    have d2 : decide ((1000 : Int) < (b.length : Int)) = true := decide_eq_true (by omega)
    go_wp2_with fail
    refine bodyPost_ret (v := .tuple #[.slice none 0 0, .bool false]) (by simp [results, Try.results14, go_sem]) rfl ?_
    exact EE.out _ rfl
set_option maxRecDepth 100000 in
set_option maxHeartbeats 8000000 in
theorem text_near (A X : Option Addr) (ca cx : Nat) (b : List Int) (l : List (Int × Int)) (kind : Int) (last : Bool) (W : World) (ha : Rd W W.heap.size 1 A b.length (bytesV b)) (hx : Rd W W.heap.size 2 X l.length (l.flatMap encTok)) (hB : ∀ x ∈ b, isB x) (h1 : b.length ≤ 1000) (h2 : l.length ≤ 300) :
    Calls Try.prog 14 #[.agg #[.slice A b.length ca, .slice X l.length cx, .int .i64 kind, .bool last]] W (TextEnd b l W) := by
  have hal := ((Below.refl W.heap.size W).alloc (Nat.le_refl _) (.cells #[.slice A b.length ca, .slice X l.length cx, .int .i64 kind, .bool last] 25))
  have ZB := hid (Blk.new W 25 #[.slice A b.length ca, .slice X l.length cx, .int .i64 kind, .bool last])
  have Hb := hid hal
  have Ha := hid (rd_up ha hal)
  have Hx := hid (rd_up hx hal)
  have HX0 := hid (fun h : X = none => rd_nil hx (by omega) h)
  have HB := hid hB
  obtain ⟨i0, hi0, hz0, hz1, hz2⟩ := info_parts tok_infoB
  have Hi0 := hid hi0
  have Hz0 := hid hz0
  have Hz1 := hid hz1
  have Hz2 := hid hz2
  have Hll := hid (lits_len b)
  clear ha hx hB hal hi0 hz0 hz1 hz2
  go_enter Try.func14, Try.ntmps14
  go_upto_region 1 with (fail)
  generalize W.alloc (.cells #[.slice A b.length ca, .slice X l.length cx, .int .i64 kind, .bool last] 25) = w1 at *
  obtain ⟨g, hg⟩ : ∃ g, g = W.heap.size := ⟨_, rfl⟩
  rw [← hg] at ZB ⊢
  clear hg
  have q0 := ZB.out.cell 0
  have q1 := ZB.out.cell 1
  simp only [List.getElem?_toArray, List.getElem?_cons_zero, List.getElem?_cons_succ] at q0 q1
  have hq := ZB.out.lt
  have d1 : decide (1000 < b.length) = false := decide_eq_false (by omega)
  have d2 : decide ((1000 : Int) < (b.length : Int)) = false := decide_eq_false (by omega)
  have d3 : decide (300 < l.length) = false := decide_eq_false (by omega)
  have d4 : decide ((300 : Int) < (l.length : Int)) = false := decide_eq_false (by omega)
  have LT := hid (fun (w : World) (h : Below w1.heap.size w1 w) => lits_any A ca b w (rd_up Ha.out h) (by omega) HB.out)
  have ET := hid (fun (w : World) (A4 : Option Addr) (c4 : Nat) (h : Rd w w.heap.size 2 A4 (b.length + l.length) ((litsN b ++ l).flatMap encTok)) => show Calls Try.prog 38 #[.slice A4 (b.length + l.length) c4, .int .i64 20000] w (ExpEnd (fun k => .int .i64 k) 20000 (litsN b ++ l) 5 w) by
    have e : (litsN b ++ l).length = b.length + l.length := by rw [List.length_append, lits_len]
    have := refExpand_any A4 c4 (litsN b ++ l) 20000 w (by rw [e]; exact h) (by omega)
    rw [e] at this
    exact this)
  obtain ⟨out, hout⟩ : ∃ out, out = expOut 20000 (litsN b ++ l) := ⟨_, rfl⟩
  obtain ⟨res, hres⟩ : ∃ r, r = cRes b l := ⟨_, rfl⟩
  have HO := hid hout
  have HR := hid hres
  unfold ExpEnd at ET
  rw [← hout, show expRes 20000 (litsN b ++ l) = res from hres.symm] at ET
  clear hout hres
  go_upto_region 3 with (fail)
  refine free_lit (S := (((Option Addr × Nat) × (Option Addr × Nat)) × (Option Addr × Nat)) × World) (fun i => (i == 2) || (i == 5) || (i == 6))
    (fun x i => [.pointer (some ⟨g, 0, none⟩), .slice A b.length ca, .slice x.1.1.1.1 b.length x.1.1.1.2, .pointer (some ⟨g, 1, none⟩), .slice X l.length cx, .slice x.1.1.2.1 (b.length + l.length) x.1.1.2.2, .tuple #[.slice x.1.2.1 out.length x.1.2.2, .int .i64 res], .tuple #[.slice x.1.2.1 out.length x.1.2.2, .int .i64 res], .slice x.1.2.1 out.length x.1.2.2, .int .i64 res, .slice x.1.2.1 out.length x.1.2.2, .int .i64 res].getD i undef)
    (fun x => x.2) (fun k x => match k with | 0 => x = ((((none, 0), (none, 0)), (none, 0)), w1.drew) | 1 => Below w1.heap.size w1 x.2 ∧ x.2.ownsRow w1.heap.size 54 2 (.slice x.1.1.1.1 b.length x.1.1.1.2) b.length ((litsN b).flatMap encTok) | 2 => Below w1.heap.size w1 x.2 ∧ x.2.ownsRow w1.heap.size 54 2 (.slice x.1.1.2.1 (b.length + l.length) x.1.1.2.2) (b.length + l.length) ((litsN b ++ l).flatMap encTok) | 3 => Below w1.heap.size w1 x.2 ∧ x.2.ownsRow w1.heap.size 5 1 (.slice x.1.2.1 out.length x.1.2.2) out.length (bytesV out) | _ => False)
    (fun i => if i ≤ 2 then 0 else if i ≤ 4 then 0 else if i = 5 then 1 else if i = 6 then 2 else 3) (fun i => 3) (fun _ => false) (fun _ => false) ?af ?ab 3 (((((none, 0), (none, 0)), (none, 0)), w1.drew)) (by kernel_rfl) (by kernel_rfl) (by kernel_rfl) (by kernel_rfl) (by kernel_rfl) (by kernel_rfl) (by kernel_rfl) rfl rfl ?haf ?hab ?hy ?hQ
  case haf =>
    intro x
    simp only [actOf, dstAt, List.length_cons, List.length_nil, Nat.reduceAdd, List.getElem?_cons_zero, List.getElem?_cons_succ, Option.bind_some, if_true, List.getD_cons_zero, List.getD_cons_succ, Act.put, List.setIfInBounds_toArray, List.set_cons_zero, List.set_cons_succ]
    rfl
  case hab =>
    intro x
    simp only [actOf, dstAt, List.length_cons, List.length_nil, Nat.reduceAdd, List.getElem?_cons_zero, List.getElem?_cons_succ, Option.bind_some, Bool.not_false, if_true, List.getD_cons_zero, List.getD_cons_succ, Act.put, List.setIfInBounds_toArray, List.set_cons_zero, List.set_cons_succ]
    rfl
  case hy =>
    intro k x hR
    have hb : Below w1.heap.size w1 x.2 := by
      match k, hR with
      | 0, h => rw [show x = ((((none, 0), (none, 0)), (none, 0)), w1.drew) from h]; exact (Below.refl _ _).drew
      | 1, h => exact h.1
      | 2, h => exact h.1
      | 3, h => exact h.1
    have c0 := (ZB.out.below hb ZB.out.lt).cell 0
    have c1 := (ZB.out.below hb ZB.out.lt).cell 1
    simp only [List.getElem?_toArray, List.getElem?_cons_zero, List.getElem?_cons_succ] at c0 c1
    simp only [AllY]
    refine ⟨?_, ?_, ?_, ?_, ?_, ?_, ?_, ?_, ?_, ?_, ?_, ?_, trivial⟩
    case refine_3 =>
      intro hk
      obtain rfl : k = 0 := hk
      obtain rfl : x = ((((none, 0), (none, 0)), (none, 0)), w1.drew) := hR
      refine .inr (.inr ⟨39, #[.slice A b.length ca], w1.drew, by simp [go_sem, Act.eval], ?_⟩)
      refine (LT.out w1.drew hb).mono ?_
      rintro e w3 ⟨A3, c3, rfl, o3, b3⟩
      exact ⟨_, rfl, ((((A3, c3), (none, 0)), (none, 0)), w3), ⟨(Below.refl _ _).drew.trans b3, o3⟩, rfl, rfl, fun i hi hd hn => by
        have hd : (if i ≤ 2 then 0 else if i ≤ 4 then 0 else if i = 5 then 1 else if i = 6 then 2 else 3) ≤ 0 := hd
        have hn : i ≠ 2 := hn
        rcases (show i = 0 ∨ i = 1 ∨ i = 3 ∨ i = 4 by
          by_cases h : i ≤ 4
          · omega
          · rw [if_neg (by omega), if_neg h] at hd; split at hd <;> (try split at hd) <;> omega) with rfl | rfl | rfl | rfl <;> rfl⟩
    case refine_6 =>
      intro hk
      obtain rfl : k = 1 := hk
      obtain ⟨⟨⟨⟨x1, x2⟩, ⟨x3, x4⟩⟩, ⟨x5, x6⟩⟩, x7⟩ := x
      have o3 : x7.ownsRow w1.heap.size 54 2 (.slice x1 b.length x2) b.length ((litsN b).flatMap encTok) := hR.2
      refine turn_app _ _ _ rfl w1.heap.size 54 i0 (.agg #[.int .i64 0, .int .i64 0]) 2 16 Try.underlying23 Hi0.out Hz0.out Hz1.out Hz2.out rfl (by omega) x1 b.length x2 _ rfl o3 _ X l.length cx (l.flatMap encTok) rfl (rd_up Hx.out hb) HX0.out (by intro u hu; obtain ⟨t, _, ht⟩ := List.mem_flatMap.1 hu; simp [encTok] at ht; rcases ht with rfl | rfl <;> rfl) (by simp only [maxLen]; omega) (by omega) hb.size ?_
      intro A4 c4 w4 ha
      refine ⟨((((x1, x2), (A4, c4)), (x5, x6)), w4), ⟨hb.trans ha.2.2.1, by rw [List.flatMap_append]; exact ha.1⟩, rfl, rfl, fun i hi hd hn => ?_⟩
      have hd : (if i ≤ 2 then 0 else if i ≤ 4 then 0 else if i = 5 then 1 else if i = 6 then 2 else 3) ≤ 1 := hd
      have hn : i ≠ 5 := hn
      rcases (show i = 0 ∨ i = 1 ∨ i = 2 ∨ i = 3 ∨ i = 4 by
          by_cases h : i ≤ 4
          · omega
          · rw [if_neg (by omega), if_neg h] at hd; split at hd <;> (try split at hd) <;> omega) with rfl | rfl | rfl | rfl | rfl <;> rfl
    case refine_7 =>
      intro hk
      obtain rfl : k = 2 := hk
      obtain ⟨⟨⟨⟨x1, x2⟩, ⟨x3, x4⟩⟩, ⟨x5, x6⟩⟩, x7⟩ := x
      have o4 : x7.ownsRow w1.heap.size 54 2 (.slice x3 (b.length + l.length) x4) (b.length + l.length) ((litsN b ++ l).flatMap encTok) := hR.2
      refine .inr (.inr ⟨38, #[.slice x3 (b.length + l.length) x4, .int .i64 20000], x7, by simp [go_sem, Act.eval], ?_⟩)
      refine (ET.out x7 x3 x4 (own_rd o4)).mono ?_
      rintro e w5 ⟨A5, c5, rfl, o5, b5⟩
      refine ⟨_, rfl, ((((x1, x2), (x3, x4)), (A5, c5)), w5), ⟨hb.trans (b5.mono hb.size), own_base o5 hb.size⟩, rfl, rfl, fun i hi hd hn => ?_⟩
      have hd : (if i ≤ 2 then 0 else if i ≤ 4 then 0 else if i = 5 then 1 else if i = 6 then 2 else 3) ≤ 2 := hd
      have hn : i ≠ 6 := hn
      rcases (show i = 0 ∨ i = 1 ∨ i = 2 ∨ i = 3 ∨ i = 4 ∨ i = 5 by
          by_cases h : i ≤ 5
          · omega
          · rw [if_neg (by omega), if_neg (by omega), if_neg (by omega), if_neg hn] at hd; omega) with rfl | rfl | rfl | rfl | rfl | rfl <;> rfl
    all_goals exact fun _ _ => .inl (by simp [execOp, go_sem, Act.eval, c0, c1])
  case hQ =>
    rintro ⟨⟨⟨⟨x1, x2⟩, ⟨x3, x4⟩⟩, ⟨A5, c5⟩⟩, w5⟩ hR
    have b5 : Below w1.heap.size w1 w5 := hR.1
    have o5 : w5.ownsRow w1.heap.size 5 1 (.slice A5 out.length c5) out.length (bytesV out) := hR.2
    have B5 := hid b5
    have O5 := hid o5
    have HB5 := hid (Hb.out.trans (b5.mono Hb.out.size))
    have Z5 := hid (ZB.out.below b5 ZB.out.lt)
    show Exit.then _ _ .normal _ w5
    clear hR b5 o5 q0 q1 hq
    by_cases hres : res = 0
    · subst hres
      obtain ⟨e1, e2⟩ := cOut_len HR.out.symm
      rw [← HO.out] at e1
      obtain ⟨T, hT⟩ : ∃ T, T = cTxt b l := ⟨_, rfl⟩
      rw [← hT] at e1
      have HT := hid hT
      have HT2 := hid (show out.drop b.length = T by rw [HT.out, HO.out]; rfl)
      obtain ⟨A6, hrun, hr6, hn6⟩ := slcB_l out (b.length : Int) b.length T.length rfl rfl e1.symm (own_capB O5.out) (own_czS O5.out) (own_rd O5.out)
      rw [HT2.out] at hr6
      have R6 := hid hr6
      have N6 := hid hn6
      have p0 := Z5.out.cell 0
      have p1 := Z5.out.cell 1
      simp only [List.getElem?_toArray, List.getElem?_cons_zero, List.getElem?_cons_succ] at p0 p1
      have hp := Z5.out.lt
      have E := hid (fun e (he : e = Ending.returned (.tuple #[.slice A6 T.length (c5 - b.length), .bool true])) => (⟨by rw [if_pos ⟨h1, h2, HR.out.symm⟩]; exact ⟨A6, c5 - b.length, by rw [← HT.out]; exact he, by rw [← HT.out]; exact R6.out, N6.out⟩, HB5.out⟩ : TextEnd b l W e w5))
      clear e1 e2 hT hr6 hn6
      go_wp2_with fail
      refine bodyPost_ret (v := .tuple #[.slice A6 T.length (c5 - b.length), .bool true]) (by simp [results, Try.results14, go_sem]) rfl ?_
      exact E.out _ rfl
    · have E := hid (show TextEnd b l W (.returned (.tuple #[.slice none 0 0, .bool false])) w5 from ⟨by rw [if_neg (fun h => hres (by rw [HR.out]; exact h.2.2))], HB5.out⟩)
      have d5 : decide (res = 0) = false := decide_eq_false hres
      go_wp2_with fail
      refine bodyPost_ret (v := .tuple #[.slice none 0 0, .bool false]) (by simp [results, Try.results14, go_sem]) rfl ?_
      exact E.out
theorem text_any (A X : Option Addr) (ca cx : Nat) (b : List Int) (l : List (Int × Int)) (kind : Int) (last : Bool) (W : World) (ha : Rd W W.heap.size 1 A b.length (bytesV b)) (hx : Rd W W.heap.size 2 X l.length (l.flatMap encTok)) (hB : ∀ x ∈ b, isB x) :
    Calls Try.prog 14 #[.agg #[.slice A b.length ca, .slice X l.length cx, .int .i64 kind, .bool last]] W (TextEnd b l W) := by
  by_cases h : b.length ≤ 1000 ∧ l.length ≤ 300
  · exact text_near A X ca cx b l kind last W ha hx hB h.1 h.2
  · exact text_far A X ca cx b l kind last W h
/-- a fixed fact -/
theorem alive_bits : pkS false (fillS false (wrB 0 true 1 [(0, 97)] [97])) = [75, 4, 0] := by decide +kernel
theorem alloc_cell0 (w : World) (v : Value) (t : TypeId) (m : Nat × Nat) : (w.alloc (.cells #[v] t m)).cell? ⟨w.heap.size, 0, none⟩ = some v := cell_of_row _ w.heap.size 0 #[v] t m (by show (w.heap.push (.cells #[v] t m))[w.heap.size]? = _; simp)
theorem alive_good : blkGood 1 [(0, 97)] [97] = true := by decide +kernel
set_option maxRecDepth 100000 in
set_option maxHeartbeats 8000000 in
theorem alive10 (W : World) : Calls Try.prog 6 #[] W fun e w' => e = .returned (.bool true) ∧ Below W.heap.size W w' := by
  go_enter Try.func6, Try.ntmps6
  go_wp2_with fail
  refine (newW_any false W).mono ?_
  rintro e w1 ⟨rfl, h1, b1⟩
  have H1 := hid h1
  have B1 := hid b1
  obtain ⟨g, hg⟩ : ∃ g, g = W.heap.size := ⟨_, rfl⟩
  rw [← hg] at H1 ⊢
  have hgl := h1.blk.lt
  rw [← hg] at hgl
  have hgW : W.heap.size ≤ g := by omega
  obtain ⟨w3, hw3⟩ : ∃ w3, w3 = (w1.alloc (.cells #[.int .i64 0, .int .i64 97] 54)).alloc (.cells #[.int .u8 97] 5 (1, 2)) := ⟨_, rfl⟩
  have T2 : Blk w3 w1.heap.size 54 #[.int .i64 0, .int .i64 97] := by rw [hw3]; exact (Blk.new w1 54 #[.int .i64 0, .int .i64 97]).alloc _
  have T3 : w3.cell? ⟨w1.heap.size + 1, 0, none⟩ = some (.int .u8 97) := by
    have := alloc_cell0 (w1.alloc (.cells #[.int .i64 0, .int .i64 97] 54)) (.int .u8 97) 5 (1, 2)
    rw [World.size_alloc] at this
    rw [hw3]; exact this
  have T3l : w1.heap.size + 1 < w3.heap.size := by rw [hw3, World.size_alloc, World.size_alloc]; omega
  have kc := Lib.run_convert_bytes_const (P := Try.prog) (w1.alloc (.cells #[.int .i64 0, .int .i64 97] 54)) 22 5 #[.int .u8 97] 1 1 Try.underlying22 Try.underlying5
  rw [World.size_alloc, show (#[Value.int .u8 97] : Array Value).size = 1 from rfl, ← hw3] at kc
  have b3 : Below w1.heap.size w1 w3 := by rw [hw3]; exact ((Below.refl w1.heap.size w1).alloc (Nat.le_refl _) _).alloc (by rw [World.size_alloc]; omega) _
  have B3 := hid (b1.trans (b3.mono b1.size))
  have H3 := hid (h1.below' b3)
  rw [← hg] at H3
  have WG := hid (write_good g none 0 g [] (some ⟨w1.heap.size, 0, none⟩) (some ⟨w1.heap.size + 1, 0, none⟩) 1 1 1 true [(0, 97)] [97] w3
    (.inr ⟨w1.heap.size, 0, rfl, T2.lt, by omega, (fun a h => by cases h), fun j u hu => by
      have := T2.cell j
      rw [Nat.zero_add, this, List.getElem?_toArray]
      exact hu⟩)
    (.inr ⟨w1.heap.size + 1, 0, rfl, T3l, by omega, (fun a h => by cases h), fun j u hu => by
      have hj : j = 0 := by
        have := (List.getElem?_eq_some_iff.1 hu).1
        simp [bytesV] at this
        exact this
      subst hj
      simp [bytesV] at hu
      subst hu
      exact T3⟩) (by decide) (by decide) (fun t ht => by rw [List.mem_singleton] at ht; subst ht; exact ⟨by decide, by decide⟩) (fun x hx => by rw [List.mem_singleton] at hx; subst hx; unfold isB; omega) H3.out (by have := b3.size; omega) (by decide) alive_good)
  have hs13 := b3.size
  have Hg := hid hg
  have Hw3 := hid hw3
  clear hw3
  clear h1 b1 T2 T3 T3l b3 H1 B1 hg
  go_upto_region 2 with (fail)
  rw [show ([(0, 97)] : List (Int × Int)).length = 1 from rfl, show ([97] : List Int).length = 1 from rfl] at WG
  go_wp2_with fail
  refine WG.out.mono ?_
  rintro e w4 ⟨rfl, A4, c4, M4, T4⟩
  have M4h := hid M4
  have B4 := hid (B3.out.trans ((H3.out.low T4 (by omega)).mono (by omega)))
  have BE := hid (bytesS_any false g A4 c4 g _ w4 M4 (by decide +kernel))
  clear WG M4 T4 H3
  unfold BytEnd at BE
  rw [show pkS false (fillS false ([] ++ wrB ([] : List Int).length true 1 [(0, 97)] [97])) = [75, 4, 0] from alive_bits] at BE
  go_wp2_with fail
  refine BE.out.mono ?_
  rintro e w5 ⟨A5, c5, rfl, o5, b5⟩
  have R5 := own_rd o5
  obtain ⟨b, off, hA, hb, c0⟩ := byte_at R5 (j := 0) (by decide)
  obtain ⟨b', off', hA', hb', c1⟩ := byte_at R5 (j := 1) (by decide)
  obtain ⟨b'', off'', hA'', hb'', c2⟩ := byte_at R5 (j := 2) (by decide)
  rw [hA] at hA' hA''
  cases hA'
  cases hA''
  subst hA
  have B5 := hid (B4.out.trans (b5.mono B4.out.size))
  simp only [List.getD_cons_zero, List.getD_cons_succ] at c0 c1 c2
  rw [Nat.add_zero] at c0
  clear R5 o5 b5
  go_wp2_with fail
  go_ret
  exact ⟨rfl, B5.out⟩
end Go.Proofs.Ythhllollhjpheaa
