/-
  burnishref02.Text of wishes in form.
-/
import Derived.Test.YtfcppchjikmioaaGreatWtC
namespace Go.Proofs.YtfcppchjikmioaaGreat
open Go.RowKit Go.Lib

/-- a wish of the document's says what a wish says -/
def WiM (w : Wi) (x : Wsh) : Prop := w.nm = x.1 ∧ match x.2 with
  | .n z => w.kind = 1 ∧ w.n = z
  | .s y => w.kind = 2 ∧ w.s = y
  | .t b => w.kind = 3 ∧ w.b = b
def tB (L : List Wsh) : List UInt8 := (txF true L).flatMap enc
theorem good_at : ∀ (P L : List Wsh) (k : Nat) (x : Wsh), goodF P L → L[k]? = some x → gName x.1 ∧ gVal x.2
  | P, y :: t, 0, x, h, hx => by injection hx with hx; subst hx; exact ⟨h.1.1, h.1.2.1⟩
  | P, y :: t, k + 1, x, h, hx => good_at _ t k x h.2 hx
theorem tB_snoc {L : List Wsh} (h : goodF [] L) {k : Nat} {x : Wsh} (hx : L[k]? = some x) : tB (L.take (k + 1)) = tB (L.take k) ++ ((if k = 0 then [] else [44]) ++ (x.1.data.toList ++ shB x.2)) := by
  obtain ⟨h1, h2⟩ := good_at [] L k x h hx
  have hk : k < L.length := (List.getElem?_eq_some_iff.1 hx).1
  unfold tB
  rw [List.take_add_one, hx]
  show (txF true (L.take k ++ [x])).flatMap enc = _
  rw [txF_snoc, List.flatMap_append, List.flatMap_append, List.flatMap_append, ← shB_eq h2]
  have e : (rnL x.1).flatMap enc = x.1.data.toList := by rw [← rb_list, (name_r h1).2]
  rw [e]
  congr 2
  by_cases h0 : k = 0
  · subst h0; rfl
  · have hne : (L.take k).isEmpty = false := by
      cases hh : (L.take k).isEmpty
      · rfl
      · rw [List.isEmpty_iff] at hh
        have := congrArg List.length hh
        rw [List.length_take, List.length_nil] at this
        omega
    rw [hne, if_neg h0]
    rfl
theorem tB_le {L : List Wsh} (k : Nat) : (tB (L.take k)).length ≤ (tB L).length := by
  have hp : ∀ (b : Bool) (L M : List Wsh), bl (txF b L) ≤ bl (txF b (L ++ M)) := by
    intro b L M
    induction L generalizing b with
    | nil => show 0 ≤ _; omega
    | cons x L ih =>
      rw [List.cons_append, txF, txF, bl_app _ (txF false L), bl_app _ (txF false (L ++ M))]
      have := ih false
      omega
  have := hp true (L.take k) (L.drop k)
  rw [List.take_append_drop] at this
  exact this
theorem enc_126 : enc 126 = [126] := rfl
set_option maxRecDepth 100000 in
set_option maxHeartbeats 8000000 in
theorem rtext_any (A : Option Addr) (c n B0 : Nat) (l : List Wi) (L : List Wsh) (W : World) (hn : n = l.length) (hl : l.length = L.length) (hm : ∀ (k : Nat) (x : Wi) (y : Wsh), l[k]? = some x → L[k]? = some y → WiM x y) (hg : goodF [] L) (hb : (tB L).length ≤ 1000000) (h : Rd W B0 5 A l.length (l.flatMap encWi)) (hB0 : B0 ≤ W.heap.size) :
    Calls Tryz.prog 11 #[.slice A n c] W fun e w' => e = .returned (.string (runesBytes (txF true L))) ∧ Below W.heap.size W w' := by
  have H := hid h
  have HN := hid hn
  have HLn := hid hl
  have HM := hid hm
  have HG := hid hg
  have HBd := hid hb
  have hn16 : n ≤ 16 := by
    have : L.length ≤ 16 := by
      have : ∀ (L P : List Wsh), goodF P L → P.length ≤ 16 → (P ++ L).length ≤ 16 := by
        intro L
        induction L with
        | nil => intro P _ h; simpa using h
        | cons x L ih =>
          intro P h hP
          have := ih (P ++ [x]) h.2 (by have := h.1.2.2.2; simp; omega)
          simpa using this
      simpa using this L [] hg (by simp)
    omega
  clear h hn hl hm hg hb
  go_enter Tryz.func11, Tryz.ntmps11
  go_upto_region 3 with (fail)
  go_loopw [3, 4] (fun v i wr => ∃ (k : Nat) (ob : ByteArray), k ≤ n ∧ i = .int .i64 (k : Int) ∧ v = .string ob ∧ ob.size ≤ 1000000 ∧ Hid (ob.data.toList = tB (L.take k)) ∧ Hid (Below W.heap.size W wr)) (fun _ i _ => n - (intOf i).toNat)
  case atStart => exact ⟨0, ⟨#[]⟩, by omega, rfl, rfl, by decide, hid rfl, hid (Below.refl _ _)⟩
  case round =>
    obtain ⟨k, ob, hk, rfl, rfl, hob, HO, Hw⟩ := hrel
    by_cases hlt : k < n
    · have d1 : decide (k < n) = true := decide_eq_true hlt
      have d2 : decide ((k : Int) < (n : Int)) = true := decide_eq_true (by omega)
      have hkl : k < l.length := by have := HN.out; omega
      have hkL : k < L.length := by have := HLn.out; omega
      obtain ⟨b, off, rfl, hb, q0, q1, q2, q3, q4⟩ := wi_at (H.out.below Hw.out hB0) hkl
      have hxy := HM.out k _ _ (List.getElem?_eq_getElem hkl) (List.getElem?_eq_getElem hkL)
      have hY : L[k]? = some L[k] := List.getElem?_eq_getElem hkL
      have hsn := tB_snoc HG.out hY
      have hga := good_at [] L k _ HG.out hY
      have hle := tB_le (L := L) (k + 1)
      generalize l[k] = x at *
      generalize L[k] = y at *
      obtain ⟨xn, xk, xz, xs, xb⟩ := x
      obtain ⟨yn, yv⟩ := y
      obtain ⟨hnm, hval⟩ := hxy
      dsimp only at hnm hval q0 q1 q2 q3 q4 hsn hga
      subst hnm
      have HSN := hid hsn
      have HGA := hid hga.2
      have hsz : ob.size + xn.size + (shB yv).length ≤ 1000000 := by
        have h1 := HBd.out
        rw [hsn, List.length_append, List.length_append, List.length_append, ← HO.out] at hle
        have h2 : ob.data.toList.length = ob.size := rfl
        have h3 : xn.data.toList.length = xn.size := rfl
        omega
      have hobk : ob.size + (if k = 0 then 0 else 1) ≤ 1000000 := by
        have h1 := HBd.out
        rw [hsn, List.length_append, List.length_append, List.length_append, ← HO.out] at hle
        have h2 : ob.data.toList.length = ob.size := rfl
        split <;> rename_i h0
        · omega
        · rw [if_neg h0] at hle
          simp at hle
          omega
      clear hsn hga hle hY
      have K1 := hid (Blk.new wr 25 #[.string xn, .int .i64 xk, .int .i64 xz, .string xs, .bool xb])
      have B1 := hid (Hw.out.alloc Hw.out.size (.cells #[.string xn, .int .i64 xk, .int .i64 xz, .string xs, .bool xb] 25))
      go_upto_region 6 with (fail)
      have hg1 : wr.heap.size < (wr.alloc (.cells #[.string xn, .int .i64 xk, .int .i64 xz, .string xs, .bool xb] 25)).heap.size := by simp
      generalize wr.alloc (.cells #[.string xn, .int .i64 xk, .int .i64 xz, .string xs, .bool xb] 25) = w1 at *
      have p0 := K1.out.cell 0
      have p1 := K1.out.cell 1
      have p2 := K1.out.cell 2
      have p3 := K1.out.cell 3
      have p4 := K1.out.cell 4
      simp only [List.getElem?_toArray, List.getElem?_cons_zero, List.getElem?_cons_succ] at p0 p1 p2 p3 p4
      generalize wr.heap.size = g1 at *
      clear q0 q1 q2 q3 q4
      go_upto_if 19 with (fail)
      go_cut [3] from 18 to 21 (fun v wq => ∃ o1 : ByteArray, v = .string o1 ∧ o1.size = ob.size + (if k = 0 then 0 else 1) ∧ Hid (o1.data.toList = tB (L.take k) ++ (if k = 0 then [] else [44])) ∧ w1 = wq)
      · by_cases h0 : k = 0
        · have e0 : decide (0 < k) = false := decide_eq_false (by omega)
          have e0' : decide ((0 : Int) < (k : Int)) = false := decide_eq_false (by omega)
          try rw [e0]
          try rw [e0']
          go_wp2_with fail
          go_meet
          exact ⟨ob, rfl, by rw [if_pos h0]; rfl, hid (by rw [if_pos h0, List.append_nil]; exact HO.out), rfl⟩
        · have e0 : decide (0 < k) = true := decide_eq_true (by omega)
          have e0' : decide ((0 : Int) < (k : Int)) = true := decide_eq_true (by omega)
          try rw [e0]
          try rw [e0']
          have hcat : ¬ 9223372036854775807 < ob.size + 1 := by omega
          go_wp2_with fail
          go_meet
          exact ⟨ob ++ ⟨#[44]⟩, rfl, by rw [if_neg h0, ByteArray.size_append]; rfl, hid (by rw [if_neg h0, ByteArray.data_append, Array.toList_append, HO.out]), rfl⟩
      · obtain ⟨o1, rfl, ho1, HO1, rfl⟩ := hcut
        have ho1b : o1.size ≤ 1000001 := by rw [ho1]; split <;> omega
        have HO2 := hid (show tB (L.take (k + 1)) = o1.data.toList ++ (xn.data.toList ++ shB yv) from by rw [HSN.out, HO1.out, List.append_assoc])
        clear ho1 hobk
        have hc1 : ¬ 9223372036854775807 < o1.size + xn.size := by omega
        have hc2 : ¬ 9223372036854775807 < o1.size + xn.size + 1 := by omega
        cases yv with
        | n z =>
          obtain ⟨rfl, rfl⟩ := hval
          have hz : -999999999 ≤ xz ∧ xz ≤ 999999999 := HGA.out
          obtain ⟨dz, hdz⟩ : ∃ dz, dz = decZ xz := ⟨_, rfl⟩
          have hdl : ob.size + xn.size + (dz.length + 1) ≤ 1000000 := by rw [hdz]; exact hsz
          have hc3 : ¬ 9223372036854775807 < o1.size + xn.size + 1 + dz.length := by omega
          have RD := hid (fun W => hdz ▸ rdigits_any xz hz W)
          have HE := hid (show (o1 ++ xn ++ ⟨#[61]⟩ ++ ⟨dz.toArray⟩ : ByteArray).data.toList = tB (L.take (k + 1)) from by
            rw [HO2.out, show shB (.n xz) = 61 :: decZ xz from rfl, ← hdz]
            simp)
          have HES := hid (show (o1 ++ xn ++ ⟨#[61]⟩ ++ ⟨dz.toArray⟩ : ByteArray).size ≤ 1000000 from by
            have h1 := tB_le (L := L) (k + 1)
            rw [← HE.out] at h1
            exact Nat.le_trans h1 HBd.out)
          clear hdz hsz hdl
          go_wp2_with (go_at_call 29; refine (RD.out _).mono ?_; rintro e w' ⟨rfl, rfl⟩)
          exact ⟨⟨k + 1, _, by omega, by push_cast; rfl, rfl, HES.out, HE, B1⟩, by simp [intOf]; omega⟩
        | t b =>
          obtain ⟨rfl, rfl⟩ := hval
          cases xb with
          | false =>
            have hc3 : ¬ 9223372036854775807 < o1.size + xn.size + 6 := by omega
            have HE := hid (show (o1 ++ xn ++ ⟨#[61, 102, 97, 108, 115, 101]⟩ : ByteArray).data.toList = tB (L.take (k + 1)) from by
              rw [HO2.out, show shB (.t false) = 61 :: falseS from rfl]
              simp [falseS])
            have HES := hid (show (o1 ++ xn ++ ⟨#[61, 102, 97, 108, 115, 101]⟩ : ByteArray).size ≤ 1000000 from by
              have h1 := tB_le (L := L) (k + 1)
              rw [← HE.out] at h1
              exact Nat.le_trans h1 HBd.out)
            go_wp2_with fail
            exact ⟨⟨k + 1, _, by omega, by push_cast; rfl, rfl, HES.out, HE, B1⟩, by simp [intOf]; omega⟩
          | true =>
            have HE := hid (show (o1 ++ xn : ByteArray).data.toList = tB (L.take (k + 1)) from by
              rw [HO2.out, show shB (.t true) = [] from rfl]
              simp)
            have HES := hid (show (o1 ++ xn : ByteArray).size ≤ 1000000 from by
              have h1 := tB_le (L := L) (k + 1)
              rw [← HE.out] at h1
              exact Nat.le_trans h1 HBd.out)
            go_wp2_with fail
            exact ⟨⟨k + 1, _, by omega, by push_cast; rfl, rfl, HES.out, HE, B1⟩, by simp [intOf]; omega⟩
        | s y =>
          obtain ⟨rfl, rfl⟩ := hval
          have hwh : rnWhole xs = true := HGA.out
          have RP := hid (rplain_any xs hwh)
          by_cases hp : plainS xs = true
          · have hss : shB (.s xs) = 61 :: xs.data.toList := if_pos hp
            rw [hss] at hsz HO2
            have hxl : xs.data.toList.length = xs.size := rfl
            rw [List.length_cons] at hsz
            have hc3 : ¬ 9223372036854775807 < o1.size + xn.size + 1 + xs.size := by omega
            rw [hp] at RP
            have HE := hid (show (o1 ++ xn ++ ⟨#[61]⟩ ++ xs : ByteArray).data.toList = tB (L.take (k + 1)) from by
              rw [HO2.out]
              simp)
            have HES := hid (show (o1 ++ xn ++ ⟨#[61]⟩ ++ xs : ByteArray).size ≤ 1000000 from by
              have h1 := tB_le (L := L) (k + 1)
              rw [← HE.out] at h1
              exact Nat.le_trans h1 HBd.out)
            clear hsz hp hss hxl
            go_wp2_with (go_at_call 30; refine (RP.out _).mono ?_; rintro e w2 ⟨rfl, hB2⟩; have r3 := hB2.cell (p := ⟨g1, 3, none⟩) hg1; rw [p3] at r3; have hg2 : g1 < w2.heap.size := Nat.lt_of_lt_of_le hg1 hB2.size; have B2 := hid (B1.out.trans (hB2.mono B1.out.size)); clear hB2)
            exact ⟨⟨k + 1, _, by omega, by push_cast; rfl, rfl, HES.out, HE, B2⟩, by simp [intOf]; omega⟩
          · replace hp : plainS xs = false := by simpa using hp
            have hss : shB (.s xs) = 61 :: 34 :: (qL xs.data.toList ++ [34]) := if_neg (by rw [hp]; decide)
            rw [hss] at hsz HO2
            rw [hp] at RP
            rw [List.length_cons, List.length_cons, List.length_append] at hsz
            have hc3 : ¬ 9223372036854775807 < o1.size + xn.size + 2 := by omega
            have HWh := hid hwh
            clear hp hss hwh
            go_upto_region 11 with (go_at_call 30; refine (RP.out _).mono ?_; rintro e w2 ⟨rfl, hB2⟩; have r3 := hB2.cell (p := ⟨g1, 3, none⟩) hg1; rw [p3] at r3; have hg2 : g1 < w2.heap.size := Nat.lt_of_lt_of_le hg1 hB2.size; have B2 := hid (B1.out.trans (hB2.mono B1.out.size)); clear hB2)
            have hit : (w2.iter xs 0).heap[w2.heap.size]? = some (.stringIter xs 0) := World.alloc_heap_new w2 _
            have hb0 : Below W.heap.size W (w2.iter xs 0) := B2.out.alloc B2.out.size (.stringIter xs 0)
            obtain ⟨gi, hgi⟩ : ∃ gi, gi = w2.heap.size := ⟨_, rfl⟩
            have hgi2 : W.heap.size ≤ gi := by rw [hgi]; exact B2.out.size
            rw [← hgi] at hit ⊢
            have Hit := hid hit
            have Hb0 := hid hb0
            have hle1 := tB_le (L := L) (k + 1)
            have HT0 := hid (show (o1 ++ xn ++ ⟨#[61, 34]⟩ : ByteArray).data.toList ++ ((tilR (rnFrom xs (xs.size + 1) 0)).flatMap enc ++ [34]) = tB (L.take (k + 1)) from by
              rw [HO2.out, ← whole_list HWh.out, qL_runes _ (rnL_vr xs)]
              show _ ++ ((tilR (rnL xs)).flatMap enc ++ [34]) = _
              simp)
            have HT1 := hid (show (o1 ++ xn ++ ⟨#[61, 34]⟩ : ByteArray).size ≤ 1000000 from by
              have h1 := congrArg List.length HT0.out
              rw [List.length_append] at h1
              exact Nat.le_trans (by show (o1 ++ xn ++ ⟨#[61, 34]⟩ : ByteArray).data.toList.length ≤ _; omega) (Nat.le_trans hle1 HBd.out))
            generalize w2.iter xs 0 = w0 at *
            clear hgi hit hb0 hle1
            go_loopw [3, 7] (fun v u wq => ∃ (oc : ByteArray) (pos f : Nat), v = .string oc ∧ oc.size ≤ 1000000 ∧ xs.size - pos < f ∧ Hid (oc.data.toList ++ ((tilR (rnFrom xs f pos)).flatMap enc ++ [34]) = tB (L.take (k + 1))) ∧ Hid (rnW xs f pos = true) ∧ Hid (wq.heap[gi]? = some (.stringIter xs pos)) ∧ Hid (Below W.heap.size W wq)) (fun _ _ wq => xs.size - posOf wq gi)
            case atStart => exact ⟨_, 0, xs.size + 1, rfl, HT1.out, by omega, HT0, hid HWh.out, Hit, Hb0⟩
            case round =>
              obtain ⟨oc, pos, f, rfl, hoc, hf, HR, HV, Hi, B⟩ := hrel
              obtain ⟨f1, hf1⟩ : ∃ f1, f = f1 + 1 := ⟨f - 1, by omega⟩
              by_cases hp : pos < xs.size
              · obtain ⟨rr, hrr⟩ : ∃ rr : Int, rr = ((Utf8.decode xs pos).1 : Int) := ⟨_, rfl⟩
                obtain ⟨np, hnp⟩ : ∃ np, np = pos + (Utf8.decode xs pos).2 := ⟨_, rfl⟩
                obtain ⟨w3, hw3⟩ : ∃ w3, w3 = wr.iterAt gi xs np := ⟨_, rfl⟩
                have hnx : ∀ ty, (Instr.next (.pointer (some ⟨gi, 0, none⟩)) true ty).run Tryz.prog wr = .ok (.tuple #[.bool true, .int .i64 pos, .int .i32 rr]) w3 := fun ty => by
                  rw [hw3, hnp, hrr]
                  exact run_next_any_at wr gi xs pos ty Hi.out hp
                have hit1 := hid (show w3.heap[gi]? = some (.stringIter xs np) by rw [hw3]; exact iterAt_heap wr gi xs pos np Hi.out)
                have hg1' : wr.grownBy w3 (some gi) := by rw [hw3]; exact ⟨rfl, rfl, rfl, by rw [iterAt_size]; exact Nat.le_refl _, fun i _ hne => iterAt_other wr gi i xs np (fun e => hne (by rw [e]))⟩
                have B3 := hid (below_other B.out hg1' B.out.size (fun r e => by injection e with e; omega))
                have hps := dec_pos hp
                have hok : okAt xs pos = true := by
                  have h := HV.out
                  rw [hf1, rnW, if_pos hp] at h
                  cases ho : okAt xs pos
                  · rw [ho] at h; cases h
                  · rfl
                have HV1 := hid (show rnW xs f1 np = true from by
                  have h := HV.out
                  rw [hf1, rnW, if_pos hp, if_pos hok] at h
                  rw [hnp]
                  exact h)
                have HEQ := hid (show oc.data.toList ++ (((if rr = 34 ∨ rr = 126 then [126, rr] else [rr]) ++ tilR (rnFrom xs f1 np)).flatMap enc ++ [34]) = tB (L.take (k + 1)) from by
                  rw [← HR.out, hf1, show rnFrom xs (f1 + 1) pos = ((Utf8.decode xs pos).1 : Int) :: rnFrom xs f1 (pos + (Utf8.decode xs pos).2) from by rw [rnFrom, if_pos ⟨hp, hok⟩], tilR_cons, hrr, hnp])
                have hnf : xs.size - np < f1 := by omega
                have Hms := hid (show xs.size - posOf w3 gi < xs.size - posOf wr gi from by rw [posOf_of hit1.out, posOf_of Hi.out]; omega)
                obtain ⟨eb, heb⟩ : ∃ eb, eb = Utf8.encode rr := ⟨_, rfl⟩
                have Heb := hid (show eb.data.toList = enc rr from by rw [heb]; rfl)
                have hebs : eb.size ≤ 4 := by rw [heb]; exact encode_size_le rr
                have cvt : ∀ w, (Go.convert 21 9 (.int .i32 rr)).run Tryz.prog w = .ok (.string eb) w := fun w => by rw [heb]; exact run_convert_rune w _
                have hcA : ¬ 9223372036854775807 < oc.size + 1 := by omega
                have hcB : ¬ 9223372036854775807 < oc.size + 1 + eb.size := by omega
                have hcC : ¬ 9223372036854775807 < oc.size + eb.size := by omega
                clear hrr hnp hg1' hf1 hf HR HV Hi B hps hw3 hok heb
                by_cases h34 : rr = 34
                · skip
                  have e34 : (rr == 34) = true := by rw [beq_iff_eq]; exact h34
                  skip
                  have HE1 := hid (show (oc ++ ⟨#[126]⟩ ++ eb : ByteArray).data.toList ++ ((tilR (rnFrom xs f1 np)).flatMap enc ++ [34]) = tB (L.take (k + 1)) from by
                    rw [← HEQ.out, if_pos (.inl h34)]
                    simp [← Heb.out, enc_126])
                  have HS1 := hid (show (oc ++ ⟨#[126]⟩ ++ eb : ByteArray).size ≤ 1000000 from by
                    have h1 := congrArg List.length HE1.out
                    rw [List.length_append] at h1
                    exact Nat.le_trans (by show (oc ++ ⟨#[126]⟩ ++ eb : ByteArray).data.toList.length ≤ _; omega) (Nat.le_trans (tB_le (L := L) (k + 1)) HBd.out))
                  clear h34
                  go_wp2_with fail
                  exact ⟨⟨_, np, f1, rfl, HS1.out, hnf, HE1, HV1, hit1, B3⟩, Hms.out⟩
                by_cases h126 : rr = 126
                · skip
                  have e126 : (rr == 126) = true := by rw [beq_iff_eq]; exact h126
                  have e34 : (rr == 34) = false := by rw [beq_eq_false_iff_ne]; exact h34
                  have HE1 := hid (show (oc ++ ⟨#[126]⟩ ++ eb : ByteArray).data.toList ++ ((tilR (rnFrom xs f1 np)).flatMap enc ++ [34]) = tB (L.take (k + 1)) from by
                    rw [← HEQ.out, if_pos (.inr h126)]
                    simp [← Heb.out, enc_126])
                  have HS1 := hid (show (oc ++ ⟨#[126]⟩ ++ eb : ByteArray).size ≤ 1000000 from by
                    have h1 := congrArg List.length HE1.out
                    rw [List.length_append] at h1
                    exact Nat.le_trans (by show (oc ++ ⟨#[126]⟩ ++ eb : ByteArray).data.toList.length ≤ _; omega) (Nat.le_trans (tB_le (L := L) (k + 1)) HBd.out))
                  clear h126
                  go_wp2_with fail
                  exact ⟨⟨_, np, f1, rfl, HS1.out, hnf, HE1, HV1, hit1, B3⟩, Hms.out⟩
                · skip
                  have e34 : (rr == 34) = false := by rw [beq_eq_false_iff_ne]; exact h34
                  have e126 : (rr == 126) = false := by rw [beq_eq_false_iff_ne]; exact h126
                  have HE1 := hid (show (oc ++ eb : ByteArray).data.toList ++ ((tilR (rnFrom xs f1 np)).flatMap enc ++ [34]) = tB (L.take (k + 1)) from by
                    rw [← HEQ.out, if_neg (by rintro (h | h); exact h34 h; exact h126 h)]
                    simp [← Heb.out])
                  have HS1 := hid (show (oc ++ eb : ByteArray).size ≤ 1000000 from by
                    have h1 := congrArg List.length HE1.out
                    rw [List.length_append] at h1
                    exact Nat.le_trans (by show (oc ++ eb : ByteArray).data.toList.length ≤ _; omega) (Nat.le_trans (tB_le (L := L) (k + 1)) HBd.out))
                  clear h34 h126
                  go_wp2_with fail
                  exact ⟨⟨_, np, f1, rfl, HS1.out, hnf, HE1, HV1, hit1, B3⟩, Hms.out⟩
              · have hnx : ∀ ty, (Instr.next (.pointer (some ⟨gi, 0, none⟩)) true ty).run Tryz.prog wr = _ := fun ty => run_next_end_at wr gi xs pos ty Hi.out hp
                have HE := hid (show (oc ++ ⟨#[34]⟩ : ByteArray).data.toList = tB (L.take (k + 1)) from by
                  rw [← HR.out, hf1, show rnFrom xs (f1 + 1) pos = [] from by rw [rnFrom, if_neg (fun h => hp h.1)]]
                  simp [tilR])
                have HES := hid (show (oc ++ ⟨#[34]⟩ : ByteArray).size ≤ 1000000 from by
                  have h1 := tB_le (L := L) (k + 1)
                  rw [← HE.out] at h1
                  exact Nat.le_trans h1 HBd.out)
                have hcA : ¬ 9223372036854775807 < oc.size + 1 := by omega
                go_wp2_with fail
                exact ⟨⟨k + 1, _, by omega, by push_cast; rfl, rfl, HES.out, HE, B⟩, by simp [intOf]; omega⟩
    · have d1 : decide (k < n) = false := decide_eq_false hlt
      have d2 : decide ((k : Int) < (n : Int)) = false := decide_eq_false (by omega)
      have hkn : k = n := by omega
      go_wp2_with fail
      go_ret
      refine ⟨?_, Hw.out⟩
      have e : ob = runesBytes (txF true L) := ba_ext (by rw [HO.out, rb_list, hkn, HN.out, HLn.out, List.take_length]; rfl)
      rw [e]
      rfl
end Go.Proofs.YtfcppchjikmioaaGreat
