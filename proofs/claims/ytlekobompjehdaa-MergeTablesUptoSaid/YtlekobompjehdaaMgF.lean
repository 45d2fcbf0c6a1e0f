/-
  merge.best: the lengths.
-/
import Derived.Test.YtlekobompjehdaaMgD
import Derived.Test.YtlekobompjehdaaMgE
import Derived.Test.YtlekobompjehdaaMgH
namespace Go.Proofs.Ytlekobompjehdaa
open Go.RowKit Mg

/-- a pointer that leads elsewhere -/
def AV (g : Nat) (A : Option Addr) (n : Nat) : Prop := 0 < n → ∀ a, A = some a → a.block ≠ g
theorem AV.of_rd {w : World} {g size n : Nat} {A : Option Addr} {xs : List Value} (h : Rd w g size A n xs) (hs : 0 < size) : AV g A n := by
  intro hn a ha
  obtain ⟨b, off, hA, hb, _⟩ := h.at_ (k := 0) hn hs
  rw [hA] at ha
  injection ha with ha
  subst ha
  exact Nat.ne_of_lt hb
theorem AV.of_own {w : World} {g base : Nat} {e : TypeId} {size n c : Nat} {A : Option Addr} {xs : List Value} (h : w.ownsRow base e size (.slice A n c) n xs) (hg : g < base) : AV g A n := by
  intro hn a ha
  obtain ⟨b, hA, hb, _⟩ := own_block h hn
  rw [hA] at ha
  injection ha with ha
  subst ha
  exact Nat.ne_of_gt (Nat.lt_of_lt_of_le hg hb)
theorem AV.keep {w w' : World} {g B size n : Nat} {A : Option Addr} {xs : List Value} (h : Rd w B size A n xs) (ha : AV g A n) (hg : w.grownBy w' (some g)) (hB : B ≤ w.heap.size) : Rd w' B size A n xs := by
  refine ⟨h.1, fun hn => ?_⟩
  obtain ⟨b, off, hA, hb, hc⟩ := h.2 hn
  refine ⟨b, off, hA, hb, fun j u hu => ?_⟩
  have hne := ha (by
    rcases Nat.eq_zero_or_pos n with h0 | h0
    · exfalso
      subst h0
      have := h.1
      omega
    · exact h0) _ hA
  have e := hg.block b (by omega) (fun e => hne (by injection e))
  rw [← hc j u hu]
  exact World.cell?_of_block (a := ⟨b, off + j, none⟩) e
/-- a row that can be read, with its symbols; not in block g -/
structure RRow (w W : World) (g : Nat) (R : Option Addr) (Y : List IR) : Prop where
  row : Rd w w.heap.size 2 R Y.length (fl Y)
  sym : ∀ y ∈ Y, RdI w w.heap.size y.A (ints y.it.s)
  old : Below W.heap.size W w
  av : AV g R Y.length
  avs : ∀ y ∈ Y, AV g y.A (ints y.it.s).length
theorem RRow.below {w w' W : World} {g : Nat} {R : Option Addr} {Y : List IR} (h : RRow w W g R Y) (hb : Below w.heap.size w w') : RRow w' W g R Y :=
  ⟨(Rd.below h.row hb (Nat.le_refl _)).more hb.size, fun y hy => ((h.sym y hy).below hb (Nat.le_refl _)).more hb.size, h.old.trans (hb.mono h.old.size), h.av, h.avs⟩
theorem own_syms {w : World} {base : Nat} {x : IR} (h : SOwn w base x) : RdI w w.heap.size x.A (ints x.it.s) := by
  have e : (ints x.it.s).length = x.it.s.length := by simp [ints]
  apply own_rdi (base := base) (c := x.c)
  rw [e]
  exact h
theorem own_ri {w W : World} {A : Option Addr} {c : Nat} {X : List IR} (h : IOwn w W A c X) : Rd w w.heap.size 2 A X.length (fl X) := own_rd h.row
theorem own_av {w : World} {g base : Nat} {x : IR} (h : SOwn w base x) (hg : g < base) : AV g x.A (ints x.it.s).length := by
  have e : (ints x.it.s).length = x.it.s.length := by simp [ints]
  rw [e]
  exact AV.of_own h hg
/-- the two rows that are joined -/
theorem parts_two {w : World} {g : Nat} {A B : Option Addr} {c d : Nat} {X Y : List IR} (hg : Blk w g 86 #[.slice A X.length c, .slice B Y.length d]) (hx : Rd w w.heap.size 2 A X.length (fl X)) (hy : Rd w w.heap.size 2 B Y.length (fl Y)) : PartsCM w w.heap.size g [(A, X.length, c), (B, Y.length, d)] [fl X, fl Y] := by
  have one : ∀ Z : List IR, ∀ u ∈ fl Z, u.oneCell' = true := by
    intro Z u hu
    obtain ⟨z, _, hz⟩ := List.mem_flatMap.1 hu
    rcases List.mem_cons.1 hz with rfl | hz
    · rfl
    · rw [List.mem_singleton.1 hz]; rfl
  refine ⟨hg, rfl, fun k s l h1 h2 => ?_⟩
  match k, h1, h2 with
  | 0, h1, h2 =>
    simp only [List.getElem?_cons_zero, Option.some.injEq] at h1 h2
    subst h1 h2
    exact ⟨hx, one _⟩
  | 1, h1, h2 =>
    simp only [List.getElem?_cons_zero, List.getElem?_cons_succ, Option.some.injEq] at h1 h2
    subst h1 h2
    exact ⟨hy, one _⟩
  | k + 2, h1, h2 => simp at h1
/-- a joined row, sorted -/
theorem RRow.sorted {w3 w4 W : World} {A3 : Option Addr} {c3 base g : Nat} {V V' : List IR} (hs : ∀ y ∈ V, RdI w3 base y.A (ints y.it.s)) (hv : ∀ y ∈ V, AV g y.A (ints y.it.s).length) (h1 : Bub V V') (h3 : IRow w4 base A3 c3 V') (h4 : w3.grownBy w4 (Value.slice A3 V.length c3).ownBlock) (hI : IRow w3 base A3 c3 V) (hb : base ≤ w3.heap.size) (hW : W.heap.size ≤ base) (hg : g < base) (ho : Below W.heap.size W w3) : RRow w4 W g A3 V' := by
  refine ⟨own_rd h3, fun y hy => ?_, ?_, AV.of_own h3 hg, fun y hy => hv y (h1.perm.mem_iff.1 hy)⟩
  · have hy := h1.perm.mem_iff.1 hy
    refine RdI.more (Rd.grown (hs y hy) h4 hb (fun k hk => ?_)) (Nat.le_trans hb h4.size)
    rcases hI.2 with ⟨hv, _⟩ | ⟨k', cap, cur, hv, hkb, _⟩
    · rw [hv] at hk; simp [Value.ownBlock] at hk
    · rw [hv] at hk
      have : k' = k := by simpa [Value.ownBlock] using hk
      omega
  · exact ho.trans (grown_below h4 (own_base hI hW) ho.size)
/-- a row's symbols are the list's -/
theorem row_sy {l : List It} : ∀ (k : Nat) (r : List It), RowOf l k r → ∀ s, s ∈ sy r → s ∈ sy l
  | 0, r, h, s, hs => by
    have h : r = l := h
    rwa [h] at hs
  | k + 1, r, ⟨r0, h0, hst⟩, s, hs => by
    have hs := (sy_perm hst.perm).mem_iff.1 hs
    rw [sy_app] at hs
    rcases List.mem_append.1 hs with hs | hs
    · exact hs
    · refine row_sy k r0 h0 s ?_
      unfold sy at hs ⊢
      rw [List.mem_flatMap] at hs ⊢
      obtain ⟨P, hP, hs⟩ := hs
      obtain ⟨c, d, hc, hd, rfl⟩ := pk_from r0 P hP
      rcases List.mem_append.1 hs with hs | hs
      · exact ⟨c, hc, hs⟩
      · exact ⟨d, hd, hs⟩
/-- counts in block g -/
def CW (w w0 : World) (g n : Nat) (L : List Nat) : Prop := Blk w g 3 (intRow n (fun k => (L.count k : Int))) ∧ w0.grownBy w (some g)
theorem grown_set1 {w w0 : World} {g : Nat} (h : w0.grownBy w (some g)) (i : Nat) (u : Value) : w0.grownBy (w.setCell ⟨g, i, none⟩ u) (some g) :=
  ⟨h.os, h.tape, h.output, by simpa using h.size, fun k hk hr => (Below.heap_setCell w ⟨g, i, none⟩ u k (fun e => hr (by rw [e]))).trans (h.block k hk hr)⟩
theorem grown_below1 {w w' w0 : World} {g : Nat} (h : w0.grownBy w (some g)) (hb : Below w.heap.size w w') : w0.grownBy w' (some g) :=
  ⟨hb.os.trans h.os, hb.tape.trans h.tape, hb.output.trans h.output, Nat.le_trans h.size hb.size, fun k hk hr => (hb.block k (by have := h.size; omega)).trans (h.block k hk hr)⟩
theorem CW.below {w w' w0 : World} {g n : Nat} {L : List Nat} (h : CW w w0 g n L) (hb : Below w.heap.size w w') : CW w' w0 g n L := ⟨h.1.below hb h.1.lt, grown_below1 h.2 hb⟩
theorem intRow_set (n : Nat) (f f' : Nat → Int) (s : Nat) (v : Int) (hs : f' s = v) (h : ∀ k, k ≠ s → f' k = f k) : (intRow n f).setIfInBounds s (.int .i64 v) = intRow n f' := by
  unfold intRow
  rw [List.setIfInBounds_toArray]
  congr 1
  apply List.ext_getElem?
  intro k
  rw [List.getElem?_set]
  by_cases e : s = k
  · subst e
    rw [if_pos rfl]
    by_cases hk : s < n
    · simp [hk, hs]
    · simp [hk]
  · rw [if_neg e]
    by_cases hk : k < n
    · simp [hk, h k (fun h => e h.symm)]
    · simp [hk]
theorem CW.put {w w0 : World} {g n : Nat} {L : List Nat} (h : CW w w0 g n L) (s : Nat) : CW (w.setCell ⟨g, s, none⟩ (.int .i64 ((L.count s : Int) + 1))) w0 g n (L ++ [s]) := by
  refine ⟨?_, grown_set1 h.2 _ _⟩
  have h1 := h.1.set_ s (.int .i64 ((L.count s : Int) + 1))
  rw [intRow_set n _ (fun k => ((L ++ [s]).count k : Int)) s _ (by rw [List.count_append]; simp) (fun k hk => by rw [List.count_append, List.count_singleton, if_neg (by simpa using fun e => hk e.symm)]; rfl)] at h1
  exact h1
def BestEnd (L : List Int) (W : World) (e : Ending) (w' : World) : Prop := ∃ A' c', e = .returned (.slice A' L.length c') ∧ w'.ownsRow W.heap.size 3 1 (.slice A' L.length c') L.length (intsV L) ∧ Below W.heap.size W w'
theorem replicate_row (n : Nat) : Array.replicate n (Value.int .i64 0) = intRow n (fun k => (([] : List Nat).count k : Int)) := by
  unfold intRow
  apply Array.ext'
  simp [List.map_const']
theorem own_counts {w w0 W : World} {n : Nat} {L : List Nat} (h : CW w w0 W.heap.size n L) (hn : n ≤ 1000000) {M : List Int} (hM : M = (List.range n).map fun s => (L.count s : Int)) : w.ownsRow W.heap.size 3 1 (.slice (some ⟨W.heap.size, 0, none⟩) n n) M.length (intsV M) := by
  have hl : M.length = n := by rw [hM]; simp
  refine ⟨by simp [intsV], .inr ⟨W.heap.size, n, _, by rw [hl], Nat.le_refl _, h.1, by omega, by simp only [maxLen]; omega, ?_, ?_⟩⟩
  · simp [intRow]
  · rw [hM]
    simp [intRow, intsV, List.take_of_length_le]
structure BestIn (l : List It) (n K : Nat) : Prop where
  gl : GL l
  long : l.length ≤ 300
  wide : l.length ≤ 2 ^ (K + 1)
  high : K ≤ 15
  size : n ≤ 1000000
  sum : ws l ≤ 1000000000000000
  sym : ∀ s ∈ sy l, s < n
set_option maxRecDepth 100000 in
set_option maxHeartbeats 4000000 in
theorem best_many (A : Option Addr) (c n K : Nat) (X : List IR) (W : World) (h : RRow W W W.heap.size A X) (hc : X.length ≤ c) (hn1 : X.length ≠ 1) (hB : BestIn (X.map (·.it)) n K) :
    Calls Try.prog 48 #[.slice A X.length c, .int .i64 (n : Nat), .int .i64 ((K + 1 : Nat) : Int)] W (BestEnd (bestLs (X.map (·.it)) K n) W) := by
  obtain ⟨i0, hi0, hz0, hz1, hz2⟩ := info_parts int_info
  have hn := hB.size
  have hx : X.length ≤ 300 := by have := hB.long; rwa [List.length_map] at this
  have hK := hB.high
  have Hmk := hid (show ∀ w : World, (Instr.makeSlice 22 (.int .i64 (n : Int)) (.int .i64 (n : Int))).run Try.prog w = .ok (.slice (some ⟨w.heap.size, 0, none⟩) n n) (w.alloc (.cells (List.replicate n (Value.int .i64 0)).toArray 3)) from by
    intro w
    have h := run_make (P := Try.prog) w 22 3 i0 (.int .i64 0) Try.underlying22 hi0 hz0 .i64 .i64 (n : Int) (n : Int) (by omega) (by omega) (by rw [hz2]; omega) (by omega)
    rw [hz1, made_list _ _ rfl] at h
    exact h)
  clear hi0 hz0 hz1 hz2
  have H := hid h
  have Hc := hid hc
  have HB := hid hB
  clear h hc hB
  have d0 : ((X.length : Int) == 1) = false := by rw [beq_eq_false_iff_ne]; omega
  have t0 : IntKind.i64.wrap (((K + 1 : Nat) : Int) - 1) = (K : Int) := (IntWalk.i64_in _ (by omega)).trans (by omega)
  generalize hk1 : K + 1 = K1 at *
  have Hk1 := hid hk1
  clear hk1
  go_enter Try.func48, Try.ntmps48
  have hmk := Hmk.out
  go_upto_region 7 with (fail)
  have H1 := hid (H.out.below ((Below.refl _ _).alloc (Nat.le_refl _) (.cells (List.replicate n (Value.int .i64 0)).toArray 3)))
  have G1 := hid (show Blk (W.alloc (.cells (Array.replicate n (Value.int .i64 0)) 3)) W.heap.size 3 (intRow n (fun k => (([] : List Nat).count k : Int))) from by rw [← replicate_row]; exact Blk.new _ _ _)
  rw [show (List.replicate n (Value.int .i64 0)).toArray = Array.replicate n (Value.int .i64 0) by simp] at H1
  obtain ⟨g, hg⟩ : ∃ g, g = W.heap.size := ⟨_, rfl⟩
  have hg1 : g < (W.alloc (.cells (Array.replicate n (Value.int .i64 0)) 3)).heap.size := by rw [World.size_alloc]; omega
  have BW := hid (show Below g W (W.alloc (.cells (Array.replicate n (Value.int .i64 0)) 3)) from (Below.refl _ _).alloc (by omega) _)
  rw [← hg] at H1 G1
  generalize W.alloc (.cells (Array.replicate n (Value.int .i64 0)) 3) = w1 at *
  rw [← hg]
  have Hg := hid hg
  clear hg
  go_loopw [8, 30] (fun r k wr => ∃ (j : Nat) (R : Option Addr) (rc : Nat) (Y : List IR), j ≤ K ∧ k = .int .i64 j ∧ r = .slice R Y.length rc ∧ Y.length ≤ rc ∧ RowOf (X.map (·.it)) j (Y.map (·.it)) ∧ RRow wr w1 g R Y) (fun _ k _ => K - (intOf k).toNat)
  case atStart => exact ⟨0, A, c, X, by omega, rfl, rfl, Hc.out, rfl, ⟨H1.out.row, H1.out.sym, Below.refl _ _, H1.out.av, H1.out.avs⟩⟩
  case round =>
    obtain ⟨j, R, rc, Y, hj, rfl, rfl, hrc, hR, hO⟩ := hrel
    have hRB := row_b HB.out.gl.nonneg j _ hR
    have B1 : Y.length ≤ 600 := by
      have := hRB.len
      rw [List.length_map, List.length_map] at this
      omega
    have B4 : (sy (Y.map (·.it))).length ≤ 4800 := by
      have h1 := hRB.syms
      have h2 : (sy (X.map (·.it))).length ≤ 300 := by
        have e : (sy (X.map (·.it))).length = (X.map (·.it)).length := by
          have := sy_single HB.out.gl.single (fun _ => 1)
          have one : ∀ m, SN m (fun _ => 1) = m := fun m => by induction m with | zero => rfl | succ m ih => simp only [SN]; rw [ih]
          rw [one] at this
          rw [← this, List.map_const', List.sum_replicate_nat, Nat.mul_one]
        rw [e, List.length_map]; omega
      have : (j + 1) * (sy (X.map (·.it))).length ≤ 16 * 300 := Nat.mul_le_mul (by omega) h2
      omega
    have HR := hid hR
    have O := hid hO
    have Hrc := hid hrc
    have H4 := hid B4
    clear hR hO hrc
    by_cases hlt : j < K
    · have d1 : decide (j < K) = true := decide_eq_true hlt
      have B2 : ∀ y ∈ Y, y.it.s.length ≤ 100000 := fun y hy => by
        have := it_le (List.mem_map_of_mem (f := (·.it)) hy)
        omega
      have B3 : ∀ y ∈ Y, 0 ≤ y.it.w ∧ y.it.w ≤ 1000000000000000000 := fun y hy => by
        have hm := List.mem_map_of_mem (f := (·.it)) hy
        have h1 := w_le hm hRB.nonneg
        have h2 := hRB.sum
        have h3 := hRB.nonneg _ hm
        have h4 := HB.out.sum
        have h5 : 0 ≤ ws (X.map (·.it)) := ws_nn HB.out.gl.nonneg
        have h6 : ((j + 1 : Nat) : Int) * ws (X.map (·.it)) ≤ 16 * 1000000000000000 := Int.mul_le_mul (by omega) h4 h5 (by omega)
        omega
      have B2 := hid B2
      have B3 := hid B3
      clear hRB
      go_wp2_with fail
      refine (packages_any R rc Y wr O.out.row O.out.sym (by omega) B2.out B3.out).mono ?_
      rintro e w2 ⟨A2, c2, Z, rfl, hZ, hI⟩
      have HZ := hid hZ
      have I2 := hid hI
      clear hZ hI
      have hs1 := O.out.old.size
      have hs2 : wr.heap.size ≤ w2.heap.size := I2.out.old.size
      have HX2 := hid (H1.out.below (O.out.old.trans (I2.out.old.mono O.out.old.size)))
      obtain ⟨V, hV⟩ : ∃ V, V = X ++ Z := ⟨_, rfl⟩
      obtain ⟨base, hbase⟩ : ∃ base, base = (w2.alloc (.cells #[.slice A X.length c, .slice A2 Z.length c2] 86)).heap.size := ⟨_, rfl⟩
      have hbs : base = w2.heap.size + 1 := by rw [hbase, World.size_alloc]
      have BA := hid (show Below w2.heap.size w2 (w2.alloc (.cells #[.slice A X.length c, .slice A2 Z.length c2] 86)) from (Below.refl _ _).alloc (Nat.le_refl _) _)
      have HP := hid (parts_two (Blk.new w2 86 #[.slice A X.length c, .slice A2 Z.length c2]) (HX2.out.below BA.out).row ((Rd.below (own_ri I2.out) BA.out (Nat.le_refl _)).more BA.out.size))
      have hVl : V.length ≤ 600 := by
        have h1 := congrArg List.length HZ.out
        rw [List.length_map, pk_len, List.length_map] at h1
        rw [hV, List.length_append]
        omega
      have HF := hid (show [fl X, fl Z].flatten.length = V.length * 2 by rw [hV, ← fl_len, fl_app]; simp)
      have HV := hid hV
      have Hbs := hid hbs
      have Hbase := hid hbase
      clear hV hbs hbase
      go_wp2_with fail
      refine (concatM_any w2.heap.size 2 V.length [(A, X.length, c), (A2, Z.length, c2)] [fl X, fl Z] _ HP.out (by show 2 ≤ 1000000; omega) HF.out (by omega)).mono ?_
      rintro e w3 ⟨A3, c3, rfl, ho3, hb3⟩
      rw [← Hbase.out] at ho3 hb3
      have I3 := hid (show IRow w3 base A3 c3 V from by
        have e : [fl X, fl Z].flatten = fl V := by rw [HV.out, fl_app]; simp
        rw [e] at ho3
        exact ho3)
      have B3' := hid hb3
      clear ho3 hb3
      go_wp2_with fail
      refine (sort_any base A3 c3 V _ I3.out (by omega)).mono ?_
      rintro e w4 ⟨rfl, V', h1, h2, h3, h4⟩
      have R := hid (show RowOf (X.map (·.it)) (j + 1) (V'.map (·.it)) ∧ RRow w4 w1 g A3 V' ∧ V.length = V'.length ∧ V'.length ≤ c3 from by
        have hb2 := Hbs.out
        have hb3 := B3'.out
        have hsz := hb3.size
        refine ⟨⟨_, HR.out, ?_⟩, RRow.sorted (base := base) (V := V) ?_ ?_ h1 h3 h4 I3.out ?_ ?_ ?_ ?_, h1.len.symm, ?_⟩
        · have e : X.map (·.it) ++ pk (Y.map (·.it)) = V.map (·.it) := by rw [HV.out, List.map_append, HZ.out]
          rw [e]
          exact h1.st h2
        · intro y hy
          rw [HV.out] at hy
          have q : RdI w2 w2.heap.size y.A (ints y.it.s) := by
            rcases List.mem_append.1 hy with hy | hy
            · exact HX2.out.sym y hy
            · exact own_syms (I2.out.sym y hy)
          have q2 := (q.below BA.out (Nat.le_refl _)).more (B' := base) (by rw [Hbs.out]; omega)
          exact q2.below hb3 (Nat.le_refl _)
        · intro y hy
          rw [HV.out] at hy
          rcases List.mem_append.1 hy with hy | hy
          · exact HX2.out.avs y hy
          · exact own_av (I2.out.sym y hy) (by omega)
        · rw [Hbase.out]; exact hsz
        · rw [Hbs.out]; omega
        · rw [Hbs.out]; omega
        · have q := (O.out.old.trans (I2.out.old.mono O.out.old.size)).trans (BA.out.mono (by omega))
          exact q.trans (hb3.mono (by rw [Hbs.out]; omega))
        · have := (own_form h3)
          obtain ⟨_, _, hv, hn⟩ := this
          injection hv with _ _ hv
          rw [hv]; exact hn)
      clear h1 h2 h3 h4
      go_wp2
      go_roundw
      case rel => exact ⟨j + 1, A3, c3, V', by omega, by go_num, by rw [R.out.2.2.1], R.out.2.2.2, R.out.1, R.out.2.1⟩
      case measure => simp [intOf]; omega
    · obtain rfl : j = K := by omega
      obtain ⟨q, hq⟩ : ∃ q, q = 2 * X.length - 2 := ⟨_, rfl⟩
      have hqY : q ≤ Y.length := by
        by_cases h0 : X.length = 0
        · omega
        · have h1 := (whole HB.out.gl j _ HR.out (by rw [List.length_map]; omega) HB.out.wide).1
          rw [List.length_map, List.length_map] at h1
          omega
      obtain ⟨z, hz⟩ : ∃ z : Int, z = 2 * (X.length : Int) - 2 := ⟨_, rfl⟩
      have a1 : IntKind.i64.wrap (2 * (X.length : Int)) = ((2 * X.length : Nat) : Int) := (IntWalk.i64_in _ (by omega)).trans (by omega)
      have a2 : IntKind.i64.wrap (((2 * X.length : Nat) : Int) - 2) = z := (IntWalk.i64_in _ (by omega)).trans (by omega)
      have a3 : (if z < 0 then (0 : Int) else z) = (q : Int) := by split <;> omega
      have Hq := hid hq
      have Hz := hid hz
      clear hq hz hRB
      go_upto_region 11 with (fail)
      go_cut [46, 47, 48] from 40 to 48 (fun s l k wq => s = .slice R q rc ∧ l = .int .i64 q ∧ k = .int .i64 0 ∧ wr = wq)
      case first =>
        have hq0 := Hq.out
        have hrc := Hrc.out
        by_cases h0 : X.length = 0
        · have hp2 : 2 * (X.length : Int) - 2 < 0 := by omega
          have H0 := hid h0
          clear hq0 hrc h0
          go_wp2
          go_meet
          have e0 : q = 0 := by have := Hq.out; have := H0.out; omega
          subst e0
          exact ⟨rfl, rfl, rfl, rfl⟩
        · have hp : 2 ≤ 2 * (X.length : Int) ∧ 2 * (X.length : Int) - 2 ≤ rc := by omega
          have hp2 : ¬ 2 * (X.length : Int) - 2 < 0 := by omega
          clear hq0 hrc
          go_wp2
          go_meet
          rw [Hq.out]
          exact ⟨rfl, rfl, rfl, rfl⟩
      case rest =>
        obtain ⟨rfl, rfl, rfl, rfl⟩ := hcut
        clear a1 a2 a3
        generalize wr = wk at *
        have HqY := hid hqY
        have hgk : g < wk.heap.size := by have := O.out.old.size; omega
        go_upto_region 12 with (fail)
        go_loopw [48] (fun k wq => ∃ i : Nat, i ≤ q ∧ k = .int .i64 i ∧ CW wq wk g n (sy ((Y.map (·.it)).take i))) (fun k _ => q - (intOf k).toNat)
        case atStart => exact ⟨0, by omega, rfl, G1.out.below O.out.old hg1, World.grownBy.refl _ _⟩
        case round =>
          obtain ⟨i, hi, rfl, hC⟩ := hrel
          have C := hid hC
          clear hC
          by_cases hlt2 : i < q
          · have d2 : decide (i < q) = true := decide_eq_true hlt2
            have hiY : i < Y.length := by omega
            have hR2 := AV.keep O.out.row O.out.av C.out.2 (Nat.le_refl _)
            obtain ⟨b, off, hRe, hb, hcl⟩ := hR2.at_ (k := i) hiY (by omega)
            have c0 : wr.cell? ⟨b, off + i * 2, none⟩ = some (.int .i64 Y[i].it.w) := hcl (i * 2 + 0) _ ((flat_at encR 2 Y (fun _ _ => rfl) i 0 Y[i] (List.getElem?_eq_getElem hiY) (by omega)).trans rfl)
            have c1 : wr.cell? ⟨b, off + i * 2 + 1, none⟩ = some (.slice Y[i].A Y[i].it.s.length Y[i].c) := hcl (i * 2 + 1) _ ((flat_at encR 2 Y (fun _ _ => rfl) i 1 Y[i] (List.getElem?_eq_getElem hiY) (by omega)).trans rfl)
            have hst : sy ((Y.map (·.it)).take (i + 1)) = sy ((Y.map (·.it)).take i) ++ Y[i].it.s := by
              rw [List.take_succ_eq_append_getElem (by rw [List.length_map]; exact hiY), sy_app]
              simp [sy]
            have hlen : (sy ((Y.map (·.it)).take i) ++ Y[i].it.s).length ≤ 4800 := by
              rw [← hst]
              have e : sy (Y.map (·.it)) = sy ((Y.map (·.it)).take (i + 1)) ++ sy ((Y.map (·.it)).drop (i + 1)) := by rw [← sy_app, List.take_append_drop]
              have := H4.out
              rw [e, List.length_append] at this
              omega
            have hsn : ∀ s ∈ Y[i].it.s, s < n := by
              intro s hs
              refine HB.out.sym s (row_sy _ _ HR.out s ?_)
              unfold sy
              rw [List.mem_flatMap]
              exact ⟨_, List.mem_map_of_mem (List.getElem_mem hiY), hs⟩
            have S1 := hid (O.out.sym Y[i] (List.getElem_mem hiY))
            have S2 := hid (O.out.avs Y[i] (List.getElem_mem hiY))
            have hbs : b < wr.heap.size := by have := C.out.2.size; omega
            generalize Y[i] = y at *
            have Hst := hid hst
            have Hlen := hid hlen
            have Hsn := hid hsn
            have Hlt2 := hid hlt2
            clear hst hlen hsn hR2 hcl hlt2
            subst hRe
            go_upto_region 15 with (fail)
            have C2 := hid (C.out.below ((Below.refl _ _).alloc (Nat.le_refl _) (.cells #[.int .i64 y.it.w, .slice y.A y.it.s.length y.c] 92)))
            generalize wr.alloc (.cells #[.int .i64 y.it.w, .slice y.A y.it.s.length y.c] 92) = wv at *
            generalize wr.heap.size = bx at *
            clear c0 c1 hbs
            have hyl : y.it.s.length ≤ 4800 := by have := Hlen.out; rw [List.length_append] at this; omega
            go_loopw [55] (fun k wq => ∃ p : Nat, p ≤ y.it.s.length ∧ k = .int .i64 p ∧ CW wq wk g n (sy ((Y.map (·.it)).take i) ++ y.it.s.take p)) (fun k _ => y.it.s.length - (intOf k).toNat)
            case atStart => exact ⟨0, by omega, rfl, by simpa using C2.out⟩
            case round =>
              obtain ⟨p, hp, rfl, hC⟩ := hrel
              have C3 := hid hC
              clear hC
              by_cases hlt3 : p < y.it.s.length
              · have d3 : decide (p < y.it.s.length) = true := decide_eq_true hlt3
                have hpi : p < (ints y.it.s).length := by simpa [ints] using hlt3
                have hS : RdI wr wk.heap.size y.A (ints y.it.s) := AV.keep S1.out S2.out C3.out.2 (Nat.le_refl _)
                obtain ⟨b2, off2, hA, hb2, x0⟩ := int_at hS hpi
                have hbs2 : b2 < wr.heap.size := by have := C3.out.2.size; omega
                have hs : (ints y.it.s)[p] = ((y.it.s[p] : Nat) : Int) := by simp [ints]
                rw [hs] at x0
                have hsn := Hsn.out _ (List.getElem_mem hlt3)
                have htk : y.it.s.take (p + 1) = y.it.s.take p ++ [y.it.s[p]] := List.take_succ_eq_append_getElem hlt3
                have hcn : (sy ((Y.map (·.it)).take i) ++ y.it.s.take p).count y.it.s[p] ≤ 4800 := by
                  have h1 := List.count_le_length (l := sy ((Y.map (·.it)).take i) ++ y.it.s.take p) (a := y.it.s[p])
                  have h2 := Hlen.out
                  rw [List.length_append] at h1 h2
                  rw [List.length_take] at h1
                  omega
                generalize y.it.s[p] = s at *
                obtain ⟨v, hv⟩ : ∃ v, v = (sy ((Y.map (·.it)).take i) ++ y.it.s.take p).count s := ⟨_, rfl⟩
                rw [← hv] at hcn
                have x1 : wr.cell? ⟨g, s, none⟩ = some (.int .i64 (v : Int)) := by
                  rw [C3.out.1.cell, intRow_at _ _ _ hsn, hv]
                have fz : wr.frozen? ⟨g, s, none⟩ = false := C3.out.1.frozen s
                have hgw := C3.out.1.lt
                have t5 : IntKind.i64.wrap ((v : Int) + 1) = (v : Int) + 1 := IntWalk.i64_in _ (by omega)
                have P3 := hid (C3.out.put s)
                rw [← hv] at P3
                have Htk := hid htk
                have Hlt3 := hid hlt3
                clear hs hv hS hcn htk hlt3 hpi hb2
                rw [hA]
                go_wp2
                go_roundw
                case rel => exact ⟨p + 1, by have := Hlt3.out; omega, by go_num, by rw [Htk.out, ← List.append_assoc]; exact P3.out⟩
                case measure => have := Hlt3.out; simp [intOf]; omega
              · have d3 : decide (p < y.it.s.length) = false := decide_eq_false hlt3
                obtain rfl : p = y.it.s.length := by omega
                have C4 := hid (show CW wr wk g n (sy ((Y.map (·.it)).take (i + 1))) from by
                  have := C3.out
                  rwa [List.take_length, ← Hst.out] at this)
                clear hlt3
                go_wp2
                go_roundw
                case rel => exact ⟨i + 1, by have := Hlt2.out; omega, by go_num, C4.out⟩
                case measure => have := Hlt2.out; simp [intOf]; omega
          · have d2 : decide (i < q) = false := decide_eq_false hlt2
            obtain rfl : i = q := by omega
            have HE := hid (show BestEnd (bestLs (X.map (·.it)) j n) W (.returned (.slice (some ⟨g, 0, none⟩) n n)) wr from by
              have e := row_fn _ _ HR.out
              have hC := C.out
              rw [e] at hC
              have hl : (bestLs (X.map (·.it)) j n).length = n := bestLs_len _ _ _
              have eM : bestLs (X.map (·.it)) j n = (List.range n).map fun s => ((sy ((rowFn (X.map (·.it)) j).take i)).count s : Int) := by
                unfold bestLs bestAt
                simp only [List.length_map, if_neg hn1, ← Hq.out]
              have hgr : W.grownBy wr (some g) := by
                have b1 := BW.out
                have b2 := O.out.old
                exact ⟨(hC.2.os.trans b2.os).trans b1.os, (hC.2.tape.trans b2.tape).trans b1.tape, (hC.2.output.trans b2.output).trans b1.output, Nat.le_trans b1.size (Nat.le_trans b2.size hC.2.size), fun k hk hr => ((hC.2.block k (by have := b2.size; have := b1.size; omega) hr).trans (b2.block k (by have := b1.size; omega))).trans (b1.block k (by have := Hg.out; omega))⟩
              have hW := Hg.out
              have C5 : CW wr wk W.heap.size n (sy ((rowFn (X.map (·.it)) j).take i)) := by rw [← hW]; exact hC
              refine ⟨some ⟨g, 0, none⟩, n, by rw [hl], ?_, ?_⟩
              · have := own_counts C5 hn eM
                rw [hl] at this ⊢
                rw [hW]
                exact this
              · exact (Below.refl _ _).grown hgr (by omega) (fun k hk => by injection hk with hk; omega))
            go_wp2
            go_ret
            exact HE.out
end Go.Proofs.Ytlekobompjehdaa
