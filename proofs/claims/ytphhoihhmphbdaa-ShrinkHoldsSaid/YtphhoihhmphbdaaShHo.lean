/-
  ShrinkHolds' parts: the least forms fit all pixels and are of the raster's size; what is packed in them comes back.
-/
import Derived.Test.YtphhoihhmphbdaaBestB
import Derived.Test.YtphhoihhmphbdaaPakA
import Derived.Test.YtphhoihhmphbdaaPakM
import Derived.Test.YtphhoihhmphbdaaUnpA
namespace Go.Proofs.Ytphhoihhmphbdaa
open Go.RowKit Go.Shelf

theorem mem_unlH (l : List Px) (p : Px) : p ∈ unl l ↔ p ∈ l := by
  have h : ∀ (l acc : List Px), p ∈ l.foldl unlStep acc ↔ p ∈ acc ∨ p ∈ l := by
    intro l
    induction l with
    | nil => intro acc; simp
    | cons a l ih =>
      intro acc
      rw [List.foldl_cons, ih]
      unfold unlStep
      split
      · rename_i ha
        constructor
        · rintro (h | h)
          · exact .inl h
          · exact .inr (List.mem_cons_of_mem _ h)
        · rintro (h | h)
          · exact .inl h
          · rcases List.mem_cons.1 h with rfl | h
            · exact .inl ha
            · exact .inr h
      · simp [or_assoc]
  rw [unl, h]
  simp
theorem fits_px {f : Fm} {l : List Px} (h : fitsB f (unl l) = true) {p : Px} (hp : p ∈ l) : (numsOf f p).isSome = true := by
  have hok := fits_ok h
  unfold fitsB at h
  rw [Bool.and_eq_true, List.all_eq_true] at h
  have := h.1 p ((mem_unlH l p).2 hp)
  unfold fnumsOf at this
  rwa [if_pos hok] at this
/-- made forms are of the raster's size -/
def Sized (x y : Int) (f : Fm) : Prop := f.w = x ∧ f.h = y
theorem tryM_sized {mk : Fm → Fm} {x y c lc : Int} {l : List Px} (hm : ∀ g, Sized x y g → Sized x y (mk g)) {f : Fm} : ∀ ds : List Int, tryM mk x y c lc l ds = some f → Sized x y f
  | [], h => by cases h
  | d :: ds, h => by
    unfold tryM at h
    split at h
    · injection h with h
      rw [← h]
      exact hm _ ⟨rfl, rfl⟩
    · exact tryM_sized hm ds h
theorem least_idS {x y c lc : Int} {l : List Px} (f : Fm) (h : leastM idF x y c lc l = some f) : Sized x y f := tryM_sized (mk := idF) (fun _ h3 => h3) _ h
theorem least_keyS {p : Px} {x y c lc : Int} {l : List Px} (f : Fm) (h : leastM (mkKey p) x y c lc l = some f) : Sized x y f := tryM_sized (mk := mkKey p) (fun _ h3 => ⟨h3.1, h3.2⟩) _ h
theorem least_palS {m : List Px} {x y c lc : Int} {l : List Px} (f : Fm) (h : leastM (mkPal m) x y c lc l = some f) : Sized x y f := tryM_sized (mk := mkPal m) (fun _ h3 => ⟨h3.1, h3.2⟩) _ h
theorem plainM_sized (x y lc : Int) (l : List Px) : ∀ (cs : List Int) (fs : List Fm), (∀ f ∈ fs, Sized x y f) → ∀ f ∈ plainM x y lc l cs fs, Sized x y f
  | [], _, h => h
  | _ :: cs, _, h => plainM_sized x y lc l cs _ (addM_all h least_idS)
theorem forms_sized (x y lc : Int) (px : List Px) : ∀ f ∈ formsM x y lc px, Sized x y f := by
  have h1 := plainM_sized x y lc (unl px) [0, 2, 4, 6] [] (by simp)
  have h2 : ∀ f ∈ keyedM x y lc (unl px) (plainM x y lc (unl px) [0, 2, 4, 6] []), Sized x y f := by
    unfold keyedM
    split
    · exact addM_all (addM_all h1 least_keyS) least_keyS
    · exact h1
  unfold formsM paledM
  split
  · exact addM_all h2 least_palS
  · exact h2
theorem pack_fits {f : Fm} {px : List Px} {kind : Int} (hf : formOk f = true) (hl : (px.length : Int) = f.w * f.h) (hn : ∀ p ∈ px, (numsOf f p).isSome = true) (hm : px.length ≤ 500) (kd1 : -1 ≤ kind) (kd2 : kind ≤ 4) :
    ∃ b, packM f px kind = some b ∧ unpR f b = some px ∧ (b.length : Int) = dataM f.w f.h f.d f.c f.l ∧ b.length ≤ 100000 ∧ ∀ x ∈ b, isB x := by
  obtain ⟨w1, w2, h1, h2, hwh, l1, l2⟩ := headErr_bnd (formOk_parts hf).1
  have e : px.length = f.w.toNat * f.h.toNat := by
    have : ((f.w.toNat * f.h.toNat : Nat) : Int) = f.w * f.h := by rw [Int.natCast_mul, Int.toNat_of_nonneg (by omega), Int.toNat_of_nonneg (by omega)]
    omega
  have hb : packM f px kind = some (outP f px (spreadM f.l f.w.toNat f.h.toNat) kind (passN f)) := by
    unfold packM
    rw [if_pos]
    intro i hi
    unfold nmP gth
    obtain ⟨q1, q2⟩ := spread_in (List.getElem_mem hi)
    have hlt : ((spreadM f.l f.w.toNat f.h.toNat)[i]).toNat < px.length := by rw [e]; omega
    rw [List.getD_eq_getElem?_getD, List.getD_eq_getElem?_getD, List.getElem?_eq_getElem hi, Option.getD_some, List.getElem?_eq_getElem hlt, Option.getD_some]
    exact hn _ (List.getElem_mem hlt)
  refine ⟨_, hb, unp_pack hf kd1 kd2 hl hb, pack_len hf hb, ?_, packM_B kd1 kd2 hb⟩
  rw [outP_len]
  have h9 := offI_le f (formOk_parts hf).1 hl.symm (passN f) (Nat.le_refl _)
  have h7 := passN_le f
  have : passN f * (9 * px.length) ≤ 7 * (9 * px.length) := Nat.mul_le_mul_right _ h7
  omega
/-- what packing in such a form ends in -/
def PhEnd (f : Fm) (px : List Px) (W : World) (e : Ending) (w' : World) : Prop :=
  Below W.heap.size W w' ∧ ∃ b A c, e = .returned (.tuple #[.slice A b.length c, .nilIface]) ∧ w'.ownsRow W.heap.size 5 1 (.slice A b.length c) b.length (bytesV b) ∧
    unpR f b = some px ∧ (b.length : Int) = dataM f.w f.h f.d f.c f.l ∧ b.length ≤ 100000 ∧ ∀ x ∈ b, isB x
theorem pack_ph (f : Fm) (PA KA PR : Option Addr) (pc kc pr : Nat) (px : List Px) (kind : Int) (W : World) (hf : formOk f = true) (hp : RdP W W.heap.size PA f.pal) (hk : RdI W W.heap.size KA f.key) (hpm : f.pal.length ≤ 1000000) (hkm : f.key.length ≤ 1000000)
    (hr : RdP W W.heap.size PR px) (hl : (px.length : Int) = f.w * f.h) (hwf : ∀ p ∈ px, wfP p) (hn : ∀ p ∈ px, (numsOf f p).isSome = true) (hm : px.length ≤ 500) (kd1 : -1 ≤ kind) (kd2 : kind ≤ 4) :
    Calls Try.prog 18 #[.agg #[.int .i64 f.w, .int .i64 f.h, .int .i64 f.d, .int .i64 f.c, .int .i64 f.l, .slice PA f.pal.length pc, .slice KA f.key.length kc], .agg #[.int .i64 f.w, .int .i64 f.h, .slice PR px.length pr], .int .i64 kind] W (PhEnd f px W) :=
  (pack_go f PA KA PR pc kc pr px kind W hf hp hk hpm hkm hr hl hwf (by omega) kd1 kd2).mono fun e w' h => by
    obtain ⟨b, h1, h2, h3, h4, h5⟩ := pack_fits (kind := kind) hf hl hn hm kd1 kd2
    unfold PakEnd at h
    rw [h1] at h
    obtain ⟨hb, A, c, he, ho⟩ := h
    exact ⟨hb, b, A, c, he, ho, h2, h3, h4, h5⟩
theorem rdp_of_blk {w : World} {g : Nat} {px : List Px} (h : Blk w g 62 (px.flatMap encP).toArray) : RdP w w.heap.size (some ⟨g, 0, none⟩) px :=
  ⟨encP_len px, fun _ => ⟨g, 0, rfl, h.lt, fun j u hu => by rw [Nat.zero_add, h.cell j, List.getElem?_toArray]; exact hu⟩⟩
theorem own_capH {w : World} {base t sz n c : Nat} {A : Option Addr} {xs : List Value} (h : w.ownsRow base t sz (.slice A n c) n xs) : n ≤ c ∧ (A = none → c = 0) := by
  rcases h.2 with ⟨h1, h2⟩ | ⟨g, cap, cur, h1, _, _, h3, _⟩
  · injection h1 with h1 h4 h5
    rw [h2]
    exact ⟨Nat.zero_le _, fun _ => h5⟩
  · injection h1 with h1 h4 h5
    rw [h5, h1]
    exact ⟨h3, fun h => by cases h⟩
theorem unpack_ph (f : Fm) (PA KA A : Option Addr) (pc kc c base : Nat) (b : List Int) (px : List Px) (W : World) (hf : formOk f = true) (hp : RdP W W.heap.size PA f.pal) (hk : RdI W W.heap.size KA f.key) (hpm : f.pal.length ≤ 1000000) (hkm : f.key.length ≤ 1000000)
    (ho : W.ownsRow base 5 1 (.slice A b.length c) b.length (bytesV b)) (hu : unpR f b = some px) (hd : (b.length : Int) = dataM f.w f.h f.d f.c f.l) (hm : b.length ≤ 100000) (ok : ∀ x ∈ b, isB x) :
    Calls Try.prog 9 #[.agg #[.int .i64 f.w, .int .i64 f.h, .int .i64 f.d, .int .i64 f.c, .int .i64 f.l, .slice PA f.pal.length pc, .slice KA f.key.length kc], .slice A b.length c] W fun e w' => ∃ g, e = .returned (.tuple #[.agg #[.int .i64 f.w, .int .i64 f.h, .slice (some ⟨g, 0, none⟩) px.length px.length], .nilIface]) ∧ RdP w' w'.heap.size (some ⟨g, 0, none⟩) px ∧ Below W.heap.size W w' :=
  (unpack_go f PA KA A pc kc c b.length b W hf hp hk hpm hkm rfl hd hm (own_capH ho).1 (own_capH ho).2 (own_rd ho) ok).mono fun e w' h => by
    unfold UnpEndA at h
    rw [hu] at h
    obtain ⟨hb, g, he, _, hg⟩ := h
    exact ⟨g, he, rdp_of_blk hg, hb⟩
theorem sound_wf {p : Px} (h : soundB p = true) : wfP p := by
  unfold soundB at h
  simp only [List.all_cons, List.all_nil, Bool.and_true, Bool.and_eq_true, decide_eq_true_eq] at h
  obtain ⟨h1, h2, h3, h4⟩ := h
  exact ⟨small_wf h1, small_wf h2, small_wf h3, small_wf h4⟩
theorem ras_parts {x y : Int} {px : List Px} (h : rasOk x y px = true) : (px.length : Int) = x * y ∧ ∀ p ∈ px, wfP p := by
  unfold rasOk at h
  simp only [Bool.and_eq_true, decide_eq_true_eq] at h
  exact ⟨h.1.2, fun p hp => sound_wf (List.all_eq_true.1 h.2 p hp)⟩
end Go.Proofs.Ytphhoihhmphbdaa
