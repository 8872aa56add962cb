/-
  Plain facts for law DemandRobust; its flights.
-/
import Derived.Test.YtjiimmaikohliaaGreatP12
import Derived.Test.YtjiimmaikohliaaGreatP11
set_option linter.unusedVariables false
set_option linter.unusedSimpArgs false
namespace Go.Abs
open Go.RowKit Go.Proofs

theorem sumAt_eq (ls : List (List Use)) (c : Cell) : sumAt ls c = sumC ls.flatten c := rfl
theorem least_sum (css : List (List Cell)) (many pl : Int) (c : Cell) : sumC (leastU css many pl) c = if c ∈ leastC css many then pl else 0 := sumC_map (leastC_nodup css many) (fun _ => pl) c
theorem least_ok {css : List (List Cell)} {many pl : Int} (h : 1 ≤ pl ∧ pl ≤ 4096) : badB (leastU css many pl) = false := by
  refine formed1_of (List.all_eq_true.2 fun u hu => ?_) ?_
  · unfold leastU at hu
    obtain ⟨c, _, rfl⟩ := List.mem_map.1 hu
    unfold useOk
    simp
    omega
  · rw [leastU_cells]
    exact sortC_lt (leastNodup _ _)
theorem mem_leastC {css : List (List Cell)} {many : Int} {c : Cell} : c ∈ leastC css many ↔ c ∈ css.flatten ∧ many ≤ (cntC css c : Int) := by
  unfold leastC
  rw [(sortC_perm _).mem_iff, mem_least]
theorem robust_one (css : List (List Cell)) (L : List Cell) (hL : L ∈ css) (pl : Int) (h : 0 ≤ pl) (c : Cell) :
    sumC (leastU css css.length pl) c ≤ sumC (leastU [L] 1 pl) c ∧ sumC (leastU [L] 1 pl) c ≤ sumC (leastU css 1 pl) c := by
  rw [least_sum, least_sum, least_sum]
  have h3 := least_one L c
  have h1 : c ∈ leastC css css.length → c ∈ L := fun hc => by
    rw [mem_leastC, cntC_all] at hc
    exact hc.2 L hL
  have h2 : c ∈ L → c ∈ leastC css 1 := fun hc => by
    have hf : c ∈ css.flatten := List.mem_flatten.2 ⟨L, hL, hc⟩
    rw [mem_leastC]
    have := cntC_pos.2 hf
    exact ⟨hf, by omega⟩
  by_cases a : c ∈ L
  · rw [if_pos (h3.2 a), if_pos (h2 a)]
    split <;> omega
  · rw [if_neg (fun h => a (h3.1 h)), if_neg (fun h => a (h1 h))]
    split <;> omega
theorem places_ok {t : Tables} (ha : airOk t = true) {cl : Int} (h : 0 ≤ cl ∧ cl < t.Kinds.length) : 1 ≤ placesC t cl ∧ placesC t cl ≤ 4096 := by
  have hlt : cl.toNat < t.Kinds.length := by omega
  unfold placesC
  rw [List.getElem?_eq_getElem hlt]
  simp only
  unfold airOk at ha
  simp only [Bool.and_eq_true, List.all_eq_true] at ha
  have h1 := (ha.2 _ (List.getElem_mem hlt)).1
  unfold kindOk at h1
  simp only [withinL, Bool.and_eq_true, Bool.not_eq_true', Bool.or_eq_false_iff, decide_eq_false_iff_not] at h1
  omega
theorem cnt_facts {t : Tables} {s : List Change} {cl : Int} {l : List Path} (h : cntErr t s cl l = 0) : 1 ≤ placesC t cl ∧ placesC t cl ≤ 4096 := by
  unfold cntErr at h
  split at h
  · rename_i h0; exact absurd h h0
  rename_i h0
  split at h
  · cases h
  rename_i h1
  have hc : capErr t s = 0 := Decidable.not_not.1 h0
  unfold capErr at hc
  cases ha : airOk t with
  | true => exact places_ok ha ⟨by omega, by omega⟩
  | false => rw [ha] at hc; cases hc
theorem cnt_part {t : Tables} {s : List Change} {cl : Int} {l : List Path} (h : cntErr t s cl l = 0) {p : Path} (hp : p ∈ l) : cntErr t s cl [p] = 0 := by
  have hst : ∀ l : List Path, stErr t l = 0 → p ∈ l → stErr1 t p = 0 := fun l h hp => by
    induction l with
    | nil => cases hp
    | cons x r ih =>
      unfold stErr at h
      split at h
      · rename_i h0
        rcases List.mem_cons.1 hp with rfl | hp
        · exact h0
        · exact ih h hp
      · rename_i h0; exact absurd h h0
  unfold cntErr at h ⊢
  split at h
  · rename_i h0; exact absurd h h0
  rename_i h0
  rw [if_neg h0]
  split at h
  · cases h
  rename_i h1
  rw [if_neg h1]
  unfold stErr
  rw [if_pos (hst l h hp)]
  rfl
theorem leastU_len {css : List (List Cell)} {many pl : Int} {n : Nat} (h : css.flatten.length ≤ n) : (leastU css many pl).length ≤ n := by
  unfold leastU
  rw [List.length_map]
  exact Nat.le_trans ((leastC_nodup css many).length_le_of_subset fun c hc => (mem_leastC.1 hc).1) h

/-- A flight of the law. -/
structure Fleet where
  Class : Int
  Paths : List Path
  Takes : Int
def encFleet (f : Fleet) : PV := .agg [.int .i64 f.Class, .list 2 (encPaths f.Paths), .int .u8 f.Takes]
def encFleets (l : List Fleet) : List PV := l.map encFleet
section
variable {A : Ops} {E : Env}
theorem idx_Fleet (hA : A = stdOps E) {l : List Fleet} {xs : List PV} (hx : xs = encFleets l) {n : Int} {K : List PV → Prop} (h0 : 0 ≤ n) (h1 : n < l.length)
    (hk : ∀ x v, l[n.toNat]? = some x → v = encPaths x.Paths → K [.int .i64 x.Class, .list 2 v, .int .u8 x.Takes]) : A.idx xs n K :=
  idx_var hA (l := l) (enc := encFleet) hx.symm h0 h1 fun x h => hk x _ h rfl
end
def okFleet (f : Fleet) : Prop := okI f.Class ∧ (∀ x ∈ f.Paths, okPath x) ∧ (Lit.int .u8 f.Takes).wf = true ∧ True
theorem rdFleet : Rd Tryz.prog 52 encFleet okFleet :=
  rd_struct Tryz.underlying52 (by kernel_rfl) (rdL_cons rdInt (rdL_cons rdPaths (rdL_cons (rd_int Tryz.underlying5) rdL_nil))) fun ⟨a, b, c, ()⟩ h => ⟨⟨a, b, c⟩, h, rfl⟩
theorem rdFleets : Rd Tryz.prog 50 (fun l => .list 3 (encFleets l)) fun l => ∀ x ∈ l, okFleet x := rd_slice Tryz.underlying50 (by kernel_rfl) (by decide) rdFleet
end Go.Abs
