/-
  Plain facts on sums of uses.
-/
import Derived.Test.YtjiimmaikohliaaGreatR42
set_option linter.unusedVariables false
set_option linter.unusedSimpArgs false
namespace Go.Abs
open Go.RowKit Go.Proofs

/-- What Add returns, of uses. -/
def addO (F : List Use) : List Use := usesM (sumU F)
theorem sumC_append (a b : List Use) (c : Cell) : sumC (a ++ b) c = sumC a c + sumC b c := by
  suffices h : ∀ (n : Nat) (b : List Use), b.length = n → sumC (a ++ b) c = sumC a c + sumC b c from h _ b rfl
  intro n
  induction n with
  | zero => intro b hb; rw [List.eq_nil_of_length_eq_zero hb, List.append_nil, sumC_nil]; omega
  | succ n ih =>
    intro b hb
    have hne : b ≠ [] := fun h => by rw [h] at hb; cases hb
    rw [← List.dropLast_concat_getLast hne, ← List.append_assoc, sumC_snoc, sumC_snoc, ih _ (by rw [List.length_dropLast, hb]; rfl)]
    omega
theorem sumC_one (u : Use) (c : Cell) : sumC [u] c = if u.Cell = c then u.Places else 0 := by
  have := sumC_snoc [] u c
  rw [sumC_nil] at this
  simpa using this
theorem sumC_cons (u : Use) (b : List Use) (c : Cell) : sumC (u :: b) c = (if u.Cell = c then u.Places else 0) + sumC b c := by
  rw [show u :: b = [u] ++ b from rfl, sumC_append, sumC_one]
theorem sumC_perm {a b : List Use} (h : a.Perm b) (c : Cell) : sumC a c = sumC b c := by
  induction h with
  | nil => rfl
  | cons u _ ih => rw [sumC_cons, sumC_cons, ih]
  | swap u v l => rw [sumC_cons, sumC_cons, sumC_cons, sumC_cons]; omega
  | trans _ _ h1 h2 => rw [h1, h2]
theorem addO_eq (F : List Use) : addO F = (sortC ((sumU F).map (·.1))).map fun c => ⟨c, sumC F c⟩ := rfl
theorem keysU (F : List Use) (c : Cell) : c ∈ (addO F).map (·.Cell) ↔ c ∈ F.map (·.Cell) := by
  rw [addO_eq, List.map_map]
  show c ∈ (sortC ((sumU F).map (·.1))).map id ↔ _
  rw [List.map_id, (sortC_perm _).mem_iff]
  exact keys_sumU F c
theorem addO_cells (F : List Use) : (addO F).map (·.Cell) = sortC ((sumU F).map (·.1)) := by
  rw [addO_eq, List.map_map]
  show (sortC ((sumU F).map (·.1))).map id = _
  rw [List.map_id]
theorem addO_sorted (F : List Use) : ((addO F).map (·.Cell)).Pairwise cellLt := by
  rw [addO_cells]; exact sortC_lt (sumU_nod F)
/-- Sorted uses with the same sums are the same. -/
theorem uses_ext {a b : List Use} (ha : (a.map (·.Cell)).Pairwise cellLt) (hb : (b.map (·.Cell)).Pairwise cellLt) (hm : ∀ c, c ∈ a.map (·.Cell) ↔ c ∈ b.map (·.Cell)) (hs : ∀ c, sumC a c = sumC b c) : a = b := by
  have hcell : a.map (·.Cell) = b.map (·.Cell) := by
    refine sorted_perm_eq (r := cellLt) (fun x y h k => (cellLt_asymm h k).elim) ?_ ha hb
    exact (List.perm_ext_iff_of_nodup (sorted_nodup ha) (sorted_nodup hb)).2 hm
  clear hm
  induction a generalizing b with
  | nil => cases b with
    | nil => rfl
    | cons y r => cases hcell
  | cons x l ih =>
    cases b with
    | nil => cases hcell
    | cons y r =>
      rw [List.map_cons, List.map_cons] at hcell
      injection hcell with h1 h2
      have hn : ∀ (z : Use) (L : List Use), ((z :: L).map (·.Cell)).Pairwise cellLt → sumC L z.Cell = 0 := fun z L h => by
        have h3 : z.Cell ∉ L.map (·.Cell) := fun hm => cellLt_irrefl _ ((List.pairwise_cons.1 h).1 _ hm)
        unfold sumC
        have : lookM (sumU L) z.Cell = none := lookM_none.2 (by
          cases hh : hasM (sumU L) z.Cell with
          | false => rfl
          | true => exact absurd ((keys_sumU L z.Cell).1 (hasM_iff.1 hh)) h3)
        rw [this]; rfl
      have hp : x.Places = y.Places := by
        have := hs x.Cell
        rw [sumC_cons, sumC_cons, if_pos rfl, if_pos h1.symm, hn x l ha, h1, hn y r hb] at this
        omega
      have hxy : x = y := by
        cases x; cases y; simp only at h1 hp; subst h1 hp; rfl
      subst hxy
      rw [ih (List.pairwise_cons.1 ha).2 (List.pairwise_cons.1 hb).2 (fun c => by have := hs c; rw [sumC_cons, sumC_cons] at this; omega) h2]
theorem sumC_map {L : List Cell} (hn : L.Nodup) (f : Cell → Int) (c : Cell) : sumC (L.map fun d => ⟨d, f d⟩) c = if c ∈ L then f c else 0 := by
  induction L with
  | nil => rfl
  | cons x l ih =>
    obtain ⟨h1, h2⟩ := List.nodup_cons.1 hn
    rw [List.map_cons, sumC_cons, ih h2]
    by_cases e : x = c
    · subst e
      simp [h1]
    · have e2 : c ≠ x := fun h => e h.symm
      simp [e, e2]
theorem sumC_addO (F : List Use) (c : Cell) : sumC (addO F) c = sumC F c := by
  rw [addO_eq, sumC_map ((sortC_perm _).nodup_iff.2 (sumU_nod F))]
  split
  · rfl
  · rename_i h
    rw [(sortC_perm _).mem_iff] at h
    unfold sumC
    have : lookM (sumU F) c = none := lookM_none.2 (by
      cases hh : hasM (sumU F) c with
      | false => rfl
      | true => exact absurd (hasM_iff.1 hh) h)
    rw [this]; rfl
/-- What Add returns depends on the sums alone. -/
theorem addO_congr {F G : List Use} (hm : ∀ c, c ∈ F.map (·.Cell) ↔ c ∈ G.map (·.Cell)) (hs : ∀ c, sumC F c = sumC G c) : addO F = addO G :=
  uses_ext (addO_sorted F) (addO_sorted G) (fun c => by rw [keysU, keysU, hm]) (fun c => by rw [sumC_addO, sumC_addO, hs])
theorem addO_perm {F G : List Use} (h : F.Perm G) : addO F = addO G := addO_congr (fun c => (h.map _).mem_iff) (sumC_perm h)
theorem addO_parts (F G : List Use) : addO (addO F ++ addO G) = addO (F ++ G) :=
  addO_congr (fun c => by rw [List.map_append, List.map_append, List.mem_append, List.mem_append, keysU, keysU]) fun c => by rw [sumC_append, sumC_append, sumC_addO, sumC_addO]
theorem addO_id {F : List Use} (h : (F.map (·.Cell)).Pairwise cellLt) : addO F = F := uses_ext (addO_sorted F) h (keysU F) (sumC_addO F)

def totP (us : List Use) : Int := (us.map (·.Places)).sum
theorem totP_cons (u : Use) (us : List Use) : totP (u :: us) = u.Places + totP us := by simp [totP]
theorem totP_append (a b : List Use) : totP (a ++ b) = totP a + totP b := by simp [totP, List.sum_append]
theorem sum_sumC {K : List Cell} (hn : K.Nodup) (F : List Use) (h : ∀ u ∈ F, u.Cell ∈ K) : (K.map (sumC F)).sum = totP F := by
  induction F with
  | nil =>
    have : K.map (sumC []) = K.map fun _ => (0 : Int) := List.map_congr_left fun c _ => sumC_nil c
    rw [this]
    clear this hn h
    induction K with
    | nil => rfl
    | cons x l ih => rw [List.map_cons, List.sum_cons, ih]; rfl
  | cons u F ih =>
    rw [totP_cons, ← ih fun v hv => h v (by simp [hv])]
    have hu := h u (by simp)
    clear ih h
    induction K with
    | nil => cases hu
    | cons x l ih =>
      obtain ⟨h1, h2⟩ := List.nodup_cons.1 hn
      rw [List.map_cons, List.sum_cons, List.map_cons, List.sum_cons, sumC_cons]
      by_cases e : u.Cell = x
      · have hl : l.map (sumC (u :: F)) = l.map (sumC F) := List.map_congr_left fun c hc => by
          rw [sumC_cons, if_neg (fun e2 => h1 (by rw [← e, e2]; exact hc))]; omega
        rw [if_pos e, hl]; omega
      · rw [if_neg e, ih h2 (by rcases List.mem_cons.1 hu with h | h; exact absurd h e; exact h)]; omega
theorem totP_addO (F : List Use) : totP (addO F) = totP F := by
  have h1 : totP (addO F) = ((sortC ((sumU F).map (·.1))).map (sumC F)).sum := by
    unfold totP; rw [addO_eq, List.map_map]; rfl
  rw [h1]
  exact sum_sumC ((sortC_perm _).nodup_iff.2 (sumU_nod F)) F fun u hu => by
    rw [(sortC_perm _).mem_iff]
    exact (keys_sumU F _).2 (List.mem_map_of_mem hu)
theorem sumC_pos {F : List Use} (h : ∀ u ∈ F, useOk u = true) {c : Cell} (hc : c ∈ F.map (·.Cell)) : 1 ≤ sumC F c := by
  obtain ⟨u, hu, rfl⟩ := List.mem_map.1 hc
  have h1 := List.perm_cons_erase hu
  rw [sumC_perm h1, sumC_cons, if_pos rfl]
  have h2 := sumC_le (us := F.erase u) (fun v hv => h v (List.mem_of_mem_erase hv)) u.Cell
  have h3 := h u hu
  unfold useOk at h3
  simp only [Bool.and_eq_true, decide_eq_true_eq] at h3
  omega
/-- A sum is formed, unless it is large. -/
theorem badB_addO {F : List Use} (h : ∀ u ∈ F, useOk u = true) : badB (addO F) = largeB (addO F) := by
  have hpos : ∀ u ∈ addO F, 1 ≤ u.Places := fun u hu => by
    rw [addO_eq] at hu
    obtain ⟨c, hc, rfl⟩ := List.mem_map.1 hu
    rw [(sortC_perm _).mem_iff] at hc
    exact sumC_pos h ((keys_sumU F c).1 hc)
  cases hl : largeB (addO F) with
  | false =>
    refine formed1_of (List.all_eq_true.2 fun u hu => ?_) (addO_sorted F)
    have h1 := hpos u hu
    have h2 := List.any_eq_false.1 hl u hu
    unfold useOk
    simp at h2 ⊢
    omega
  | true =>
    cases hb : badB (addO F) with
    | true => rfl
    | false =>
      obtain ⟨u, hu, h2⟩ := List.any_eq_true.1 hl
      have h3 := (badB_false.1 hb).1 u hu
      unfold useOk at h3
      simp at h2 h3
      omega
end Go.Abs
