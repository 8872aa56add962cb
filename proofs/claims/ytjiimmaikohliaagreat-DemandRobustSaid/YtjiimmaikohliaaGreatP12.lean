/-
  Plain facts for law DemandCounts: the cells of one path.
-/
import Derived.Test.YtjiimmaikohliaaGreatM34
import Derived.Test.YtjiimmaikohliaaGreatR7
set_option linter.unusedVariables false
set_option linter.unusedSimpArgs false
namespace Go.Abs
open Go.RowKit Go.Proofs

theorem inStep_P {P : Change → Prop} {m : Int} : ∀ (l : List Change) (o : Option Change), (∀ c, o = some c → P c) → (∀ x ∈ l, P x) → (o.isSome = true ∨ ∃ x ∈ l, x.From ≤ m) → ∃ c, l.foldl (inStep m) o = some c ∧ P c
  | [], o, h1, _, h3 => by
    rcases h3 with h | ⟨x, hx, _⟩
    · obtain ⟨c, hc⟩ := Option.isSome_iff_exists.1 h
      exact ⟨c, hc, h1 c hc⟩
    · cases hx
  | x :: r, o, h1, h2, h3 => by
    have hx := h2 x (by simp)
    refine inStep_P r (inStep m o x) (fun c hc => ?_) (fun y hy => h2 y (by simp [hy])) ?_
    · unfold inStep at hc
      split at hc
      · cases o with
        | none => cases hc; exact hx
        | some d =>
          simp only at hc
          split at hc
          · cases hc; exact hx
          · cases hc; exact h1 _ rfl
      · exact h1 c hc
    · rcases h3 with h | ⟨y, hy, hm⟩
      · left
        unfold inStep
        cases o with
        | none => cases h
        | some d =>
          simp only
          split
          · split <;> rfl
          · rfl
      · rcases List.mem_cons.1 hy with rfl | hy
        · left
          unfold inStep
          rw [if_pos hm]
          cases o with
          | none => rfl
          | some d => simp only; split <;> rfl
        · exact .inr ⟨y, hy, hm⟩

theorem secAt_some {t : Tables} {s : List Change} (ha : airOk t = true) (hs : schemeOk t.Configs.length t.Modes s = true) {v m : Int} (hv : 0 ≤ v ∧ v < t.Volumes) (hm : 0 ≤ m) : ∃ i, secAt t s v m = some i := by
  obtain ⟨c, hc, hP⟩ : ∃ c, inS s m = some c ∧ (0 ≤ c.Config ∧ c.Config < t.Configs.length) := by
    cases s with
    | nil => cases hs
    | cons x r =>
      simp only [schemeOk, Bool.and_eq_true, decide_eq_true_eq, List.all_eq_true] at hs
      refine inStep_P (P := fun c : Change => 0 ≤ c.Config ∧ c.Config < t.Configs.length) (x :: r) none (by simp) (fun y hy => ?_) (.inr ⟨x, by simp, by omega⟩)
      have := hs.1.2 y hy
      simp only [changeOk, Bool.and_eq_true, decide_eq_true_eq] at this
      omega
  unfold secAt
  rw [hc]
  simp only
  unfold cfgSec
  rw [if_pos hP.1]
  have hlt : c.Config.toNat < t.Configs.length := by omega
  rw [List.getElem?_eq_getElem hlt]
  simp only
  have hd : divOk t.Volumes.toNat t.Sectors t.Configs = true := by
    unfold airOk at ha
    simp only [Bool.and_eq_true] at ha
    exact ha.1.1.1.1.1.1.1.2
  have h1 := ((divOk_iff _ _ _).1 hd).2.2.2.2.2.2 _ (List.getElem_mem hlt)
  unfold divB at h1
  simp only [Bool.and_eq_true, List.all_eq_true, decide_eq_true_eq] at h1
  have h2 := h1.2 v.toNat (List.mem_range.2 (by omega))
  rw [show ((v.toNat : Nat) : Int) = v by omega] at h2
  unfold cntSec at h2
  obtain ⟨i, hi⟩ := List.exists_mem_of_length_pos (l := (t.Configs[c.Config.toNat].Sectors.filter (inSec t.Sectors v))) (by omega)
  rw [List.mem_filter] at hi
  have h3 := h1.1
  refine Option.isSome_iff_exists.1 (List.find?_isSome.2 ⟨i, hi.1, ?_⟩)
  unfold volIn
  have h4 : 0 ≤ i := by
    simp only [idxB, Bool.and_eq_true, List.all_eq_true, decide_eq_true_eq] at h3
    exact (h3.1 i hi.1).1
  rw [decide_eq_true h4, Bool.true_and]
  exact hi.2

theorem times_hl : ∀ (ts : List Int) (p : Int), timesFrom p ts = true → ts ≠ [] → ts.headD 0 ≤ ts.getLastD 0
  | [], _, _, h => absurd rfl h
  | [a], _, _, _ => by simp
  | a :: b :: ts, p, h, _ => by
    have h1 : timesFrom a (b :: ts) = true := by unfold timesFrom at h; simp only [Bool.and_eq_true] at h; exact h.2
    have h2 := times_hl (b :: ts) a h1 (by simp)
    unfold timesFrom at h1
    simp only [Bool.and_eq_true, decide_eq_true_eq] at h1
    simp only [List.headD_cons, List.getLastD_cons] at h2 ⊢
    omega

theorem legs_in : ∀ (ls : List Leg) (ts : List Int) (p : Int), timesFrom p ts = true → ∀ y ∈ legStays ls ts, ts.headD 0 ≤ y.Minutes.From ∧ y.Minutes.From < y.Minutes.To ∧ y.Minutes.To ≤ ts.getLastD 0 ∧ y.Airport = false ∧ ∃ l ∈ ls, y.Index = l.Volume
  | [], _, _, _, y, hy => by simp [legStays] at hy
  | l :: ls, [], _, _, y, hy => by simp [legStays] at hy
  | l :: ls, [a], _, _, y, hy => by simp [legStays] at hy
  | l :: ls, a :: b :: ts, p, h, y, hy => by
    have h1 : timesFrom a (b :: ts) = true := by unfold timesFrom at h; simp only [Bool.and_eq_true] at h; exact h.2
    have h2 := times_hl (b :: ts) a h1 (by simp)
    have h3 : a < b := by unfold timesFrom at h1; simp only [Bool.and_eq_true, decide_eq_true_eq] at h1; exact h1.1.2
    simp only [List.headD_cons, List.getLastD_cons] at h2 ⊢
    unfold legStays at hy
    rcases List.mem_cons.1 hy with rfl | hy
    · exact ⟨Int.le_refl _, h3, h2, rfl, l, by simp, rfl⟩
    · obtain ⟨g1, g2, g3, g4, l2, g5, g6⟩ := legs_in ls (b :: ts) a h1 y hy
      simp only [List.headD_cons, List.getLastD_cons] at g1 g3
      exact ⟨by omega, g2, g3, g4, l2, by simp [g5], g6⟩

theorem legs_cover : ∀ (ls : List Leg) (ts : List Int) (p : Int), ts.length = ls.length + 1 → timesFrom p ts = true → ∀ m, ts.headD 0 ≤ m → m < ts.getLastD 0 →
    ∃ x ∈ legStays ls ts, (x.Minutes.From ≤ m ∧ m < x.Minutes.To) ∧ ∀ y ∈ legStays ls ts, (y.Minutes.From ≤ m ∧ m < y.Minutes.To) → y = x
  | [], [], _, hl, _, m, _, _ => by simp at hl
  | [], [a], _, _, _, m, h1, h2 => by simp at h1 h2; omega
  | [], a :: b :: ts, _, hl, _, m, _, _ => by simp at hl
  | l :: ls, [], _, hl, _, m, _, _ => by simp at hl
  | l :: ls, [a], _, hl, _, m, _, _ => by simp at hl
  | l :: ls, a :: b :: ts, p, hl, h, m, hm1, hm2 => by
    have h1 : timesFrom a (b :: ts) = true := by unfold timesFrom at h; simp only [Bool.and_eq_true] at h; exact h.2
    simp only [List.headD_cons, List.getLastD_cons] at hm1 hm2
    unfold legStays
    by_cases hm : m < b
    · refine ⟨_, List.mem_cons_self, ⟨hm1, hm⟩, fun y hy hy2 => ?_⟩
      rcases List.mem_cons.1 hy with rfl | hy
      · rfl
      · have := (legs_in ls (b :: ts) a h1 y hy).1
        simp only [List.headD_cons] at this
        omega
    · obtain ⟨x, hx, h3, h4⟩ := legs_cover ls (b :: ts) a (by simpa using hl) h1 m (by simp; omega) (by rw [List.getLastD_cons]; exact hm2)
      refine ⟨x, List.mem_cons_of_mem _ hx, h3, fun y hy hy2 => ?_⟩
      rcases List.mem_cons.1 hy with rfl | hy
      · simp only at hy2; omega
      · exact h4 y hy hy2

theorem cellM_min {t : Tables} {s : List Change} {x : Stay} {m : Int} {c : Cell} (h : cellM t s x m = some c) : c.Minute = m ∧ c.Airport = x.Airport := by
  unfold cellM at h
  split at h
  · rename_i ha
    cases h
    exact ⟨rfl, ha.symm⟩
  · rename_i ha
    obtain ⟨i, _, rfl⟩ := Option.map_eq_some_iff.1 h
    exact ⟨rfl, by simpa using ha⟩
theorem mem_cellsOf {t : Tables} {s : List Change} {l : List Stay} {c : Cell} : c ∈ cellsOf t s l ↔ ∃ x ∈ l, loM x ≤ c.Minute ∧ c.Minute < hiM x ∧ cellM t s x c.Minute = some c := by
  unfold cellsOf cellsS
  simp only [List.mem_flatMap, List.mem_filterMap, mem_rangeL]
  constructor
  · rintro ⟨x, hx, m, hm, h⟩
    have h1 := (cellM_min h).1
    subst h1
    exact ⟨x, hx, hm.1, by omega, h⟩
  · rintro ⟨x, hx, h1, h2, h⟩
    exact ⟨x, hx, c.Minute, ⟨h1, by omega⟩, h⟩

/-- A path in the day, for valid tables and a valid scheme. -/
structure DayPath (t : Tables) (s : List Change) (w : Way) (T : List Int) (F Z : Int) : Prop where
  air : airOk t = true
  sch : schemeOk t.Configs.length t.Modes s = true
  way : w ∈ t.Ways
  len : T.length = w.Legs.length + 1
  tim : timesFrom (-1) T = true
  hF : F = T.headD 0
  hZ : Z = T.getLastD 0
  day : Z < 1440
theorem DayPath.lo {t : Tables} {s : List Change} {w : Way} {T : List Int} {F Z : Int} (h : DayPath t s w T F Z) : 0 ≤ F ∧ F < Z := by
  have h1 := (air_legs h.air h.way).2
  obtain ⟨a, b, ts, hT⟩ : ∃ a b ts, T = a :: b :: ts := by
    have hl := h.len
    match T, hl with
    | [], hl => simp at hl
    | [a], hl => rw [List.length_singleton] at hl; omega
    | a :: b :: ts, _ => exact ⟨a, b, ts, rfl⟩
  have h2 := h.tim
  have hF := h.hF
  have hZ := h.hZ
  rw [hT] at h2 hF hZ
  unfold timesFrom at h2
  simp only [Bool.and_eq_true, decide_eq_true_eq] at h2
  have h3 := times_hl (b :: ts) a h2.2 (by simp)
  have h4 := h2.2
  unfold timesFrom at h4
  simp only [Bool.and_eq_true, decide_eq_true_eq] at h4
  simp only [List.headD_cons, List.getLastD_cons] at h3 hF hZ
  omega
theorem DayPath.stays {t : Tables} {s : List Change} {w : Way} {T : List Int} {F Z : Int} (h : DayPath t s w T F Z) (x : Stay) : x ∈ staysOf w T ↔ x = ⟨true, w.From, ⟨F, F + 1⟩⟩ ∨ x ∈ legStays w.Legs T ∨ x = ⟨true, w.To, ⟨Z, Z + 1⟩⟩ := by
  unfold staysOf
  rw [h.hF, h.hZ]
  simp only [List.mem_append, List.mem_cons, List.not_mem_nil, or_false, or_assoc]
theorem DayPath.legIn {t : Tables} {s : List Change} {w : Way} {T : List Int} {F Z : Int} (h : DayPath t s w T F Z) {y : Stay} (hy : y ∈ legStays w.Legs T) : F ≤ y.Minutes.From ∧ y.Minutes.From < y.Minutes.To ∧ y.Minutes.To ≤ Z ∧ y.Airport = false ∧ 0 ≤ y.Index ∧ y.Index < t.Volumes := by
  obtain ⟨g1, g2, g3, g4, l, g5, g6⟩ := legs_in _ _ _ h.tim y hy
  have h1 := h.air
  unfold airOk at h1
  simp only [Bool.and_eq_true, List.all_eq_true] at h1
  have h2 := h1.1.1.2 w h.way
  simp only [wayOk, Bool.and_eq_true, List.all_eq_true] at h2
  have h3 := h2.2 l g5
  simp only [legOk, inB, Bool.and_eq_true, decide_eq_true_eq] at h3
  rw [h.hF, h.hZ]
  refine ⟨g1, g2, g3, g4, ?_⟩
  rw [g6]
  omega

theorem air_cells {t : Tables} {s : List Change} {w : Way} {T : List Int} {F Z : Int} (h : DayPath t s w T F Z) (c : Cell) :
    (c ∈ cellsOf t s (staysOf w T) ∧ c.Airport = true) ↔ (c = ⟨true, w.From, F⟩ ∨ c = ⟨true, w.To, Z⟩) := by
  have h0 := h.lo
  have hd := h.day
  rw [mem_cellsOf]
  constructor
  · rintro ⟨⟨x, hx, h1, h2, h3⟩, h4⟩
    have hA := (cellM_min h3).2
    rcases (h.stays x).1 hx with rfl | hx | rfl
    · left
      unfold loM at h1; unfold hiM at h2
      simp only at h1 h2
      unfold cellM at h3
      rw [if_pos rfl] at h3
      rw [← Option.some.inj h3]
      have : c.Minute = F := by omega
      rw [this]
    · rw [h4, (h.legIn hx).2.2.2.1] at hA
      cases hA
    · right
      unfold loM at h1; unfold hiM at h2
      simp only at h1 h2
      unfold cellM at h3
      rw [if_pos rfl] at h3
      rw [← Option.some.inj h3]
      have : c.Minute = Z := by omega
      rw [this]
  · rintro (rfl | rfl)
    · refine ⟨⟨_, (h.stays _).2 (.inl rfl), ?_, ?_, ?_⟩, rfl⟩
      · unfold loM; simp only; omega
      · unfold hiM; simp only; omega
      · unfold cellM; rw [if_pos rfl]
    · refine ⟨⟨_, (h.stays _).2 (.inr (.inr rfl)), ?_, ?_, ?_⟩, rfl⟩
      · unfold loM; simp only; omega
      · unfold hiM; simp only; omega
      · unfold cellM; rw [if_pos rfl]

theorem sec_out {t : Tables} {s : List Change} {w : Way} {T : List Int} {F Z : Int} (h : DayPath t s w T F Z) {c : Cell} (hc : c ∈ cellsOf t s (staysOf w T)) (ha : c.Airport = false) : F ≤ c.Minute ∧ c.Minute < Z := by
  obtain ⟨x, hx, h1, h2, h3⟩ := mem_cellsOf.1 hc
  have hA := (cellM_min h3).2
  rw [ha] at hA
  unfold loM at h1; unfold hiM at h2
  rcases (h.stays x).1 hx with rfl | hx | rfl
  · cases hA
  · have := h.legIn hx
    omega
  · cases hA

theorem sec_cells {t : Tables} {s : List Change} {w : Way} {T : List Int} {F Z : Int} (h : DayPath t s w T F Z) {m : Int} (h1 : F ≤ m) (h2 : m < Z) :
    ∃ i, ∀ c, (c ∈ cellsOf t s (staysOf w T) ∧ c.Airport = false ∧ c.Minute = m) ↔ c = ⟨false, i, m⟩ := by
  have h0 := h.lo
  have hd := h.day
  obtain ⟨x, hx, h3, h4⟩ := legs_cover _ _ _ h.len h.tim m (by rw [← h.hF]; exact h1) (by rw [← h.hZ]; exact h2)
  have hi := h.legIn hx
  obtain ⟨i, hs⟩ := secAt_some h.air h.sch (v := x.Index) (m := m) ⟨hi.2.2.2.2.1, hi.2.2.2.2.2⟩ (by omega)
  have hcm : cellM t s x m = some ⟨false, i, m⟩ := by
    unfold cellM
    rw [if_neg (by rw [hi.2.2.2.1]; simp), hs]
    rfl
  refine ⟨i, fun c => ⟨?_, ?_⟩⟩
  · rintro ⟨hc, gA, rfl⟩
    obtain ⟨y, hy, g1, g2, g3⟩ := mem_cellsOf.1 hc
    have hA := (cellM_min g3).2
    rw [gA] at hA
    unfold loM at g1; unfold hiM at g2
    rcases (h.stays y).1 hy with rfl | hy | rfl
    · cases hA
    · have := h4 y hy (by omega)
      subst this
      rw [hcm] at g3
      exact (Option.some.inj g3).symm
    · cases hA
  · rintro rfl
    refine ⟨mem_cellsOf.2 ⟨x, (h.stays x).2 (.inr (.inl hx)), ?_, ?_, hcm⟩, rfl, rfl⟩
    · unfold loM; simp only; omega
    · unfold hiM; simp only; omega

def cntA (C : List Cell) : Nat := (C.filter fun c => c.Airport).length
def cntM (C : List Cell) (m : Int) : Nat := (C.filter fun c => !c.Airport && decide (c.Minute = m)).length
theorem least_one (L : List Cell) (c : Cell) : c ∈ leastC [L] 1 ↔ c ∈ L := by
  unfold leastC
  rw [(sortC_perm _).mem_iff, mem_least]
  constructor
  · rintro ⟨h, _⟩
    simpa using h
  · intro h
    refine ⟨by simpa using h, ?_⟩
    have : cntC [L] c ≠ 0 := cntC_pos.2 (by simpa using h)
    omega
theorem airs_two {t : Tables} {s : List Change} {w : Way} {T : List Int} {F Z : Int} (h : DayPath t s w T F Z) {C : List Cell} (hn : C.Nodup) (hC : ∀ c, c ∈ C ↔ c ∈ cellsOf t s (staysOf w T)) : cntA C = 2 := by
  have h0 := h.lo
  have hp : (C.filter fun c => c.Airport).Perm [⟨true, w.From, F⟩, ⟨true, w.To, Z⟩] := by
    refine (List.perm_ext_iff_of_nodup (hn.filter _) ?_).2 fun c => ?_
    · simp; omega
    · rw [List.mem_filter, hC, air_cells h c]
      simp
  unfold cntA
  rw [hp.length_eq]
  rfl
theorem mins_one {t : Tables} {s : List Change} {w : Way} {T : List Int} {F Z : Int} (h : DayPath t s w T F Z) {C : List Cell} (hn : C.Nodup) (hC : ∀ c, c ∈ C ↔ c ∈ cellsOf t s (staysOf w T)) (m : Int) : cntM C m = if F ≤ m ∧ m < Z then 1 else 0 := by
  unfold cntM
  split
  · rename_i hm
    obtain ⟨i, hi⟩ := sec_cells h hm.1 hm.2
    have hp : (C.filter fun c => !c.Airport && decide (c.Minute = m)).Perm [⟨false, i, m⟩] := by
      refine (List.perm_ext_iff_of_nodup (hn.filter _) (by simp)).2 fun c => ?_
      rw [List.mem_filter, hC, List.mem_singleton, ← hi c]
      simp
    rw [hp.length_eq]
    rfl
  · rename_i hm
    rw [List.length_eq_zero_iff, List.filter_eq_nil_iff]
    intro c hc hh
    simp only [Bool.and_eq_true, Bool.not_eq_true', decide_eq_true_eq] at hh
    have := sec_out h ((hC c).1 hc) hh.1
    omega
theorem mins_len {t : Tables} {s : List Change} {w : Way} {T : List Int} {F Z : Int} (h : DayPath t s w T F Z) {C : List Cell} (hn : C.Nodup) (hC : ∀ c, c ∈ C ↔ c ∈ cellsOf t s (staysOf w T)) {es : List (Int × Int)} (he : NodM es) (hl : ∀ m, lookM es m = cntO (cntM C m)) : (es.length : Int) = Z - F := by
  have h0 := h.lo
  have hp : (es.map (·.1)).Perm (rangeL F (Z - 1)) := by
    refine (List.perm_ext_iff_of_nodup he ((rangeL_sorted _ _).imp (fun h => by omega))).2 fun m => ?_
    rw [← hasM_iff, mem_rangeL]
    have h1 := hl m
    rw [mins_one h hn hC m] at h1
    constructor
    · intro hh
      by_cases hm : F ≤ m ∧ m < Z
      · omega
      · rw [if_neg hm] at h1
        have := lookM_none.1 h1
        rw [hh] at this
        cases this
    · intro hm
      rw [if_pos (by omega)] at h1
      cases hh : hasM es m with
      | true => rfl
      | false => rw [lookM_none.2 hh] at h1; cases h1
  have := hp.length_eq
  rw [List.length_map, rangeL_len] at this
  omega
theorem cntM_snoc (C : List Cell) (c : Cell) (m : Int) : cntM (C ++ [c]) m = cntM C m + if c.Airport = false ∧ c.Minute = m then 1 else 0 := by
  unfold cntM
  rw [List.filter_append, List.length_append]
  by_cases h : c.Airport = false ∧ c.Minute = m
  · rw [if_pos h]; simp [h.1, h.2]
  · rw [if_neg h]
    have : (!c.Airport && decide (c.Minute = m)) = false := by
      cases hc : c.Airport with
      | true => rfl
      | false => simp [hc] at h ⊢; exact h
    simp [this]
theorem cntA_snoc (C : List Cell) (c : Cell) : cntA (C ++ [c]) = cntA C + if c.Airport then 1 else 0 := by
  unfold cntA
  rw [List.filter_append, List.length_append]
  cases h : c.Airport <;> simp [h]
theorem legStays_full : ∀ (ls : List Leg) (ts : List Int), ts.length = ls.length + 1 → (legStays ls ts).length = ls.length
  | [], _, _ => by simp [legStays]
  | l :: ls, [], h => by simp at h
  | l :: ls, [a], h => by simp at h
  | l :: ls, a :: b :: ts, h => by
    unfold legStays
    rw [List.length_cons, legStays_full ls (b :: ts) (by simpa using h), List.length_cons]
theorem staysOf_len {w : Way} {T : List Int} (h : T.length = w.Legs.length + 1) : (staysOf w T).length = T.length + 1 := by
  unfold staysOf
  rw [List.length_append, List.length_cons, legStays_full _ _ h, List.length_singleton]
  omega
theorem keysOk_Int {α : Type} {f : α → PV} (es : List (Int × α)) (c : Int) : keysOk false [.int] (encM encInt f es) (encInt c) := by
  refine ⟨⟨rfl, rfl⟩, rfl, fun p hp => ?_⟩
  unfold encM at hp
  obtain ⟨q, _, rfl⟩ := List.mem_map.1 hp
  refine ⟨rfl, ?_⟩
  simp only [keq_Int]
  simp [encInt, PV.cells, eqCells, eqPV]
/-- What is known of a path that Uses takes. -/
theorem day_of {t : Tables} {s : List Change} {cl : Int} {p : Path} (h : cntErr t s cl [p] = 0) :
    stErr1 t p = 0 ∧ (0 ≤ cl ∧ cl < t.Kinds.length) ∧ ∃ w, staysP t p = staysOf w p.Times ∧ p.Times.length = w.Legs.length + 1 ∧ (1 ≤ w.Legs.length ∧ w.Legs.length ≤ 8) ∧ (∀ m ∈ p.Times, 0 ≤ m ∧ m ≤ 65535) ∧
      ∀ Z, Z = p.Times.getLastD 0 → Z < 1440 → DayPath t s w p.Times (p.Times.headD 0) Z := by
  unfold cntErr at h
  split at h
  · rename_i h0; exact absurd h h0
  rename_i h0
  split at h
  · cases h
  rename_i h1
  have h2 : stErr1 t p = 0 := by
    unfold stErr at h
    split at h
    · assumption
    · rename_i hh; exact absurd h hh
  have hc : capErr t s = 0 := Decidable.not_not.1 h0
  unfold capErr at hc
  have ha : airOk t = true := by
    cases ha : airOk t with
    | true => rfl
    | false => rw [ha] at hc; cases hc
  rw [if_pos ha] at hc
  have hs : schemeOk t.Configs.length t.Modes s = true := by
    cases hs : schemeOk t.Configs.length t.Modes s with
    | true => rfl
    | false => rw [hs] at hc; cases hc
  have hp : pathOk t.Ways p = true := by
    have h3 := h2
    unfold stErr1 at h3
    rw [if_pos ha] at h3
    cases hp : pathOk t.Ways p with
    | true => rfl
    | false => rw [hp] at h3; cases h3
  obtain ⟨w, a1, a2, a3, a4, a5⟩ := pathOk_way hp
  have hw := List.mem_of_getElem? a2
  refine ⟨h2, ⟨by omega, by omega⟩, w, a5, a3, ⟨(air_legs ha hw).2, (air_legs ha hw).1⟩, a4, fun Z hZ hZ2 => ⟨ha, hs, hw, a3, ?_, rfl, hZ, hZ2⟩⟩
  unfold pathOk at hp
  rw [if_pos a1, a2] at hp
  simp only [Bool.and_eq_true] at hp
  exact hp.2
end Go.Abs
