/-
  Functions: sight's small ones.
  Functions: sight's stays of one volume, and whether a report is right.
-/
import Derived.Test.YtcafjndjnfdnpaaGreatF2
import Derived.Test.YtcafjndjnfdnpaaGreatS1
set_option linter.unusedVariables false
set_option linter.unusedSimpArgs false
namespace Go.Abs
open Go.RowKit Go.Proofs

theorem sight_within (n lo hi : Int) : CallsPV Tryz.prog 100 [.int .i64 n, .int .i64 lo, .int .i64 hi] (.bool (inB n lo hi)) := by
  refine callsPV_by (clo := fun _ => false) (rows := false) env_ok Tryz.func100 rfl (enters_of Tryz.func100 (by kernel_rfl) rfl) (fun A q P Y hr hA hq => ?_)
  conv => cbv
  split <;> (rename_i h; conv => cbv) <;> (subst hA; subst hq; simp_all [stdOps, inB]; try omega)

def isShiftB (n : Int) : Bool := inB n (-3) 3
def isMinuteB (n : Int) : Bool := inB n 0 1439

theorem sight_isShift (n : Int) : CallsPV Tryz.prog 62 [.int .i64 n] (.bool (isShiftB n)) := by
  refine callsPV_by (clo := fun _ => false) (rows := false) env_ok Tryz.func62 rfl (enters_of Tryz.func62 (by kernel_rfl) rfl) (fun A q P Y hr hA hq => ?_)
  conv => cbv
  refine callB hA (sight_within n (-3) 3) rfl (fun r hr => ?_)
  conv => cbv
  rw [← hq, hr]; rfl

theorem sight_isMinute (n : Int) : CallsPV Tryz.prog 63 [.int .i64 n] (.bool (isMinuteB n)) := by
  refine callsPV_by (clo := fun _ => false) (rows := false) env_ok Tryz.func63 rfl (enters_of Tryz.func63 (by kernel_rfl) rfl) (fun A q P Y hr hA hq => ?_)
  conv => cbv
  refine callB hA (sight_within n 0 1439) rfl (fun r hr => ?_)
  conv => cbv
  rw [← hq, hr]; rfl

/-- A report that is none. -/
def repBad (many : Int) (r : Report) : Bool := !inB r.Station 0 (many - 1) || !isMinuteB r.Minute

theorem sight_Wrong1 (many : Int) (hm : -9223372036854775808 < many ∧ many ≤ 9223372036854775807) (x : Report) : CallsPV Tryz.prog 99 [encReport x, .ptr [.int .i64 many] 0] (.bool (repBad many x)) := by
  refine callsPV_by (clo := fun _ => false) (rows := false) env_ok Tryz.func99 rfl (enters_of Tryz.func99 (by kernel_rfl) rfl) (fun A q P Y hr hA hq => ?_)
  obtain ⟨a, b, c, d, e, f⟩ := x
  conv => cbv
  refine ⟨by subst hA; show inI64 (many - 1); unfold inI64; omega, callB hA (sight_within a 0 (many - 1)) (by subst hA; rfl) (fun r hr => ?_)⟩
  conv => cbv
  split <;> (rename_i h; conv => cbv)
  · have t : A.bNot r = true := h
    rw [← hq]; subst hA; simp_all [stdOps, repBad]
  · have t : A.bNot r = false := h
    refine callB hA (sight_isMinute c) rfl (fun r2 hr2 => ?_)
    conv => cbv
    rw [← hq]
    subst hA
    simp_all [stdOps, repBad]

theorem sight_Wrong2 (n : Int) : CallsPV Tryz.prog 101 [.int .i64 n] (.bool (!isShiftB n)) := by
  refine callsPV_by (clo := fun _ => false) (rows := false) env_ok Tryz.func101 rfl (enters_of Tryz.func101 (by kernel_rfl) rfl) (fun A q P Y hr hA hq => ?_)
  conv => cbv
  refine callB hA (sight_isShift n) rfl (fun r hr => ?_)
  conv => cbv
  rw [← hq, hr]; subst hA; rfl

def shiftBad (x : Station) : Bool := !inB x.Shift 0 3

theorem sight_Shifts1 (x : Station) : CallsPV Tryz.prog 104 [encStation x] (.bool (shiftBad x)) := by
  refine callsPV_by (clo := fun _ => false) (rows := false) env_ok Tryz.func104 rfl (enters_of Tryz.func104 (by kernel_rfl) rfl) (fun A q P Y hr hA hq => ?_)
  obtain ⟨a, b, c⟩ := x
  rw [show encStation ⟨a, b, c⟩ = .agg [.list 1 (encInts a), .int .i64 b, .int .i64 c] from rfl]
  generalize encInts a = u
  conv => cbv
  refine callB hA (sight_within b 0 3) rfl (fun r hr => ?_)
  conv => cbv
  rw [← hq, hr]; subst hA; rfl

end Go.Abs

namespace Go.Abs
open Go.RowKit Go.Proofs

theorem Real.ptr {cs : List PV} {off : Nat} (h : Real [.ptr cs off]) {c : PV} (hc : c ∈ cs) : Real [c] := by
  obtain ⟨S, w, vs, hS, hl, hv⟩ := h
  match vs, hl with
  | [v], _ =>
    have hr := hv 0 _ v rfl rfl
    obtain ⟨j, hj⟩ := List.getElem?_of_mem hc
    cases hr with
    | ptr _ _ ad g h1 h2 => exact ⟨S, w, [g j], hS, RVs.cons (h2 j c hj) RVs.nil⟩

def ofVol (v : Int) (s : Stay) : Bool := !s.Airport && decide (s.Index = v)
def overRows (v : Int) (l : List Stay) : List (List PV) := (l.filter (ofVol v)).map fun s => [encSpan s.Minutes]

theorem sight_over1 (v : Int) (l : List Stay) {xs : List PV} (hx : xs = encStays l) : SeqPV Tryz.prog 193 [.ptr [.list 4 xs] 0, .ptr [.int .i64 v] 0] (overRows v l) := by
  refine seqPV_by (clo := fun _ => false) (rows := false) env_ok Tryz.func193 rfl (enters_of Tryz.func193 (by kernel_rfl) rfl) rfl (fun A P Y Y' y R hr hys hy hA hR => ?_)
  have hll : xs.length = l.length := by rw [hx]; simp [encStays]
  have hlen : l.length ≤ 9223372036854775807 := by
    have h1 := ((Real.mem hr (p := .ptr [.list 4 xs] 0) (by simp)).ptr (c := .list 4 xs) (by simp)).len
    omega
  have hT : A.bNot true = false := by subst hA; rfl
  have hF : A.bNot false = true := by subst hA; rfl
  conv => cbv
  refine loop_set hA (fun (z : Int × Nat) s => { s.put (some 8) (.val (.int .i64 z.1)) with ax := ⟨s.ax.mp, z.2⟩ }) (fun z => 0 ≤ z.1 ∧ z.1 ≤ l.length ∧ z.2 = (overRows v (l.take z.1.toNat)).length) (fun z => (l.length - z.1).toNat) (0, 0) ?_ ?_ ?_
  · conv => cbv
    exact wk_sl (by simp [leL, leS])
  · exact ⟨Int.le_refl _, by omega, by simp [overRows]⟩
  · rintro R2 ⟨i, k⟩ ⟨hi0, hi1, hik⟩ hR2
    simp only at hi0 hi1 hik
    conv => cbv
    split
    · rename_i hc
      have hc' : i < l.length := by
        have h' : A.iLt i (A.lLen xs) = true := hc
        subst hA; simp [stdOps] at h'; omega
      conv => cbv
      refine idx_Stay hA hx hi0 hc' (fun s hs => ?_)
      have htake := take_snoc' hi0 hs
      have hinr : A.inR (A.iAdd i 1) := by subst hA; show inI64 (i + 1); unfold inI64; omega
      obtain ⟨s1, s2, s3, s4⟩ := s
      obtain ⟨sp, hsp⟩ : ∃ sp, sp = (⟨s1, s2, ⟨s3, s4⟩⟩ : Stay) := ⟨_, rfl⟩
      have hskip : ofVol v sp = false → overRows v (l.take (i + 1).toNat) = overRows v (l.take i.toNat) := by
        intro h; rw [htake, ← hsp]; simp [overRows, List.filter_append, h]
      have hhit : ofVol v sp = true → overRows v (l.take (i + 1).toNat) = overRows v (l.take i.toNat) ++ [[encSpan ⟨s3, s4⟩]] := by
        intro h; rw [htake, ← hsp]; simp [overRows, List.filter_append, h]; rw [hsp]
      have hys1 : ofVol v sp = true → Y.ys[k]? = some [encSpan ⟨s3, s4⟩] := by
        intro h
        rw [hys, hik]
        have e : overRows v l = overRows v (l.take (i + 1).toNat) ++ overRows v (l.drop (i + 1).toNat) := by
          rw [overRows, overRows, overRows, ← List.map_append, ← List.filter_append, List.take_append_drop]
        rw [e, hhit h, List.append_assoc, List.getElem?_append_right (Nat.le_refl _)]
        simp
      have hi1' : A.iAdd i 1 = i + 1 := by subst hA; rfl
      have hmu : (l.length - A.iAdd i 1).toNat < (l.length - i).toNat := by rw [hi1']; omega
      have hskipI : ofVol v sp = false → 0 ≤ A.iAdd i 1 ∧ A.iAdd i 1 ≤ l.length ∧ k = (overRows v (l.take (A.iAdd i 1).toNat)).length := by
        intro h; rw [hi1', hskip h]; exact ⟨by omega, by omega, hik⟩
      have hhitI : ofVol v sp = true → 0 ≤ A.iAdd i 1 ∧ A.iAdd i 1 ≤ l.length ∧ k + 1 = (overRows v (l.take (A.iAdd i 1).toNat)).length := by
        intro h; rw [hi1', hhit h]; exact ⟨by omega, by omega, by rw [List.length_append, ← hik]; rfl⟩
      conv => cbv
      split
      · rename_i c1
        have d1 : s1 = false := by subst hA; simpa [stdOps] using c1
        conv => cbv
        split
        · rename_i c2
          have d2 : s2 = v := by subst hA; simpa [stdOps] using c2
          have hv1 : ofVol v sp = true := by rw [hsp]; simp [ofVol, d1, d2]
          conv => cbv
          refine yld_intro' hA rfl hy (hys1 hv1) ?_ (fun n hn => ?_)
          · conv => cbv
            split
            · rename_i c3
              have hf : False := absurd (show A.bNot true = true from c3) (by rw [hT]; simp); cases hf
            · conv => cbv
              exact ⟨hinr, hR2 (A.iAdd i 1, k + 1) _ (by (conv => cbv); exact wk_round (bx := []) (bx' := [_]) (mp := []) (mp' := []) (by simp [leL, leS]) (by simp) (by simp) rfl rfl) (hhitI hv1) hmu⟩
          · conv => cbv
            split
            · conv => cbv
              exact hR _ (.inr (by rw [← hys]; exact hn))
            · rename_i c3
              have hf : False := absurd (show A.bNot false = false from c3) (by rw [hF]; simp); cases hf
        · rename_i c2
          have d2 : s2 ≠ v := by subst hA; have t := c2; simp [stdOps] at t; exact t
          have hv1 : ofVol v sp = false := by rw [hsp]; simp [ofVol, d2]
          conv => cbv
          exact ⟨hinr, hR2 (A.iAdd i 1, k) _ (by (conv => cbv); exact wk_round (bx := []) (bx' := [_]) (mp := []) (mp' := []) (by simp [leL, leS]) (by simp) (by simp) rfl rfl) (hskipI hv1) hmu⟩
      · rename_i c1
        have d1 : s1 = true := by subst hA; simpa [stdOps] using c1
        have hv1 : ofVol v sp = false := by rw [hsp]; simp [ofVol, d1]
        conv => cbv
        exact ⟨hinr, hR2 (A.iAdd i 1, k) _ (by (conv => cbv); exact wk_round (bx := []) (bx' := [_]) (mp := []) (mp' := []) (by simp [leL, leS]) (by simp) (by simp) rfl rfl) (hskipI hv1) hmu⟩
    · rename_i hc
      have hc' : ¬ i < l.length := by
        have h' : A.iLt i (A.lLen xs) = false := hc
        subst hA; simp [stdOps] at h'; omega
      conv => cbv
      refine hR _ (.inl ?_)
      rw [hik, List.take_of_length_le (by omega)]

theorem sight_over (v : Int) (xs : List PV) : CallsPV Tryz.prog 136 [.list 4 xs, .int .i64 v] (.fn 193 [.ptr [.list 4 xs] 0, .ptr [.int .i64 v] 0]) := by
  refine callsPV_by (clo := fun _ => false) (rows := false) env_ok Tryz.func136 rfl (enters_of Tryz.func136 (by kernel_rfl) rfl) (fun A q P Y hr hA hq => ?_)
  conv => cbv
  rw [← hq]

/-- A report is right for one of some stays. -/
def rightB (r : Report) (shift : Int) (l : List Stay) : Bool := l.any fun s => ofVol r.Volume s && (decide (s.Minutes.From ≤ r.Minute + shift) && decide (r.Minute + shift < s.Minutes.To))

theorem sight_right (r : Report) (shift : Int) (hb : inI64 (r.Minute + shift)) (l : List Stay) {xs : List PV} (hx : xs = encStays l) : CallsPV Tryz.prog 65 [encReport r, .int .i64 shift, .list 4 xs] (.bool (rightB r shift l)) := by
  refine callsPV_by (clo := fun _ => false) (rows := false) env_ok Tryz.func65 rfl (enters_of Tryz.func65 (by kernel_rfl) rfl) (fun A q P Y hr hA hq => ?_)
  obtain ⟨r1, r2, r3, r4, r5, r6⟩ := r
  have hseq := sight_over1 r6 l hx
  conv => cbv
  refine call_intro hA (sight_over r6 xs) ?_
  conv => cbv
  refine rng_intro hA hseq (fun x hx => ?_) (fun (_ : Unit) s => s) (fun k _ => ∀ s ∈ (l.filter (ofVol r6)).take k, ¬ (s.Minutes.From ≤ r3 + shift ∧ r3 + shift < s.Minutes.To)) () (fun _ => rfl) (Wk.refl _) ?_ ?_ ?_
  · simp only [overRows, List.mem_map] at hx
    obtain ⟨s, _, rfl⟩ := hx
    rfl
  · simp
  · intro R k _ x hx hk hR
    simp only [overRows, List.getElem?_map] at hx
    cases hs : (l.filter (ofVol r6))[k]? with
    | none => rw [hs] at hx; cases hx
    | some s =>
      rw [hs] at hx
      simp only [Option.map_some, Option.some.injEq] at hx
      subst hx
      have hmem : s ∈ l.filter (ofVol r6) := List.mem_of_getElem? hs
      have hadd : A.iAdd r3 shift = r3 + shift := by subst hA; rfl
      have hinr : A.inR (A.iAdd r3 shift) := by rw [hadd]; subst hA; exact hb
      have htk : (l.filter (ofVol r6)).take (k + 1) = (l.filter (ofVol r6)).take k ++ [s] := by rw [List.take_add_one, hs]; rfl
      have hno : ¬ (s.Minutes.From ≤ r3 + shift ∧ r3 + shift < s.Minutes.To) → ∀ s' ∈ (l.filter (ofVol r6)).take (k + 1), ¬ (s'.Minutes.From ≤ r3 + shift ∧ r3 + shift < s'.Minutes.To) := by
        intro h s' hs'
        rw [htk, List.mem_append, List.mem_singleton] at hs'
        rcases hs' with h' | rfl
        · exact hk s' h'
        · exact h
      obtain ⟨s1, s2, s3, s4⟩ := s
      simp only at hno
      conv => cbv
      refine ⟨hinr, ?_⟩
      split
      · rename_i c1
        have d1 : s3 ≤ r3 + shift := by
          have h' : A.iLe s3 (A.iAdd r3 shift) = true := c1
          rw [hadd] at h'; subst hA; simpa [stdOps] using h'
        conv => cbv
        refine ⟨hinr, ?_⟩
        split
        · rename_i c2
          have d2 : r3 + shift < s4 := by
            have h' : A.iLt (A.iAdd r3 shift) s4 = true := c2
            rw [hadd] at h'; subst hA; simpa [stdOps] using h'
          conv => cbv
          have hr1 : rightB ⟨r1, r2, r3, r4, r5, r6⟩ shift l = true := by
            rw [List.mem_filter] at hmem
            unfold rightB
            rw [List.any_eq_true]
            exact ⟨_, hmem.1, by simp [hmem.2, d1, d2]⟩
          rw [← hq, hr1]
        · rename_i c2
          have d2 : ¬ r3 + shift < s4 := by
            have h' : A.iLt (A.iAdd r3 shift) s4 = false := c2
            rw [hadd] at h'; subst hA; simpa [stdOps] using h'
          conv => cbv
          exact hR () _ (by (conv => cbv); exact wk_round (bx := [_, _, _]) (bx' := [_]) (mp := []) (mp' := []) (by simp [leL, leS]) (by simp) (by simp) rfl rfl) (hno (by omega))
      · rename_i c1
        have d1 : ¬ s3 ≤ r3 + shift := by
          have h' : A.iLe s3 (A.iAdd r3 shift) = false := c1
          rw [hadd] at h'; subst hA; simpa [stdOps] using h'
        conv => cbv
        exact hR () _ (by (conv => cbv); exact wk_round (bx := [_, _, _]) (bx' := [_]) (mp := []) (mp' := []) (by simp [leL, leS]) (by simp) (by simp) rfl rfl) (hno (by omega))
  · intro _ hk
    conv => cbv
    have hr1 : rightB ⟨r1, r2, r3, r4, r5, r6⟩ shift l = false := by
      unfold rightB
      rw [List.any_eq_false]
      intro s hs
      simp only [Bool.and_eq_true, decide_eq_true_eq]
      intro h
      refine hk s ?_ h.2
      rw [List.take_of_length_le (by simp [overRows])]
      exact List.mem_filter.2 ⟨hs, h.1⟩
    rw [← hq, hr1]
end Go.Abs
