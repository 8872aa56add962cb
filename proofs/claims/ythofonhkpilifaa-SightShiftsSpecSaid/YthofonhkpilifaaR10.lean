/-
  References: sight's.
-/
import Derived.Test.YthofonhkpilifaaR9
import Derived.Test.YthofonhkpilifaaF14
namespace Go.Abs
open Go.RowKit Go.Proofs

theorem ref23_isShift (n : Int) : CallsPV Try.prog 25 [.int .i64 n] (.bool (isShiftB n)) := by
  refine callsPV_by (clo := fun _ => false) (rows := false) env_ok Try.func25 rfl (enters_of Try.func25 (by kernel_rfl) rfl) (fun A q P Y hr hA hq => ?_)
  conv => cbv
  split <;> (rename_i h; conv => cbv) <;> (subst hA; subst hq; simp_all [stdOps, isShiftB, inB]; try omega)
theorem ref23_isMinute (n : Int) : CallsPV Try.prog 26 [.int .i64 n] (.bool (isMinuteB n)) := by
  refine callsPV_by (clo := fun _ => false) (rows := false) env_ok Try.func26 rfl (enters_of Try.func26 (by kernel_rfl) rfl) (fun A q P Y hr hA hq => ?_)
  have hM : isMinuteB n = (decide (0 ≤ n) && decide (n < 1440)) := by
    unfold isMinuteB inB
    congr 1
    rw [decide_eq_decide]; omega
  rw [hM] at hq
  conv => cbv
  split <;> (rename_i h; conv => cbv) <;> (subst hA; subst hq; simp_all [stdOps]; try omega)

theorem ref23_stays (t : Tables) (l : List Path) (hl : l.length ≤ 1000) {xs : List PV} (hx : xs = encPaths l) : CallsPV Try.prog 27 [encTables t, .list 2 xs] (.tup [stRes t l, .int .i64 (stErr t l)]) := by
  refine callsPV_by (clo := fun _ => false) (rows := false) env_ok Try.func27 rfl (enters_of Try.func27 (by kernel_rfl) rfl) (fun A q P Y hr hA hq => ?_)
  have hll : xs.length = l.length := by rw [hx]; simp [encPaths]
  have hcall := ref17_Stays t
  obtain ⟨ss, hss⟩ : ∃ ss, ss = encSectors t.Sectors := ⟨_, rfl⟩
  obtain ⟨cs, hcs⟩ : ∃ cs, cs = encConfigs t.Configs := ⟨_, rfl⟩
  obtain ⟨ws, hws⟩ : ∃ ws, ws = encWays t.Ways := ⟨_, rfl⟩
  obtain ⟨ms, hms⟩ : ∃ ms, ms = encIntLs t.Modes := ⟨_, rfl⟩
  obtain ⟨ks, hks⟩ : ∃ ks, ks = encKinds t.Kinds := ⟨_, rfl⟩
  obtain ⟨nv, hnv⟩ : ∃ nv, nv = t.Volumes := ⟨_, rfl⟩
  have htab : encTables t = .agg [.int .i64 nv, .list 5 ss, .list 3 cs, .list 3 ws, .list 1 ms, .list 6 ks] := by rw [encTables_eq t hss hcs hws hms hks, hnv]
  rw [htab] at hcall ⊢
  conv => cbv
  refine loop_set hA (fun (z : Int × List PV) s => { (s.put (some 7) (.val (.int .i64 z.1))).put (some 6) (.own 0 4 z.2) with tk := [(A.nLen z.2, 101)] })
    (fun z => 0 ≤ z.1 ∧ z.1 ≤ l.length ∧ stErr t (l.take z.1.toNat) = 0 ∧ z.2 = encStays (stL t (l.take z.1.toNat)) ∧ z.2.length ≤ 10 * z.1.toNat) (fun z => (l.length - z.1).toNat) (0, []) ?_ ?_ ?_
  · conv => cbv
    exact wk_own 6 4 4 [] _ rfl (.inr rfl) (by repeat (first | refine leL_same ?_ | refine leL_any ?_ | exact leL_nil)) (by subst hA; rfl)
  · exact ⟨Int.le_refl _, by omega, rfl, rfl, by simp⟩
  · rintro R ⟨i, L⟩ ⟨hi0, hi1, he, hL, hLl⟩ hR
    simp only at hi0 hi1 he hL hLl
    conv => cbv
    split
    · rename_i hc
      have hi : i < l.length := ltT' hA rfl (lenI hA hll) hc
      have his : A.iAdd i 1 = i + 1 := addI hA _ _
      have hir : A.inR (A.iAdd i 1) := inR' hA his (by unfold inI64; omega)
      conv => cbv
      refine ⟨draw_intro hA (by kernel_rfl), ?_⟩
      refine idx_Path hA hx hi0 hi (fun p ts hp hts => ?_)
      have htake := take_snoc' hi0 hp
      have hcp := hcall p
      rw [encPath_eq p hts] at hcp
      have hbad : stErr1 t p ≠ 0 → stErr t l = stErr1 t p := by
        intro h
        have e : l = l.take i.toNat ++ (p :: l.drop (i.toNat + 1)) := by
          have h1 := List.getElem?_eq_some_iff.1 hp
          rw [← h1.2, List.getElem_cons_drop h1.1, List.take_append_drop]
        rw [e, stErr_append t _ _ he, stErr, if_neg h]
      have hgood : stErr1 t p = 0 → stErr t (l.take (i + 1).toNat) = 0 ∧ stL t (l.take (i + 1).toNat) = stL t (l.take i.toNat) ++ staysP t p := by
        intro h
        rw [htake, stErr_append t _ _ he]
        exact ⟨by simp [stErr, h], by simp [stL]⟩
      have hlp := fun h => staysP_len (t := t) (p := p) h
      obtain ⟨e, hee⟩ : ∃ e, e = stErr1 t p := ⟨_, rfl⟩
      obtain ⟨M, hM⟩ : ∃ M, M = encStays (staysP t p) := ⟨_, rfl⟩
      have hMl : M.length = (staysP t p).length := by rw [hM]; simp [encStays]
      unfold stRes1 at hcp
      rw [← hee, ← hM] at hcp
      rw [← hee] at hbad hgood hlp
      obtain ⟨way, T⟩ := p
      simp only at hcp hts
      conv => cbv
      by_cases h0 : e = 0
      · rw [if_pos h0, h0] at hcp
        obtain ⟨g1, g2⟩ := hgood h0
        have hml := hlp h0
        have hnext : A.lApp L M = encStays (stL t (l.take (i + 1).toNat)) := by
          rw [g2]; subst hA hL hM; show encStays _ ++ encStays _ = _; simp [encStays]
        have hnl : (A.lApp L M).length ≤ 10 * (i + 1).toNat := by
          subst hA; show (L ++ M).length ≤ _; rw [List.length_append]; omega
        have hroom : A.room (A.nLen (A.lApp L M)) 32 := by
          have : A.nLen (A.lApp L M) = (A.lApp L M).length := by subst hA; rfl
          rw [this]
          subst hA
          show (L ++ M).length * (32 + 1) ≤ 140737488355328
          have hq : (L ++ M).length ≤ 10 * (i + 1).toNat := hnl
          have : (i + 1).toNat ≤ 1000 := by omega
          have : (L ++ M).length ≤ 10000 := by omega
          omega
        have htk : A.tkEq (A.nLen L) (A.nLen L) := by subst hA; rfl
        refine call_intro hA (hcp) ?_
        conv => cbv
        split
        · rename_i hc
          cases (neT hA hc rfl)
        conv => cbv
        refine ⟨⟨htk, hroom⟩, hir, hR (A.iAdd i 1, A.lApp L M) _ ?_ ?_ ?_⟩
        · conv => cbv
          exact wk_sl (by repeat (first | refine leL_same ?_ | refine leL_any ?_ | exact leL_nil))
        · rw [his]; exact ⟨by omega, by omega, g1, hnext, hnl⟩
        · rw [his]; simp only; omega
      · rw [if_neg h0] at hcp
        refine call_intro hA (hcp) ?_
        conv => cbv
        split
        rotate_left
        · rename_i hc
          cases (h0 (neF hA hc))
        conv => cbv
        unfold stRes at hq
        rw [hbad h0, if_neg h0] at hq
        rw [← hq]
    · rename_i hc
      have hi : l.length ≤ i := ltF' hA rfl (lenI hA hll) hc
      conv => cbv
      rw [List.take_of_length_le (by omega)] at he hL
      unfold stRes at hq
      rw [he, if_pos rfl, ← hL] at hq
      rw [← hq]

def rightC (r : Report) (shift : Int) (s : Stay) : Bool := ofVol r.Volume s && (decide (s.Minutes.From ≤ r.Minute + shift) && decide (r.Minute + shift < s.Minutes.To))

set_option maxHeartbeats 1000000 in
theorem ref23_right (r : Report) (shift : Int) (hb : inI64 (r.Minute + shift)) (l : List Stay) {xs : List PV} (hx : xs = encStays l) : CallsPV Try.prog 28 [encReport r, .int .i64 shift, .list 4 xs] (.bool (rightB r shift l)) := by
  refine callsPV_by (clo := fun _ => false) (rows := false) env_ok Try.func28 rfl (enters_of Try.func28 (by kernel_rfl) rfl) (fun A q P Y hr hA hq => ?_)
  have hll : xs.length = l.length := by rw [hx]; simp [encStays]
  have hlen : l.length ≤ 9223372036854775807 := by have := (hr.mem (p := .list 4 xs) (by simp)).len; omega
  have hB : rightB r shift l = l.any (rightC r shift) := rfl
  have hC : ∀ s, rightC r shift s = (ofVol r.Volume s && (decide (s.Minutes.From ≤ r.Minute + shift) && decide (r.Minute + shift < s.Minutes.To))) := fun _ => rfl
  generalize rightC r shift = rc at hB hC
  obtain ⟨r1, r2, r3, r4, r5, r6⟩ := r
  simp only at hC hb
  have hs : A.iAdd r3 shift = r3 + shift := addI hA _ _
  have hsr : A.inR (A.iAdd r3 shift) := inR' hA hs hb
  conv => cbv
  refine loop_set hA (fun (i : Int) s => s.put (some 7) (.val (.int .i64 i))) (fun i => 0 ≤ i ∧ i ≤ (l.length : Int) ∧ (fun i => ∀ s ∈ l.take i.toNat, rc s = false) i) (fun i => ((l.length : Int) - i).toNat) 0 ?_ ?_ ?_
  · conv => cbv
    exact wk_sl (by repeat (first | refine leL_same ?_ | refine leL_any ?_ | exact leL_nil))
  · exact ⟨Int.le_refl _, by omega, by simp⟩
  rintro R i ⟨hi0, hi1, hi2⟩ hRi
  conv => cbv
  split
  ·   rename_i hc
      have hi : i < (l.length : Int) := ltT' hA rfl (lenI hA hll) hc
      have his : A.iAdd i 1 = i + 1 := addI hA _ _
      have hir : A.inR (A.iAdd i 1) := inR' hA his (by unfold inI64; omega)
      have him : ((l.length : Int) - A.iAdd i 1).toNat < ((l.length : Int) - i).toNat := by rw [his]; omega
      have hin : (fun i => ∀ s ∈ l.take i.toNat, rc s = false) (i + 1) → 0 ≤ A.iAdd i 1 ∧ A.iAdd i 1 ≤ (l.length : Int) ∧ (fun i => ∀ s ∈ l.take i.toNat, rc s = false) (A.iAdd i 1) := fun h => by rw [his]; exact ⟨by omega, by omega, h⟩
      simp only at hin
      conv => cbv
      refine ⟨draw_intro hA (by kernel_rfl), ?_⟩
      refine idx_Stay hA hx hi0 hi (fun s hs0 => ?_)
      have ht := take_snoc' hi0 hs0
      obtain ⟨s1, s2, s3, s4⟩ := s
      have hC1 := hC ⟨s1, s2, s3, s4⟩
      simp only [ofVol] at hC1
      conv => cbv
      split
      rotate_left
      · rename_i hc
        have := notF hA hc
        conv => cbv
        exact ⟨hir, hRi (A.iAdd i 1) _ (by (conv => cbv); exact wk_sl (by repeat (first | refine leL_same ?_ | refine leL_any ?_ | exact leL_nil))) (hin (mem_snoc ht hi2 (by rw [hC1, this]; rfl))) him⟩
      rename_i c1; replace c1 := notT hA c1
      conv => cbv
      refine idx_Stay hA hx hi0 hi (fun z hz => ?_)
      obtain rfl := Option.some.inj ((hs0).symm.trans hz)
      conv => cbv
      split
      rotate_left
      · rename_i hc
        have := eqF hA hc
        conv => cbv
        exact ⟨hir, hRi (A.iAdd i 1) _ (by (conv => cbv); exact wk_sl (by repeat (first | refine leL_same ?_ | refine leL_any ?_ | exact leL_nil))) (hin (mem_snoc ht hi2 (by rw [hC1]; simp [this]))) him⟩
      rename_i c2; replace c2 := eqT hA c2
      conv => cbv
      refine idx_Stay hA hx hi0 hi (fun z hz => ?_)
      obtain rfl := Option.some.inj ((hs0).symm.trans hz)
      conv => cbv
      refine ⟨hsr, ?_⟩
      split
      rotate_left
      · rename_i hc
        have := leF' hA rfl hs hc
        conv => cbv
        exact ⟨hir, hRi (A.iAdd i 1) _ (by (conv => cbv); exact wk_sl (by repeat (first | refine leL_same ?_ | refine leL_any ?_ | exact leL_nil))) (hin (mem_snoc ht hi2 (by rw [hC1]; simp; omega))) him⟩
      rename_i c3; replace c3 := leT' hA rfl hs c3
      conv => cbv
      refine ⟨hsr, ?_⟩
      refine idx_Stay hA hx hi0 hi (fun z hz => ?_)
      obtain rfl := Option.some.inj ((hs0).symm.trans hz)
      conv => cbv
      split
      rotate_left
      · rename_i hc
        have := ltF' hA hs rfl hc
        conv => cbv
        exact ⟨hir, hRi (A.iAdd i 1) _ (by (conv => cbv); exact wk_sl (by repeat (first | refine leL_same ?_ | refine leL_any ?_ | exact leL_nil))) (hin (mem_snoc ht hi2 (by rw [hC1]; simp; omega))) him⟩
      rename_i c4; replace c4 := ltT' hA hs rfl c4
      conv => cbv
      rw [← hq, hB, List.any_eq_true.2 ⟨_, List.mem_of_getElem? hs0, by rw [hC1, c1]; simp; omega⟩]
  rename_i hc
  have hi : i = (l.length : Int) := by have := ltF' hA rfl (lenI hA hll) hc; omega
  conv => cbv
  rw [← hq, hB, any_f (take_all hi hi2)]
end Go.Abs
