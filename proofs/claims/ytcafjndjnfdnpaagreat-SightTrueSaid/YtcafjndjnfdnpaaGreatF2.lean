/-
  Functions: bounds, hours, speeds.
  Functions: kinds; the parts of an airspace's check.
-/
import Derived.Test.YtcafjndjnfdnpaaGreatF1
import Derived.Test.YtcafjndjnfdnpaaGreatS1
set_option linter.unusedVariables false
set_option linter.unusedSimpArgs false
namespace Go.Abs
open Go.RowKit Go.Proofs

theorem air_in (n lo hi : Int) : CallsPV Tryz.prog 108 [.int .i64 n, .int .i64 lo, .int .i64 hi] (.bool (inB n lo hi)) := by
  refine callsPV_by (clo := fun _ => false) (rows := false) env_ok Tryz.func108 rfl (enters_of Tryz.func108 (by kernel_rfl) rfl) (fun A q P Y hr hA hq => ?_)
  conv => cbv
  split <;> (rename_i h; conv => cbv) <;> (subst hA; subst hq; simp_all [stdOps, inB]; try omega)

theorem hours_Check1 (s : Span) : CallsPV Tryz.prog 175 [encSpan s] (.bool (spanBad s)) := by
  refine callsPV_by (clo := fun _ => false) (rows := false) env_ok Tryz.func175 rfl (enters_of Tryz.func175 (by kernel_rfl) rfl) (fun A q P Y hr hA hq => ?_)
  obtain ⟨a, b⟩ := s
  conv => cbv
  split <;> (rename_i h; conv => cbv)
  · subst hA; subst hq; simp_all [stdOps, spanBad]
  · split <;> (rename_i h2; conv => cbv) <;> (subst hA; subst hq; simp_all [stdOps, spanBad]; try omega)

theorem hours_Check {xs : List PV} (l : List Span) (hx : xs = encSpans l) : CallsPV Tryz.prog 113 [.list 2 xs] (.int .i64 (if hoursOk l then 0 else 50)) := by
  refine callsPV_by (clo := fun _ => false) (rows := false) env_ok Tryz.func113 rfl (enters_of Tryz.func113 (by kernel_rfl) rfl) (fun A q P Y hr hA hq => ?_)
  conv => cbv
  refine call_intro hA (containsFunc_Span spanBad l hx fun x _ => hours_Check1 x) ?_
  obtain ⟨r, hr⟩ : ∃ r, r = l.any spanBad := ⟨_, rfl⟩
  rw [← hr]
  conv => cbv
  split <;> (conv => cbv) <;> (rw [← hq]; simp [hoursOk, ← hr])

theorem withinL_drop (l : List Int) (i : Nat) (h : i + 2 < l.length) : withinL (l.drop i) = (!(decide (l[i] < l[i + 1]) || decide (l[i + 2] < l[i])) && withinL (l.drop (i + 3))) := by
  rw [List.drop_eq_getElem_cons (by omega), List.drop_eq_getElem_cons (by omega), List.drop_eq_getElem_cons (by omega), withinL]
theorem withinL_short (l : List Int) (h : l.length ≤ 2) : withinL l = true := by
  match l, h with
  | [], _ => rfl
  | [_], _ => rfl
  | [_, _], _ => rfl

theorem speed_within {xs : List PV} (l : List Int) (hx : xs = encInts l) (hl : l.length ≤ 1000) : CallsPV Tryz.prog 235 [.list 1 xs] (.bool (withinL l)) := by
  refine callsPV_by (clo := fun _ => false) (rows := false) env_ok Tryz.func235 rfl (enters_of Tryz.func235 (by kernel_rfl) rfl) (fun A q P Y hr hA hq => ?_)
  have hll : xs.length = l.length := by rw [hx]; simp [encInts]
  conv => cbv
  refine loop_set hA (fun (i : Int) s => s.put (some 3) (.val (.int .i64 i))) (fun i => 0 ≤ i ∧ i ≤ l.length + 3 ∧ withinL l = withinL (l.drop i.toNat)) (fun i => (l.length + 3 - i).toNat) 0 ?_ ?_ ?_
  · conv => cbv
    exact wk_sl (by simp [leL, leS])
  · exact ⟨Int.le_refl _, by omega, by simp⟩
  · intro R i hi hR
    have r2 : inI64 (i + 2) := by unfold inI64; omega
    have r1 : inI64 (i + 1) := by unfold inI64; omega
    have r3 : inI64 (i + 3) := by unfold inI64; omega
    conv => cbv
    refine ⟨by subst hA; exact r2, ?_⟩
    split
    · rename_i h1
      have h1' : i + 2 < l.length := by subst hA; rw [← hll]; simpa [stdOps] using h1
      have hn : i.toNat + 2 < l.length := by omega
      have hw := withinL_drop l i.toNat hn
      have e1 : (i + 1).toNat = i.toNat + 1 := by omega
      have e2 : (i + 2).toNat = i.toNat + 2 := by omega
      have e3 : (i + 3).toNat = i.toNat + 3 := by omega
      conv => cbv
      refine ⟨draw_intro hA (by kernel_rfl), ?_⟩
      refine idx_Int hA hx hi.1 (by omega) (fun x hxx => ?_)
      conv => cbv
      refine ⟨by subst hA; exact r1, ?_⟩
      refine idx_Int hA hx (n := A.iAdd i 1) (by subst hA; show 0 ≤ i + 1; omega) (by subst hA; show i + 1 < l.length; omega) (fun y hy => ?_)
      have hxv : l[i.toNat] = x := (List.getElem?_eq_some_iff.1 hxx).2
      have hyv : l[i.toNat + 1] = y := by subst hA; have : l[(i + 1).toNat]? = some y := hy; rw [e1] at this; exact (List.getElem?_eq_some_iff.1 this).2
      conv => cbv
      have fin : ∀ b : Bool, withinL l = (b && withinL (l.drop (i.toNat + 3))) → b = true → (0 ≤ i + 3 ∧ i + 3 ≤ l.length + 3 ∧ withinL l = withinL (l.drop (i + 3).toNat)) ∧ (l.length + 3 - (i + 3)).toNat < (l.length + 3 - i).toNat := by
        intro b hb hbt
        subst hbt
        exact ⟨⟨by omega, by omega, by rw [e3, hb]; simp⟩, by omega⟩
      split
      · rename_i h2
        conv => cbv
        rw [← hq, hi.2.2, hw, hxv, hyv]
        have h2' : x < y := by subst hA; simpa [stdOps] using h2
        simp [h2']
      · rename_i h2
        have h2' : ¬ x < y := by subst hA; simpa [stdOps] using h2
        conv => cbv
        refine idx_Int hA hx hi.1 (by omega) (fun x' hx' => ?_)
        obtain rfl : x = x' := by rw [hxx] at hx'; exact Option.some.inj hx'
        conv => cbv
        refine ⟨by subst hA; exact r2, ?_⟩
        refine idx_Int hA hx (n := A.iAdd i 2) (by subst hA; show 0 ≤ i + 2; omega) (by subst hA; show i + 2 < l.length; omega) (fun z hz => ?_)
        have hzv : l[i.toNat + 2] = z := by subst hA; have : l[(i + 2).toNat]? = some z := hz; rw [e2] at this; exact (List.getElem?_eq_some_iff.1 this).2
        conv => cbv
        split
        · rename_i h3
          conv => cbv
          rw [← hq, hi.2.2, hw, hxv, hyv, hzv]
          have h3' : z < x := by subst hA; simpa [stdOps] using h3
          simp [h3']
        · rename_i h3
          have h3' : ¬ z < x := by subst hA; simpa [stdOps] using h3
          conv => cbv
          refine ⟨by subst hA; exact r3, hR (A.iAdd i 3) _ (by (conv => cbv); exact wk_sl (by simp [leL, leS])) ?_ ?_⟩
          · subst hA
            exact (fin _ (hi.2.2.trans hw) (by rw [hxv, hyv, hzv]; simp [h2', h3'])).1
          · subst hA
            exact (fin _ (hi.2.2.trans hw) (by rw [hxv, hyv, hzv]; simp [h2', h3'])).2
    · rename_i h1
      have h1' : ¬ i + 2 < l.length := by subst hA; rw [← hll]; simpa [stdOps] using h1
      conv => cbv
      rw [← hq, hi.2.2, withinL_short]
      simp; omega
end Go.Abs

namespace Go.Abs
open Go.RowKit Go.Proofs

theorem kind_valid1 {xs : List PV} (l : List Span) (hx : xs = encSpans l) : CallsPV Tryz.prog 237 [.list 2 xs] (.bool (!hoursOk l)) := by
  refine callsPV_by (clo := fun _ => false) (rows := false) env_ok Tryz.func237 rfl (enters_of Tryz.func237 (by kernel_rfl) rfl) (fun A q P Y hr hA hq => ?_)
  conv => cbv
  refine callI hA (hours_Check l hx) rfl (fun r hr => ?_)
  conv => cbv
  subst hA; subst hq; subst hr
  cases hoursOk l <;> simp [stdOps]

theorem kind_valid (k : Kind) (hk : k.Curfews.length ≤ 9223372036854775807) : CallsPV Tryz.prog 178 [encKind k] (.bool (kindOk k)) := by
  refine callsPV_by (clo := fun _ => false) (rows := false) env_ok Tryz.func178 rfl (enters_of Tryz.func178 (by kernel_rfl) rfl) (fun A q P Y hr hA hq => ?_)
  obtain ⟨a, b, c, d, e, cu⟩ := k
  simp only [encKind, kindOk] at hq ⊢
  obtain ⟨cs, hcs⟩ : ∃ cs, cs = encSpanLs cu := ⟨_, rfl⟩
  have hcl : cs.length = cu.length := by rw [hcs]; simp [encSpanLs]
  rw [← hcs]
  conv => cbv
  refine callB hA (speed_within [a, 1, 64, b, a, 64, c, 1, 8, d, 1, 8, e, 0, 60, A.lLen cs, 0, 16] rfl (by simp)) rfl (fun r hr => ?_)
  have hr' : r = withinL [a, 1, 64, b, a, 64, c, 1, 8, d, 1, 8, e, 0, 60, (cu.length : Int), 0, 16] := by rw [hr]; subst hA; simp [stdOps, hcl]
  rw [← hr'] at hq
  conv => cbv
  split
  · rename_i h1
    have h1' : r = false := by subst hA; simpa [stdOps] using h1
    conv => cbv
    rw [← hq, h1']; rfl
  · rename_i h1
    have h1' : r = true := by subst hA; simpa [stdOps] using h1
    conv => cbv
    refine ⟨by subst hA; simp [stdOps], ?_⟩
    split
    · rename_i h2
      have h2' : ¬ e.tmod 10 = 0 := by subst hA; simpa [stdOps] using h2
      conv => cbv
      rw [← hq, h1']; simp [h2']
    · rename_i h2
      have h2' : e.tmod 10 = 0 := by subst hA; simpa [stdOps] using h2
      conv => cbv
      refine callB hA (containsFunc_ListSpan (fun l => !hoursOk l) cu hcs fun x _ => kind_valid1 x rfl) rfl (fun r2 hr2 => ?_)
      conv => cbv
      rw [← hq, h1', ← hr2]
      subst hA
      simp [stdOps, h2']

theorem speed_Check (k : Kind) (hk : k.Curfews.length ≤ 9223372036854775807) : CallsPV Tryz.prog 118 [encKind k] (.int .i64 (if kindOk k then 0 else 120)) := by
  refine callsPV_by (clo := fun _ => false) (rows := false) env_ok Tryz.func118 rfl (enters_of Tryz.func118 (by kernel_rfl) rfl) (fun A q P Y hr hA hq => ?_)
  have hv := kind_valid k hk
  simp only [encKind] at hv ⊢
  generalize kindOk k = kk at hv hq
  generalize encSpanLs k.Curfews = cs at hv ⊢
  conv => cbv
  refine callB hA hv rfl (fun r hr => ?_)
  conv => cbv
  split
  · rename_i h1
    have h1' : r = false := by subst hA; simpa [stdOps] using h1
    conv => cbv
    rw [← hq, ← hr, h1']; rfl
  · rename_i h1
    have h1' : r = true := by subst hA; simpa [stdOps] using h1
    conv => cbv
    rw [← hq, ← hr, h1']; rfl

theorem air_sector (s : Sector) : CallsPV Tryz.prog 107 [encSector s] (.bool (sectorOk s)) := by
  refine callsPV_by (clo := fun _ => false) (rows := false) env_ok Tryz.func107 rfl (enters_of Tryz.func107 (by kernel_rfl) rfl) (fun A q P Y hr hA hq => ?_)
  obtain ⟨nm, nms, vs, a, b⟩ := s
  simp only [encSector, sectorOk] at hq ⊢
  generalize encStrs nms = u1
  generalize encInts vs = u2
  conv => cbv
  refine callB hA (air_in a 0 64) rfl (fun r hr => ?_)
  conv => cbv
  split
  · conv => cbv
    refine callB hA (air_in b 0 a) rfl (fun r2 hr2 => ?_)
    conv => cbv
    rw [← hq, ← hr, ← hr2]; rfl
  · conv => cbv
    rw [← hq, ← hr]; rfl

theorem air_mode1 (n : Int) : CallsPV Tryz.prog 111 [encInt n] (.bool (inB n 0 64)) := by
  refine callsPV_by (clo := fun _ => false) (rows := false) env_ok Tryz.func111 rfl (enters_of Tryz.func111 (by kernel_rfl) rfl) (fun A q P Y hr hA hq => ?_)
  conv => cbv
  refine callB hA (air_in n 0 64) rfl (fun r hr => ?_)
  conv => cbv
  rw [← hq, hr]

theorem air_mode {xs : List PV} (l : List Int) (hx : xs = encInts l) : CallsPV Tryz.prog 109 [.list 1 xs] (.bool (modeOk l)) := by
  refine callsPV_by (clo := fun _ => false) (rows := false) env_ok Tryz.func109 rfl (enters_of Tryz.func109 (by kernel_rfl) rfl) (fun A q P Y hr hA hq => ?_)
  have hll : xs.length = l.length := by rw [hx]; simp [encInts]
  unfold modeOk at hq
  conv => cbv
  refine callB hA (air_in (A.lLen xs) 1 16) rfl (fun r hr => ?_)
  have hr' : r = inB l.length 1 16 := by rw [hr]; subst hA; simp [stdOps, hll]
  rw [← hr'] at hq
  conv => cbv
  split
  · conv => cbv
    refine callB hA (all_Int (fun n => inB n 0 64) l hx fun x _ => air_mode1 x) rfl (fun r2 hr2 => ?_)
    conv => cbv
    rw [← hq, ← hr2]; rfl
  · conv => cbv
    rw [← hq]; rfl

theorem air_leg (nv : Int) (hnv : 1 ≤ nv ∧ nv ≤ 64) (c1 c2 c3 c4 c5 : PV) (x : Leg) : CallsPV Tryz.prog 112 [encLeg x, .ptr [.int .i64 nv, c1, c2, c3, c4, c5] 0] (.bool (legOk nv x)) := by
  refine callsPV_by (clo := fun _ => false) (rows := false) env_ok Tryz.func112 rfl (enters_of Tryz.func112 (by kernel_rfl) rfl) (fun A q P Y hr hA hq => ?_)
  obtain ⟨a, b, c, m⟩ := x
  simp only [encLeg, legOk] at hq ⊢
  obtain ⟨ms, hms⟩ : ∃ ms, ms = encSpans m := ⟨_, rfl⟩
  have hml : ms.length = m.length := by rw [hms]; simp [encSpans]
  rw [← hms]
  conv => cbv
  refine callB hA (air_in a 0 127) rfl (fun r1 hr1 => ?_)
  rw [← hr1] at hq
  conv => cbv
  split
  · conv => cbv
    refine ⟨by subst hA; show inI64 (nv - 1); unfold inI64; omega, ?_⟩
    refine callB hA (air_in b 0 (A.iSub nv 1)) rfl (fun r2 hr2 => ?_)
    have hr2' : r2 = inB b 0 (nv - 1) := by rw [hr2]; subst hA; rfl
    rw [← hr2'] at hq
    conv => cbv
    split
    · conv => cbv
      refine callB hA (air_in c 1 4096) rfl (fun r3 hr3 => ?_)
      rw [← hr3] at hq
      conv => cbv
      split
      · conv => cbv
        split
        · rename_i h4
          have h4' : 0 < m.length := by subst hA; rw [← hml]; simpa [stdOps] using h4
          conv => cbv
          refine callI hA (hours_Check m hms) rfl (fun r5 hr5 => ?_)
          conv => cbv
          rw [← hq]
          subst hA; subst hr5
          cases hoursOk m <;> simp [stdOps, h4']
        · rename_i h4
          have h4' : ¬ 0 < m.length := by subst hA; rw [← hml]; simpa [stdOps] using h4
          conv => cbv
          rw [← hq]; simp [h4']
      · conv => cbv
        rw [← hq]; simp
    · conv => cbv
      rw [← hq]; simp
  · conv => cbv
    rw [← hq]; simp

theorem air_airport (ms : List PV) (hms : ms.length ≤ 1000) (n : Int) (c0 c1 c2 c3 c5 : PV) : CallsPV Tryz.prog 114 [.int .i64 n, .ptr [c0, c1, c2, c3, .list 1 ms, c5] 0] (.bool (inB n 0 (ms.length - 1))) := by
  refine callsPV_by (clo := fun _ => false) (rows := false) env_ok Tryz.func114 rfl (enters_of Tryz.func114 (by kernel_rfl) rfl) (fun A q P Y hr hA hq => ?_)
  conv => cbv
  refine ⟨by subst hA; show inI64 (ms.length - 1); unfold inI64; omega, ?_⟩
  refine callB hA (air_in n 0 (A.iSub (A.lLen ms) 1)) rfl (fun r hr => ?_)
  conv => cbv
  rw [← hq, hr]; subst hA; rfl

theorem air_way (nv : Int) (hnv : 1 ≤ nv ∧ nv ≤ 64) (ms : List PV) (hms : ms.length ≤ 1000) (c1 c2 c3 c5 : PV) (w : Way) : CallsPV Tryz.prog 115
    [encWay w, .ptr [.fn 114 [.ptr [.int .i64 nv, c1, c2, c3, .list 1 ms, c5] 0]] 0, .ptr [.fn 112 [.ptr [.int .i64 nv, c1, c2, c3, .list 1 ms, c5] 0]] 0] (.bool (wayOk nv ms.length w)) := by
  refine callsPV_by (clo := fun _ => false) (rows := false) env_ok Tryz.func115 rfl (enters_of Tryz.func115 (by kernel_rfl) rfl) (fun A q P Y hr hA hq => ?_)
  obtain ⟨a, b, lg⟩ := w
  simp only [encWay, wayOk] at hq ⊢
  obtain ⟨ls, hls⟩ : ∃ ls, ls = encLegs lg := ⟨_, rfl⟩
  have hll : ls.length = lg.length := by rw [hls]; simp [encLegs]
  rw [← hls]
  conv => cbv
  refine callB hA (air_airport ms hms a _ c1 c2 c3 c5) rfl (fun r1 hr1 => ?_)
  rw [← hr1] at hq
  conv => cbv
  split
  · conv => cbv
    refine callB hA (air_airport ms hms b _ c1 c2 c3 c5) rfl (fun r2 hr2 => ?_)
    rw [← hr2] at hq
    conv => cbv
    split
    · conv => cbv
      refine callB hA (air_in (A.lLen ls) 1 8) rfl (fun r3 hr3 => ?_)
      have hr3' : r3 = inB lg.length 1 8 := by rw [hr3]; subst hA; simp [stdOps, hll]
      rw [← hr3'] at hq
      conv => cbv
      split
      · conv => cbv
        refine callB hA (all_Leg (legOk nv) lg hls fun x _ => air_leg nv hnv c1 c2 c3 (.list 1 ms) c5 x) rfl (fun r4 hr4 => ?_)
        conv => cbv
        rw [← hq, hr4]; rfl
      · conv => cbv
        rw [← hq]; simp
    · conv => cbv
      rw [← hq]; simp
  · conv => cbv
    rw [← hq]; simp

theorem air_kind (ms : List PV) (hms : ms.length ≤ 1000) (c0 c1 c2 c3 c5 : PV) (k : Kind) (hk : k.Curfews.length ≤ 9223372036854775807) : CallsPV Tryz.prog 117 [encKind k, .ptr [c0, c1, c2, c3, .list 1 ms, c5] 0] (.bool (kindOk k && decide (k.Curfews.length = ms.length))) := by
  refine callsPV_by (clo := fun _ => false) (rows := false) env_ok Tryz.func117 rfl (enters_of Tryz.func117 (by kernel_rfl) rfl) (fun A q P Y hr hA hq => ?_)
  have hv := speed_Check k hk
  have hcl : (encSpanLs k.Curfews).length = k.Curfews.length := by simp [encSpanLs]
  simp only [encKind] at hv ⊢
  generalize kindOk k = kk at hv hq
  generalize encSpanLs k.Curfews = cs at hv hcl ⊢
  conv => cbv
  refine callI hA hv rfl (fun r hr => ?_)
  conv => cbv
  split
  · rename_i h1
    have h1' : kk = true := by subst hA; subst hr; cases kk <;> simp_all [stdOps]
    conv => cbv
    rw [← hq, h1', ← hcl]; subst hA; simp [stdOps]; omega
  · rename_i h1
    have h1' : kk = false := by subst hA; subst hr; cases kk <;> simp_all [stdOps]
    conv => cbv
    rw [← hq, h1']; rfl
end Go.Abs
