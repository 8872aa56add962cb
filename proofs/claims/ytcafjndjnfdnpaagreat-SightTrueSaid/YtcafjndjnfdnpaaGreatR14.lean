/-
  Functions of the reference's chapter 15: Valid, Check.
  Functions of the reference's chapter 15: Check.
  Functions of the reference's chapter 15: Is, Delay.
-/
import Derived.Test.YtcafjndjnfdnpaaGreatC2
import Derived.Test.YtcafjndjnfdnpaaGreatP1
import Derived.Test.YtcafjndjnfdnpaaGreatR7
import Derived.Test.YtcafjndjnfdnpaaGreatF15
set_option linter.unusedVariables false
set_option linter.unusedSimpArgs false
namespace Go.Abs
open Go.RowKit Go.Proofs

structure FlightOk (t : Tables) (f : Flight) : Prop where
  id : 0 ≤ f.ID ∧ f.ID ≤ 4095
  air : 0 ≤ f.Airline ∧ f.Airline ≤ 7
  cls : 0 ≤ f.Class ∧ f.Class < t.Kinds.length
  name : nameB f.Call = true
  len : 1 ≤ f.Ways.length ∧ f.Ways.length ≤ 4
  win : 0 ≤ f.Window.From ∧ f.Window.From < f.Window.To ∧ f.Window.To ≤ 1440 ∧ f.Window.To - f.Window.From ≤ 16
  rng : ∀ n ∈ f.Ways, 0 ≤ n ∧ n < t.Ways.length
  same : ∀ n ∈ f.Ways, elsewhere t.Ways (head0 t f) n = false
  once : f.Ways.Nodup

theorem outB_iff (lo hi n : Int) : outB lo hi n = false ↔ lo ≤ n ∧ n ≤ hi := by
  simp [outB]

theorem flightB_iff (t : Tables) (f : Flight) : flightB t f = true ↔ FlightOk t f := by
  unfold flightB
  simp only [Bool.and_eq_true, Bool.not_eq_true', List.any_eq_false, Bool.not_eq_true, outB_iff, Bool.or_eq_false_iff, decide_eq_false_iff_not, onceB_iff]
  constructor
  · rintro ⟨⟨⟨⟨⟨⟨⟨⟨h1, h2⟩, h3⟩, h4⟩, h5⟩, h6⟩, ⟨⟨w1, w2⟩, w3⟩, w4⟩, h7⟩, h8⟩
    exact ⟨h1, h2, by omega, h4, by omega, by omega, fun n hn => by have := h6 n hn; omega, h7, h8⟩
  · intro h
    have := h.win
    have := h.cls
    have := h.len
    exact ⟨⟨⟨⟨⟨⟨⟨⟨h.id, h.air⟩, by omega⟩, h.name⟩, by omega⟩, fun n hn => by have := h.rng n hn; omega⟩, by omega⟩, h.same⟩, h.once⟩

set_option maxRecDepth 4000 in
set_option maxHeartbeats 4000000 in
theorem ref15_Valid (t : Tables) (f : Flight) : CallsPV Tryz.prog 257 [encTables t, encFlight f] (.bool (flightB t f)) := by
  have hiff := flightB_iff t f
  have hname := ref07_Name f.Call
  obtain ⟨fb, hfb⟩ : ∃ fb, fb = flightB t f := ⟨_, rfl⟩
  rw [← hfb] at hiff ⊢
  clear hfb
  refine callsPV_by (clo := fun _ => false) (rows := false) env_ok Tryz.func257 rfl (enters_of Tryz.func257 (by kernel_rfl) rfl) (fun A q P Y hr hA hq => ?_)
  have hlW : t.Ways.length ≤ 9223372036854775807 := by
    have h1 := Real.cell (show Real [.agg _] from hr.mem (p := encTables t) (by simp)) (c := .list 3 (encWays t.Ways)) (by simp)
    have := h1.len; simpa [encWays] using this
  have hlK : t.Kinds.length ≤ 9223372036854775807 := by
    have h1 := Real.cell (show Real [.agg _] from hr.mem (p := encTables t) (by simp)) (c := .list 6 (encKinds t.Kinds)) (by simp)
    have := h1.len; simpa [encKinds] using this
  have bad : ¬ FlightOk t f → PV.bool false = q := fun h => by
    rw [← hq]
    cases fb with
    | false => rfl
    | true => exact absurd (hiff.1 rfl) h
  have good : FlightOk t f → PV.bool true = q := fun h => by rw [← hq, hiff.2 h]
  clear hq hiff
  obtain ⟨ss, hss⟩ : ∃ ss, ss = encSectors t.Sectors := ⟨_, rfl⟩
  obtain ⟨cs, hcs⟩ : ∃ cs, cs = encConfigs t.Configs := ⟨_, rfl⟩
  obtain ⟨ws, hws⟩ : ∃ ws, ws = encWays t.Ways := ⟨_, rfl⟩
  obtain ⟨ms, hms⟩ : ∃ ms, ms = encIntLs t.Modes := ⟨_, rfl⟩
  obtain ⟨ks, hks⟩ : ∃ ks, ks = encKinds t.Kinds := ⟨_, rfl⟩
  obtain ⟨nv, hnv⟩ : ∃ nv, nv = t.Volumes := ⟨_, rfl⟩
  have htab : encTables t = .agg [.int .i64 nv, .list 5 ss, .list 3 cs, .list 3 ws, .list 1 ms, .list 6 ks] := by rw [encTables_eq t hss hcs hws hms hks, hnv]
  rw [htab]
  have hwl : ws.length = t.Ways.length := by rw [hws]; simp [encWays]
  have hkl : ks.length = t.Kinds.length := by rw [hks]; simp [encKinds]
  obtain ⟨f1, f2, f3, f4, f5, ⟨f6, f7⟩, f8⟩ := f
  obtain ⟨fl, hfl⟩ : ∃ fl, fl = encInts f5 := ⟨_, rfl⟩
  have hfl' : fl.length = f5.length := by rw [hfl]; simp [encInts]
  rw [encFlight_eq _ hfl]
  obtain ⟨hd, hhd⟩ : ∃ hd, hd = head0 t ⟨f1, f2, f3, f4, f5, ⟨f6, f7⟩, f8⟩ := ⟨_, rfl⟩
  have hd0 : ∀ (x : Int) (w : Way), f5[0]? = some x → t.Ways[x.toNat]? = some w → hd = w := fun x w h1 h2 => by
    have : f5.headD 0 = x := by
      cases f5 with
      | nil => simp at h1
      | cons a r => simpa using h1
    rw [hhd]; simp only [head0, this, h2]; rfl
  have bd : ∀ (p : Prop), (FlightOk t ⟨f1, f2, f3, f4, f5, ⟨f6, f7⟩, f8⟩ → p) → ¬ p → PV.bool false = q := fun p h1 h2 => bad fun h => h2 (h1 h)
  have b1 := bd _ FlightOk.id
  have b2 := bd _ FlightOk.air
  have b3 := bd _ FlightOk.cls
  have b4 := bd _ FlightOk.name
  have b5 := bd _ FlightOk.len
  have b6 := bd _ FlightOk.win
  have b7 := bd _ FlightOk.rng
  have b8 := bd _ FlightOk.same
  have b9 := bd _ FlightOk.once
  have gd := fun a b c d e g h (i : ∀ n ∈ f5, elsewhere t.Ways (head0 t ⟨f1, f2, f3, f4, f5, ⟨f6, f7⟩, f8⟩) n = false) j => good ⟨a, b, c, d, e, g, h, i, j⟩
  rw [← hhd] at b8 gd
  simp only at b1 b2 b3 b4 b5 b6 b7 b8 b9 gd hname
  clear bad good bd hhd
  conv => cbv
  split
  · rename_i hc
    have := ltT hA hc
    conv => cbv
    exact b1 (by omega)
  rename_i hc
  have c1 := ltF hA hc
  conv => cbv
  split
  · rename_i hc
    have := ltT hA hc
    conv => cbv
    exact b1 (by omega)
  rename_i hc
  have c2 := ltF hA hc
  conv => cbv
  split
  · rename_i hc
    have := ltT hA hc
    conv => cbv
    exact b2 (by omega)
  rename_i hc
  have c3 := ltF hA hc
  conv => cbv
  split
  · rename_i hc
    have := leT hA hc
    conv => cbv
    exact b2 (by omega)
  rename_i hc
  have c4 := leF hA hc
  conv => cbv
  split
  · rename_i hc
    have := ltT hA hc
    conv => cbv
    exact b3 (by omega)
  rename_i hc
  have c5 := ltF hA hc
  conv => cbv
  split
  · rename_i hc
    have := leT' hA (lenI hA hkl) rfl hc
    conv => cbv
    exact b3 (by omega)
  rename_i hc
  have c6 := leF' hA (lenI hA hkl) rfl hc
  conv => cbv
  refine callB hA (hname) rfl (fun nb hnb => ?_)
  conv => cbv
  split
  · rename_i hc
    have h1 := notT hA hc
    conv => cbv
    exact b4 (by rw [← hnb, h1]; simp)
  rename_i hc
  have c7 := notF hA hc
  rw [hnb] at c7
  conv => cbv
  split
  · rename_i hc
    have := ltT' hA (lenI hA hfl') rfl hc
    conv => cbv
    exact b5 (by omega)
  rename_i hc
  have c8 := ltF' hA (lenI hA hfl') rfl hc
  conv => cbv
  split
  · rename_i hc
    have := ltT' hA rfl (lenI hA hfl') hc
    conv => cbv
    exact b5 (by omega)
  rename_i hc
  have c9 := ltF' hA rfl (lenI hA hfl') hc
  conv => cbv
  split
  · rename_i hc
    have := ltT hA hc
    conv => cbv
    exact b6 (by omega)
  rename_i hc
  have d1 := ltF hA hc
  conv => cbv
  split
  · rename_i hc
    have := leT hA hc
    conv => cbv
    exact b6 (by omega)
  rename_i hc
  have d2 := leF hA hc
  conv => cbv
  split
  · rename_i hc
    have := ltT hA hc
    conv => cbv
    exact b6 (by omega)
  rename_i hc
  have d3 := ltF hA hc
  have e76 : A.iSub f7 f6 = f7 - f6 := subI hA _ _
  conv => cbv
  refine ⟨inR' hA e76 (by unfold inI64; omega), ?_⟩
  conv => cbv
  split
  · rename_i hc
    have := ltT' hA rfl e76 hc
    conv => cbv
    exact b6 (by omega)
  rename_i hc
  have d4 := ltF' hA rfl e76 hc
  conv => cbv
  refine loop_set hA (fun (i : Int) s => s.put (some 5) (.val (.int .i64 i))) (fun i => 0 ≤ i ∧ i ≤ (f5.length : Int) ∧ (fun i => (∀ n ∈ f5.take i.toNat, (0 ≤ n ∧ n < t.Ways.length) ∧ elsewhere t.Ways hd n = false) ∧ (f5.take i.toNat).Nodup) i) (fun i => ((f5.length : Int) - i).toNat) 0 ?_ ?_ ?_
  · conv => cbv
    exact wk_sl (by repeat (first | refine leL_same ?_ | refine leL_any ?_ | exact leL_nil))
  · exact ⟨Int.le_refl _, by omega, ⟨by simp, by simp⟩⟩
  rintro R i ⟨hi0, hi1, hi2⟩ hRi
  conv => cbv
  split
  ·   rename_i hc
      have hi : i < (f5.length : Int) := ltT' hA rfl (lenI hA hfl') hc
      have his : A.iAdd i 1 = i + 1 := addI hA _ _
      have hir : A.inR (A.iAdd i 1) := inR' hA his (by unfold inI64; omega)
      have him : ((f5.length : Int) - A.iAdd i 1).toNat < ((f5.length : Int) - i).toNat := by rw [his]; omega
      have hin : (fun i => (∀ n ∈ f5.take i.toNat, (0 ≤ n ∧ n < t.Ways.length) ∧ elsewhere t.Ways hd n = false) ∧ (f5.take i.toNat).Nodup) (i + 1) → 0 ≤ A.iAdd i 1 ∧ A.iAdd i 1 ≤ (f5.length : Int) ∧ (fun i => (∀ n ∈ f5.take i.toNat, (0 ≤ n ∧ n < t.Ways.length) ∧ elsewhere t.Ways hd n = false) ∧ (f5.take i.toNat).Nodup) (A.iAdd i 1) := fun h => by rw [his]; exact ⟨by omega, by omega, h⟩
      simp only at hin
      conv => cbv
      refine ⟨draw_intro hA (by kernel_rfl), ?_⟩
      refine idx_Int hA hfl hi0 hi (fun x hx => ?_)
      have ht := take_snoc' hi0 hx
      have hxm := List.mem_of_getElem? hx
      conv => cbv
      split
      · rename_i hc
        have := ltT hA hc
        conv => cbv
        exact b7 (fun h => by have := h x hxm; omega)
      rename_i hc
      have x1 := ltF hA hc
      conv => cbv
      refine idx_Int hA hfl hi0 hi (fun z hz => ?_)
      obtain rfl := Option.some.inj ((hx).symm.trans hz)
      conv => cbv
      split
      · rename_i hc
        have := leT' hA (lenI hA hwl) rfl hc
        conv => cbv
        exact b7 (fun h => by have := h x hxm; omega)
      rename_i hc
      have x2 := leF' hA (lenI hA hwl) rfl hc
      obtain ⟨x0, hx0⟩ : ∃ x0, f5[0]? = some x0 := ⟨f5[0]'(by omega), List.getElem?_eq_getElem (by omega)⟩
      have hx0r : 0 ≤ x0 ∧ x0 < t.Ways.length := by
        rcases Int.lt_or_le 0 i with h | h
        · refine (hi2.1 x0 ?_).1
          rw [List.mem_take_iff_getElem]
          exact ⟨0, by omega, (List.getElem?_eq_some_iff.1 hx0).2⟩
        · have h0 : i = 0 := by omega
          rw [h0] at hx
          have := Option.some.inj (hx0.symm.trans hx)
          omega
      obtain ⟨v, hv⟩ : ∃ v, t.Ways[x.toNat]? = some v := ⟨t.Ways[x.toNat]'(by omega), List.getElem?_eq_getElem (by omega)⟩
      obtain ⟨w0, hw0⟩ : ∃ w0, t.Ways[x0.toNat]? = some w0 := ⟨t.Ways[x0.toNat]'(by omega), List.getElem?_eq_getElem (by omega)⟩
      have hdw := hd0 x0 w0 hx0 hw0
      have hel : elsewhere t.Ways hd x = (!decide (v.From = w0.From) || !decide (v.To = w0.To)) := by simp only [elsewhere, hv, hdw]
      obtain ⟨v1, v2, v3⟩ := v
      obtain ⟨w1, w2, w3⟩ := w0
      simp only at hel
      conv => cbv
      refine idx_Int hA hfl hi0 hi (fun z hz => ?_)
      obtain rfl := Option.some.inj ((hx).symm.trans hz)
      conv => cbv
      refine idx_Way hA hws x1 x2 (fun z lg1 hz hlg1 => ?_)
      obtain rfl := Option.some.inj ((hv).symm.trans hz)
      conv => cbv
      refine idx_Int hA hfl (Int.le_refl 0) (by omega) (fun z hz => ?_)
      obtain rfl := Option.some.inj ((hx0).symm.trans hz)
      conv => cbv
      refine idx_Way hA hws hx0r.1 hx0r.2 (fun z lg2 hz hlg2 => ?_)
      obtain rfl := Option.some.inj ((hw0).symm.trans hz)
      conv => cbv
      split
      · rename_i hc
        have h1 := neT hA hc
        conv => cbv
        exact b8 (fun h => by have := h x hxm; rw [hel, decide_eq_false h1] at this; cases this)
      rename_i hc
      have x3 := neF hA hc
      conv => cbv
      refine idx_Int hA hfl hi0 hi (fun z hz => ?_)
      obtain rfl := Option.some.inj ((hx).symm.trans hz)
      conv => cbv
      refine idx_Way hA hws x1 x2 (fun z lg3 hz hlg3 => ?_)
      obtain rfl := Option.some.inj ((hv).symm.trans hz)
      conv => cbv
      refine idx_Int hA hfl (Int.le_refl 0) (by omega) (fun z hz => ?_)
      obtain rfl := Option.some.inj ((hx0).symm.trans hz)
      conv => cbv
      refine idx_Way hA hws hx0r.1 hx0r.2 (fun z lg4 hz hlg4 => ?_)
      obtain rfl := Option.some.inj ((hw0).symm.trans hz)
      conv => cbv
      split
      · rename_i hc
        have h1 := neT hA hc
        conv => cbv
        exact b8 (fun h => by have := h x hxm; rw [hel, decide_eq_false h1, Bool.or_comm] at this; cases this)
      rename_i hc
      have x4 := neF hA hc
      conv => cbv
      refine loop_set hA (fun (i' : Int) s => s.put (some 6) (.val (.int .i64 i'))) (fun i' => 0 ≤ i' ∧ i' ≤ i ∧ (fun k => ∀ y ∈ f5.take k.toNat, y ≠ x) i') (fun i' => (i - i').toNat) 0 ?_ ?_ ?_
      · conv => cbv
        exact wk_sl (by repeat (first | refine leL_same ?_ | refine leL_any ?_ | exact leL_nil))
      · exact ⟨Int.le_refl _, by omega, by simp⟩
      rintro R k ⟨hk0, hk1, hk2⟩ hRk
      conv => cbv
      split
      ·   rename_i hc
          have hk : k < i := ltT' hA rfl rfl hc
          have hks : A.iAdd k 1 = k + 1 := addI hA _ _
          have hkr : A.inR (A.iAdd k 1) := inR' hA hks (by unfold inI64; omega)
          have hkm : (i - A.iAdd k 1).toNat < (i - k).toNat := by rw [hks]; omega
          have hkn : (fun k => ∀ y ∈ f5.take k.toNat, y ≠ x) (k + 1) → 0 ≤ A.iAdd k 1 ∧ A.iAdd k 1 ≤ i ∧ (fun k => ∀ y ∈ f5.take k.toNat, y ≠ x) (A.iAdd k 1) := fun h => by rw [hks]; exact ⟨by omega, by omega, h⟩
          simp only at hkn
          conv => cbv
          refine ⟨draw_intro hA (by kernel_rfl), ?_⟩
          refine idx_Int hA hfl hk0 (by omega) (fun y hy => ?_)
          have htk := take_snoc' hk0 hy
          conv => cbv
          refine idx_Int hA hfl hi0 hi (fun z hz => ?_)
          obtain rfl := Option.some.inj ((hx).symm.trans hz)
          conv => cbv
          split
          · rename_i hc
            have h1 := eqT hA hc
            conv => cbv
            refine b9 (fun h => ?_)
            have := (List.getElem?_inj (i := k.toNat) (j := i.toNat) (by omega) h).1 ((hy.trans (by rw [h1])).trans hx.symm)
            omega
          rename_i hc
          have h1 := eqF hA hc
          conv => cbv
          exact ⟨hkr, hRk (A.iAdd k 1) _ (by (conv => cbv); exact wk_sl (by repeat (first | refine leL_same ?_ | refine leL_any ?_ | exact leL_nil))) (hkn (mem_snoc htk hk2 h1)) hkm⟩
      rename_i hc
      have hk : k = i := by have := ltF' hA rfl rfl hc; omega
      conv => cbv
      rw [hk] at hk2
      have nx : (∀ n ∈ f5.take (i + 1).toNat, (0 ≤ n ∧ n < t.Ways.length) ∧ elsewhere t.Ways hd n = false) ∧ (f5.take (i + 1).toNat).Nodup := by
        refine ⟨mem_snoc ht hi2.1 ⟨⟨x1, by omega⟩, by rw [hel, decide_eq_true x3, decide_eq_true x4]; rfl⟩, ?_⟩
        rw [ht, List.nodup_append]
        exact ⟨hi2.2, by simp, fun a ha b hb => by rw [List.mem_singleton] at hb; subst hb; exact hk2 a ha⟩
      exact ⟨hir, hRi (A.iAdd i 1) _ (by (conv => cbv); exact wk_sl (by repeat (first | refine leL_same ?_ | refine leL_any ?_ | exact leL_nil))) (hin nx) him⟩
  rename_i hc
  have hi : i = (f5.length : Int) := by have := ltF' hA rfl (lenI hA hfl') hc; omega
  conv => cbv
  rw [List.take_of_length_le (by omega)] at hi2
  exact gd ⟨c1, c2⟩ ⟨c3, by omega⟩ ⟨c5, by omega⟩ c7 ⟨by omega, by omega⟩ ⟨d1, d2, d3, d4⟩ (fun n hn => (hi2.1 n hn).1) (fun n hn => (hi2.1 n hn).2) hi2.2
end Go.Abs

namespace Go.Abs
open Go.RowKit Go.Proofs

theorem ref15_Check (t : Tables) (f : Flight) : CallsPV Tryz.prog 196 [encTables t, encFlight f] (.int .i64 (checkF t f)) := by
  refine callsPV_by (clo := fun _ => false) (rows := false) env_ok Tryz.func196 rfl (enters_of Tryz.func196 (by kernel_rfl) rfl) (fun A q P Y hr hA hq => ?_)
  have h1 := ref14_Check t
  have h2 := ref15_Valid t f
  have hC : checkF t f = if airOk t then if flightB t f then 0 else 150 else 140 := rfl
  rw [hC] at hq
  generalize airOk t = b1 at h1 hq
  generalize flightB t f = b2 at h2 hq
  clear hC
  obtain ⟨ss, hss⟩ : ∃ ss, ss = encSectors t.Sectors := ⟨_, rfl⟩
  obtain ⟨cs, hcs⟩ : ∃ cs, cs = encConfigs t.Configs := ⟨_, rfl⟩
  obtain ⟨ws, hws⟩ : ∃ ws, ws = encWays t.Ways := ⟨_, rfl⟩
  obtain ⟨ms, hms⟩ : ∃ ms, ms = encIntLs t.Modes := ⟨_, rfl⟩
  obtain ⟨ks, hks⟩ : ∃ ks, ks = encKinds t.Kinds := ⟨_, rfl⟩
  obtain ⟨nv, hnv⟩ : ∃ nv, nv = t.Volumes := ⟨_, rfl⟩
  have htab : encTables t = .agg [.int .i64 nv, .list 5 ss, .list 3 cs, .list 3 ws, .list 1 ms, .list 6 ks] := by rw [encTables_eq t hss hcs hws hms hks, hnv]
  rw [htab] at h1 h2 ⊢
  obtain ⟨f1, f2, f3, f4, f5, ⟨f6, f7⟩, f8⟩ := f
  obtain ⟨fl, hfl⟩ : ∃ fl, fl = encInts f5 := ⟨_, rfl⟩
  rw [encFlight_eq _ hfl] at h2 ⊢
  simp only at h2 ⊢
  conv => cbv
  cases b1 with
  | false =>
    refine call_intro hA (h1) ?_
    conv => cbv
    split
    rotate_left
    · rename_i hc
      cases ((show False by have := neF hA hc; omega))
    conv => cbv
    rw [← hq]; rfl
  | true =>
    refine call_intro hA (h1) ?_
    conv => cbv
    split
    · rename_i hc
      cases (neT hA hc rfl)
    conv => cbv
    cases b2 with
    | false =>
      refine call_intro hA (h2) ?_
      conv => cbv
      split
      rotate_left
      · rename_i hc
        cases (nF hA hc)
      conv => cbv
      rw [← hq]; rfl
    | true =>
      refine call_intro hA (h2) ?_
      conv => cbv
      split
      · rename_i hc
        cases (nT hA hc)
      conv => cbv
      rw [← hq]; rfl
end Go.Abs

namespace Go.Abs
open Go.RowKit Go.Proofs

theorem eqOB {A : Ops} {E : Env} (hA : A = stdOps E) (x1 x2 x3 : Int) (x4 : Bool) (o1 o2 o3 : Int) (o4 : Bool) :
    A.bAnd (A.iEq x1 o1) (A.bAnd (A.iEq x2 o2) (A.bAnd (A.iEq x3 o3) (A.bAnd (A.bEq x4 o4) true))) = decide ((⟨x1, x2, x3, x4⟩ : Opt) = ⟨o1, o2, o3, o4⟩) := by
  subst hA
  rw [Bool.eq_iff_iff]
  simp [stdOps]

theorem ref15_Is (t : Tables) (f : Flight) (o : Opt) (k : Kind) (hc0 : 0 ≤ f.Class) (hk : t.Kinds[f.Class.toNat]? = some k) (b : Bool) (hb : b = true ↔ isO k.Longest f.Ways.length f.Cancel o) :
    CallsPV Tryz.prog 208 [encTables t, encFlight f, encOpt o] (.bool b) := by
  have hcl := (List.getElem?_eq_some_iff.1 hk).1
  refine callsPV_by (clo := fun _ => false) (rows := false) env_ok Tryz.func208 rfl (enters_of Tryz.func208 (by kernel_rfl) rfl) (fun A q P Y hr hA hq => ?_)
  have fin : ∀ r : Bool, (r = true ↔ isO k.Longest f.Ways.length f.Cancel o) → PV.bool r = q := fun r h => by
    rw [← hq]; congr 1; rw [Bool.eq_iff_iff, h, hb]
  clear hq hb
  obtain ⟨ss, hss⟩ : ∃ ss, ss = encSectors t.Sectors := ⟨_, rfl⟩
  obtain ⟨cs, hcs⟩ : ∃ cs, cs = encConfigs t.Configs := ⟨_, rfl⟩
  obtain ⟨ws, hws⟩ : ∃ ws, ws = encWays t.Ways := ⟨_, rfl⟩
  obtain ⟨ms, hms⟩ : ∃ ms, ms = encIntLs t.Modes := ⟨_, rfl⟩
  obtain ⟨ks, hks⟩ : ∃ ks, ks = encKinds t.Kinds := ⟨_, rfl⟩
  obtain ⟨nv, hnv⟩ : ∃ nv, nv = t.Volumes := ⟨_, rfl⟩
  have htab : encTables t = .agg [.int .i64 nv, .list 5 ss, .list 3 cs, .list 3 ws, .list 1 ms, .list 6 ks] := by rw [encTables_eq t hss hcs hws hms hks, hnv]
  rw [htab]
  obtain ⟨f1, f2, f3, f4, f5, ⟨f6, f7⟩, f8⟩ := f
  obtain ⟨fl, hfl⟩ : ∃ fl, fl = encInts f5 := ⟨_, rfl⟩
  have hfl' : fl.length = f5.length := by rw [hfl]; simp [encInts]
  rw [encFlight_eq _ hfl]
  obtain ⟨k1, k2, k3, k4, k5, k6⟩ := k
  obtain ⟨o1, o2, o3, o4⟩ := o
  simp only at hk hcl hc0 fin ⊢
  have nz10 : A.nz 10 := by subst hA; show (10 : Int) ≠ 0; decide
  have nz5 : A.nz 5 := by subst hA; show (5 : Int) ≠ 0; decide
  have m10 : A.iMod o1 10 = o1.tmod 10 := modI hA _ _
  have m5 : A.iMod o3 5 = o3.tmod 5 := modI hA _ _
  cases o4 with
  | true =>
    have fin' : ∀ r : Bool, (r = true ↔ f8 = true ∧ (⟨o1, o2, o3, true⟩ : Opt) = ⟨0, 0, 0, true⟩) → PV.bool r = q := fun r h => fin r (by simp only [isO]; rw [h]; simp)
    conv => cbv
    cases f8 with
    | true =>
      conv => cbv
      refine fin' (A.bAnd (A.iEq o1 0) (A.bAnd (A.iEq o2 0) (A.bAnd (A.iEq o3 0) (A.bAnd (A.bEq true true) true)))) ?_
      rw [eqOB hA, decide_eq_true_iff]; simp
    | false =>
      conv => cbv
      exact fin' false (by simp)
  | false =>
    have fin' : ∀ r : Bool, (r = true ↔ 0 ≤ o1 ∧ o1.tmod 10 = 0 ∧ o1 ≤ k5 ∧ 0 ≤ o2 ∧ o2 < f5.length ∧ 0 ≤ o3 ∧ o3.tmod 5 = 0 ∧ o3 ≤ 10) → PV.bool r = q := fun r h => fin r (by simp only [isO]; rw [h]; simp)
    have no : ¬ (0 ≤ o1 ∧ o1.tmod 10 = 0 ∧ o1 ≤ k5 ∧ 0 ≤ o2 ∧ o2 < f5.length ∧ 0 ≤ o3 ∧ o3.tmod 5 = 0 ∧ o3 ≤ 10) → PV.bool false = q := fun h => fin' false ⟨fun h1 => Bool.noConfusion h1, fun h1 => absurd h1 h⟩
    clear fin
    conv => cbv
    refine ⟨draw_intro hA (by kernel_rfl), ?_⟩
    split
    rotate_left
    · rename_i hc
      have := leF hA hc
      conv => cbv
      exact no (by omega)
    rename_i hc
    have c1 := leT hA hc
    conv => cbv
    refine ⟨nz10, ?_⟩
    conv => cbv
    split
    rotate_left
    · rename_i hc
      have := eqF' hA m10 rfl hc
      conv => cbv
      exact no (by omega)
    rename_i hc
    have c2 := eqT' hA m10 rfl hc
    conv => cbv
    refine idx_Kind hA hks hc0 (by omega) (fun z v hz hv => ?_)
    obtain rfl := Option.some.inj (hk.symm.trans hz)
    conv => cbv
    split
    rotate_left
    · rename_i hc
      have := leF hA hc
      conv => cbv
      exact no (by omega)
    rename_i hc
    have c3 := leT hA hc
    conv => cbv
    split
    rotate_left
    · rename_i hc
      have := leF hA hc
      conv => cbv
      exact no (by omega)
    rename_i hc
    have c4 := leT hA hc
    conv => cbv
    split
    rotate_left
    · rename_i hc
      have := ltF' hA rfl (lenI hA hfl') hc
      conv => cbv
      exact no (by omega)
    rename_i hc
    have c5 := ltT' hA rfl (lenI hA hfl') hc
    conv => cbv
    split
    rotate_left
    · rename_i hc
      have := leF hA hc
      conv => cbv
      exact no (by omega)
    rename_i hc
    have c6 := leT hA hc
    conv => cbv
    refine ⟨nz5, ?_⟩
    conv => cbv
    split
    rotate_left
    · rename_i hc
      have := eqF' hA m5 rfl hc
      conv => cbv
      exact no (by omega)
    rename_i hc
    have c7 := eqT' hA m5 rfl hc
    conv => cbv
    refine fin' (A.iLe o3 10) ?_
    rw [iLeI hA, decide_eq_true_iff]
    exact ⟨fun h => ⟨c1, c2, c3, c4, c5, c6, c7, h⟩, fun h => h.2.2.2.2.2.2.2⟩

theorem ref15_Delay (t : Tables) (f : Flight) (o : Opt) : CallsPV Tryz.prog 153 [encTables t, encFlight f, encOpt o] (.tup [.int .i64 (delayF t f o).1, .int .i64 (delayF t f o).2.1, .int .i64 (delayF t f o).2.2]) := by
  have hchk := ref15_Check t f
  obtain ⟨ck, hck⟩ : ∃ ck, ck = checkF t f := ⟨_, rfl⟩
  rw [← hck] at hchk
  by_cases h0 : ck = 0
  · obtain ⟨k, hk, hc0, hL0, hL1, _, hW1, hW8, hw1, hw4⟩ := checkF_kind (hck ▸ h0)
    have hmO : measL t f = measO k.Longest f.Ways.length f.Cancel := by rw [measL, hk]
    have hwt : weightOf t f = k.Weight := by rw [weightOf, hk]
    have hin : o ∈ measL t f → 0 ≤ o.Delay ∧ o.Delay ≤ 60 ∧ 0 ≤ o.Hold ∧ o.Hold ≤ 10 := fun h => measO_mem hL0 hL1 (hmO ▸ h)
    have his := ref15_Is t f o k hc0 hk (decide (o ∈ measL t f)) (by rw [decide_eq_true_iff, hmO]; exact measO_iff o)
    rw [h0] at hchk
    have hcf : checkF t f = 0 := hck ▸ h0
    have hD : delayF t f o = if o ∈ measL t f then (minutesOf o, minutesOf o * k.Weight, 0) else (0, 0, 150) := by rw [delayF, if_pos hcf, hwt]
    rw [hD]
    refine callsPV_by (clo := fun _ => false) (rows := false) env_ok Tryz.func153 rfl (enters_of Tryz.func153 (by kernel_rfl) rfl) (fun A q P Y hr hA hq => ?_)
    have hkl0 : f.Class.toNat < t.Kinds.length := (List.getElem?_eq_some_iff.1 hk).1
    obtain ⟨ss, hss⟩ : ∃ ss, ss = encSectors t.Sectors := ⟨_, rfl⟩
    obtain ⟨cs, hcs⟩ : ∃ cs, cs = encConfigs t.Configs := ⟨_, rfl⟩
    obtain ⟨ws, hws⟩ : ∃ ws, ws = encWays t.Ways := ⟨_, rfl⟩
    obtain ⟨ms, hms⟩ : ∃ ms, ms = encIntLs t.Modes := ⟨_, rfl⟩
    obtain ⟨ks, hks⟩ : ∃ ks, ks = encKinds t.Kinds := ⟨_, rfl⟩
    obtain ⟨nv, hnv⟩ : ∃ nv, nv = t.Volumes := ⟨_, rfl⟩
    have htab : encTables t = .agg [.int .i64 nv, .list 5 ss, .list 3 cs, .list 3 ws, .list 1 ms, .list 6 ks] := by rw [encTables_eq t hss hcs hws hms hks, hnv]
    rw [htab] at hchk his ⊢
    generalize measL t f = M at his hin hq
    clear hmO hwt hcf hD
    obtain ⟨f1, f2, f3, f4, f5, ⟨f6, f7⟩, f8⟩ := f
    obtain ⟨fl, hfl⟩ : ∃ fl, fl = encInts f5 := ⟨_, rfl⟩
    rw [encFlight_eq _ hfl] at hchk his ⊢
    obtain ⟨o1, o2, o3, o4⟩ := o
    simp only at hchk his hk hkl0 hc0 hin hq ⊢
    conv => cbv
    refine call_intro hA (hchk) ?_
    conv => cbv
    split
    · rename_i hc
      cases (neT hA hc rfl)
    conv => cbv
    refine callB hA his rfl (fun r hr => ?_)
    conv => cbv
    split
    · rename_i h
      have h' := notT hA h
      have hno : (⟨o1, o2, o3, o4⟩ : Opt) ∉ M := by rw [h'] at hr; exact of_decide_eq_false hr.symm
      rw [if_neg hno] at hq
      conv => cbv
      exact hq
    rename_i h
    have h' := notF hA h
    have hyes : (⟨o1, o2, o3, o4⟩ : Opt) ∈ M := by rw [h'] at hr; exact of_decide_eq_true hr.symm
    rw [if_pos hyes] at hq
    have hb := hin hyes
    have hadd : A.iAdd o1 o3 = o1 + o3 := addI hA _ _
    clear h
    conv => cbv
    refine ⟨inR' hA hadd (by unfold inI64; omega), ?_⟩
    obtain ⟨k1, k2, k3, k4, k5, k6⟩ := k
    simp only at hW1 hW8 hq
    cases o4 with
    | true =>
      have hm : A.iMul 120 k4 = 120 * k4 := mulI hA _ _
      conv => cbv
      refine ⟨draw_intro hA (by kernel_rfl), ?_⟩
      refine idx_Kind hA hks hc0 (by omega) (fun z v hz hv => ?_)
      obtain rfl := Option.some.inj (hk.symm.trans hz)
      conv => cbv
      refine ⟨inR' hA hm (by unfold inI64; omega), ?_⟩
      show PV.tup [_, .int .i64 (A.iMul 120 k4), _] = _
      rw [← hq, hm]
      rfl
    | false =>
      have hm : A.iMul (A.iAdd o1 o3) k4 = (o1 + o3) * k4 := by rw [mulI hA, hadd]
      have hu : (o1 + o3) * k4 ≤ 70 * 8 := Int.mul_le_mul (by omega) hW8 (by omega) (by omega)
      have hl : 0 ≤ (o1 + o3) * k4 := Int.mul_nonneg (by omega) (by omega)
      conv => cbv
      refine ⟨draw_intro hA (by kernel_rfl), ?_⟩
      refine idx_Kind hA hks hc0 (by omega) (fun z v hz hv => ?_)
      obtain rfl := Option.some.inj (hk.symm.trans hz)
      conv => cbv
      refine ⟨inR' hA hm (by unfold inI64; omega), ?_⟩
      show PV.tup [.int .i64 (A.iAdd o1 o3), .int .i64 (A.iMul (A.iAdd o1 o3) k4), _] = _
      rw [← hq, hm, hadd]
      rfl
  · have hD : delayF t f o = (0, 0, ck) := by rw [delayF, if_neg (hck ▸ h0), hck]
    rw [hD]
    refine callsPV_by (clo := fun _ => false) (rows := false) env_ok Tryz.func153 rfl (enters_of Tryz.func153 (by kernel_rfl) rfl) (fun A q P Y hr hA hq => ?_)
    obtain ⟨ss, hss⟩ : ∃ ss, ss = encSectors t.Sectors := ⟨_, rfl⟩
    obtain ⟨cs, hcs⟩ : ∃ cs, cs = encConfigs t.Configs := ⟨_, rfl⟩
    obtain ⟨ws, hws⟩ : ∃ ws, ws = encWays t.Ways := ⟨_, rfl⟩
    obtain ⟨ms, hms⟩ : ∃ ms, ms = encIntLs t.Modes := ⟨_, rfl⟩
    obtain ⟨ks, hks⟩ : ∃ ks, ks = encKinds t.Kinds := ⟨_, rfl⟩
    obtain ⟨nv, hnv⟩ : ∃ nv, nv = t.Volumes := ⟨_, rfl⟩
    have htab : encTables t = .agg [.int .i64 nv, .list 5 ss, .list 3 cs, .list 3 ws, .list 1 ms, .list 6 ks] := by rw [encTables_eq t hss hcs hws hms hks, hnv]
    rw [htab] at hchk ⊢
    obtain ⟨f1, f2, f3, f4, f5, ⟨f6, f7⟩, f8⟩ := f
    obtain ⟨fl, hfl⟩ : ∃ fl, fl = encInts f5 := ⟨_, rfl⟩
    rw [encFlight_eq _ hfl] at hchk ⊢
    obtain ⟨o1, o2, o3, o4⟩ := o
    simp only at hchk ⊢
    conv => cbv
    refine call_intro hA (hchk) ?_
    conv => cbv
    split
    rotate_left
    · rename_i hc
      cases ((h0 (neF hA hc)))
    conv => cbv
    exact hq
end Go.Abs
