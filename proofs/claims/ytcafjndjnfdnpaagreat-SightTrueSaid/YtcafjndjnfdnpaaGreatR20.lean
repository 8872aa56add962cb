/-
  Functions of the reference's chapter 16: legs, Bounds, Count, Light; Same; the law's few.
  Functions of the reference's chapter 16: Count, Light, SamePath, SamePaths; Same; the law's few, less.
  Functions of the reference's chapter 16: Light, SamePath, SamePaths; the law's less.
-/
import Derived.Test.YtcafjndjnfdnpaaGreatF24
import Derived.Test.YtcafjndjnfdnpaaGreatR14
import Derived.Test.YtcafjndjnfdnpaaGreatR19
import Derived.Test.YtcafjndjnfdnpaaGreatR2
set_option linter.unusedVariables false
set_option linter.unusedSimpArgs false
namespace Go.Abs
open Go.RowKit Go.Proofs

def legsR (t : Tables) (f : Flight) (o : Opt) : List Bound := if planE t f o = 0 then planL t f o else []

set_option maxHeartbeats 2000000 in
theorem ref16_legs (t : Tables) (f : Flight) (o : Opt) : CallsPV Tryz.prog 209 [encTables t, encFlight f, encOpt o] (.tup [.list 2 (encBounds (legsR t f o)), .int .i64 (planE t f o)]) := by
  have hdel := ref15_Delay t f o
  by_cases h0 : planE t f o = 0
  · obtain ⟨k, w, h⟩ := planE_plan h0
    have h1 := h.del
    have h2 := h.can
    have h3 := h.k0
    have h4 := h.hk
    have h6 := h.w0
    have h7 := h.hw
    have h8 := h.p0
    have h9 := h.hl
    have h11 := h.h0
    have hkl := (List.getElem?_eq_some_iff.1 h4).1
    have hlegs : ∀ lg v, lg = encLegs w.Legs → v = encSpanLs k.Curfews → CallsPV Tryz.prog 264 [.agg [.int .i64 k.Slow, .int .i64 k.Fast, .int .i64 k.Places, .int .i64 k.Weight, .int .i64 k.Longest, .list 1 v], .list 4 lg, .int .i64 o.Hold] (.tup [.list 2 (encBounds (planL t f o)), .int .i64 0]) := fun lg v e1 e2 => by
      have := ref12_Legs k h.kok w.Legs h.lok o.Hold ⟨h11.1, h11.2.1⟩ e1
      rw [h.leg, e2]; exact this
    rw [h1] at hdel
    rw [legsR, if_pos h0, h0]
    generalize (delayF t f o).1 = d1 at hdel
    generalize (delayF t f o).2.1 = d2 at hdel
    generalize planW f o = pw at h7 h8 h9
    generalize encBounds (planL t f o) = bl at hlegs
    clear h h0 h1
    refine callsPV_by (clo := fun _ => false) (rows := false) env_ok Tryz.func209 rfl (enters_of Tryz.func209 (by kernel_rfl) rfl) (fun A q P Y hr hA hq => ?_)
    obtain ⟨ss, hss⟩ : ∃ ss, ss = encSectors t.Sectors := ⟨_, rfl⟩
    obtain ⟨cs, hcs⟩ : ∃ cs, cs = encConfigs t.Configs := ⟨_, rfl⟩
    obtain ⟨ws, hws⟩ : ∃ ws, ws = encWays t.Ways := ⟨_, rfl⟩
    obtain ⟨ms, hms⟩ : ∃ ms, ms = encIntLs t.Modes := ⟨_, rfl⟩
    obtain ⟨ks, hks⟩ : ∃ ks, ks = encKinds t.Kinds := ⟨_, rfl⟩
    obtain ⟨nv, hnv⟩ : ∃ nv, nv = t.Volumes := ⟨_, rfl⟩
    have htab : encTables t = .agg [.int .i64 nv, .list 5 ss, .list 3 cs, .list 3 ws, .list 1 ms, .list 6 ks] := by rw [encTables_eq t hss hcs hws hms hks, hnv]
    rw [htab] at hdel ⊢
    obtain ⟨f1, f2, f3, f4, f5, ⟨f6, f7⟩, f8⟩ := f
    obtain ⟨fl, hfl⟩ : ∃ fl, fl = encInts f5 := ⟨_, rfl⟩
    rw [encFlight_eq _ hfl] at hdel ⊢
    obtain ⟨o1, o2, o3, o4⟩ := o
    simp only at hdel h2 h3 h4 h6 h7 h11 hkl hlegs hq ⊢
    subst h2
    obtain ⟨k1, k2, k3, k4, k5, k6⟩ := k
    obtain ⟨w1, w2, w3⟩ := w
    simp only at hlegs
    conv => cbv
    refine call_intro hA (hdel) ?_
    conv => cbv
    split
    · rename_i hc
      cases (neT hA hc rfl)
    conv => cbv
    refine ⟨draw_intro hA (by kernel_rfl), ?_⟩
    refine idx_Kind hA hks h3 (by omega) (fun z v hz hv => ?_)
    obtain rfl := Option.some.inj (h4.symm.trans hz)
    conv => cbv
    refine idx_Int hA hfl h6.1 h6.2 (fun x hx => ?_)
    obtain rfl := Option.some.inj (h7.symm.trans hx)
    conv => cbv
    refine idx_Way hA hws h8.1 h8.2 (fun z lg hz hlg => ?_)
    obtain rfl := Option.some.inj (h9.symm.trans hz)
    conv => cbv
    refine call_intro hA (hlegs lg v hlg hv) ?_
    conv => cbv
    exact hq
  · rw [legsR, if_neg h0]
    have hE : planE t f o = if (delayF t f o).2.2 = 0 then if o.Cancel then 160 else 0 else (delayF t f o).2.2 := rfl
    generalize (delayF t f o).1 = d1 at hdel
    generalize (delayF t f o).2.1 = d2 at hdel
    generalize (delayF t f o).2.2 = d3 at hdel hE
    generalize planE t f o = pe at h0 hE
    refine CallsPV.le (p := .tup [.list 0 [], .int .i64 pe]) (args' := [encTables t, encFlight f, encOpt o]) ?_ (.cons (.refl _) (.cons (.refl _) (.cons (.refl _) .nil))) (.tup _ _ rfl fun i x y hx hy => ?_)
    · refine callsPV_by (clo := fun _ => false) (rows := false) env_ok Tryz.func209 rfl (enters_of Tryz.func209 (by kernel_rfl) rfl) (fun A q P Y hr hA hq => ?_)
      obtain ⟨ss, hss⟩ : ∃ ss, ss = encSectors t.Sectors := ⟨_, rfl⟩
      obtain ⟨cs, hcs⟩ : ∃ cs, cs = encConfigs t.Configs := ⟨_, rfl⟩
      obtain ⟨ws, hws⟩ : ∃ ws, ws = encWays t.Ways := ⟨_, rfl⟩
      obtain ⟨ms, hms⟩ : ∃ ms, ms = encIntLs t.Modes := ⟨_, rfl⟩
      obtain ⟨ks, hks⟩ : ∃ ks, ks = encKinds t.Kinds := ⟨_, rfl⟩
      obtain ⟨nv, hnv⟩ : ∃ nv, nv = t.Volumes := ⟨_, rfl⟩
      have htab : encTables t = .agg [.int .i64 nv, .list 5 ss, .list 3 cs, .list 3 ws, .list 1 ms, .list 6 ks] := by rw [encTables_eq t hss hcs hws hms hks, hnv]
      rw [htab] at hdel ⊢
      obtain ⟨f1, f2, f3, f4, f5, ⟨f6, f7⟩, f8⟩ := f
      obtain ⟨fl, hfl⟩ : ∃ fl, fl = encInts f5 := ⟨_, rfl⟩
      rw [encFlight_eq _ hfl] at hdel ⊢
      obtain ⟨o1, o2, o3, o4⟩ := o
      simp only at hdel hE ⊢
      conv => cbv
      refine call_intro hA (hdel) ?_
      conv => cbv
      split
      · rename_i hc
        have h1 := neT hA hc
        rw [if_neg h1] at hE
        conv => cbv
        rw [← hq, hE]
      rename_i hc
      have h1 := neF hA hc
      rw [if_pos h1] at hE
      cases o4 with
      | true =>
        conv => cbv
        rw [← hq, hE]; rfl
      | false =>
        exact absurd hE h0
    · match i, hx, hy with
      | 0, hx, hy => simp at hx hy; subst hx hy; exact .nil _ _
      | 1, hx, hy => simp at hx hy; subst hx hy; exact .refl _
      | i + 2, hx, hy => simp at hx

end Go.Abs

namespace Go.Abs
open Go.RowKit Go.Proofs

set_option maxHeartbeats 1000000 in
theorem ref16_Count (t : Tables) (f : Flight) (o : Opt) : CallsPV Tryz.prog 197 [encTables t, encFlight f, encOpt o] (.tup [.int .i64 (countN t f o), .int .i64 (countE t f o)]) := by
  have hpl := ref16_legs t f o
  by_cases h0 : planE t f o = 0
  · obtain ⟨k, w, h⟩ := planE_plan h0
    rw [legsR, if_pos h0, h0] at hpl
    have hN : countE t f o = if manyT t f o ≤ 4096 then 0 else 160 := by rw [countE, if_pos h0]
    have hC : countN t f o = if countE t f o = 0 then (manyT t f o : Int) else 0 := rfl
    rw [hC, hN]
    have hwin := h.win
    have hfw : ((widthB (firstB f o) : Nat) : Int) = f.Window.To - f.Window.From := by have := h.first; unfold widthB; omega
    have hlb := h.bounds
    have hall := h.all
    have hm : manyT t f o = prodB (firstB f o :: planL t f o) := rfl
    rw [hm]
    generalize planL t f o = pL at hpl hlb hall
    generalize firstB f o = fb at hfw hall
    obtain ⟨bl, hbl⟩ : ∃ bl, bl = encBounds pL := ⟨_, rfl⟩
    have hbl' : bl.length = pL.length := by rw [hbl]; simp [encBounds]
    rw [← hbl] at hpl
    clear h h0 hN hC hm
    refine callsPV_by (clo := fun _ => false) (rows := false) env_ok Tryz.func197 rfl (enters_of Tryz.func197 (by kernel_rfl) rfl) (fun A q P Y hr hA hq => ?_)
    obtain ⟨ss, hss⟩ : ∃ ss, ss = encSectors t.Sectors := ⟨_, rfl⟩
    obtain ⟨cs, hcs⟩ : ∃ cs, cs = encConfigs t.Configs := ⟨_, rfl⟩
    obtain ⟨ws, hws⟩ : ∃ ws, ws = encWays t.Ways := ⟨_, rfl⟩
    obtain ⟨ms, hms⟩ : ∃ ms, ms = encIntLs t.Modes := ⟨_, rfl⟩
    obtain ⟨ks, hks⟩ : ∃ ks, ks = encKinds t.Kinds := ⟨_, rfl⟩
    obtain ⟨nv, hnv⟩ : ∃ nv, nv = t.Volumes := ⟨_, rfl⟩
    have htab : encTables t = .agg [.int .i64 nv, .list 5 ss, .list 3 cs, .list 3 ws, .list 1 ms, .list 6 ks] := by rw [encTables_eq t hss hcs hws hms hks, hnv]
    rw [htab] at hpl ⊢
    obtain ⟨f1, f2, f3, f4, f5, ⟨f6, f7⟩, f8⟩ := f
    obtain ⟨fl, hfl⟩ : ∃ fl, fl = encInts f5 := ⟨_, rfl⟩
    rw [encFlight_eq _ hfl] at hpl ⊢
    obtain ⟨o1, o2, o3, o4⟩ := o
    simp only at hpl hwin hfw ⊢
    have e1 : A.iSub f7 f6 = f7 - f6 := subI hA _ _
    have bad : ¬ prodB (fb :: pL) ≤ 4096 → PV.tup [.int .i64 0, .int .i64 160] = q := fun hn => by rw [← hq, if_neg hn]; rfl
    have good : ∀ n : Int, n = (prodB (fb :: pL) : Nat) → n ≤ 4096 → PV.tup [.int .i64 n, .int .i64 0] = q := fun n h1 h2 => by
      have h3 : prodB (fb :: pL) ≤ 4096 := by omega
      rw [← hq, h1]
      simp [h3]
    clear hq
    conv => cbv
    refine call_intro hA (hpl) ?_
    conv => cbv
    split
    · rename_i hc
      cases (neT hA hc rfl)
    conv => cbv
    refine ⟨inR' hA e1 (by unfold inI64; omega), ?_⟩
    refine loop_set hA (fun (z : Int × Int) s => (s.put (some 11) (.val (.int .i64 z.1))).put (some 10) (.val (.int .i64 z.2))) (fun z => 0 ≤ z.1 ∧ z.1 ≤ pL.length ∧ z.2 = (prodB (fb :: pL.take z.1.toNat) : Nat) ∧ z.2 ≤ 4096) (fun z => ((pL.length : Int) - z.1).toNat) (0, A.iSub f7 f6) ?_ ?_ ?_
    · conv => cbv
      exact wk_sl (by repeat (first | refine leL_same ?_ | refine leL_any ?_ | exact leL_nil))
    · refine ⟨Int.le_refl _, by omega, ?_, ?_⟩
      · show A.iSub f7 f6 = _
        rw [e1]; simp [prodB]; omega
      · show A.iSub f7 f6 ≤ 4096
        rw [e1]; omega
    rintro R ⟨i, n⟩ ⟨hi0, hi1, hn, hn4⟩ hR
    simp only at hi0 hi1 hn hn4
    conv => cbv
    split
    · rename_i hc
      have hi : i < pL.length := ltT' hA rfl (lenI hA hbl') hc
      have his : A.iAdd i 1 = i + 1 := addI hA _ _
      have hir : A.inR (A.iAdd i 1) := inR' hA his (by unfold inI64; omega)
      obtain ⟨b, hb0⟩ : ∃ b, pL[i.toNat]? = some b := ⟨pL[i.toNat]'(by omega), List.getElem?_eq_getElem (by omega)⟩
      have hbb := hlb.1 b (List.mem_of_getElem? hb0)
      have ht := take_snoc' hi0 hb0
      have hwb : ((widthB b : Nat) : Int) = b.Hi - b.Lo + 1 := by unfold widthB; omega
      have hp : prodB (fb :: pL.take (i + 1).toNat) = prodB (fb :: pL.take i.toNat) * widthB b := by
        rw [ht, ← List.cons_append, prodB_append]; simp [prodB]
      have hd : prodB (fb :: pL) = prodB (fb :: pL.take (i + 1).toNat) * prodB (pL.drop (i + 1).toNat) := by
        rw [← prodB_append, List.cons_append, List.take_append_drop]
      have hdp : 1 ≤ prodB (pL.drop (i + 1).toNat) := prodB_pos fun c hc => (hlb.1 c (List.mem_of_mem_drop hc)).2.1
      obtain ⟨c1, c2⟩ := b
      simp only at hbb hwb
      have a1 : A.iSub c2 c1 = c2 - c1 := subI hA _ _
      have a2 : A.iAdd (A.iSub c2 c1) 1 = c2 - c1 + 1 := by rw [addI hA, a1]
      have a3 : A.iMul n (A.iAdd (A.iSub c2 c1) 1) = (prodB (fb :: pL.take (i + 1).toNat) : Nat) := by
        rw [mulI hA, a2, hp, Int.natCast_mul, ← hn, hwb]
      have hn0 : 0 ≤ n := by rw [hn]; omega
      have hu : n * (c2 - c1 + 1) ≤ 4096 * 5000 := Int.mul_le_mul hn4 (by omega) (by omega) (by omega)
      have a4 : A.iMul n (A.iAdd (A.iSub c2 c1) 1) = n * (c2 - c1 + 1) := by rw [mulI hA, a2]
      have hl : 0 ≤ n * (c2 - c1 + 1) := Int.mul_nonneg hn0 (by omega)
      conv => cbv
      refine ⟨draw_intro hA (by kernel_rfl), ?_⟩
      refine idx_Bound hA hbl hi0 hi (fun z hz => ?_)
      obtain rfl := Option.some.inj ((hb0).symm.trans hz)
      conv => cbv
      refine idx_Bound hA hbl hi0 hi (fun z hz => ?_)
      obtain rfl := Option.some.inj ((hb0).symm.trans hz)
      conv => cbv
      refine ⟨inR' hA a1 (by unfold inI64; omega), inR' hA a2 (by unfold inI64; omega), inR' hA a4 (by unfold inI64; omega), ?_⟩
      split
      · rename_i hc
        have h1 := ltT' hA rfl a3 hc
        conv => cbv
        refine bad ?_
        rw [hd]
        have h2 : prodB (fb :: pL.take (i + 1).toNat) * 1 ≤ prodB (fb :: pL.take (i + 1).toNat) * prodB (pL.drop (i + 1).toNat) := Nat.mul_le_mul_left _ hdp
        omega
      · rename_i hc
        have h1 := ltF' hA rfl a3 hc
        conv => cbv
        refine ⟨hir, hR (A.iAdd i 1, A.iMul n (A.iAdd (A.iSub c2 c1) 1)) _ ?_ ?_ ?_⟩
        · conv => cbv
          exact wk_sl (by repeat (first | refine leL_same ?_ | refine leL_any ?_ | exact leL_nil))
        · show 0 ≤ A.iAdd i 1 ∧ A.iAdd i 1 ≤ pL.length ∧ A.iMul n (A.iAdd (A.iSub c2 c1) 1) = (prodB (fb :: pL.take (A.iAdd i 1).toNat) : Nat) ∧ A.iMul n (A.iAdd (A.iSub c2 c1) 1) ≤ 4096
          rw [his]
          exact ⟨by omega, by omega, a3, by rw [a3]; exact h1⟩
        · show ((pL.length : Int) - A.iAdd i 1).toNat < ((pL.length : Int) - i).toNat
          rw [his]; omega
    · rename_i hc
      have hi : pL.length ≤ i := ltF' hA rfl (lenI hA hbl') hc
      rw [List.take_of_length_le (by omega)] at hn
      conv => cbv
      exact good n hn hn4
  · rw [legsR, if_neg h0] at hpl
    have hE : countE t f o = planE t f o := by rw [countE, if_neg h0]
    have hN : countN t f o = 0 := by rw [countN, hE, if_neg h0]
    rw [hE, hN]
    generalize planE t f o = e at hpl h0
    refine callsPV_by (clo := fun _ => false) (rows := false) env_ok Tryz.func197 rfl (enters_of Tryz.func197 (by kernel_rfl) rfl) (fun A q P Y hr hA hq => ?_)
    obtain ⟨ss, hss⟩ : ∃ ss, ss = encSectors t.Sectors := ⟨_, rfl⟩
    obtain ⟨cs, hcs⟩ : ∃ cs, cs = encConfigs t.Configs := ⟨_, rfl⟩
    obtain ⟨ws, hws⟩ : ∃ ws, ws = encWays t.Ways := ⟨_, rfl⟩
    obtain ⟨ms, hms⟩ : ∃ ms, ms = encIntLs t.Modes := ⟨_, rfl⟩
    obtain ⟨ks, hks⟩ : ∃ ks, ks = encKinds t.Kinds := ⟨_, rfl⟩
    obtain ⟨nv, hnv⟩ : ∃ nv, nv = t.Volumes := ⟨_, rfl⟩
    have htab : encTables t = .agg [.int .i64 nv, .list 5 ss, .list 3 cs, .list 3 ws, .list 1 ms, .list 6 ks] := by rw [encTables_eq t hss hcs hws hms hks, hnv]
    rw [htab] at hpl ⊢
    obtain ⟨f1, f2, f3, f4, f5, ⟨f6, f7⟩, f8⟩ := f
    obtain ⟨fl, hfl⟩ : ∃ fl, fl = encInts f5 := ⟨_, rfl⟩
    rw [encFlight_eq _ hfl] at hpl ⊢
    obtain ⟨o1, o2, o3, o4⟩ := o
    simp only at hpl ⊢
    conv => cbv
    refine call_intro hA (hpl) ?_
    conv => cbv
    split
    rotate_left
    · rename_i hc
      cases ((h0 (neF hA hc)))
    conv => cbv
    exact hq

end Go.Abs

namespace Go.Abs
open Go.RowKit Go.Proofs

instance : DecidableEq Path := fun a b => decidable_of_iff (a.Way = b.Way ∧ a.Times = b.Times) ⟨fun h => by cases a; cases b; simp only at h; rw [h.1, h.2], fun h => by rw [h]; exact ⟨rfl, rfl⟩⟩

theorem ref16_Light (t : Tables) (f : Flight) (o : Opt) (most : Int) : CallsPV Tryz.prog 145 [encTables t, encFlight f, encOpt o, .int .i64 most] (.bool (!decide (countE t f o = 0) || decide (countN t f o ≤ most))) := by
  have hcnt := ref16_Count t f o
  generalize countN t f o = n at hcnt
  generalize countE t f o = e at hcnt
  refine callsPV_by (clo := fun _ => false) (rows := false) env_ok Tryz.func145 rfl (enters_of Tryz.func145 (by kernel_rfl) rfl) (fun A q P Y hr hA hq => ?_)
  obtain ⟨ss, hss⟩ : ∃ ss, ss = encSectors t.Sectors := ⟨_, rfl⟩
  obtain ⟨cs, hcs⟩ : ∃ cs, cs = encConfigs t.Configs := ⟨_, rfl⟩
  obtain ⟨ws, hws⟩ : ∃ ws, ws = encWays t.Ways := ⟨_, rfl⟩
  obtain ⟨ms, hms⟩ : ∃ ms, ms = encIntLs t.Modes := ⟨_, rfl⟩
  obtain ⟨ks, hks⟩ : ∃ ks, ks = encKinds t.Kinds := ⟨_, rfl⟩
  obtain ⟨nv, hnv⟩ : ∃ nv, nv = t.Volumes := ⟨_, rfl⟩
  have htab : encTables t = .agg [.int .i64 nv, .list 5 ss, .list 3 cs, .list 3 ws, .list 1 ms, .list 6 ks] := by rw [encTables_eq t hss hcs hws hms hks, hnv]
  rw [htab] at hcnt ⊢
  obtain ⟨f1, f2, f3, f4, f5, ⟨f6, f7⟩, f8⟩ := f
  obtain ⟨fl, hfl⟩ : ∃ fl, fl = encInts f5 := ⟨_, rfl⟩
  rw [encFlight_eq _ hfl] at hcnt ⊢
  obtain ⟨o1, o2, o3, o4⟩ := o
  simp only at hcnt ⊢
  conv => cbv
  refine call_intro hA (hcnt) ?_
  conv => cbv
  split
  · rename_i hc
    have h1 := neT hA hc
    conv => cbv
    rw [← hq, decide_eq_false h1]; rfl
  · rename_i hc
    have h1 := neF hA hc
    conv => cbv
    refine Eq.trans ?_ hq
    show PV.bool (A.iLe n most) = _
    rw [decide_eq_true h1]
    subst hA; rfl

end Go.Abs
