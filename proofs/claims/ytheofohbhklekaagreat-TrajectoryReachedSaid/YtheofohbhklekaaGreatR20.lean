/-
  Functions of the reference's chapter 16: legs, Bounds, Count, Light; Same; the law's few.
  Functions of the reference's chapter 16: Count, Light, SamePath, SamePaths; Same; the law's few, less.
  Functions of the reference's chapter 16: Light, SamePath, SamePaths; the law's less.
-/
import Derived.Test.YtheofohbhklekaaGreatF24
import Derived.Test.YtheofohbhklekaaGreatR14
import Derived.Test.YtheofohbhklekaaGreatR19
import Derived.Test.YtheofohbhklekaaGreatR2
set_option linter.unusedVariables false
set_option linter.unusedSimpArgs false
namespace Go.Abs
open Go.RowKit Go.Proofs

def legsR (t : Tables) (f : Flight) (o : Opt) : List Bound := if planE t f o = 0 then planL t f o else []

set_option maxHeartbeats 2000000 in
theorem ref16_legs (t : Tables) (f : Flight) (o : Opt) : CallsPV Tryz.prog 35 [encTables t, encFlight f, encOpt o] (.tup [.list 2 (encBounds (legsR t f o)), .int .i64 (planE t f o)]) := by
  have hdel := ref15_Delay t f o
  by_cases h0 : planE t f o = 0
  · obtain ⟨k, w, h⟩ := planE_plan h0
    have h1 := h.del
    have h2 := h.can
    have h3 := h.k0
    have h4 := h.hk
    have h6 := h.w0
    have h7 := h.hw
    have h8 := h.p0
    have h9 := h.hl
    have h11 := h.h0
    have hkl := (List.getElem?_eq_some_iff.1 h4).1
    have hlegs : ∀ lg v, lg = encLegs w.Legs → v = encSpanLs k.Curfews → CallsPV Tryz.prog 62 [.agg [.int .i64 k.Slow, .int .i64 k.Fast, .int .i64 k.Places, .int .i64 k.Weight, .int .i64 k.Longest, .list 1 v], .list 4 lg, .int .i64 o.Hold] (.tup [.list 2 (encBounds (planL t f o)), .int .i64 0]) := fun lg v e1 e2 => by
      have := ref12_Legs k h.kok w.Legs h.lok o.Hold ⟨h11.1, h11.2.1⟩ e1
      rw [h.leg, e2]; exact this
    rw [h1] at hdel
    rw [legsR, if_pos h0, h0]
    generalize (delayF t f o).1 = d1 at hdel
    generalize (delayF t f o).2.1 = d2 at hdel
    generalize planW f o = pw at h7 h8 h9
    generalize encBounds (planL t f o) = bl at hlegs
    clear h h0 h1
    refine callsPV_by (clo := fun _ => false) (rows := false) env_ok Tryz.func35 rfl (enters_of Tryz.func35 (by kernel_rfl) rfl) (fun A q P Y hr hA hq => ?_)
    obtain ⟨ss, hss⟩ : ∃ ss, ss = encSectors t.Sectors := ⟨_, rfl⟩
    obtain ⟨cs, hcs⟩ : ∃ cs, cs = encConfigs t.Configs := ⟨_, rfl⟩
    obtain ⟨ws, hws⟩ : ∃ ws, ws = encWays t.Ways := ⟨_, rfl⟩
    obtain ⟨ms, hms⟩ : ∃ ms, ms = encIntLs t.Modes := ⟨_, rfl⟩
    obtain ⟨ks, hks⟩ : ∃ ks, ks = encKinds t.Kinds := ⟨_, rfl⟩
    obtain ⟨nv, hnv⟩ : ∃ nv, nv = t.Volumes := ⟨_, rfl⟩
    have htab : encTables t = .agg [.int .i64 nv, .list 5 ss, .list 3 cs, .list 3 ws, .list 1 ms, .list 6 ks] := by rw [encTables_eq t hss hcs hws hms hks, hnv]
    rw [htab] at hdel ⊢
    obtain ⟨f1, f2, f3, f4, f5, ⟨f6, f7⟩, f8⟩ := f
    obtain ⟨fl, hfl⟩ : ∃ fl, fl = encInts f5 := ⟨_, rfl⟩
    rw [encFlight_eq _ hfl] at hdel ⊢
    obtain ⟨o1, o2, o3, o4⟩ := o
    simp only at hdel h2 h3 h4 h6 h7 h11 hkl hlegs hq ⊢
    subst h2
    obtain ⟨k1, k2, k3, k4, k5, k6⟩ := k
    obtain ⟨w1, w2, w3⟩ := w
    simp only at hlegs
    conv => cbv
    refine call_intro hA (hdel) ?_
    conv => cbv
    split
    · rename_i hc
      cases (neT hA hc rfl)
    conv => cbv
    refine ⟨draw_intro hA (by kernel_rfl), ?_⟩
    refine idx_Kind hA hks h3 (by omega) (fun z v hz hv => ?_)
    obtain rfl := Option.some.inj (h4.symm.trans hz)
    conv => cbv
    refine idx_Int hA hfl h6.1 h6.2 (fun x hx => ?_)
    obtain rfl := Option.some.inj (h7.symm.trans hx)
    conv => cbv
    refine idx_Way hA hws h8.1 h8.2 (fun z lg hz hlg => ?_)
    obtain rfl := Option.some.inj (h9.symm.trans hz)
    conv => cbv
    refine call_intro hA (hlegs lg v hlg hv) ?_
    conv => cbv
    exact hq
  · rw [legsR, if_neg h0]
    have hE : planE t f o = if (delayF t f o).2.2 = 0 then if o.Cancel then 160 else 0 else (delayF t f o).2.2 := rfl
    generalize (delayF t f o).1 = d1 at hdel
    generalize (delayF t f o).2.1 = d2 at hdel
    generalize (delayF t f o).2.2 = d3 at hdel hE
    generalize planE t f o = pe at h0 hE
    refine CallsPV.le (p := .tup [.list 0 [], .int .i64 pe]) (args' := [encTables t, encFlight f, encOpt o]) ?_ (.cons (.refl _) (.cons (.refl _) (.cons (.refl _) .nil))) (.tup _ _ rfl fun i x y hx hy => ?_)
    · refine callsPV_by (clo := fun _ => false) (rows := false) env_ok Tryz.func35 rfl (enters_of Tryz.func35 (by kernel_rfl) rfl) (fun A q P Y hr hA hq => ?_)
      obtain ⟨ss, hss⟩ : ∃ ss, ss = encSectors t.Sectors := ⟨_, rfl⟩
      obtain ⟨cs, hcs⟩ : ∃ cs, cs = encConfigs t.Configs := ⟨_, rfl⟩
      obtain ⟨ws, hws⟩ : ∃ ws, ws = encWays t.Ways := ⟨_, rfl⟩
      obtain ⟨ms, hms⟩ : ∃ ms, ms = encIntLs t.Modes := ⟨_, rfl⟩
      obtain ⟨ks, hks⟩ : ∃ ks, ks = encKinds t.Kinds := ⟨_, rfl⟩
      obtain ⟨nv, hnv⟩ : ∃ nv, nv = t.Volumes := ⟨_, rfl⟩
      have htab : encTables t = .agg [.int .i64 nv, .list 5 ss, .list 3 cs, .list 3 ws, .list 1 ms, .list 6 ks] := by rw [encTables_eq t hss hcs hws hms hks, hnv]
      rw [htab] at hdel ⊢
      obtain ⟨f1, f2, f3, f4, f5, ⟨f6, f7⟩, f8⟩ := f
      obtain ⟨fl, hfl⟩ : ∃ fl, fl = encInts f5 := ⟨_, rfl⟩
      rw [encFlight_eq _ hfl] at hdel ⊢
      obtain ⟨o1, o2, o3, o4⟩ := o
      simp only at hdel hE ⊢
      conv => cbv
      refine call_intro hA (hdel) ?_
      conv => cbv
      split
      · rename_i hc
        have h1 := neT hA hc
        rw [if_neg h1] at hE
        conv => cbv
        rw [← hq, hE]
      rename_i hc
      have h1 := neF hA hc
      rw [if_pos h1] at hE
      cases o4 with
      | true =>
        conv => cbv
        rw [← hq, hE]; rfl
      | false =>
        exact absurd hE h0
    · match i, hx, hy with
      | 0, hx, hy => simp at hx hy; subst hx hy; exact .nil _ _
      | 1, hx, hy => simp at hx hy; subst hx hy; exact .refl _
      | i + 2, hx, hy => simp at hx

set_option maxHeartbeats 1000000 in
theorem ref16_Bounds (t : Tables) (f : Flight) (o : Opt) : CallsPV Tryz.prog 14 [encTables t, encFlight f, encOpt o] (.tup [.list 2 (encBounds (boundsB t f o)), .int .i64 (planE t f o)]) := by
  have hpl := ref16_legs t f o
  by_cases h0 : planE t f o = 0
  · obtain ⟨k, w, h⟩ := planE_plan h0
    rw [legsR, if_pos h0, h0] at hpl
    rw [boundsB_eq h0, h0]
    have hwin := h.win
    have hdl := h.d0
    have hlb := h.bounds
    have hsg := fun (y b : Bound) (i : Nat) => sumT_get (bs := planL t f o) (x := firstB f o) (y := y) (b := b) (i := i)
    have hsl := sumT_len (planL t f o) (firstB f o)
    have hfb : firstB f o = ⟨f.Window.From + o.Delay, f.Window.To - 1 + o.Delay⟩ := rfl
    generalize planL t f o = pL at hpl hlb hsg hsl
    generalize sumT (firstB f o) pL = S at hsg hsl
    rw [hfb] at hsg ⊢
    obtain ⟨bl, hbl⟩ : ∃ bl, bl = encBounds pL := ⟨_, rfl⟩
    have hbl' : bl.length = pL.length := by rw [hbl]; simp [encBounds]
    rw [← hbl] at hpl
    clear h h0 hfb
    refine callsPV_by (clo := fun _ => false) (rows := false) env_ok Tryz.func14 rfl (enters_of Tryz.func14 (by kernel_rfl) rfl) (fun A q P Y hr hA hq => ?_)
    obtain ⟨ss, hss⟩ : ∃ ss, ss = encSectors t.Sectors := ⟨_, rfl⟩
    obtain ⟨cs, hcs⟩ : ∃ cs, cs = encConfigs t.Configs := ⟨_, rfl⟩
    obtain ⟨ws, hws⟩ : ∃ ws, ws = encWays t.Ways := ⟨_, rfl⟩
    obtain ⟨ms, hms⟩ : ∃ ms, ms = encIntLs t.Modes := ⟨_, rfl⟩
    obtain ⟨ks, hks⟩ : ∃ ks, ks = encKinds t.Kinds := ⟨_, rfl⟩
    obtain ⟨nv, hnv⟩ : ∃ nv, nv = t.Volumes := ⟨_, rfl⟩
    have htab : encTables t = .agg [.int .i64 nv, .list 5 ss, .list 3 cs, .list 3 ws, .list 1 ms, .list 6 ks] := by rw [encTables_eq t hss hcs hws hms hks, hnv]
    rw [htab] at hpl ⊢
    obtain ⟨f1, f2, f3, f4, f5, ⟨f6, f7⟩, f8⟩ := f
    obtain ⟨fl, hfl⟩ : ∃ fl, fl = encInts f5 := ⟨_, rfl⟩
    rw [encFlight_eq _ hfl] at hpl ⊢
    obtain ⟨o1, o2, o3, o4⟩ := o
    simp only at hpl hwin hdl hsg hq ⊢
    have e1 : A.iAdd f6 o1 = f6 + o1 := addI hA _ _
    have e2 : A.iSub f7 1 = f7 - 1 := subI hA _ _
    have e3 : A.iAdd (A.iSub f7 1) o1 = f7 - 1 + o1 := by rw [addI hA, e2]
    rw [← e1, ← e3] at hsg hq
    have g1 : 0 ≤ A.iAdd f6 o1 ∧ A.iAdd f6 o1 ≤ 1500 := by rw [e1]; omega
    have g2 : 0 ≤ A.iAdd (A.iSub f7 1) o1 ∧ A.iAdd (A.iSub f7 1) o1 ≤ 1500 := by rw [e3]; omega
    conv => cbv
    refine call_intro hA (hpl) ?_
    conv => cbv
    split
    · rename_i hc
      cases (neT hA hc rfl)
    conv => cbv
    refine ⟨inR' hA e1 (by unfold inI64; omega), inR' hA e2 (by unfold inI64; omega), inR' hA e3 (by unfold inI64; omega), ?_⟩
    refine loop_set hA (fun (z : Int × List PV × Int × Int) s => { (s.put (some 12) (.val (.int .i64 z.1))).put (some 11) (.own 0 2 z.2.1) with bx := s.bx.set 3 (some [.val (.int .i64 z.2.2.1), .val (.int .i64 z.2.2.2)]), tk := [(A.nLen z.2.1, 58)] })
      (fun z => 0 ≤ z.1 ∧ z.1 ≤ pL.length ∧ z.2.1 = encBounds (⟨A.iAdd f6 o1, A.iAdd (A.iSub f7 1) o1⟩ :: S.take z.1.toNat) ∧ (⟨A.iAdd f6 o1, A.iAdd (A.iSub f7 1) o1⟩ :: S)[z.1.toNat]? = some ⟨z.2.2.1, z.2.2.2⟩ ∧ 0 ≤ z.2.2.1 ∧ z.2.2.1 ≤ 1500 + 5000 * z.1 ∧ 0 ≤ z.2.2.2 ∧ z.2.2.2 ≤ 1500 + 5000 * z.1)
      (fun z => ((pL.length : Int) - z.1).toNat) (0, [.agg [.int .i64 (A.iAdd f6 o1), .int .i64 (A.iAdd (A.iSub f7 1) o1)]], A.iAdd f6 o1, A.iAdd (A.iSub f7 1) o1) ?_ ?_ ?_
    · conv => cbv
      exact wk_own 11 2 2 _ _ rfl (.inl rfl) (by repeat (first | refine leL_same ?_ | refine leL_any ?_ | exact leL_nil)) (by subst hA; rfl)
    · refine ⟨Int.le_refl _, by omega, rfl, rfl, ?_, ?_, ?_, ?_⟩ <;> simp only <;> omega
    rintro R ⟨i, L, y1, y2⟩ ⟨hi0, hi1, hL, hy, d1, d2, d3, d4⟩ hR
    simp only at hi0 hi1 hL hy d1 d2 d3 d4
    conv => cbv
    split
    · rename_i hc
      have hi : i < pL.length := ltT' hA rfl (lenI hA hbl') hc
      have his : A.iAdd i 1 = i + 1 := addI hA _ _
      have hir : A.inR (A.iAdd i 1) := inR' hA his (by unfold inI64; omega)
      obtain ⟨b, hb0⟩ : ∃ b, pL[i.toNat]? = some b := ⟨pL[i.toNat]'(by omega), List.getElem?_eq_getElem (by omega)⟩
      have hbb := hlb.1 b (List.mem_of_getElem? hb0)
      have hS := hsg _ _ _ hy hb0
      obtain ⟨c1, c2⟩ := b
      simp only at hbb hS
      have e1 : A.iAdd y1 c1 = y1 + c1 := addI hA _ _
      have e2 : A.iAdd y2 c2 = y2 + c2 := addI hA _ _
      have hLl : L.length ≤ 1000 := by rw [hL]; simp [encBounds]; omega
      have ht : S.take (i + 1).toNat = S.take i.toNat ++ [⟨y1 + c1, y2 + c2⟩] := take_snoc' hi0 hS
      have hnext : A.lApp L [.agg [.int .i64 (A.iAdd y1 c1), .int .i64 (A.iAdd y2 c2)]] = encBounds (⟨A.iAdd f6 o1, A.iAdd (A.iSub f7 1) o1⟩ :: S.take (i + 1).toNat) := by
        rw [ht, e1, e2, hL]
        subst hA
        show encBounds _ ++ _ = _
        simp [encBounds, encBound]
      have htk : A.tkEq (A.nLen L) (A.nLen L) := by subst hA; rfl
      have hroom : A.room (A.nLen (A.lApp L [.agg [.int .i64 (A.iAdd y1 c1), .int .i64 (A.iAdd y2 c2)]])) 16 := by
        subst hA
        show (L ++ [_]).length * (16 + 1) ≤ 140737488355328
        rw [List.length_append, List.length_singleton]; omega
      conv => cbv
      refine ⟨draw_intro hA (by kernel_rfl), ?_⟩
      refine idx_Bound hA hbl hi0 hi (fun z hz => ?_)
      obtain rfl := Option.some.inj ((hb0).symm.trans hz)
      conv => cbv
      refine ⟨inR' hA e1 (by unfold inI64; omega), ?_⟩
      conv => cbv
      refine ⟨draw_intro hA (by kernel_rfl), ?_⟩
      refine idx_Bound hA hbl hi0 hi (fun z hz => ?_)
      obtain rfl := Option.some.inj ((hb0).symm.trans hz)
      conv => cbv
      refine ⟨inR' hA e2 (by unfold inI64; omega), ?_⟩
      conv => cbv
      refine ⟨⟨htk, hroom⟩, hir, hR (A.iAdd i 1, A.lApp L [.agg [.int .i64 (A.iAdd y1 c1), .int .i64 (A.iAdd y2 c2)]], A.iAdd y1 c1, A.iAdd y2 c2) _ ?_ ?_ ?_⟩
      · conv => cbv
        exact wk_sl (by repeat (first | refine leL_same ?_ | refine leL_any ?_ | refine leL_own ?_ | exact leL_nil))
      · show 0 ≤ A.iAdd i 1 ∧ A.iAdd i 1 ≤ pL.length ∧ _ = encBounds (⟨A.iAdd f6 o1, A.iAdd (A.iSub f7 1) o1⟩ :: S.take (A.iAdd i 1).toNat) ∧ (⟨A.iAdd f6 o1, A.iAdd (A.iSub f7 1) o1⟩ :: S)[(A.iAdd i 1).toNat]? = some ⟨A.iAdd y1 c1, A.iAdd y2 c2⟩ ∧ 0 ≤ A.iAdd y1 c1 ∧ A.iAdd y1 c1 ≤ 1500 + 5000 * (A.iAdd i 1) ∧ 0 ≤ A.iAdd y2 c2 ∧ A.iAdd y2 c2 ≤ 1500 + 5000 * (A.iAdd i 1)
        rw [his, e1, e2]
        refine ⟨by omega, by omega, by rw [← hnext, e1, e2], ?_, by omega, by omega, by omega, by omega⟩
        rw [show (i + 1).toNat = i.toNat + 1 by omega, List.getElem?_cons_succ]; exact hS
      · show ((pL.length : Int) - A.iAdd i 1).toNat < ((pL.length : Int) - i).toNat
        rw [his]; omega
    · rename_i hc
      have hi : pL.length ≤ i := ltF' hA rfl (lenI hA hbl') hc
      rw [List.take_of_length_le (by omega)] at hL
      conv => cbv
      rw [← hq, hL]
  · rw [legsR, if_neg h0] at hpl
    have hE : boundsB t f o = [] := by rw [boundsB, if_neg h0]
    rw [hE]
    generalize planE t f o = e at hpl h0
    refine CallsPV.le (p := .tup [.list 0 [], .int .i64 e]) (args' := [encTables t, encFlight f, encOpt o]) ?_ (.cons (.refl _) (.cons (.refl _) (.cons (.refl _) .nil))) (.tup _ _ rfl fun i x y hx hy => ?_)
    · refine callsPV_by (clo := fun _ => false) (rows := false) env_ok Tryz.func14 rfl (enters_of Tryz.func14 (by kernel_rfl) rfl) (fun A q P Y hr hA hq => ?_)
      obtain ⟨ss, hss⟩ : ∃ ss, ss = encSectors t.Sectors := ⟨_, rfl⟩
      obtain ⟨cs, hcs⟩ : ∃ cs, cs = encConfigs t.Configs := ⟨_, rfl⟩
      obtain ⟨ws, hws⟩ : ∃ ws, ws = encWays t.Ways := ⟨_, rfl⟩
      obtain ⟨ms, hms⟩ : ∃ ms, ms = encIntLs t.Modes := ⟨_, rfl⟩
      obtain ⟨ks, hks⟩ : ∃ ks, ks = encKinds t.Kinds := ⟨_, rfl⟩
      obtain ⟨nv, hnv⟩ : ∃ nv, nv = t.Volumes := ⟨_, rfl⟩
      have htab : encTables t = .agg [.int .i64 nv, .list 5 ss, .list 3 cs, .list 3 ws, .list 1 ms, .list 6 ks] := by rw [encTables_eq t hss hcs hws hms hks, hnv]
      rw [htab] at hpl ⊢
      obtain ⟨f1, f2, f3, f4, f5, ⟨f6, f7⟩, f8⟩ := f
      obtain ⟨fl, hfl⟩ : ∃ fl, fl = encInts f5 := ⟨_, rfl⟩
      rw [encFlight_eq _ hfl] at hpl ⊢
      obtain ⟨o1, o2, o3, o4⟩ := o
      simp only at hpl ⊢
      conv => cbv
      refine call_intro hA (hpl) ?_
      conv => cbv
      split
      rotate_left
      · rename_i hc
        cases ((h0 (neF hA hc)))
      conv => cbv
      exact hq
    · match i, hx, hy with
      | 0, hx, hy => simp at hx hy; subst hx hy; exact .nil _ _
      | 1, hx, hy => simp at hx hy; subst hx hy; exact .refl _
      | i + 2, hx, hy => simp at hx
end Go.Abs

namespace Go.Abs
open Go.RowKit Go.Proofs

set_option maxHeartbeats 1000000 in
theorem ref16_Count (t : Tables) (f : Flight) (o : Opt) : CallsPV Tryz.prog 16 [encTables t, encFlight f, encOpt o] (.tup [.int .i64 (countN t f o), .int .i64 (countE t f o)]) := by
  have hpl := ref16_legs t f o
  by_cases h0 : planE t f o = 0
  · obtain ⟨k, w, h⟩ := planE_plan h0
    rw [legsR, if_pos h0, h0] at hpl
    have hN : countE t f o = if manyT t f o ≤ 4096 then 0 else 160 := by rw [countE, if_pos h0]
    have hC : countN t f o = if countE t f o = 0 then (manyT t f o : Int) else 0 := rfl
    rw [hC, hN]
    have hwin := h.win
    have hfw : ((widthB (firstB f o) : Nat) : Int) = f.Window.To - f.Window.From := by have := h.first; unfold widthB; omega
    have hlb := h.bounds
    have hall := h.all
    have hm : manyT t f o = prodB (firstB f o :: planL t f o) := rfl
    rw [hm]
    generalize planL t f o = pL at hpl hlb hall
    generalize firstB f o = fb at hfw hall
    obtain ⟨bl, hbl⟩ : ∃ bl, bl = encBounds pL := ⟨_, rfl⟩
    have hbl' : bl.length = pL.length := by rw [hbl]; simp [encBounds]
    rw [← hbl] at hpl
    clear h h0 hN hC hm
    refine callsPV_by (clo := fun _ => false) (rows := false) env_ok Tryz.func16 rfl (enters_of Tryz.func16 (by kernel_rfl) rfl) (fun A q P Y hr hA hq => ?_)
    obtain ⟨ss, hss⟩ : ∃ ss, ss = encSectors t.Sectors := ⟨_, rfl⟩
    obtain ⟨cs, hcs⟩ : ∃ cs, cs = encConfigs t.Configs := ⟨_, rfl⟩
    obtain ⟨ws, hws⟩ : ∃ ws, ws = encWays t.Ways := ⟨_, rfl⟩
    obtain ⟨ms, hms⟩ : ∃ ms, ms = encIntLs t.Modes := ⟨_, rfl⟩
    obtain ⟨ks, hks⟩ : ∃ ks, ks = encKinds t.Kinds := ⟨_, rfl⟩
    obtain ⟨nv, hnv⟩ : ∃ nv, nv = t.Volumes := ⟨_, rfl⟩
    have htab : encTables t = .agg [.int .i64 nv, .list 5 ss, .list 3 cs, .list 3 ws, .list 1 ms, .list 6 ks] := by rw [encTables_eq t hss hcs hws hms hks, hnv]
    rw [htab] at hpl ⊢
    obtain ⟨f1, f2, f3, f4, f5, ⟨f6, f7⟩, f8⟩ := f
    obtain ⟨fl, hfl⟩ : ∃ fl, fl = encInts f5 := ⟨_, rfl⟩
    rw [encFlight_eq _ hfl] at hpl ⊢
    obtain ⟨o1, o2, o3, o4⟩ := o
    simp only at hpl hwin hfw ⊢
    have e1 : A.iSub f7 f6 = f7 - f6 := subI hA _ _
    have bad : ¬ prodB (fb :: pL) ≤ 4096 → PV.tup [.int .i64 0, .int .i64 160] = q := fun hn => by rw [← hq, if_neg hn]; rfl
    have good : ∀ n : Int, n = (prodB (fb :: pL) : Nat) → n ≤ 4096 → PV.tup [.int .i64 n, .int .i64 0] = q := fun n h1 h2 => by
      have h3 : prodB (fb :: pL) ≤ 4096 := by omega
      rw [← hq, h1]
      simp [h3]
    clear hq
    conv => cbv
    refine call_intro hA (hpl) ?_
    conv => cbv
    split
    · rename_i hc
      cases (neT hA hc rfl)
    conv => cbv
    refine ⟨inR' hA e1 (by unfold inI64; omega), ?_⟩
    refine loop_set hA (fun (z : Int × Int) s => (s.put (some 11) (.val (.int .i64 z.1))).put (some 10) (.val (.int .i64 z.2))) (fun z => 0 ≤ z.1 ∧ z.1 ≤ pL.length ∧ z.2 = (prodB (fb :: pL.take z.1.toNat) : Nat) ∧ z.2 ≤ 4096) (fun z => ((pL.length : Int) - z.1).toNat) (0, A.iSub f7 f6) ?_ ?_ ?_
    · conv => cbv
      exact wk_sl (by repeat (first | refine leL_same ?_ | refine leL_any ?_ | exact leL_nil))
    · refine ⟨Int.le_refl _, by omega, ?_, ?_⟩
      · show A.iSub f7 f6 = _
        rw [e1]; simp [prodB]; omega
      · show A.iSub f7 f6 ≤ 4096
        rw [e1]; omega
    rintro R ⟨i, n⟩ ⟨hi0, hi1, hn, hn4⟩ hR
    simp only at hi0 hi1 hn hn4
    conv => cbv
    split
    · rename_i hc
      have hi : i < pL.length := ltT' hA rfl (lenI hA hbl') hc
      have his : A.iAdd i 1 = i + 1 := addI hA _ _
      have hir : A.inR (A.iAdd i 1) := inR' hA his (by unfold inI64; omega)
      obtain ⟨b, hb0⟩ : ∃ b, pL[i.toNat]? = some b := ⟨pL[i.toNat]'(by omega), List.getElem?_eq_getElem (by omega)⟩
      have hbb := hlb.1 b (List.mem_of_getElem? hb0)
      have ht := take_snoc' hi0 hb0
      have hwb : ((widthB b : Nat) : Int) = b.Hi - b.Lo + 1 := by unfold widthB; omega
      have hp : prodB (fb :: pL.take (i + 1).toNat) = prodB (fb :: pL.take i.toNat) * widthB b := by
        rw [ht, ← List.cons_append, prodB_append]; simp [prodB]
      have hd : prodB (fb :: pL) = prodB (fb :: pL.take (i + 1).toNat) * prodB (pL.drop (i + 1).toNat) := by
        rw [← prodB_append, List.cons_append, List.take_append_drop]
      have hdp : 1 ≤ prodB (pL.drop (i + 1).toNat) := prodB_pos fun c hc => (hlb.1 c (List.mem_of_mem_drop hc)).2.1
      obtain ⟨c1, c2⟩ := b
      simp only at hbb hwb
      have a1 : A.iSub c2 c1 = c2 - c1 := subI hA _ _
      have a2 : A.iAdd (A.iSub c2 c1) 1 = c2 - c1 + 1 := by rw [addI hA, a1]
      have a3 : A.iMul n (A.iAdd (A.iSub c2 c1) 1) = (prodB (fb :: pL.take (i + 1).toNat) : Nat) := by
        rw [mulI hA, a2, hp, Int.natCast_mul, ← hn, hwb]
      have hn0 : 0 ≤ n := by rw [hn]; omega
      have hu : n * (c2 - c1 + 1) ≤ 4096 * 5000 := Int.mul_le_mul hn4 (by omega) (by omega) (by omega)
      have a4 : A.iMul n (A.iAdd (A.iSub c2 c1) 1) = n * (c2 - c1 + 1) := by rw [mulI hA, a2]
      have hl : 0 ≤ n * (c2 - c1 + 1) := Int.mul_nonneg hn0 (by omega)
      conv => cbv
      refine ⟨draw_intro hA (by kernel_rfl), ?_⟩
      refine idx_Bound hA hbl hi0 hi (fun z hz => ?_)
      obtain rfl := Option.some.inj ((hb0).symm.trans hz)
      conv => cbv
      refine idx_Bound hA hbl hi0 hi (fun z hz => ?_)
      obtain rfl := Option.some.inj ((hb0).symm.trans hz)
      conv => cbv
      refine ⟨inR' hA a1 (by unfold inI64; omega), inR' hA a2 (by unfold inI64; omega), inR' hA a4 (by unfold inI64; omega), ?_⟩
      split
      · rename_i hc
        have h1 := ltT' hA rfl a3 hc
        conv => cbv
        refine bad ?_
        rw [hd]
        have h2 : prodB (fb :: pL.take (i + 1).toNat) * 1 ≤ prodB (fb :: pL.take (i + 1).toNat) * prodB (pL.drop (i + 1).toNat) := Nat.mul_le_mul_left _ hdp
        omega
      · rename_i hc
        have h1 := ltF' hA rfl a3 hc
        conv => cbv
        refine ⟨hir, hR (A.iAdd i 1, A.iMul n (A.iAdd (A.iSub c2 c1) 1)) _ ?_ ?_ ?_⟩
        · conv => cbv
          exact wk_sl (by repeat (first | refine leL_same ?_ | refine leL_any ?_ | exact leL_nil))
        · show 0 ≤ A.iAdd i 1 ∧ A.iAdd i 1 ≤ pL.length ∧ A.iMul n (A.iAdd (A.iSub c2 c1) 1) = (prodB (fb :: pL.take (A.iAdd i 1).toNat) : Nat) ∧ A.iMul n (A.iAdd (A.iSub c2 c1) 1) ≤ 4096
          rw [his]
          exact ⟨by omega, by omega, a3, by rw [a3]; exact h1⟩
        · show ((pL.length : Int) - A.iAdd i 1).toNat < ((pL.length : Int) - i).toNat
          rw [his]; omega
    · rename_i hc
      have hi : pL.length ≤ i := ltF' hA rfl (lenI hA hbl') hc
      rw [List.take_of_length_le (by omega)] at hn
      conv => cbv
      exact good n hn hn4
  · rw [legsR, if_neg h0] at hpl
    have hE : countE t f o = planE t f o := by rw [countE, if_neg h0]
    have hN : countN t f o = 0 := by rw [countN, hE, if_neg h0]
    rw [hE, hN]
    generalize planE t f o = e at hpl h0
    refine callsPV_by (clo := fun _ => false) (rows := false) env_ok Tryz.func16 rfl (enters_of Tryz.func16 (by kernel_rfl) rfl) (fun A q P Y hr hA hq => ?_)
    obtain ⟨ss, hss⟩ : ∃ ss, ss = encSectors t.Sectors := ⟨_, rfl⟩
    obtain ⟨cs, hcs⟩ : ∃ cs, cs = encConfigs t.Configs := ⟨_, rfl⟩
    obtain ⟨ws, hws⟩ : ∃ ws, ws = encWays t.Ways := ⟨_, rfl⟩
    obtain ⟨ms, hms⟩ : ∃ ms, ms = encIntLs t.Modes := ⟨_, rfl⟩
    obtain ⟨ks, hks⟩ : ∃ ks, ks = encKinds t.Kinds := ⟨_, rfl⟩
    obtain ⟨nv, hnv⟩ : ∃ nv, nv = t.Volumes := ⟨_, rfl⟩
    have htab : encTables t = .agg [.int .i64 nv, .list 5 ss, .list 3 cs, .list 3 ws, .list 1 ms, .list 6 ks] := by rw [encTables_eq t hss hcs hws hms hks, hnv]
    rw [htab] at hpl ⊢
    obtain ⟨f1, f2, f3, f4, f5, ⟨f6, f7⟩, f8⟩ := f
    obtain ⟨fl, hfl⟩ : ∃ fl, fl = encInts f5 := ⟨_, rfl⟩
    rw [encFlight_eq _ hfl] at hpl ⊢
    obtain ⟨o1, o2, o3, o4⟩ := o
    simp only at hpl ⊢
    conv => cbv
    refine call_intro hA (hpl) ?_
    conv => cbv
    split
    rotate_left
    · rename_i hc
      cases ((h0 (neF hA hc)))
    conv => cbv
    exact hq

theorem ref12_Same (a b : List Bound) {xs ys : List PV} (hx : xs = encBounds a) (hy : ys = encBounds b) : CallsPV Tryz.prog 17 [.list 2 xs, .list 2 ys] (.bool (decide (a = b))) := by
  refine callsPV_by (clo := fun _ => false) (rows := false) env_ok Tryz.func17 rfl (enters_of Tryz.func17 (by kernel_rfl) rfl) (fun A q P Y hr hA hq => ?_)
  have hlen := (hr.mem (p := .list 2 xs) (by simp)).len
  have hxl : xs.length = a.length := by rw [hx]; simp [encBounds]
  have hyl : ys.length = b.length := by rw [hy]; simp [encBounds]
  have bad : a ≠ b → PV.bool false = q := fun h => by rw [← hq, decide_eq_false h]
  conv => cbv
  split
  · rename_i h
    have h' := neT' hA (lenI hA hxl) (lenI hA hyl) h
    conv => cbv
    exact bad (fun e => h' (by rw [e]))
  rename_i h
  have hab := neF' hA (lenI hA hxl) (lenI hA hyl) h
  clear h
  conv => cbv
  refine loop_set hA (fun (i : Int) s => s.put (some 5) (.val (.int .i64 i))) (fun i => 0 ≤ i ∧ i ≤ (a.length : Int) ∧ (fun i => ∀ k : Nat, k < i.toNat → a[k]? = b[k]?) i) (fun i => ((a.length : Int) - i).toNat) 0 ?_ ?_ ?_
  · conv => cbv
    exact wk_sl (by repeat (first | refine leL_same ?_ | refine leL_any ?_ | exact leL_nil))
  · exact ⟨Int.le_refl _, by omega, by simp⟩
  rintro R i ⟨hi0, hi1, hi2⟩ hRi
  conv => cbv
  split
  ·   rename_i hc
      have hi : i < (a.length : Int) := ltT' hA rfl (lenI hA hxl) hc
      have his : A.iAdd i 1 = i + 1 := addI hA _ _
      have hir : A.inR (A.iAdd i 1) := inR' hA his (by unfold inI64; omega)
      have him : ((a.length : Int) - A.iAdd i 1).toNat < ((a.length : Int) - i).toNat := by rw [his]; omega
      have hin : (fun i => ∀ k : Nat, k < i.toNat → a[k]? = b[k]?) (i + 1) → 0 ≤ A.iAdd i 1 ∧ A.iAdd i 1 ≤ (a.length : Int) ∧ (fun i => ∀ k : Nat, k < i.toNat → a[k]? = b[k]?) (A.iAdd i 1) := fun h => by rw [his]; exact ⟨by omega, by omega, h⟩
      simp only at hin
      conv => cbv
      refine ⟨draw_intro hA (by kernel_rfl), ?_⟩
      refine idx_Bound hA hx hi0 hi (fun x hx0 => ?_)
      obtain ⟨x1, x2⟩ := x
      conv => cbv
      refine idx_Bound hA hy hi0 (by omega) (fun y hy0 => ?_)
      obtain ⟨y1, y2⟩ := y
      conv => cbv
      split
      · rename_i h
        have h' : (⟨x1, x2⟩ : Bound) ≠ ⟨y1, y2⟩ := by subst hA; intro e; injection e with e1 e2; subst e1 e2; simp [stdOps] at h
        conv => cbv
        exact bad (fun e => h' (by rw [e, hy0] at hx0; exact (Option.some.inj hx0).symm))
      · rename_i h
        have h' : (⟨x1, x2⟩ : Bound) = ⟨y1, y2⟩ := by subst hA; simpa [stdOps] using h
        have nx : ∀ k : Nat, k < (i + 1).toNat → a[k]? = b[k]? := fun k hk => by
          rcases Nat.lt_or_eq_of_le (Nat.le_of_lt_succ (show k < i.toNat + 1 by omega)) with h1 | h1
          · exact hi2 k h1
          · rw [h1, hx0, hy0, h']
        conv => cbv
        exact ⟨hir, hRi (A.iAdd i 1) _ (by (conv => cbv); exact wk_sl (by repeat (first | refine leL_same ?_ | refine leL_any ?_ | exact leL_nil))) (hin nx) him⟩
  rename_i hc
  have hi : i = (a.length : Int) := by have := ltF' hA rfl (lenI hA hxl) hc; omega
  conv => cbv
  rw [← hq, decide_eq_true]
  apply List.ext_getElem?
  intro k
  rcases Nat.lt_or_ge k a.length with h | h
  · exact hi2 k (by omega)
  · rw [List.getElem?_eq_none h, List.getElem?_eq_none (by omega)]

theorem law16_few (t : Tables) (f : Flight) : CallsPV Tryz.prog 12 [encTables t, encFlight f] (.bool (few14 t && fewF f)) := by
  have hfew := ref_Few14 t
  have hfF := ref15_Few f
  generalize few14 t = b1 at hfew
  generalize fewF f = b2 at hfF
  refine callsPV_by (clo := fun _ => false) (rows := false) env_ok Tryz.func12 rfl (enters_of Tryz.func12 (by kernel_rfl) rfl) (fun A q P Y hr hA hq => ?_)
  obtain ⟨ss, hss⟩ : ∃ ss, ss = encSectors t.Sectors := ⟨_, rfl⟩
  obtain ⟨cs, hcs⟩ : ∃ cs, cs = encConfigs t.Configs := ⟨_, rfl⟩
  obtain ⟨ws, hws⟩ : ∃ ws, ws = encWays t.Ways := ⟨_, rfl⟩
  obtain ⟨ms, hms⟩ : ∃ ms, ms = encIntLs t.Modes := ⟨_, rfl⟩
  obtain ⟨ks, hks⟩ : ∃ ks, ks = encKinds t.Kinds := ⟨_, rfl⟩
  obtain ⟨nv, hnv⟩ : ∃ nv, nv = t.Volumes := ⟨_, rfl⟩
  have htab : encTables t = .agg [.int .i64 nv, .list 5 ss, .list 3 cs, .list 3 ws, .list 1 ms, .list 6 ks] := by rw [encTables_eq t hss hcs hws hms hks, hnv]
  rw [htab] at hfew ⊢
  obtain ⟨f1, f2, f3, f4, f5, ⟨f6, f7⟩, f8⟩ := f
  obtain ⟨fl, hfl⟩ : ∃ fl, fl = encInts f5 := ⟨_, rfl⟩
  rw [encFlight_eq _ hfl] at hfF ⊢
  simp only at hfF ⊢
  conv => cbv
  refine call_intro hA (hfew) ?_
  conv => cbv
  cases b1 with
  | true =>
    conv => cbv
    refine call_intro hA (hfF) ?_
    conv => cbv
    rw [← hq]; rfl
  | false =>
    conv => cbv
    rw [← hq]; rfl
end Go.Abs

namespace Go.Abs
open Go.RowKit Go.Proofs

instance : DecidableEq Path := fun a b => decidable_of_iff (a.Way = b.Way ∧ a.Times = b.Times) ⟨fun h => by cases a; cases b; simp only at h; rw [h.1, h.2], fun h => by rw [h]; exact ⟨rfl, rfl⟩⟩

theorem ref16_Light (t : Tables) (f : Flight) (o : Opt) (most : Int) : CallsPV Tryz.prog 20 [encTables t, encFlight f, encOpt o, .int .i64 most] (.bool (!decide (countE t f o = 0) || decide (countN t f o ≤ most))) := by
  have hcnt := ref16_Count t f o
  generalize countN t f o = n at hcnt
  generalize countE t f o = e at hcnt
  refine callsPV_by (clo := fun _ => false) (rows := false) env_ok Tryz.func20 rfl (enters_of Tryz.func20 (by kernel_rfl) rfl) (fun A q P Y hr hA hq => ?_)
  obtain ⟨ss, hss⟩ : ∃ ss, ss = encSectors t.Sectors := ⟨_, rfl⟩
  obtain ⟨cs, hcs⟩ : ∃ cs, cs = encConfigs t.Configs := ⟨_, rfl⟩
  obtain ⟨ws, hws⟩ : ∃ ws, ws = encWays t.Ways := ⟨_, rfl⟩
  obtain ⟨ms, hms⟩ : ∃ ms, ms = encIntLs t.Modes := ⟨_, rfl⟩
  obtain ⟨ks, hks⟩ : ∃ ks, ks = encKinds t.Kinds := ⟨_, rfl⟩
  obtain ⟨nv, hnv⟩ : ∃ nv, nv = t.Volumes := ⟨_, rfl⟩
  have htab : encTables t = .agg [.int .i64 nv, .list 5 ss, .list 3 cs, .list 3 ws, .list 1 ms, .list 6 ks] := by rw [encTables_eq t hss hcs hws hms hks, hnv]
  rw [htab] at hcnt ⊢
  obtain ⟨f1, f2, f3, f4, f5, ⟨f6, f7⟩, f8⟩ := f
  obtain ⟨fl, hfl⟩ : ∃ fl, fl = encInts f5 := ⟨_, rfl⟩
  rw [encFlight_eq _ hfl] at hcnt ⊢
  obtain ⟨o1, o2, o3, o4⟩ := o
  simp only at hcnt ⊢
  conv => cbv
  refine call_intro hA (hcnt) ?_
  conv => cbv
  split
  · rename_i hc
    have h1 := neT hA hc
    conv => cbv
    rw [← hq, decide_eq_false h1]; rfl
  · rename_i hc
    have h1 := neF hA hc
    conv => cbv
    refine Eq.trans ?_ hq
    show PV.bool (A.iLe n most) = _
    rw [decide_eq_true h1]
    subst hA; rfl

theorem ref16_SamePath (a b : Path) : CallsPV Tryz.prog 25 [encPath a, encPath b] (.bool (decide (a = b))) := by
  refine callsPV_by (clo := fun _ => false) (rows := false) env_ok Tryz.func25 rfl (enters_of Tryz.func25 (by kernel_rfl) rfl) (fun A q P Y hr hA hq => ?_)
  obtain ⟨xs, hxs⟩ : ∃ xs, xs = encInts a.Times := ⟨_, rfl⟩
  obtain ⟨ys, hys⟩ : ∃ ys, ys = encInts b.Times := ⟨_, rfl⟩
  rw [encPath_eq a hxs, encPath_eq b hys] at hr ⊢
  obtain ⟨w1, T⟩ := a
  obtain ⟨w2, U⟩ := b
  simp only at hxs hys hr hq ⊢
  have hlen : xs.length ≤ 9223372036854775807 := by
    have h1 := Real.cell (show Real [.agg _] from hr.mem (p := .agg [.int .i64 w1, .list 1 xs]) (by simp)) (c := .list 1 xs) (by simp)
    exact h1.len
  have hxl : xs.length = T.length := by rw [hxs]; simp [encInts]
  have hyl : ys.length = U.length := by rw [hys]; simp [encInts]
  have bad : ¬ (w1 = w2 ∧ T = U) → PV.bool false = q := fun h => by rw [← hq, decide_eq_false (by simpa using h)]
  have good : (w1 = w2 ∧ T = U) → PV.bool true = q := fun h => by rw [← hq, decide_eq_true (by simpa using h)]
  clear hq
  conv => cbv
  split
  · rename_i h
    have h' := neT hA h
    conv => cbv
    exact bad fun e => h' e.1
  rename_i h
  have hw := neF hA h
  conv => cbv
  split
  · rename_i h
    have h' := neT' hA (lenI hA hxl) (lenI hA hyl) h
    conv => cbv
    exact bad fun e => h' (by rw [e.2])
  rename_i h
  have hab := neF' hA (lenI hA hxl) (lenI hA hyl) h
  clear h
  conv => cbv
  refine loop_set hA (fun (i : Int) s => s.put (some 5) (.val (.int .i64 i))) (fun i => 0 ≤ i ∧ i ≤ (T.length : Int) ∧ (fun i => ∀ k : Nat, k < i.toNat → T[k]? = U[k]?) i) (fun i => ((T.length : Int) - i).toNat) 0 ?_ ?_ ?_
  · conv => cbv
    exact wk_sl (by repeat (first | refine leL_same ?_ | refine leL_any ?_ | exact leL_nil))
  · exact ⟨Int.le_refl _, by omega, by simp⟩
  rintro R i ⟨hi0, hi1, hi2⟩ hRi
  conv => cbv
  split
  ·   rename_i hc
      have hi : i < (T.length : Int) := ltT' hA rfl (lenI hA hxl) hc
      have his : A.iAdd i 1 = i + 1 := addI hA _ _
      have hir : A.inR (A.iAdd i 1) := inR' hA his (by unfold inI64; omega)
      have him : ((T.length : Int) - A.iAdd i 1).toNat < ((T.length : Int) - i).toNat := by rw [his]; omega
      have hin : (fun i => ∀ k : Nat, k < i.toNat → T[k]? = U[k]?) (i + 1) → 0 ≤ A.iAdd i 1 ∧ A.iAdd i 1 ≤ (T.length : Int) ∧ (fun i => ∀ k : Nat, k < i.toNat → T[k]? = U[k]?) (A.iAdd i 1) := fun h => by rw [his]; exact ⟨by omega, by omega, h⟩
      simp only at hin
      conv => cbv
      refine ⟨draw_intro hA (by kernel_rfl), ?_⟩
      refine idx_Int hA hxs hi0 hi (fun x hx0 => ?_)
      conv => cbv
      refine idx_Int hA hys hi0 (by omega) (fun y hy0 => ?_)
      conv => cbv
      split
      · rename_i h
        have h' := neT hA h
        conv => cbv
        exact bad (fun e => h' (by rw [e.2, hy0] at hx0; exact (Option.some.inj hx0).symm))
      · rename_i h
        have h' := neF hA h
        have nx : ∀ k : Nat, k < (i + 1).toNat → T[k]? = U[k]? := fun k hk => by
          rcases Nat.lt_or_eq_of_le (Nat.le_of_lt_succ (show k < i.toNat + 1 by omega)) with h1 | h1
          · exact hi2 k h1
          · rw [h1, hx0, hy0, h']
        conv => cbv
        exact ⟨hir, hRi (A.iAdd i 1) _ (by (conv => cbv); exact wk_sl (by repeat (first | refine leL_same ?_ | refine leL_any ?_ | exact leL_nil))) (hin nx) him⟩
  rename_i hc
  have hi : i = (T.length : Int) := by have := ltF' hA rfl (lenI hA hxl) hc; omega
  conv => cbv
  refine good ⟨hw, ?_⟩
  apply List.ext_getElem?
  intro k
  rcases Nat.lt_or_ge k T.length with h | h
  · exact hi2 k (by omega)
  · rw [List.getElem?_eq_none h, List.getElem?_eq_none (by omega)]

theorem ref16_SamePaths (a b : List Path) {xs ys : List PV} (hx : xs = encPaths a) (hy : ys = encPaths b) : CallsPV Tryz.prog 23 [.list 2 xs, .list 2 ys] (.bool (decide (a = b))) := by
  refine callsPV_by (clo := fun _ => false) (rows := false) env_ok Tryz.func23 rfl (enters_of Tryz.func23 (by kernel_rfl) rfl) (fun A q P Y hr hA hq => ?_)
  have hlen := (hr.mem (p := .list 2 xs) (by simp)).len
  have hxl : xs.length = a.length := by rw [hx]; simp [encPaths]
  have hyl : ys.length = b.length := by rw [hy]; simp [encPaths]
  have bad : a ≠ b → PV.bool false = q := fun h => by rw [← hq, decide_eq_false h]
  conv => cbv
  split
  · rename_i h
    have h' := neT' hA (lenI hA hxl) (lenI hA hyl) h
    conv => cbv
    exact bad (fun e => h' (by rw [e]))
  rename_i h
  have hab := neF' hA (lenI hA hxl) (lenI hA hyl) h
  clear h
  conv => cbv
  refine loop_set hA (fun (i : Int) s => s.put (some 5) (.val (.int .i64 i))) (fun i => 0 ≤ i ∧ i ≤ (a.length : Int) ∧ (fun i => ∀ k : Nat, k < i.toNat → a[k]? = b[k]?) i) (fun i => ((a.length : Int) - i).toNat) 0 ?_ ?_ ?_
  · conv => cbv
    exact wk_sl (by repeat (first | refine leL_same ?_ | refine leL_any ?_ | exact leL_nil))
  · exact ⟨Int.le_refl _, by omega, by simp⟩
  rintro R i ⟨hi0, hi1, hi2⟩ hRi
  conv => cbv
  split
  ·   rename_i hc
      have hi : i < (a.length : Int) := ltT' hA rfl (lenI hA hxl) hc
      have his : A.iAdd i 1 = i + 1 := addI hA _ _
      have hir : A.inR (A.iAdd i 1) := inR' hA his (by unfold inI64; omega)
      have him : ((a.length : Int) - A.iAdd i 1).toNat < ((a.length : Int) - i).toNat := by rw [his]; omega
      have hin : (fun i => ∀ k : Nat, k < i.toNat → a[k]? = b[k]?) (i + 1) → 0 ≤ A.iAdd i 1 ∧ A.iAdd i 1 ≤ (a.length : Int) ∧ (fun i => ∀ k : Nat, k < i.toNat → a[k]? = b[k]?) (A.iAdd i 1) := fun h => by rw [his]; exact ⟨by omega, by omega, h⟩
      simp only at hin
      conv => cbv
      refine ⟨draw_intro hA (by kernel_rfl), ?_⟩
      refine idx_Path hA hx hi0 hi (fun x v hx0 hv => ?_)
      conv => cbv
      refine idx_Path hA hy hi0 (by omega) (fun y u hy0 hu => ?_)
      have hs := ref16_SamePath x y
      rw [encPath_eq x hv, encPath_eq y hu] at hs
      conv => cbv
      refine callB hA (hs) rfl (fun r hr => ?_)
      conv => cbv
      split
      · rename_i h
        have h1 := notT hA h
        conv => cbv
        refine bad fun e => ?_
        rw [e, hy0] at hx0
        rw [h1, Option.some.inj hx0] at hr
        simp at hr
      · rename_i h
        have h1 := notF hA h
        rw [h1] at hr
        have hxy : x = y := of_decide_eq_true hr.symm
        have nx : ∀ k : Nat, k < (i + 1).toNat → a[k]? = b[k]? := fun k hk => by
          rcases Nat.lt_or_eq_of_le (Nat.le_of_lt_succ (show k < i.toNat + 1 by omega)) with h1 | h1
          · exact hi2 k h1
          · rw [h1, hx0, hy0, hxy]
        conv => cbv
        exact ⟨hir, hRi (A.iAdd i 1) _ (by (conv => cbv); exact wk_sl (by repeat (first | refine leL_same ?_ | refine leL_any ?_ | exact leL_nil))) (hin nx) him⟩
  rename_i hc
  have hi : i = (a.length : Int) := by have := ltF' hA rfl (lenI hA hxl) hc; omega
  conv => cbv
  rw [← hq, decide_eq_true]
  apply List.ext_getElem?
  intro k
  rcases Nat.lt_or_ge k a.length with h | h
  · exact hi2 k (by omega)
  · rw [List.getElem?_eq_none h, List.getElem?_eq_none (by omega)]
end Go.Abs
