/-
  flights.Check.
-/
import Derived.Test.YtcafjndjnfdnpaaGreatC2
import Derived.Test.YtcafjndjnfdnpaaGreatC3
import Derived.Test.YtcafjndjnfdnpaaGreatF4
set_option linter.unusedVariables false
set_option linter.unusedSimpArgs false
namespace Go.Abs
open Go.RowKit Go.Proofs Go.Lib

/-- Another way than the first: from or to elsewhere. -/
def elsewhere (W : List Way) (w0 : Way) (n : Int) : Bool :=
  match W[n.toNat]? with
  | some w => !decide (w.From = w0.From) || !decide (w.To = w0.To)
  | none => true

theorem fl_Check1 (W : List Way) (w0 : Way) (n nv : Int) (ss cs ws ms ks lg : List PV) (hws : ws = encWays W) (h0 : 0 ≤ n) (h1 : n < W.length) :
    CallsPV Tryz.prog 52 [.int .i64 n, .ptr [.int .i64 nv, .list 5 ss, .list 3 cs, .list 3 ws, .list 1 ms, .list 6 ks] 0, .ptr [.int .i64 w0.From, .int .i64 w0.To, .list 4 lg] 0] (.bool (elsewhere W w0 n)) := by
  refine callsPV_by (clo := fun _ => false) (rows := false) env_ok Tryz.func52 rfl (enters_of Tryz.func52 (by kernel_rfl) rfl) (fun A q P Y hr hA hq => ?_)
  obtain ⟨w1, w2, w3⟩ := w0
  have hE : ∀ w, W[n.toNat]? = some w → elsewhere W ⟨w1, w2, w3⟩ n = (!decide (w.From = w1) || !decide (w.To = w2)) := fun w h => by simp only [elsewhere, h]
  generalize elsewhere W ⟨w1, w2, w3⟩ n = b at hq hE
  conv => cbv
  refine ⟨draw_intro hA (by kernel_rfl), ?_⟩
  refine idx_Way hA hws h0 h1 (fun w v hw hv => ?_)
  obtain ⟨x1, x2, x3⟩ := w
  have hb := hE _ hw
  conv => cbv
  split
  · rename_i h
    have h' : x1 ≠ w1 := neT hA h
    conv => cbv
    rw [← hq, hb, decide_eq_false h']; rfl
  · rename_i h
    have h' : x1 = w1 := neF hA h
    conv => cbv
    refine idx_Way hA hws h0 h1 (fun z v' hz hv' => ?_)
    obtain rfl := Option.some.inj ((hw).symm.trans hz)
    conv => cbv
    rw [← hq, hb, decide_eq_true h']
    subst hA; rfl

/-- All numbers of a list are other ones, as the program finds it: sorted, and made compact. -/
def onceB (l : List Int) : Bool := decide ((compactUpTo (l.mergeSort fun x y => decide (x ≤ y)).toArray (l.mergeSort fun x y => decide (x ≤ y)).length).length = l.length)
def head0 (t : Tables) (f : Flight) : Way := (t.Ways[(f.Ways.headD 0).toNat]?).getD ⟨0, 0, []⟩
def flightB (t : Tables) (f : Flight) : Bool :=
  !outB 0 4095 f.ID && !outB 0 7 f.Airline && !outB 0 (t.Kinds.length - 1) f.Class && nameB f.Call && !outB 1 4 f.Ways.length && !f.Ways.any (outB 0 (t.Ways.length - 1)) &&
    !(decide (f.Window.From < 0) || decide (f.Window.To ≤ f.Window.From) || decide (1440 < f.Window.To) || decide (16 < f.Window.To - f.Window.From)) &&
    !f.Ways.any (elsewhere t.Ways (head0 t f)) && onceB f.Ways
def checkF (t : Tables) (f : Flight) : Int := if airOk t then if flightB t f then 0 else 150 else 140

theorem within1 (lo hi n : Int) : CallsPV Tryz.prog 50 [.int .i64 lo, .int .i64 hi, .list 1 [.int .i64 n]] (.bool (!outB lo hi n)) := by
  have h := fl_within lo hi [n] (xs := [.int .i64 n]) rfl
  simpa using h

def cloC (n : Nat) : Bool := cloS n || n == 1000009

/-- A region that is gone through in each order, what comes behind it once. -/
theorem skip_each {A : Ops} {E : Env} {id : Nat} {ops : Array Oper} {c : Code} {nb : Nat × Nat} {st : St} {Q Q2 : AX → St → Prop} (st1 : St) (hQ : ∀ s, Q .normal s = wpC' A E (.seq (.region id ops true) c) nb s Q2)
    (hm : drawMode E true id ops.size = .each) (h1 : ∀ K : St → Prop, K st1 → wpAll' A E ops ops.size (Array.replicate ops.size false) st K) (h2 : wpC' A E c nb st1 Q2) : wpC' A E .skip nb st Q := by
  unfold wpC'
  rw [hQ]
  unfold wpC'
  unfold wpC'
  rw [hm]
  exact h1 _ h2

set_option maxHeartbeats 4000000 in
theorem fl_Check (t : Tables) (f : Flight) : CallsPV Tryz.prog 14 [encTables t, encFlight f] (.int .i64 (checkF t f)) := by
  refine callsPV_by (clo := cloC) (rows := true) env_ok Tryz.func14 rfl (enters_of Tryz.func14 (by kernel_rfl) rfl) (fun A q P Y hr hA hq => ?_)
  have hair := air_Check t
  obtain ⟨ck, hck⟩ : ∃ ck, ck = checkF t f := ⟨_, rfl⟩
  have hlW : t.Ways.length ≤ 9223372036854775807 := by
    have h1 := Real.cell (show Real [.agg _] from hr.mem (p := encTables t) (by simp)) (c := .list 3 (encWays t.Ways)) (by simp)
    have := h1.len; simpa [encWays] using this
  have hlK : t.Kinds.length ≤ 9223372036854775807 := by
    have h1 := Real.cell (show Real [.agg _] from hr.mem (p := encTables t) (by simp)) (c := .list 6 (encKinds t.Kinds)) (by simp)
    have := h1.len; simpa [encKinds] using this
  rw [← hck] at hq
  obtain ⟨ss, hss⟩ : ∃ ss, ss = encSectors t.Sectors := ⟨_, rfl⟩
  obtain ⟨cs, hcs⟩ : ∃ cs, cs = encConfigs t.Configs := ⟨_, rfl⟩
  obtain ⟨ws, hws⟩ : ∃ ws, ws = encWays t.Ways := ⟨_, rfl⟩
  obtain ⟨ms, hms⟩ : ∃ ms, ms = encIntLs t.Modes := ⟨_, rfl⟩
  obtain ⟨ks, hks⟩ : ∃ ks, ks = encKinds t.Kinds := ⟨_, rfl⟩
  obtain ⟨nv, hnv⟩ : ∃ nv, nv = t.Volumes := ⟨_, rfl⟩
  have htab : encTables t = .agg [.int .i64 nv, .list 5 ss, .list 3 cs, .list 3 ws, .list 1 ms, .list 6 ks] := by rw [encTables_eq t hss hcs hws hms hks, hnv]
  rw [htab] at hair ⊢
  have hkl : ks.length = t.Kinds.length := by rw [hks]; simp [encKinds]
  have hwl : ws.length = t.Ways.length := by rw [hws]; simp [encWays]
  obtain ⟨f1, f2, f3, f4, f5, ⟨f6, f7⟩, f8⟩ := f
  obtain ⟨fl, hfl⟩ : ∃ fl, fl = encInts f5 := ⟨_, rfl⟩
  have hfl' : fl.length = f5.length := by rw [hfl]; simp [encInts]
  rw [encFlight_eq _ hfl]
  simp only
  cases hao : airOk t with
  | false =>
    rw [hao] at hair
    have hck' : ck = 140 := by rw [hck, checkF, hao]; rfl
    conv => cbv
    refine call_intro hA hair ?_
    conv => cbv
    split
    · conv => cbv
      refine ⟨_, Frz.refl _ _, ?_⟩
      conv => cbv
      exact (by rw [← hq, hck'])
    · rename_i h
      have h' : (140 : Int) = 0 := neF hA h
      cases h'
  | true =>
    rw [hao] at hair
    have hck' : ck = if flightB t ⟨f1, f2, f3, f4, f5, ⟨f6, f7⟩, f8⟩ then 0 else 150 := by rw [hck, checkF, hao]; rfl
    clear hck hao
    obtain ⟨fb, hfb⟩ : ∃ fb, fb = flightB t ⟨f1, f2, f3, f4, f5, ⟨f6, f7⟩, f8⟩ := ⟨_, rfl⟩
    rw [← hfb] at hck'
    simp only [flightB] at hfb
    have bad : fb = false → PV.int .i64 150 = q := fun h => by rw [← hq, hck', h]; rfl
    have good : fb = true → PV.int .i64 0 = q := fun h => by rw [← hq, hck', h]; rfl
    clear hck' hq
    have eK : A.iSub (A.lLen ks) 1 = (t.Kinds.length : Int) - 1 := by rw [subI hA, lenI hA hkl]
    have eW : A.iSub (A.lLen ws) 1 = (t.Ways.length : Int) - 1 := by rw [subI hA, lenI hA hwl]
    have wK := within1 0 (t.Kinds.length - 1) f3
    have wW := fl_within 0 (t.Ways.length - 1) f5 hfl
    have wL := within1 1 4 f5.length
    rw [← eK] at wK
    rw [← eW] at wW
    rw [← lenI hA hfl'] at wL
    conv => cbv
    refine call_intro hA hair ?_
    conv => cbv
    split
    · rename_i h
      cases (neT hA h rfl)
    conv => cbv
    refine callB hA (within1 0 4095 f1) rfl (fun r1 hr1 => ?_)
    conv => cbv
    split
    · rename_i h
      have h' := notT hA h
      conv => cbv
      refine ⟨_, Frz.refl _ _, ?_⟩
      conv => cbv
      exact bad (by rw [hfb, ← hr1, h']; simp)
    rename_i h
    have hr1' := notF hA h
    rw [hr1'] at hr1
    rw [← hr1] at hfb
    clear h
    conv => cbv
    refine callB hA (within1 0 7 f2) rfl (fun r2 hr2 => ?_)
    conv => cbv
    split
    · rename_i h
      have h' := notT hA h
      conv => cbv
      refine ⟨_, Frz.refl _ _, ?_⟩
      conv => cbv
      exact bad (by rw [hfb, ← hr2, h']; simp)
    rename_i h
    have hr2' := notF hA h
    rw [hr2'] at hr2
    rw [← hr2] at hfb
    clear h
    conv => cbv
    refine ⟨inR' hA eK (by unfold inI64; omega), ?_⟩
    refine callB hA (wK) rfl (fun r3 hr3 => ?_)
    conv => cbv
    split
    · rename_i h
      have h' := notT hA h
      conv => cbv
      refine ⟨_, Frz.refl _ _, ?_⟩
      conv => cbv
      exact bad (by rw [hfb, ← eK, ← hr3, h']; simp)
    rename_i h
    have hr3' := notF hA h
    rw [hr3'] at hr3
    rw [← eK, ← hr3] at hfb
    clear h
    conv => cbv
    refine callB hA (lex_Name f4) rfl (fun r4 hr4 => ?_)
    conv => cbv
    split
    · rename_i h
      have h' := notT hA h
      conv => cbv
      refine ⟨_, Frz.refl _ _, ?_⟩
      conv => cbv
      exact bad (by rw [hfb, ← hr4, h']; simp)
    rename_i h
    have hr4' := notF hA h
    rw [hr4'] at hr4
    rw [← hr4] at hfb
    clear h
    conv => cbv
    refine callB hA wL rfl (fun r5 hr5 => ?_)
    conv => cbv
    split
    · rename_i h
      have h' := notT hA h
      conv => cbv
      refine ⟨_, Frz.refl _ _, ?_⟩
      conv => cbv
      exact bad (by rw [hfb, ← lenI hA hfl', ← hr5, h']; simp)
    rename_i h
    have hr5' := notF hA h
    rw [hr5'] at hr5
    rw [← lenI hA hfl', ← hr5] at hfb
    have hn5 : 1 ≤ f5.length ∧ f5.length ≤ 4 := by
      rw [lenI hA hfl'] at hr5
      have := hr5.symm
      simp [outB] at this
      omega
    clear h
    conv => cbv
    refine ⟨inR' hA eW (by unfold inI64; omega), ?_⟩
    refine callB hA wW rfl (fun r6 hr6 => ?_)
    conv => cbv
    split
    · rename_i h
      have h' := notT hA h
      conv => cbv
      refine ⟨_, Frz.refl _ _, ?_⟩
      conv => cbv
      exact bad (by rw [hfb, ← eW, ← hr6, h']; simp)
    rename_i h
    have hr6' := notF hA h
    rw [hr6'] at hr6
    rw [← eW, ← hr6] at hfb
    clear h
    conv => cbv
    split
    · rename_i h
      have h' := ltT hA h
      conv => cbv
      refine ⟨_, Frz.refl _ _, ?_⟩
      conv => cbv
      exact bad (by rw [hfb, decide_eq_true h']; simp)
    rename_i h
    have h0 := ltF hA h
    rw [decide_eq_false (p := f6 < 0) (by omega)] at hfb
    clear h
    conv => cbv
    split
    · rename_i h
      have h' := leT hA h
      conv => cbv
      refine ⟨_, Frz.refl _ _, ?_⟩
      conv => cbv
      exact bad (by rw [hfb, decide_eq_true h']; simp)
    rename_i h
    have h1 := leF hA h
    rw [decide_eq_false (p := f7 ≤ f6) (by omega)] at hfb
    clear h
    conv => cbv
    split
    · rename_i h
      have h' := ltT hA h
      conv => cbv
      refine ⟨_, Frz.refl _ _, ?_⟩
      conv => cbv
      exact bad (by rw [hfb, decide_eq_true h']; simp)
    rename_i h
    have h2 := ltF hA h
    rw [decide_eq_false (p := 1440 < f7) (by omega)] at hfb
    clear h
    have e76 : A.iSub f7 f6 = f7 - f6 := subI hA _ _
    conv => cbv
    refine ⟨inR' hA e76 (by unfold inI64; omega), ?_⟩
    conv => cbv
    split
    · rename_i h
      have h' := ltT' hA rfl e76 h
      conv => cbv
      refine ⟨_, Frz.refl _ _, ?_⟩
      conv => cbv
      exact bad (by rw [hfb, decide_eq_true h']; simp)
    rename_i h
    have h3 := ltF' hA rfl e76 h
    rw [decide_eq_false (p := 16 < f7 - f6) (by omega)] at hfb
    clear h
    have hin : ∀ n ∈ f5, 0 ≤ n ∧ n < t.Ways.length := fun n hn => by
      have h1 : (f5.any (outB 0 (A.iSub (A.lLen ws) 1))) = false := by simpa using hr6.symm
      rw [eW, List.any_eq_false] at h1
      have := h1 n hn
      simp [outB] at this
      omega
    obtain ⟨x, hx0⟩ : ∃ x, f5[0]? = some x := ⟨f5[0]'(by omega), List.getElem?_eq_getElem (by omega)⟩
    have hx1 := hin x (List.mem_of_getElem? hx0)
    obtain ⟨w0, hw0⟩ : ∃ w0, t.Ways[x.toNat]? = some w0 := ⟨t.Ways[x.toNat]'(by omega), List.getElem?_eq_getElem (by omega)⟩
    have hhd : head0 t ⟨f1, f2, f3, f4, f5, ⟨f6, f7⟩, f8⟩ = w0 := by
      have : f5.headD 0 = x := by
        cases f5 with
        | nil => simp at hn5
        | cons a r => simpa using hx0
      simp only [head0, this, hw0]
      rfl
    rw [hhd] at hfb
    obtain ⟨lg, hlg⟩ : ∃ lg, lg = encLegs w0.Legs := ⟨_, rfl⟩
    have hany := containsFunc_Int (elsewhere t.Ways w0) f5 hfl (fun n hn => fl_Check1 t.Ways w0 n nv ss cs ws ms ks lg hws (hin n hn).1 (hin n hn).2)
    obtain ⟨x1, x2, x3⟩ := w0
    simp only at hany hlg
    apply skip_each (hQ := fun _ => rfl)
    case hm => rfl
    case h1 =>
      intro K hK
      conv => cbv
      repeat' first
        | exact hK
        | apply And.intro
        | (refine idx_Int hA hfl (Int.le_refl 0) (by omega) (fun z hz => ?_); obtain rfl := Option.some.inj (hx0.symm.trans hz); clear hz; conv => cbv)
        | (refine idx_Way hA hws hx1.1 hx1.2 (fun z v hz hv => ?_); obtain rfl := Option.some.inj (hw0.symm.trans hz); obtain rfl := hlg.trans hv.symm; clear hz hv; conv => cbv)
    have hstep : ∀ c0 c1 c2 c3, CallsR ⟨Tryz.prog, tab, cloC, true, .none⟩ 54 [.val (.fn 129 [.ptr [.list 1 fl] 0])] [c0, c1, c2, c3] [] ⟨[], 0⟩
        (fun r bx' tk' ax' => ∃ rs, bx' = [c0, c1, c2, c3] ++ rs ∧ tk' = [] ∧ ax' = ⟨[], 0⟩ ∧ ∃ j cap, r = .row (4 + j) 0 1 f5.length cap ∧ RowK (f5.mergeSort fun x y => decide (x ≤ y)) rs j cap) := fun c0 c1 c2 c3 => CallsR.flags (sorted c0 c1 c2 c3 [] ⟨[], 0⟩ f5 hfl (by omega) (by omega))
    conv => cbv
    refine call_intro hA (slices_Values fl) ?_
    conv => cbv
    refine shareR_intro hA (hstep _ _ _ _) (fun r bx' tk' ax' h => ?_)
    obtain ⟨rs, rfl, rfl, rfl, j, cap, rfl, cells, g1, g2, g3, g4, g5⟩ := h
    obtain ⟨id, hid⟩ : ∃ id, id = 4 + j := ⟨_, rfl⟩
    obtain ⟨n, hn⟩ : ∃ n, n = f5.length := ⟨_, rfl⟩
    obtain ⟨zs, hzs⟩ : ∃ zs, zs = f5.mergeSort fun x y => decide (x ≤ y) := ⟨_, rfl⟩
    rw [← hid, ← hn]
    rw [← hzs] at g3 g5
    have hzl : zs.length = f5.length := by rw [hzs, List.length_mergeSort]
    obtain ⟨k, hk⟩ : ∃ k, k = (compactUpTo zs.toArray zs.length).length := ⟨_, rfl⟩
    have honce : onceB f5 = decide (k = n) := by rw [onceB, ← hzs, ← hk, hn]
    have hcells : cells = (encInts zs).map SV.val ++ cells.drop zs.length := by rw [← g5, List.take_append_drop]
    have hcc : ∀ c0 c1 c2 c3, ([c0, c1, c2, c3] ++ rs)[id]? = some (some ((encInts zs).map SV.val ++ cells.drop zs.length)) := fun c0 c1 c2 c3 => by
      rw [← hcells, hid, List.getElem?_append_right (by simp)]
      simpa using g1
    have hset : ∀ c0 c1 c2 c3 y, ([c0, c1, c2, c3] ++ rs).set id y = [c0, c1, c2, c3] ++ rs.set j y := fun c0 c1 c2 c3 y => by
      rw [hid, List.set_append_right _ _ (by simp)]
      simp
    have hcomp : ∀ c0 c1 c2 c3, CallsR ⟨Tryz.prog, tab, cloC, true, .none⟩ 53 [.row id 0 1 n cap] ([c0, c1, c2, c3] ++ rs) [] ⟨[], 0⟩
        (fun r bx' tk' ax' => r = .row id 0 1 k cap ∧ (∃ rs', bx' = [c0, c1, c2, c3] ++ rs') ∧ tk' = [] ∧ ax' = ⟨[], 0⟩) := fun c0 c1 c2 c3 => by
      have h := slices_Compact (clo := cloC) (rows := true) (Y := .none) (tk := []) (ax := ⟨[], 0⟩) (n := n) (cap := cap) (hcc c0 c1 c2 c3) (by omega) (by omega) (by omega) g4
      rw [← hk] at h
      refine ⟨h.1, fun B S0 w0 G S w vs a b c d => (h.2 B S0 w0 G S w vs a b c d).mono ?_⟩
      rintro e w' ⟨v, r, bx', tk', ax', G', S', ⟨q1, ⟨dd, _, _, q2⟩, q3, q4⟩, h2⟩
      exact ⟨v, r, bx', tk', ax', G', S', ⟨q1, ⟨_, q2.trans (hset _ _ _ _ _)⟩, q3, q4⟩, h2⟩
    clear hcc hset hcells
    conv => cbv
    refine shareR_intro hA (hcomp _ _ _ _) (fun r bx' tk' ax' h => ?_)
    obtain ⟨rfl, ⟨rs', rfl⟩, rfl, rfl⟩ := h
    conv => cbv
    refine callB hA hany rfl (fun r7 hr7 => ?_)
    conv => cbv
    split
    · conv => cbv
      refine ⟨_, Frz.refl _ _, ?_⟩
      conv => cbv
      exact bad (by rw [hfb, ← hr7]; simp)
    rw [← hr7, honce] at hfb
    conv => cbv
    split
    · rename_i h
      have h' := neT' hA (natI hA k) (lenI hA hfl') h
      conv => cbv
      refine ⟨_, Frz.refl _ _, ?_⟩
      conv => cbv
      exact bad (by rw [hfb, decide_eq_false (by omega)]; simp)
    · rename_i h
      have h' := neF' hA (natI hA k) (lenI hA hfl') h
      conv => cbv
      refine ⟨_, Frz.refl _ _, ?_⟩
      conv => cbv
      exact good (by rw [hfb, decide_eq_true (by omega)]; rfl)
end Go.Abs
