/-
  The law's tables (chapter 15); the examples that it begins with.
-/
import Derived.Test.YtbljnbpddboohaaGreatF21
import Derived.Test.YtbljnbpddboohaaGreatP1
set_option linter.unusedVariables false
set_option linter.unusedSimpArgs false
namespace Go.Abs
open Go.RowKit Go.Proofs

def law15L : List Leg := [⟨0, 0, 10, [⟨0, 1440⟩]⟩]
def law15T : Tables := ⟨1, [⟨ByteArray.empty, [], [0], 3, 2⟩], [⟨ByteArray.empty, [], [0]⟩], [⟨0, 1, law15L⟩, ⟨0, 1, law15L⟩, ⟨1, 0, law15L⟩], [[4], [4]], [⟨1, 2, 1, 3, 60, [[], []]⟩, ⟨1, 1, 2, 1, 0, [[], []]⟩]⟩
def pvI (n : Int) : PV := .int .i64 n
def pvSp (l : List (Int × Int)) : PV := .list 2 (l.map fun p => .agg [pvI p.1, pvI p.2])
def pvLegs15 : PV := .list 4 [.agg [pvI 0, pvI 0, pvI 10, pvSp [(0, 1440)]]]
/-- The law's tables, as they come out of the law's own function. -/
def law15TP : PV := .agg [pvI 1, .list 5 [.agg [.str ByteArray.empty, .list 0 [], .list 1 [pvI 0], pvI 3, pvI 2]], .list 3 [.agg [.str ByteArray.empty, .list 0 [], .list 1 [pvI 0]]],
  .list 3 [.agg [pvI 0, pvI 1, pvLegs15], .agg [pvI 0, pvI 1, pvLegs15], .agg [pvI 1, pvI 0, pvLegs15]], .list 1 [.list 1 [pvI 4], .list 1 [pvI 4]],
  .list 6 [.agg [pvI 1, pvI 2, pvI 1, pvI 3, pvI 60, .list 1 [.list 0 [], .list 0 []]], .agg [pvI 1, pvI 1, pvI 2, pvI 1, pvI 0, .list 1 [.list 0 [], .list 0 []]]]]

theorem law15_tables : CallsPV Tryz.prog 19 [] law15TP := by
  refine callsPV_by (clo := fun _ => false) (rows := false) env_ok Tryz.func19 rfl (enters_of Tryz.func19 (by kernel_rfl) rfl) (fun A q P Y hr hA hq => ?_)
  conv => cbv
  rw [← hq]
  rfl

theorem law15T_le : LeP law15TP (encTables law15T) := lePb_ok 12 _ _ (by decide)

def exF : Flight := ⟨7, 0, 1, ⟨#[65, 66, 49]⟩, [0], ⟨100, 103⟩, false⟩
def exTwo : Flight := ⟨7, 0, 1, ⟨#[65, 66, 49]⟩, [0, 2], ⟨100, 103⟩, false⟩
def exOff : Flight := ⟨7, 0, 0, ⟨#[65, 66, 49]⟩, [1, 0], ⟨100, 103⟩, true⟩
def exNil : Flight := ⟨0, 0, 0, ByteArray.empty, [], ⟨0, 0⟩, false⟩
theorem air15 : airOk law15T = true := by decide
theorem chk_ok {t : Tables} {f : Flight} (h1 : airOk t = true) (h2 : (!outB 0 4095 f.ID && !outB 0 7 f.Airline && !outB 0 (t.Kinds.length - 1) f.Class && nameB f.Call && !outB 1 4 f.Ways.length && !f.Ways.any (outB 0 (t.Ways.length - 1)) &&
    !(decide (f.Window.From < 0) || decide (f.Window.To ≤ f.Window.From) || decide (1440 < f.Window.To) || decide (16 < f.Window.To - f.Window.From)) &&
    !f.Ways.any (elsewhere t.Ways (head0 t f))) = true) (h3 : f.Ways.Nodup) : checkF t f = 0 := by
  have : flightB t f = true := by
    unfold flightB
    rw [h2, (onceB_iff _).2 h3]; rfl
  rw [checkF, h1, this]; rfl
theorem chk1 : checkF law15T exF = 0 := chk_ok air15 (by decide) (by decide)
theorem chk2 : checkF law15T exTwo = 150 := by decide
theorem chk3 : checkF law15T exOff = 0 := chk_ok air15 (by decide) (by decide)
theorem chk4 : checkF law15T exNil = 150 := by decide
theorem mea1 : measuresF law15T exF = [⟨0, 0, 0, false⟩, ⟨0, 0, 5, false⟩, ⟨0, 0, 10, false⟩] := by rw [measuresF, if_pos chk1]; decide
theorem mea3 : measuresF law15T exOff = measL law15T exOff := by rw [measuresF, if_pos chk3]
theorem mea3l : (measL law15T exOff).length = 43 := by decide
theorem del1 : delayF law15T exOff ⟨20, 0, 5, false⟩ = (25, 75, 0) := by rw [delayF, if_pos chk3]; decide
theorem del2 : delayF law15T exOff ⟨0, 0, 0, true⟩ = (120, 360, 0) := by rw [delayF, if_pos chk3]; decide
theorem del3 : delayF law15T exOff ⟨5, 0, 0, false⟩ = (0, 0, 150) := by rw [delayF, if_pos chk3]; decide

def pvF (a b c : Int) (s : ByteArray) (m : Nat) (w : List PV) (x y : Int) (k : Bool) : PV := .agg [pvI a, pvI b, pvI c, .str s, .list m w, pvI x, pvI y, .bool k]
theorem exNil_le : LeP (pvF 0 0 0 ByteArray.empty 0 [] 0 0 false) (encFlight exNil) := lePb_ok 12 _ _ (by decide)

theorem ex_check (f : Flight) {fp : PV} (hf : LeP fp (encFlight f)) {e : Int} (he : checkF law15T f = e) : CallsPV Tryz.prog 8 [law15TP, fp] (.int .i64 e) :=
  he ▸ (fl_Check law15T f).le (.cons law15T_le (.cons hf .nil)) (.refl _)
theorem ex_meas (f : Flight) {l : List Opt} (h : measuresF law15T f = l) {e : Int} (he : checkF law15T f = e) : CallsPV Tryz.prog 12 [law15TP, encFlight f] (.tup [.list 4 (encOpts l), .int .i64 e]) :=
  h ▸ he ▸ (fl_Measures law15T f).le (.cons law15T_le (.cons (.refl _) .nil)) (.refl _)
theorem ex_delay (f : Flight) (o : Opt) {a b c : Int} (h : delayF law15T f o = (a, b, c)) : CallsPV Tryz.prog 14 [law15TP, encFlight f, encOpt o] (.tup [.int .i64 a, .int .i64 b, .int .i64 c]) := by
  have := (fl_Delay law15T f o).le (args := [law15TP, encFlight f, encOpt o]) (.cons law15T_le (.cons (.refl _) (.cons (.refl _) .nil))) (.refl _)
  rw [h] at this; exact this
theorem ex_air : CallsPV Tryz.prog 20 [law15TP] (.int .i64 0) := by
  have := (air_Check law15T).le (args := [law15TP]) (.cons law15T_le .nil) (.refl _)
  rw [air15] at this; exact this

theorem cmpI_self (a : Int) : cmpI a a = 0 := by unfold cmpI; rw [if_neg (by omega), if_neg (by omega)]
theorem cmpOpt_self (o : Opt) : cmpOpt o o = 0 := by
  unfold cmpOpt
  rw [if_pos rfl, cmpI_self, cmpI_self, cmpI_self]; rfl

set_option maxHeartbeats 2000000 in
theorem law15_sane : CallsPV Tryz.prog 5 [] (.bool true) := by
  refine callsPV_by (clo := fun _ => false) (rows := false) env_ok Tryz.func5 rfl (enters_of Tryz.func5 (by kernel_rfl) rfl) (fun A q P Y hr hA hq => ?_)
  have c1 := ex_meas exF mea1 chk1
  have c2 := ex_meas exOff mea3 chk3
  have c3 := ex_delay exOff ⟨20, 0, 5, false⟩ del1
  have c4 := ex_delay exOff ⟨0, 0, 0, true⟩ del2
  have c5 := ex_delay exOff ⟨5, 0, 0, false⟩ del3
  have c7 := ex_check exF (.refl _) chk1
  have c8 := ex_check exTwo (.refl _) chk2
  have c9 := ex_check exNil exNil_le chk4
  have d1 := ref15_Same [⟨0, 0, 0, false⟩, ⟨0, 0, 5, false⟩, ⟨0, 0, 10, false⟩] [⟨0, 0, 0, false⟩, ⟨0, 0, 5, false⟩, ⟨0, 0, 10, false⟩] rfl rfl
  rw [decide_eq_true rfl] at d1
  have d2 : CallsPV Tryz.prog 10 [encFlight exF] (.int .i64 70) := fl_Decided exF (.inl (by unfold inI64; decide))
  have d3 : CallsPV Tryz.prog 10 [pvF 0 0 0 ByteArray.empty 0 [] 0 0 false] (.int .i64 0) := (fl_Decided exNil (.inr (by decide))).le (.cons exNil_le .nil) (.refl _)
  have d4 : CallsPV Tryz.prog 17 [encOpt ⟨0, 0, 0, false⟩, encOpt ⟨0, 0, 0, true⟩] (.int .i64 (-1)) := fl_Compare ⟨0, 0, 0, false⟩ ⟨0, 0, 0, true⟩
  have d5 : ∀ m, CallsPV Tryz.prog 17 [encOpt m, encOpt m] (.int .i64 0) := fun m => by
    have := fl_Compare m m
    rw [cmpOpt_self] at this; exact this
  have hMl := mea3l
  generalize measL law15T exOff = M at c2 hMl
  obtain ⟨xs, hxs⟩ : ∃ xs, xs = encOpts M := ⟨_, rfl⟩
  have hxl : xs.length = 43 := by rw [hxs, ← hMl]; simp [encOpts]
  rw [← hxs] at c2
  conv => cbv
  refine call_intro hA (law15_tables) ?_
  conv => cbv
  refine call_intro hA (c1) ?_
  conv => cbv
  refine call_intro hA (c2) ?_
  conv => cbv
  refine call_intro hA (c3) ?_
  conv => cbv
  refine call_intro hA (c4) ?_
  conv => cbv
  refine call_intro hA (c5) ?_
  conv => cbv
  refine call_intro hA (ex_air) ?_
  conv => cbv
  split
  · rename_i hc
    cases (neT hA hc rfl)
  conv => cbv
  refine call_intro hA (c7) ?_
  conv => cbv
  split
  · rename_i hc
    cases (neT hA hc rfl)
  conv => cbv
  refine call_intro hA (c8) ?_
  conv => cbv
  split
  · rename_i hc
    cases (neT hA hc rfl)
  conv => cbv
  refine call_intro hA (c9) ?_
  conv => cbv
  split
  · rename_i hc
    cases (neT hA hc rfl)
  conv => cbv
  split
  · rename_i hc
    cases (neT hA hc rfl)
  conv => cbv
  split
  · rename_i hc
    cases (neT hA hc rfl)
  conv => cbv
  split
  · rename_i hc
    cases (neT hA hc rfl)
  conv => cbv
  split
  · rename_i hc
    cases (neT hA hc rfl)
  conv => cbv
  split
  · rename_i hc
    cases (neT hA hc rfl)
  conv => cbv
  refine call_intro hA (d1) ?_
  conv => cbv
  split
  · rename_i hc
    cases (nT hA hc)
  conv => cbv
  split
  · rename_i hc
    cases (neT' hA (lenI hA hxl) rfl hc rfl)
  conv => cbv
  refine call_intro hA (d2) ?_
  conv => cbv
  split
  · rename_i hc
    cases (neT hA hc rfl)
  conv => cbv
  refine call_intro hA (d3) ?_
  conv => cbv
  split
  · rename_i hc
    cases (neT hA hc rfl)
  conv => cbv
  refine ⟨draw_intro hA (by kernel_rfl), ?_⟩
  split
  rotate_left
  · rename_i hc
    cases (eqF hA hc rfl)
  conv => cbv
  split
  rotate_left
  · rename_i hc
    cases (eqF hA hc rfl)
  conv => cbv
  split
  rotate_left
  · rename_i hc
    cases (eqF hA hc rfl)
  conv => cbv
  split
  rotate_left
  · rename_i hc
    cases (eqF hA hc rfl)
  conv => cbv
  refine call_intro hA (d4) ?_
  conv => cbv
  split
  rotate_left
  · rename_i hc
    cases (eqF hA hc rfl)
  conv => cbv
  refine idx_Opt hA hxs (by omega) (by omega) (fun m hm => ?_)
  obtain ⟨m1, m2, m3, m4⟩ := m
  conv => cbv
  refine idx_Opt hA hxs (by omega) (by omega) (fun z hz => ?_)
  obtain rfl := Option.some.inj (hm.symm.trans hz)
  conv => cbv
  refine call_intro hA (d5 ⟨m1, m2, m3, m4⟩) ?_
  conv => cbv
  rw [← hq]
  subst hA
  rfl
end Go.Abs
