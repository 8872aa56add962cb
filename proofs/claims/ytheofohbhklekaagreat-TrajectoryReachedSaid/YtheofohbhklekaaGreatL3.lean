/-
  The law's tables and flight (chapter 16); the examples that it begins with.
-/
import Derived.Test.YtheofohbhklekaaGreatF30
import Derived.Test.YtheofohbhklekaaGreatF27
import Derived.Test.YtheofohbhklekaaGreatR20
set_option linter.unusedVariables false
set_option linter.unusedSimpArgs false
namespace Go.Abs
open Go.RowKit Go.Proofs

def law16L : List Leg := [⟨0, 0, 50, [⟨0, 1440⟩]⟩]
def law16T : Tables := ⟨1, [⟨⟨#[115]⟩, [⟨#[118]⟩], [0], 4, 2⟩], [⟨⟨#[99]⟩, [⟨#[115]⟩], [0]⟩], [⟨0, 1, law16L⟩], [[4], [4]], [⟨6, 8, 1, 1, 60, [[], []]⟩]⟩
def law16F : Flight := ⟨5, 0, 0, ⟨#[102]⟩, [0], ⟨60, 63⟩, false⟩
def law16G : Flight := ⟨5, 0, 0, ⟨#[102]⟩, [0], ⟨60, 63⟩, true⟩
def pvI (n : Int) : PV := .int .i64 n
/-- The law's tables, as they come out of the law's own function. -/
def law16TP : PV := .agg [pvI 1, .list 5 [.agg [.str ⟨#[115]⟩, .list 1 [.str ⟨#[118]⟩], .list 1 [pvI 0], pvI 4, pvI 2]], .list 3 [.agg [.str ⟨#[99]⟩, .list 1 [.str ⟨#[115]⟩], .list 1 [pvI 0]]],
  .list 3 [.agg [pvI 0, pvI 1, .list 4 [.agg [pvI 0, pvI 0, pvI 50, .list 2 [.agg [pvI 0, pvI 1440]]]]]], .list 1 [.list 1 [pvI 4], .list 1 [pvI 4]],
  .list 6 [.agg [pvI 6, pvI 8, pvI 1, pvI 1, pvI 60, .list 1 [.list 0 [], .list 0 []]]]]

theorem law16_tables : CallsPV Tryz.prog 32 [] law16TP := by
  refine callsPV_by (clo := fun _ => false) (rows := false) env_ok Tryz.func32 rfl (enters_of Tryz.func32 (by kernel_rfl) rfl) (fun A q P Y hr hA hq => ?_)
  conv => cbv
  rw [← hq]
  rfl

theorem law16T_le : LeP law16TP (encTables law16T) := lePb_ok 12 _ _ (by decide)

theorem law16_flight : CallsPV Tryz.prog 33 [] (encFlight law16F) := by
  refine callsPV_by (clo := fun _ => false) (rows := false) env_ok Tryz.func33 rfl (enters_of Tryz.func33 (by kernel_rfl) rfl) (fun A q P Y hr hA hq => ?_)
  conv => cbv
  rw [← hq]
  rfl

theorem air16 : airOk law16T = true := by decide
theorem chk_ok {t : Tables} {f : Flight} (h1 : airOk t = true) (h2 : (!outB 0 4095 f.ID && !outB 0 7 f.Airline && !outB 0 (t.Kinds.length - 1) f.Class && nameB f.Call && !outB 1 4 f.Ways.length && !f.Ways.any (outB 0 (t.Ways.length - 1)) &&
    !(decide (f.Window.From < 0) || decide (f.Window.To ≤ f.Window.From) || decide (1440 < f.Window.To) || decide (16 < f.Window.To - f.Window.From)) &&
    !f.Ways.any (elsewhere t.Ways (head0 t f))) = true) (h3 : f.Ways.Nodup) : checkF t f = 0 := by
  have : flightB t f = true := by
    unfold flightB
    rw [h2, (onceB_iff _).2 h3]; rfl
  rw [checkF, h1, this]; rfl
theorem chk1 : checkF law16T law16F = 0 := chk_ok air16 (by decide) (by decide)
theorem chk2 : checkF law16T law16G = 0 := chk_ok air16 (by decide) (by decide)
theorem del1 : (delayF law16T law16F ⟨0, 0, 0, false⟩).2.2 = 0 := by rw [delayF, if_pos chk1]; decide
theorem del2 : (delayF law16T law16F ⟨10, 0, 0, false⟩).2.2 = 0 := by rw [delayF, if_pos chk1]; decide
theorem del3 : (delayF law16T law16F ⟨0, 0, 0, true⟩).2.2 = 150 := by rw [delayF, if_pos chk1]; decide
theorem del4 : (delayF law16T law16G ⟨0, 0, 0, true⟩).2.2 = 0 := by rw [delayF, if_pos chk2]; decide
theorem del5 : (delayF law16T law16G ⟨0, 0, 0, false⟩).2.2 = 0 := by rw [delayF, if_pos chk2]; decide
theorem pl1 : planE law16T law16F ⟨0, 0, 0, false⟩ = 0 := by rw [planE, if_pos del1]; rfl
theorem pl2 : planE law16T law16F ⟨10, 0, 0, false⟩ = 0 := by rw [planE, if_pos del2]; rfl
theorem pl3 : planE law16T law16F ⟨0, 0, 0, true⟩ = 150 := by rw [planE, if_neg (by rw [del3]; decide), del3]
theorem pl4 : planE law16T law16G ⟨0, 0, 0, true⟩ = 160 := by rw [planE, if_pos del4]; rfl
theorem pl5 : planE law16T law16G ⟨0, 0, 0, false⟩ = 0 := by rw [planE, if_pos del5]; rfl
theorem cE1 : countE law16T law16F ⟨0, 0, 0, false⟩ = 0 := by rw [countE, if_pos pl1, if_pos (by decide)]
theorem cN1 : countN law16T law16F ⟨0, 0, 0, false⟩ = 9 := by rw [countN, if_pos cE1]; decide
theorem bo2 : boundsB law16T law16F ⟨10, 0, 0, false⟩ = [⟨70, 72⟩, ⟨77, 81⟩] := by rw [boundsB, if_pos pl2]; decide
theorem cE2 : countE law16T law16F ⟨10, 0, 0, false⟩ = 0 := by rw [countE, if_pos pl2, if_pos (by decide)]
theorem al2 : allP law16T law16F ⟨10, 0, 0, false⟩ = [⟨0, [70, 77]⟩, ⟨0, [70, 78]⟩, ⟨0, [70, 79]⟩, ⟨0, [71, 78]⟩, ⟨0, [71, 79]⟩, ⟨0, [71, 80]⟩, ⟨0, [72, 79]⟩, ⟨0, [72, 80]⟩, ⟨0, [72, 81]⟩] := by
  rw [allP, if_pos cE2]; decide
theorem cE3 : countE law16T law16F ⟨0, 0, 0, true⟩ = 150 := by rw [countE, if_neg (by rw [pl3]; decide), pl3]
theorem cE4 : countE law16T law16G ⟨0, 0, 0, true⟩ = 160 := by rw [countE, if_neg (by rw [pl4]; decide), pl4]
theorem cN3 : countN law16T law16F ⟨0, 0, 0, true⟩ = 0 := by rw [countN, if_neg (by rw [cE3]; decide)]
theorem cN4 : countN law16T law16G ⟨0, 0, 0, true⟩ = 0 := by rw [countN, if_neg (by rw [cE4]; decide)]
theorem fl5 : fliesB law16T law16G ⟨0, 0, 0, false⟩ ⟨0, [60, 67]⟩ = true := (fliesB_ok pl5).2 ⟨by decide, by
  show fliesT 0 [⟨60, 62⟩, ⟨7, 9⟩] [60, 67]
  simp only [fliesT]
  decide⟩
theorem fl6 : fliesB law16T law16G ⟨0, 0, 0, false⟩ ⟨1, [60, 67]⟩ = false := by
  rw [Bool.eq_false_iff]
  intro h
  exact absurd ((fliesB_ok pl5).1 h).1 (by decide)

theorem ex_count (f : Flight) (o : Opt) {n e : Int} (hn : countN law16T f o = n) (he : countE law16T f o = e) : CallsPV Tryz.prog 15 [law16TP, encFlight f, encOpt o] (.tup [.int .i64 n, .int .i64 e]) :=
  hn ▸ he ▸ (tr_Count law16T f o).le (.cons law16T_le (.cons (.refl _) (.cons (.refl _) .nil))) (.refl _)
theorem ex_bounds (f : Flight) (o : Opt) {l : List Bound} {e : Int} (hn : boundsB law16T f o = l) (he : planE law16T f o = e) : CallsPV Tryz.prog 13 [law16TP, encFlight f, encOpt o] (.tup [.list 2 (encBounds l), .int .i64 e]) :=
  hn ▸ he ▸ (tr_Bounds law16T f o).le (.cons law16T_le (.cons (.refl _) (.cons (.refl _) .nil))) (.refl _)
theorem ex_all (f : Flight) (o : Opt) {l : List Path} {e : Int} (hn : allP law16T f o = l) (he : countE law16T f o = e) : CallsPV Tryz.prog 21 [law16TP, encFlight f, encOpt o] (.tup [.list 2 (encPaths l), .int .i64 e]) :=
  hn ▸ he ▸ (tr_All law16T f o).le (.cons law16T_le (.cons (.refl _) (.cons (.refl _) .nil))) (.refl _)
theorem ex_flies (f : Flight) (o : Opt) (p : Path) {b : Bool} {e : Int} (hn : fliesB law16T f o p = b) (he : planE law16T f o = e) : CallsPV Tryz.prog 18 [law16TP, encFlight f, encOpt o, encPath p] (.tup [.bool b, .int .i64 e]) :=
  hn ▸ he ▸ (tr_Flies law16T f o p).le (.cons law16T_le (.cons (.refl _) (.cons (.refl _) (.cons (.refl _) .nil)))) (.refl _)

set_option maxHeartbeats 4000000 in
theorem law16_sane : CallsPV Tryz.prog 11 [] (.bool true) := by
  refine callsPV_by (clo := fun _ => false) (rows := false) env_ok Tryz.func11 rfl (enters_of Tryz.func11 (by kernel_rfl) rfl) (fun A q P Y hr hA hq => ?_)
  have c1 := ex_count law16F ⟨0, 0, 0, false⟩ cN1 cE1
  have c2 := ex_bounds law16F ⟨10, 0, 0, false⟩ bo2 pl2
  have c3 := ex_all law16F ⟨10, 0, 0, false⟩ al2 cE2
  have c4 := ex_count law16F ⟨0, 0, 0, true⟩ cN3 cE3
  have c5 := ex_count law16G ⟨0, 0, 0, true⟩ cN4 cE4
  have c6 := ex_flies law16G ⟨0, 0, 0, false⟩ ⟨0, [60, 67]⟩ fl5 pl5
  have c7 := ex_flies law16G ⟨0, 0, 0, false⟩ ⟨1, [60, 67]⟩ fl6 pl5
  have d1 := ref12_Same [⟨70, 72⟩, ⟨77, 81⟩] [⟨70, 72⟩, ⟨77, 81⟩] rfl rfl
  have d2 := ref16_SamePath ⟨0, [70, 77]⟩ ⟨0, [70, 77]⟩
  have d3 := ref16_SamePath ⟨0, [72, 81]⟩ ⟨0, [72, 81]⟩
  rw [decide_eq_true rfl] at d1 d2 d3
  conv => cbv
  refine call_intro hA (law16_tables) ?_
  conv => cbv
  refine call_intro hA (law16_flight) ?_
  conv => cbv
  refine call_intro hA (c1) ?_
  conv => cbv
  refine call_intro hA (c2) ?_
  conv => cbv
  refine call_intro hA (c3) ?_
  conv => cbv
  refine call_intro hA (c4) ?_
  conv => cbv
  refine call_intro hA (c5) ?_
  conv => cbv
  refine call_intro hA (c6) ?_
  conv => cbv
  refine call_intro hA (c7) ?_
  conv => cbv
  split
  · rename_i hc
    cases (neT hA hc rfl)
  conv => cbv
  split
  · rename_i hc
    cases (neT hA hc rfl)
  conv => cbv
  split
  · rename_i hc
    cases (neT hA hc rfl)
  conv => cbv
  split
  · rename_i hc
    cases (neT hA hc rfl)
  conv => cbv
  split
  · rename_i hc
    cases (neT hA hc rfl)
  conv => cbv
  split
  · rename_i hc
    cases (neT hA hc rfl)
  conv => cbv
  split
  · rename_i hc
    cases (neT hA hc rfl)
  conv => cbv
  split
  · rename_i hc
    cases (neT' hA (lenI hA (n := 9) rfl) rfl hc rfl)
  conv => cbv
  split
  rotate_left
  · rename_i hc
    cases (eqF hA hc rfl)
  conv => cbv
  refine call_intro hA (d1) ?_
  conv => cbv
  refine idx_any hA (by decide) (by decide) (fun z hz => ?_)
  obtain rfl := Option.some.inj hz
  conv => cbv
  refine call_intro hA (d2) ?_
  conv => cbv
  refine idx_any hA (by decide) (by decide) (fun z hz => ?_)
  obtain rfl := Option.some.inj hz
  conv => cbv
  refine call_intro hA (d3) ?_
  conv => cbv
  rw [← hq]
  subst hA
  rfl
end Go.Abs
