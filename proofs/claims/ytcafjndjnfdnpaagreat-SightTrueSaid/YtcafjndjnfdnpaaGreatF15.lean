/-
  Functions: flights' small ones, cmp's, searches for options.
  Plain law: what is a measure of a flight.
  Functions: searches for options; ref15's Few and SameOptions.
-/
import Derived.Test.YtcafjndjnfdnpaaGreatF2
import Derived.Test.YtcafjndjnfdnpaaGreatS1
import Derived.Test.YtcafjndjnfdnpaaGreatF1
set_option linter.unusedVariables false
set_option linter.unusedSimpArgs false
namespace Go.Abs
open Go.RowKit Go.Proofs

def outB (lo hi n : Int) : Bool := decide (n < lo) || decide (hi < n)
theorem fl_within1 (lo hi n : Int) : CallsPV Tryz.prog 125 [.int .i64 n, .ptr [.int .i64 lo] 0, .ptr [.int .i64 hi] 0] (.bool (outB lo hi n)) := by
  refine callsPV_by (clo := fun _ => false) (rows := false) env_ok Tryz.func125 rfl (enters_of Tryz.func125 (by kernel_rfl) rfl) (fun A q P Y hr hA hq => ?_)
  conv => cbv
  split
  · rename_i h
    conv => cbv
    rw [← hq, outB, decide_eq_true (ltT hA h)]; rfl
  · rename_i h
    conv => cbv
    rw [← hq, outB, decide_eq_false (by have := ltF hA h; omega)]
    show PV.bool (A.iLt hi n) = _
    subst hA; rfl

theorem fl_within (lo hi : Int) (l : List Int) {xs : List PV} (hx : xs = encInts l) : CallsPV Tryz.prog 50 [.int .i64 lo, .int .i64 hi, .list 1 xs] (.bool (!l.any (outB lo hi))) := by
  refine callsPV_by (clo := fun _ => false) (rows := false) env_ok Tryz.func50 rfl (enters_of Tryz.func50 (by kernel_rfl) rfl) (fun A q P Y hr hA hq => ?_)
  have hc := containsFunc_Int (outB lo hi) l hx (fun x _ => fl_within1 lo hi x)
  generalize l.any (outB lo hi) = b at hc hq
  conv => cbv
  refine call_intro hA hc ?_
  conv => cbv
  rw [← hq]
  subst hA; rfl

theorem encFlight_eq (f : Flight) {ws : List PV} (h : ws = encInts f.Ways) : encFlight f = .agg [.int .i64 f.ID, .int .i64 f.Airline, .int .i64 f.Class, .str f.Call, .list 1 ws, .int .i64 f.Window.From, .int .i64 f.Window.To, .bool f.Cancel] := by rw [h]; rfl

theorem fl_measures (nv : Int) (ss cs ws ms ks : List PV) (f1 f2 f3 f6 f7 : Int) (f4 : ByteArray) (f5 : List PV) (f8 : Bool) :
    CallsPV Tryz.prog 199 [.agg [.int .i64 nv, .list 5 ss, .list 3 cs, .list 3 ws, .list 1 ms, .list 6 ks], .agg [.int .i64 f1, .int .i64 f2, .int .i64 f3, .str f4, .list 1 f5, .int .i64 f6, .int .i64 f7, .bool f8]]
      (.fn 258 [.ptr [.int .i64 nv, .list 5 ss, .list 3 cs, .list 3 ws, .list 1 ms, .list 6 ks] 0, .ptr [.int .i64 f1, .int .i64 f2, .int .i64 f3, .str f4, .list 1 f5, .int .i64 f6, .int .i64 f7, .bool f8] 0]) := by
  refine callsPV_by (clo := fun _ => false) (rows := false) env_ok Tryz.func199 rfl (enters_of Tryz.func199 (by kernel_rfl) rfl) (fun A q P Y hr hA hq => ?_)
  conv => cbv
  rw [← hq]

/-- The k-th measure of a flight with n ways. -/
def optAt (n k : Nat) : Opt := ⟨(10 * (k / (3 * n)) : Nat), ((k % (3 * n)) / 3 : Nat), (5 * (k % 3) : Nat), false⟩
def measO (L : Int) (n : Nat) (c : Bool) : List Opt := (List.range ((L / 10 + 1).toNat * (3 * n))).map (optAt n) ++ (if c then [⟨0, 0, 0, true⟩] else [])

theorem optAt_eq {n j w m : Nat} (hw : w < n) (hm : m < 3) : optAt n (j * (3 * n) + (3 * w + m)) = ⟨((10 * j : Nat) : Int), (w : Int), ((5 * m : Nat) : Int), false⟩ := by
  unfold optAt
  have hB : 0 < 3 * n := by omega
  have hr : 3 * w + m < 3 * n := by omega
  have e1 : (j * (3 * n) + (3 * w + m)) / (3 * n) = j := by rw [Nat.add_comm, Nat.add_mul_div_right _ _ hB, Nat.div_eq_of_lt hr, Nat.zero_add]
  have e2 : (j * (3 * n) + (3 * w + m)) % (3 * n) = 3 * w + m := by rw [Nat.add_comm, Nat.add_mul_mod_self_right, Nat.mod_eq_of_lt hr]
  have e3 : (j * (3 * n) + (3 * w + m)) % 3 = m := by
    rw [Nat.mul_left_comm]
    generalize j * n = X
    omega
  rw [e1, e2, e3, show (3 * w + m) / 3 = w by omega]

theorem measO_get {L : Int} {n j w m : Nat} {c : Bool} (hj : (10 * j : Nat) ≤ L) (hw : w < n) (hm : m < 3) : ((measO L n c).map fun o => [encOpt o])[j * (3 * n) + (3 * w + m)]? = some [.agg [.int .i64 ((10 * j : Nat) : Int), .int .i64 (w : Int), .int .i64 ((5 * m : Nat) : Int), .bool false]] := by
  have hJ : j < (L / 10 + 1).toNat := by omega
  have hlt : j * (3 * n) + (3 * w + m) < (L / 10 + 1).toNat * (3 * n) := by
    have h1 : (j + 1) * (3 * n) ≤ (L / 10 + 1).toNat * (3 * n) := Nat.mul_le_mul_right _ hJ
    rw [Nat.add_mul, Nat.one_mul] at h1
    omega
  unfold measO
  rw [List.map_append, List.getElem?_append_left (by simpa using hlt), List.getElem?_map, List.getElem?_map, List.getElem?_range hlt]
  simp only [Option.map_some, optAt_eq hw hm]
  rfl

theorem measO_len (L : Int) (n : Nat) (c : Bool) : (measO L n c).length = (L / 10 + 1).toNat * (3 * n) + (if c then 1 else 0) := by
  unfold measO
  rw [List.length_append, List.length_map, List.length_range]
  cases c <;> rfl
theorem measO_last {L : Int} {n : Nat} : ((measO L n true).map fun o => [encOpt o])[(L / 10 + 1).toNat * (3 * n)]? = some [.agg [.int .i64 0, .int .i64 0, .int .i64 0, .bool true]] := by
  unfold measO
  rw [List.map_append, List.getElem?_append_right (by simp)]
  simp [encOpt]

set_option maxHeartbeats 2000000 in
theorem fl_measures1 (K : List Kind) (f : Flight) (k : Kind) (h0 : 0 ≤ f.Class) (hk : K[f.Class.toNat]? = some k) (hL0 : 0 ≤ k.Longest) (hL1 : k.Longest ≤ 60) (hn : f.Ways.length ≤ 1000) (nv : Int) (ss cs ws ms ks wl : List PV) (hks : ks = encKinds K) (hwl : wl = encInts f.Ways) :
    SeqPV Tryz.prog 258 [.ptr [.int .i64 nv, .list 5 ss, .list 3 cs, .list 3 ws, .list 1 ms, .list 6 ks] 0, .ptr [.int .i64 f.ID, .int .i64 f.Airline, .int .i64 f.Class, .str f.Call, .list 1 wl, .int .i64 f.Window.From, .int .i64 f.Window.To, .bool f.Cancel] 0]
      ((measO k.Longest f.Ways.length f.Cancel).map fun o => [encOpt o]) := by
  refine seqPV_by (clo := fun _ => false) (rows := false) env_ok Tryz.func258 rfl (enters_of Tryz.func258 (by kernel_rfl) rfl) rfl (fun A P Y Y' y R hr hys hy hA hR => ?_)
  have hR' := fun q (h : q = Y.ys.length ∨ q = Y.ys.length + 1) => hR q (by rw [hys] at h; exact h)
  have hwll : wl.length = f.Ways.length := by rw [hwl]; simp [encInts]
  have hcl := (List.getElem?_eq_some_iff.1 hk).1
  obtain ⟨f1, f2, f3, f4, f5, ⟨f6, f7⟩, f8⟩ := f
  simp only at h0 hk hn hwl hwll hys hcl ⊢
  obtain ⟨n, hnn⟩ : ∃ n, n = f5.length := ⟨_, rfl⟩
  rw [← hnn] at hn hwll hys
  obtain ⟨L, hLL⟩ : ∃ L, L = k.Longest := ⟨_, rfl⟩
  rw [← hLL] at hL0 hL1 hys
  have hyl : Y.ys.length = (L / 10 + 1).toNat * (3 * n) + (if f8 then 1 else 0) := by rw [hys, List.length_map, measO_len]
  conv => cbv
  refine loop_set hA (fun (z : Int × Nat) s => { s.put (some 4) (.val (.int .i64 z.1)) with ax := ⟨s.ax.mp, z.2⟩ }) (fun z => ∃ j : Nat, z.1 = (10 * j : Nat) ∧ (10 * j : Nat) ≤ L + 10 ∧ z.2 = j * (3 * n)) (fun z => (L + 10 - z.1).toNat) (0, 0) ?_ ?_ ?_
  · conv => cbv
    exact wk_sl (by repeat (first | refine leL_same ?_ | refine leL_any ?_ | exact leL_nil))
  · exact ⟨0, rfl, by omega, by simp⟩
  rintro R2 ⟨d, kk⟩ ⟨j, hd, hj, hkk⟩ hR2
  simp only at hd hkk
  conv => cbv
  refine idx_Kind hA hks h0 (by omega) (fun k' v hk' hv => ?_)
  obtain rfl := Option.some.inj (hk.symm.trans hk')
  obtain ⟨k1, k2, k3, k4, k5, k6⟩ := k
  simp only at hLL
  subst hLL
  conv => cbv
  split
  · rename_i hc
    have hdL := leT hA hc
    have hds : A.iAdd d 10 = d + 10 := addI hA _ _
    conv => cbv
    have hjL : ((10 * j : Nat) : Int) ≤ L := by omega
    refine loop_set hA (fun (z : Int × Nat) s => { s.put (some 21) (.val (.int .i64 z.1)) with ax := ⟨s.ax.mp, z.2⟩ }) (fun z => ∃ w : Nat, z.1 = (w : Int) ∧ w ≤ n ∧ z.2 = j * (3 * n) + 3 * w) (fun z => (n - z.1).toNat) (0, kk) ?_ ?_ ?_
    · conv => cbv
      exact wk_sl (by repeat (first | refine leL_same ?_ | refine leL_any ?_ | exact leL_nil))
    · exact ⟨0, rfl, by omega, by show kk = _; omega⟩
    rintro R3 ⟨wi, kk⟩ ⟨w, hwi, hwn, hkk⟩ hR3
    simp only at hwi hkk
    conv => cbv
    split
    · rename_i hc
      have hw : w < n := by have := ltT' hA rfl (lenI hA hwll) hc; omega
      have hws : A.iAdd wi 1 = wi + 1 := addI hA _ _
      have hwr : A.inR (A.iAdd wi 1) := inR' hA hws (by unfold inI64; omega)
      conv => cbv
      refine loop_set hA (fun (z : Int × Nat) s => { s.put (some 6) (.val (.int .i64 z.1)) with ax := ⟨s.ax.mp, z.2⟩ }) (fun z => ∃ m : Nat, z.1 = ((5 * m : Nat) : Int) ∧ m ≤ 3 ∧ z.2 = j * (3 * n) + (3 * w + m)) (fun z => (15 - z.1).toNat) (0, kk) ?_ ?_ ?_
      · conv => cbv
        exact wk_sl (by repeat (first | refine leL_same ?_ | refine leL_any ?_ | exact leL_nil))
      · exact ⟨0, rfl, by omega, by show kk = _; omega⟩
      rintro R4 ⟨h, kk⟩ ⟨m, hh, hm, hkk⟩ hR4
      simp only at hh hkk
      conv => cbv
      split
      · rename_i hc
        have hm3 : m < 3 := by have := leT hA hc; omega
        have hhs : A.iAdd h 5 = h + 5 := addI hA _ _
        have hhr : A.inR (A.iAdd h 5) := inR' hA hhs (by unfold inI64; omega)
        have hyk : Y.ys[kk]? = some [.agg [.int .i64 d, .int .i64 wi, .int .i64 h, .bool false]] := by
          rw [hys, hkk, hd, hwi, hh]
          exact measO_get hjL hw hm3
        conv => cbv
        refine yld_intro' hA rfl hy hyk ?_ (fun n' hn' => ?_)
        · conv => cbv
          split
          · rename_i hc
            cases (nT hA hc)
          conv => cbv
          refine ⟨hhr, hR4 (A.iAdd h 5, kk + 1) _ ?_ ?_ ?_⟩
          · conv => cbv
            exact wk_sl (by repeat (first | refine leL_same ?_ | refine leL_any ?_ | exact leL_nil))
          · exact ⟨m + 1, by show A.iAdd h 5 = _; rw [hhs]; omega, by omega, by show kk + 1 = _; omega⟩
          · show (15 - A.iAdd h 5).toNat < (15 - h).toNat
            rw [hhs]; omega
        · conv => cbv
          split
          · conv => cbv
            exact hR' _ (.inr hn')
          · rename_i hc
            have hf : False := nF hA hc
            cases hf
      · rename_i hc
        have hm3 : m = 3 := by have := leF hA hc; omega
        conv => cbv
        refine ⟨hwr, hR3 (A.iAdd wi 1, kk) _ ?_ ?_ ?_⟩
        · conv => cbv
          exact wk_sl (by repeat (first | refine leL_same ?_ | refine leL_any ?_ | exact leL_nil))
        · exact ⟨w + 1, by show A.iAdd wi 1 = _; rw [hws]; omega, by omega, by show kk = _; omega⟩
        · show ((n : Int) - A.iAdd wi 1).toNat < ((n : Int) - wi).toNat
          rw [hws]; omega
    · rename_i hc
      have hw : w = n := by have := ltF' hA rfl (lenI hA hwll) hc; omega
      conv => cbv
      refine ⟨inR' hA hds (by unfold inI64; omega), hR2 (A.iAdd d 10, kk) _ ?_ ?_ ?_⟩
      · conv => cbv
        exact wk_sl (by repeat (first | refine leL_same ?_ | refine leL_any ?_ | exact leL_nil))
      · refine ⟨j + 1, by show A.iAdd d 10 = _; rw [hds]; omega, by omega, ?_⟩
        show kk = _
        rw [hkk, hw, Nat.add_mul, Nat.one_mul]
      · show (L + 10 - A.iAdd d 10).toNat < (L + 10 - d).toNat
        rw [hds]; omega
  · rename_i hc
    have hdL := leF hA hc
    have hj2 : j = (L / 10 + 1).toNat := by omega
    rw [hj2] at hkk
    conv => cbv
    cases f8 with
    | false =>
      conv => cbv
      exact hR' _ (.inl (by show kk = _; rw [hyl, hkk]; simp))
    | true =>
      have hyk : Y.ys[kk]? = some [.agg [.int .i64 0, .int .i64 0, .int .i64 0, .bool true]] := by
        rw [hys, hkk]
        exact measO_last
      conv => cbv
      refine yld_intro' hA rfl hy hyk ?_ (fun n' hn' => ?_)
      · conv => cbv
        exact hR' _ (.inl (by show kk + 1 = _; rw [hyl, hkk]; simp))
      · conv => cbv
        exact hR' _ (.inr hn')
end Go.Abs

namespace Go.Abs

/-- What is a measure, as the reference asks it. -/
def isO (L : Int) (n : Nat) (c : Bool) (o : Opt) : Prop :=
  (o.Cancel = true ∧ c = true ∧ o = ⟨0, 0, 0, true⟩) ∨ (o.Cancel = false ∧ 0 ≤ o.Delay ∧ o.Delay.tmod 10 = 0 ∧ o.Delay ≤ L ∧ 0 ≤ o.Way ∧ o.Way < n ∧ 0 ≤ o.Hold ∧ o.Hold.tmod 5 = 0 ∧ o.Hold ≤ 10)

theorem measO_iff {L : Int} {n : Nat} {c : Bool} (o : Opt) : o ∈ measO L n c ↔ isO L n c o := by
  unfold measO
  rw [List.mem_append]
  constructor
  · rintro (h | h)
    · obtain ⟨k, hk, rfl⟩ := List.mem_map.1 h
      have hk' := List.mem_range.1 hk
      have hn : 0 < n := by
        rcases Nat.eq_zero_or_pos n with h0 | h0
        · subst h0; simp at hk'
        · exact h0
      have hB : 0 < 3 * n := by omega
      have h1 : k / (3 * n) < (L / 10 + 1).toNat := (Nat.div_lt_iff_lt_mul hB).2 hk'
      have h2 : k % (3 * n) < 3 * n := Nat.mod_lt _ hB
      have h3 : k % 3 < 3 := Nat.mod_lt _ (by omega)
      refine .inr ⟨rfl, ?_⟩
      simp only [optAt]
      refine ⟨by omega, ?_, by omega, by omega, by omega, by omega, ?_, by omega⟩
      · rw [Int.tmod_eq_emod_of_nonneg (by omega)]; omega
      · rw [Int.tmod_eq_emod_of_nonneg (by omega)]; omega
    · cases c with
      | false => simp at h
      | true => simp at h; subst h; exact .inl ⟨rfl, rfl, rfl⟩
  · rintro (⟨_, rfl, rfl⟩ | ⟨h0, h1, h2, h3, h4, h5, h6, h7, h8⟩)
    · exact .inr (by simp)
    · obtain ⟨o1, o2, o3, o4⟩ := o
      simp only at h0 h1 h2 h3 h4 h5 h6 h7 h8
      subst h0
      rw [Int.tmod_eq_emod_of_nonneg h1] at h2
      rw [Int.tmod_eq_emod_of_nonneg h6] at h7
      refine .inl (List.mem_map.2 ⟨(o1.toNat / 10) * (3 * n) + (3 * o2.toNat + o3.toNat / 5), List.mem_range.2 ?_, ?_⟩)
      · have h9 : (o1.toNat / 10 + 1) * (3 * n) ≤ (L / 10 + 1).toNat * (3 * n) := Nat.mul_le_mul_right _ (by omega)
        rw [Nat.add_mul, Nat.one_mul] at h9
        omega
      · rw [optAt_eq (by omega) (by omega)]
        simp only [Opt.mk.injEq, and_true]
        omega
end Go.Abs

namespace Go.Abs
open Go.RowKit Go.Proofs

theorem index_Opt (v : Opt) (l : List Opt) {xs : List PV} (hx : xs = encOpts l) : CallsPV Tryz.prog 215 [.list 4 xs, encOpt v] (.int .i64 (findI (fun x => decide (v = x)) l)) := by
  refine callsPV_by (clo := fun _ => false) (rows := false) env_ok Tryz.func215 rfl (enters_of Tryz.func215 (by kernel_rfl) rfl) (fun A q P Y hr hA hq => ?_)
  have hlen := (hr.mem (p := .list 4 xs) (by simp)).len
  have hll : xs.length = l.length := by rw [hx]; simp [encOpts]
  obtain ⟨v1, v2, v3, v4⟩ := v
  conv => cbv
  refine loop_set hA (fun (i : Int) s => s.put (some 8) (.val (.int .i64 i))) (fun i => 0 ≤ i ∧ i ≤ (l.length : Int) ∧ (fun i => ∀ x ∈ l.take i.toNat, decide ((⟨v1, v2, v3, v4⟩ : Opt) = x) = false) i) (fun i => ((l.length : Int) - i).toNat) 0 ?_ ?_ ?_
  · conv => cbv
    exact wk_sl (by repeat (first | refine leL_same ?_ | refine leL_any ?_ | exact leL_nil))
  · exact ⟨Int.le_refl _, by omega, by simp⟩
  rintro R i ⟨hi0, hi1, hi2⟩ hRi
  conv => cbv
  split
  ·   rename_i hc
      have hi : i < (l.length : Int) := ltT' hA rfl (lenI hA hll) hc
      have his : A.iAdd i 1 = i + 1 := addI hA _ _
      have hir : A.inR (A.iAdd i 1) := inR' hA his (by unfold inI64; omega)
      have him : ((l.length : Int) - A.iAdd i 1).toNat < ((l.length : Int) - i).toNat := by rw [his]; omega
      have hin : (fun i => ∀ x ∈ l.take i.toNat, decide ((⟨v1, v2, v3, v4⟩ : Opt) = x) = false) (i + 1) → 0 ≤ A.iAdd i 1 ∧ A.iAdd i 1 ≤ (l.length : Int) ∧ (fun i => ∀ x ∈ l.take i.toNat, decide ((⟨v1, v2, v3, v4⟩ : Opt) = x) = false) (A.iAdd i 1) := fun h => by rw [his]; exact ⟨by omega, by omega, h⟩
      simp only at hin
      conv => cbv
      refine ⟨draw_intro hA (by kernel_rfl), ?_⟩
      refine idx_Opt hA hx hi0 hi (fun x hx0 => ?_)
      have ht := take_snoc' hi0 hx0
      obtain ⟨x1, x2, x3, x4⟩ := x
      conv => cbv
      split
      · rename_i h
        have h' : decide ((⟨v1, v2, v3, v4⟩ : Opt) = ⟨x1, x2, x3, x4⟩) = true := by subst hA; simpa [stdOps] using h
        conv => cbv
        rw [← hq, findI_hit hi0 hx0 h' hi2]
      · rename_i h
        have h' : decide ((⟨v1, v2, v3, v4⟩ : Opt) = ⟨x1, x2, x3, x4⟩) = false := by subst hA; simpa [stdOps] using h
        conv => cbv
        exact ⟨hir, hRi (A.iAdd i 1) _ (by (conv => cbv); exact wk_sl (by repeat (first | refine leL_same ?_ | refine leL_any ?_ | exact leL_nil))) (hin (mem_snoc ht hi2 h')) him⟩
  rename_i hc
  have hi : i = (l.length : Int) := by have := ltF' hA rfl (lenI hA hll) hc; omega
  conv => cbv
  rw [← hq, findI_miss (take_all hi hi2)]

theorem contains_Opt (v : Opt) (l : List Opt) {xs : List PV} (hx : xs = encOpts l) : CallsPV Tryz.prog 157 [.list 4 xs, encOpt v] (.bool (decide (v ∈ l))) := by
  refine callsPV_by (clo := fun _ => false) (rows := false) env_ok Tryz.func157 rfl (enters_of Tryz.func157 (by kernel_rfl) rfl) (fun A q P Y hr hA hq => ?_)
  have hi := index_Opt v l hx
  have ha : l.any (fun x => decide (v = x)) = decide (v ∈ l) := by
    rw [Bool.eq_iff_iff]; simp
  rw [← ha, ← findI_any] at hq
  generalize findI (fun x => decide (v = x)) l = r at hi hq
  obtain ⟨v1, v2, v3, v4⟩ := v
  conv => cbv
  refine call_intro hA hi ?_
  conv => cbv
  rw [← hq]
  subst hA
  rfl

def fewF (f : Flight) : Bool := decide (f.Ways.length ≤ 8) && decide (f.Call.size ≤ 100)
theorem ref15_Few (f : Flight) : CallsPV Tryz.prog 13 [encFlight f] (.bool (fewF f)) := by
  refine callsPV_by (clo := fun _ => false) (rows := false) env_ok Tryz.func13 rfl (enters_of Tryz.func13 (by kernel_rfl) rfl) (fun A q P Y hr hA hq => ?_)
  have hF : fewF f = (decide (f.Ways.length ≤ 8) && decide (f.Call.size ≤ 100)) := rfl
  obtain ⟨f1, f2, f3, f4, f5, ⟨f6, f7⟩, f8⟩ := f
  obtain ⟨fl, hfl⟩ : ∃ fl, fl = encInts f5 := ⟨_, rfl⟩
  have hfl' : fl.length = f5.length := by rw [hfl]; simp [encInts]
  rw [encFlight_eq _ hfl]
  simp only at hF ⊢
  rw [hF] at hq
  have hs : A.sSize f4 = (f4.size : Int) := by subst hA; rfl
  conv => cbv
  split
  · rename_i h
    have h' := leT' hA (lenI hA hfl') rfl h
    conv => cbv
    rw [← hq, decide_eq_true (by omega)]
    have e : A.iLe (A.sSize f4) 100 = decide (f4.size ≤ 100) := by
      rw [hs]; subst hA; simp [stdOps]; omega
    show PV.bool (A.iLe (A.sSize f4) 100) = _
    rw [e]; rfl
  · rename_i h
    have h' := leF' hA (lenI hA hfl') rfl h
    conv => cbv
    rw [← hq, decide_eq_false (by omega)]; rfl
end Go.Abs
