/-
  Functions: flights' small ones, cmp's, searches for options.
-/
import Derived.Test.YtbljnbpddboohaaGreatF2
import Derived.Test.YtbljnbpddboohaaGreatS2
import Derived.Test.YtbljnbpddboohaaGreatH1
set_option linter.unusedVariables false
set_option linter.unusedSimpArgs false
namespace Go.Abs
open Go.RowKit Go.Proofs

def outB (lo hi n : Int) : Bool := decide (n < lo) || decide (hi < n)
theorem fl_within1 (lo hi n : Int) : CallsPV Tryz.prog 55 [.int .i64 n, .ptr [.int .i64 lo] 0, .ptr [.int .i64 hi] 0] (.bool (outB lo hi n)) := by
  refine callsPV_by (clo := fun _ => false) (rows := false) env_ok Tryz.func55 rfl (enters_of Tryz.func55 (by kernel_rfl) rfl) (fun A q P Y hr hA hq => ?_)
  conv => cbv
  split
  · rename_i h
    conv => cbv
    rw [← hq, outB, decide_eq_true (ltT hA h)]; rfl
  · rename_i h
    conv => cbv
    rw [← hq, outB, decide_eq_false (by have := ltF hA h; omega)]
    show PV.bool (A.iLt hi n) = _
    subst hA; rfl

theorem fl_within (lo hi : Int) (l : List Int) {xs : List PV} (hx : xs = encInts l) : CallsPV Tryz.prog 22 [.int .i64 lo, .int .i64 hi, .list 1 xs] (.bool (!l.any (outB lo hi))) := by
  refine callsPV_by (clo := fun _ => false) (rows := false) env_ok Tryz.func22 rfl (enters_of Tryz.func22 (by kernel_rfl) rfl) (fun A q P Y hr hA hq => ?_)
  have hc := containsFunc_Int (outB lo hi) l hx (fun x _ => fl_within1 lo hi x)
  generalize l.any (outB lo hi) = b at hc hq
  conv => cbv
  refine call_intro hA hc ?_
  conv => cbv
  rw [← hq]
  subst hA; rfl

theorem cmp_isNaN (n : Int) : CallsPV Tryz.prog 70 [.int .i64 n] (.bool false) := by
  refine callsPV_by (clo := fun _ => false) (rows := false) env_ok Tryz.func70 rfl (enters_of Tryz.func70 (by kernel_rfl) rfl) (fun A q P Y hr hA hq => ?_)
  conv => cbv
  rw [← hq]
  subst hA; simp [stdOps]

def cmpI (a b : Int) : Int := if a < b then -1 else if b < a then 1 else 0
theorem cmp_Compare (a b : Int) : CallsPV Tryz.prog 35 [.int .i64 a, .int .i64 b] (.int .i64 (cmpI a b)) := by
  refine callsPV_by (clo := fun _ => false) (rows := false) env_ok Tryz.func35 rfl (enters_of Tryz.func35 (by kernel_rfl) rfl) (fun A q P Y hr hA hq => ?_)
  have hC : cmpI a b = if a < b then -1 else if b < a then 1 else 0 := rfl
  rw [hC] at hq
  conv => cbv
  refine call_intro hA (cmp_isNaN a) ?_
  conv => cbv
  refine call_intro hA (cmp_isNaN b) ?_
  conv => cbv
  split
  · rename_i h
    conv => cbv
    rw [← hq, if_pos (ltT hA h)]
  rename_i h1
  conv => cbv
  split
  · rename_i h
    conv => cbv
    rw [← hq, if_neg (by have := ltF hA h1; omega), if_pos (ltT hA h)]
  rename_i h2
  conv => cbv
  rw [← hq, if_neg (by have := ltF hA h1; omega), if_neg (by have := ltF hA h2; omega)]

/-- The first that is not nought. -/
def orI : List Int → Int
  | [] => 0
  | x :: r => if x ≠ 0 then x else orI r
theorem orI_append : ∀ (a b : List Int), (∀ x ∈ a, x = 0) → orI (a ++ b) = orI b
  | [], b, _ => rfl
  | x :: r, b, h => by
    rw [List.cons_append, orI, if_neg (by simp [h x (by simp)])]
    exact orI_append r b fun y hy => h y (by simp [hy])
theorem cmp_Or (l : List Int) {xs : List PV} (hx : xs = encInts l) : CallsPV Tryz.prog 34 [.list 1 xs] (.int .i64 (orI l)) := by
  refine callsPV_by (clo := fun _ => false) (rows := false) env_ok Tryz.func34 rfl (enters_of Tryz.func34 (by kernel_rfl) rfl) (fun A q P Y hr hA hq => ?_)
  have hll : xs.length = l.length := by rw [hx]; simp [encInts]
  have hlen : l.length ≤ 9223372036854775807 := by have := (hr.mem (p := .list 1 xs) (by simp)).len; omega
  conv => cbv
  refine loop_set hA (fun (i : Int) s => s.put (some 8) (.val (.int .i64 i))) (fun i => 0 ≤ i ∧ i ≤ (l.length : Int) ∧ (fun i => ∀ x ∈ l.take i.toNat, x = 0) i) (fun i => ((l.length : Int) - i).toNat) 0 ?_ ?_ ?_
  · conv => cbv
    exact wk_sl (by repeat (first | refine leL_same ?_ | refine leL_any ?_ | exact leL_nil))
  · exact ⟨Int.le_refl _, by omega, by simp⟩
  rintro R i ⟨hi0, hi1, hi2⟩ hRi
  conv => cbv
  split
  ·   rename_i hc
      have hi : i < (l.length : Int) := ltT' hA rfl (lenI hA hll) hc
      have his : A.iAdd i 1 = i + 1 := addI hA _ _
      have hir : A.inR (A.iAdd i 1) := inR' hA his (by unfold inI64; omega)
      have him : ((l.length : Int) - A.iAdd i 1).toNat < ((l.length : Int) - i).toNat := by rw [his]; omega
      have hin : (fun i => ∀ x ∈ l.take i.toNat, x = 0) (i + 1) → 0 ≤ A.iAdd i 1 ∧ A.iAdd i 1 ≤ (l.length : Int) ∧ (fun i => ∀ x ∈ l.take i.toNat, x = 0) (A.iAdd i 1) := fun h => by rw [his]; exact ⟨by omega, by omega, h⟩
      simp only at hin
      conv => cbv
      refine idx_Int hA hx hi0 hi (fun x hx0 => ?_)
      have ht := take_snoc' hi0 hx0
      have hn : i.toNat < l.length := by omega
      have e : orI l = orI (x :: l.drop (i.toNat + 1)) := by
        have h1 := List.getElem?_eq_some_iff.1 hx0
        rw [← h1.2, List.getElem_cons_drop h1.1]
        conv => lhs; rw [← List.take_append_drop i.toNat l]
        exact orI_append _ _ hi2
      conv => cbv
      split
      · rename_i h
        conv => cbv
        rw [← hq, e, orI, if_pos (neT hA h)]
      rename_i h
      conv => cbv
      exact ⟨hir, hRi (A.iAdd i 1) _ (by (conv => cbv); exact wk_sl (by repeat (first | refine leL_same ?_ | refine leL_any ?_ | exact leL_nil))) (hin (mem_snoc ht hi2 (neF hA h))) him⟩
  rename_i hc
  have hi : i = (l.length : Int) := by have := ltF' hA rfl (lenI hA hll) hc; omega
  conv => cbv
  have h0 : orI l = 0 := by
    have := orI_append l [] (take_all hi hi2)
    rw [List.append_nil] at this; exact this
  rw [← hq, h0]

def cmpOpt (a b : Opt) : Int :=
  if a.Cancel = b.Cancel then orI [cmpI a.Delay b.Delay, cmpI a.Way b.Way, cmpI a.Hold b.Hold] else if a.Cancel then 1 else -1
theorem fl_Compare (a b : Opt) : CallsPV Tryz.prog 17 [encOpt a, encOpt b] (.int .i64 (cmpOpt a b)) := by
  refine callsPV_by (clo := fun _ => false) (rows := false) env_ok Tryz.func17 rfl (enters_of Tryz.func17 (by kernel_rfl) rfl) (fun A q P Y hr hA hq => ?_)
  obtain ⟨a1, a2, a3, a4⟩ := a
  obtain ⟨b1, b2, b3, b4⟩ := b
  have hC : cmpOpt ⟨a1, a2, a3, a4⟩ ⟨b1, b2, b3, b4⟩ = if a4 = b4 then orI [cmpI a1 b1, cmpI a2 b2, cmpI a3 b3] else if a4 then 1 else -1 := rfl
  rw [hC] at hq
  have c1 := cmp_Compare a1 b1
  have c2 := cmp_Compare a2 b2
  have c3 := cmp_Compare a3 b3
  generalize cmpI a1 b1 = n1 at c1 hq
  generalize cmpI a2 b2 = n2 at c2 hq
  generalize cmpI a3 b3 = n3 at c3 hq
  have c4 := cmp_Or [n1, n2, n3] rfl
  generalize orI [n1, n2, n3] = n4 at c4 hq
  conv => cbv
  split
  · rename_i h
    have h' := bneT hA h
    rw [if_neg h'] at hq
    cases a4 <;> (conv => cbv) <;> exact hq
  · rename_i h
    have h' := bneF hA h
    rw [if_pos h'] at hq
    conv => cbv
    refine ⟨draw_intro hA (by kernel_rfl), ?_⟩
    refine call_intro hA c1 ?_
    conv => cbv
    refine call_intro hA c2 ?_
    conv => cbv
    refine call_intro hA c3 ?_
    conv => cbv
    refine call_intro hA c4 ?_
    conv => cbv
    exact hq

theorem fl_Decided (f : Flight) (hf : inI64 (f.Window.From - 30) ∨ f.Window.From < 30) : CallsPV Tryz.prog 10 [encFlight f] (.int .i64 (if f.Window.From < 30 then 0 else f.Window.From - 30)) := by
  refine callsPV_by (clo := fun _ => false) (rows := false) env_ok Tryz.func10 rfl (enters_of Tryz.func10 (by kernel_rfl) rfl) (fun A q P Y hr hA hq => ?_)
  obtain ⟨f1, f2, f3, f4, f5, ⟨f6, f7⟩, f8⟩ := f
  obtain ⟨ws, hws⟩ : ∃ ws, ws = encInts f5 := ⟨_, rfl⟩
  rw [show encFlight ⟨f1, f2, f3, f4, f5, ⟨f6, f7⟩, f8⟩ = .agg [.int .i64 f1, .int .i64 f2, .int .i64 f3, .str f4, .list 1 ws, .int .i64 f6, .int .i64 f7, .bool f8] by rw [hws]; rfl]
  simp only at hf hq
  conv => cbv
  split
  · rename_i h
    conv => cbv
    rw [← hq, if_pos (ltT hA h)]
  · rename_i h
    have h' := ltF hA h
    conv => cbv
    refine ⟨inR' hA (subI hA f6 30) (by rcases hf with hf | hf; exact hf; omega), ?_⟩
    rw [← hq, if_neg (by omega)]
    show PV.int .i64 (A.iSub f6 30) = _
    rw [subI hA]

theorem encFlight_eq (f : Flight) {ws : List PV} (h : ws = encInts f.Ways) : encFlight f = .agg [.int .i64 f.ID, .int .i64 f.Airline, .int .i64 f.Class, .str f.Call, .list 1 ws, .int .i64 f.Window.From, .int .i64 f.Window.To, .bool f.Cancel] := by rw [h]; rfl

theorem fl_measures (nv : Int) (ss cs ws ms ks : List PV) (f1 f2 f3 f6 f7 : Int) (f4 : ByteArray) (f5 : List PV) (f8 : Bool) :
    CallsPV Tryz.prog 31 [.agg [.int .i64 nv, .list 5 ss, .list 3 cs, .list 3 ws, .list 1 ms, .list 6 ks], .agg [.int .i64 f1, .int .i64 f2, .int .i64 f3, .str f4, .list 1 f5, .int .i64 f6, .int .i64 f7, .bool f8]]
      (.fn 68 [.ptr [.int .i64 nv, .list 5 ss, .list 3 cs, .list 3 ws, .list 1 ms, .list 6 ks] 0, .ptr [.int .i64 f1, .int .i64 f2, .int .i64 f3, .str f4, .list 1 f5, .int .i64 f6, .int .i64 f7, .bool f8] 0]) := by
  refine callsPV_by (clo := fun _ => false) (rows := false) env_ok Tryz.func31 rfl (enters_of Tryz.func31 (by kernel_rfl) rfl) (fun A q P Y hr hA hq => ?_)
  conv => cbv
  rw [← hq]

/-- The k-th measure of a flight with n ways. -/
def optAt (n k : Nat) : Opt := ⟨(10 * (k / (3 * n)) : Nat), ((k % (3 * n)) / 3 : Nat), (5 * (k % 3) : Nat), false⟩
def measO (L : Int) (n : Nat) (c : Bool) : List Opt := (List.range ((L / 10 + 1).toNat * (3 * n))).map (optAt n) ++ (if c then [⟨0, 0, 0, true⟩] else [])

theorem optAt_eq {n j w m : Nat} (hw : w < n) (hm : m < 3) : optAt n (j * (3 * n) + (3 * w + m)) = ⟨((10 * j : Nat) : Int), (w : Int), ((5 * m : Nat) : Int), false⟩ := by
  unfold optAt
  have hB : 0 < 3 * n := by omega
  have hr : 3 * w + m < 3 * n := by omega
  have e1 : (j * (3 * n) + (3 * w + m)) / (3 * n) = j := by rw [Nat.add_comm, Nat.add_mul_div_right _ _ hB, Nat.div_eq_of_lt hr, Nat.zero_add]
  have e2 : (j * (3 * n) + (3 * w + m)) % (3 * n) = 3 * w + m := by rw [Nat.add_comm, Nat.add_mul_mod_self_right, Nat.mod_eq_of_lt hr]
  have e3 : (j * (3 * n) + (3 * w + m)) % 3 = m := by
    rw [Nat.mul_left_comm]
    generalize j * n = X
    omega
  rw [e1, e2, e3, show (3 * w + m) / 3 = w by omega]

theorem measO_get {L : Int} {n j w m : Nat} {c : Bool} (hj : (10 * j : Nat) ≤ L) (hw : w < n) (hm : m < 3) : ((measO L n c).map fun o => [encOpt o])[j * (3 * n) + (3 * w + m)]? = some [.agg [.int .i64 ((10 * j : Nat) : Int), .int .i64 (w : Int), .int .i64 ((5 * m : Nat) : Int), .bool false]] := by
  have hJ : j < (L / 10 + 1).toNat := by omega
  have hlt : j * (3 * n) + (3 * w + m) < (L / 10 + 1).toNat * (3 * n) := by
    have h1 : (j + 1) * (3 * n) ≤ (L / 10 + 1).toNat * (3 * n) := Nat.mul_le_mul_right _ hJ
    rw [Nat.add_mul, Nat.one_mul] at h1
    omega
  unfold measO
  rw [List.map_append, List.getElem?_append_left (by simpa using hlt), List.getElem?_map, List.getElem?_map, List.getElem?_range hlt]
  simp only [Option.map_some, optAt_eq hw hm]
  rfl

theorem measO_len (L : Int) (n : Nat) (c : Bool) : (measO L n c).length = (L / 10 + 1).toNat * (3 * n) + (if c then 1 else 0) := by
  unfold measO
  rw [List.length_append, List.length_map, List.length_range]
  cases c <;> rfl
theorem measO_last {L : Int} {n : Nat} : ((measO L n true).map fun o => [encOpt o])[(L / 10 + 1).toNat * (3 * n)]? = some [.agg [.int .i64 0, .int .i64 0, .int .i64 0, .bool true]] := by
  unfold measO
  rw [List.map_append, List.getElem?_append_right (by simp)]
  simp [encOpt]

set_option maxHeartbeats 2000000 in
theorem fl_measures1 (K : List Kind) (f : Flight) (k : Kind) (h0 : 0 ≤ f.Class) (hk : K[f.Class.toNat]? = some k) (hL0 : 0 ≤ k.Longest) (hL1 : k.Longest ≤ 60) (hn : f.Ways.length ≤ 1000) (nv : Int) (ss cs ws ms ks wl : List PV) (hks : ks = encKinds K) (hwl : wl = encInts f.Ways) :
    SeqPV Tryz.prog 68 [.ptr [.int .i64 nv, .list 5 ss, .list 3 cs, .list 3 ws, .list 1 ms, .list 6 ks] 0, .ptr [.int .i64 f.ID, .int .i64 f.Airline, .int .i64 f.Class, .str f.Call, .list 1 wl, .int .i64 f.Window.From, .int .i64 f.Window.To, .bool f.Cancel] 0]
      ((measO k.Longest f.Ways.length f.Cancel).map fun o => [encOpt o]) := by
  refine seqPV_by (clo := fun _ => false) (rows := false) env_ok Tryz.func68 rfl (enters_of Tryz.func68 (by kernel_rfl) rfl) rfl (fun A P Y Y' y R hr hys hy hA hR => ?_)
  have hR' := fun q (h : q = Y.ys.length ∨ q = Y.ys.length + 1) => hR q (by rw [hys] at h; exact h)
  have hwll : wl.length = f.Ways.length := by rw [hwl]; simp [encInts]
  have hcl := (List.getElem?_eq_some_iff.1 hk).1
  obtain ⟨f1, f2, f3, f4, f5, ⟨f6, f7⟩, f8⟩ := f
  simp only at h0 hk hn hwl hwll hys hcl ⊢
  obtain ⟨n, hnn⟩ : ∃ n, n = f5.length := ⟨_, rfl⟩
  rw [← hnn] at hn hwll hys
  obtain ⟨L, hLL⟩ : ∃ L, L = k.Longest := ⟨_, rfl⟩
  rw [← hLL] at hL0 hL1 hys
  have hyl : Y.ys.length = (L / 10 + 1).toNat * (3 * n) + (if f8 then 1 else 0) := by rw [hys, List.length_map, measO_len]
  conv => cbv
  refine loop_set hA (fun (z : Int × Nat) s => { s.put (some 4) (.val (.int .i64 z.1)) with ax := ⟨s.ax.mp, z.2⟩ }) (fun z => ∃ j : Nat, z.1 = (10 * j : Nat) ∧ (10 * j : Nat) ≤ L + 10 ∧ z.2 = j * (3 * n)) (fun z => (L + 10 - z.1).toNat) (0, 0) ?_ ?_ ?_
  · conv => cbv
    exact wk_sl (by repeat (first | refine leL_same ?_ | refine leL_any ?_ | exact leL_nil))
  · exact ⟨0, rfl, by omega, by simp⟩
  rintro R2 ⟨d, kk⟩ ⟨j, hd, hj, hkk⟩ hR2
  simp only at hd hkk
  conv => cbv
  refine idx_Kind hA hks h0 (by omega) (fun k' v hk' hv => ?_)
  obtain rfl := Option.some.inj (hk.symm.trans hk')
  obtain ⟨k1, k2, k3, k4, k5, k6⟩ := k
  simp only at hLL
  subst hLL
  conv => cbv
  split
  · rename_i hc
    have hdL := leT hA hc
    have hds : A.iAdd d 10 = d + 10 := addI hA _ _
    conv => cbv
    have hjL : ((10 * j : Nat) : Int) ≤ L := by omega
    refine loop_set hA (fun (z : Int × Nat) s => { s.put (some 21) (.val (.int .i64 z.1)) with ax := ⟨s.ax.mp, z.2⟩ }) (fun z => ∃ w : Nat, z.1 = (w : Int) ∧ w ≤ n ∧ z.2 = j * (3 * n) + 3 * w) (fun z => (n - z.1).toNat) (0, kk) ?_ ?_ ?_
    · conv => cbv
      exact wk_sl (by repeat (first | refine leL_same ?_ | refine leL_any ?_ | exact leL_nil))
    · exact ⟨0, rfl, by omega, by show kk = _; omega⟩
    rintro R3 ⟨wi, kk⟩ ⟨w, hwi, hwn, hkk⟩ hR3
    simp only at hwi hkk
    conv => cbv
    split
    · rename_i hc
      have hw : w < n := by have := ltT' hA rfl (lenI hA hwll) hc; omega
      have hws : A.iAdd wi 1 = wi + 1 := addI hA _ _
      have hwr : A.inR (A.iAdd wi 1) := inR' hA hws (by unfold inI64; omega)
      conv => cbv
      refine loop_set hA (fun (z : Int × Nat) s => { s.put (some 6) (.val (.int .i64 z.1)) with ax := ⟨s.ax.mp, z.2⟩ }) (fun z => ∃ m : Nat, z.1 = ((5 * m : Nat) : Int) ∧ m ≤ 3 ∧ z.2 = j * (3 * n) + (3 * w + m)) (fun z => (15 - z.1).toNat) (0, kk) ?_ ?_ ?_
      · conv => cbv
        exact wk_sl (by repeat (first | refine leL_same ?_ | refine leL_any ?_ | exact leL_nil))
      · exact ⟨0, rfl, by omega, by show kk = _; omega⟩
      rintro R4 ⟨h, kk⟩ ⟨m, hh, hm, hkk⟩ hR4
      simp only at hh hkk
      conv => cbv
      split
      · rename_i hc
        have hm3 : m < 3 := by have := leT hA hc; omega
        have hhs : A.iAdd h 5 = h + 5 := addI hA _ _
        have hhr : A.inR (A.iAdd h 5) := inR' hA hhs (by unfold inI64; omega)
        have hyk : Y.ys[kk]? = some [.agg [.int .i64 d, .int .i64 wi, .int .i64 h, .bool false]] := by
          rw [hys, hkk, hd, hwi, hh]
          exact measO_get hjL hw hm3
        conv => cbv
        refine yld_intro' hA rfl hy hyk ?_ (fun n' hn' => ?_)
        · conv => cbv
          split
          · rename_i hc
            cases (nT hA hc)
          conv => cbv
          refine ⟨hhr, hR4 (A.iAdd h 5, kk + 1) _ ?_ ?_ ?_⟩
          · conv => cbv
            exact wk_sl (by repeat (first | refine leL_same ?_ | refine leL_any ?_ | exact leL_nil))
          · exact ⟨m + 1, by show A.iAdd h 5 = _; rw [hhs]; omega, by omega, by show kk + 1 = _; omega⟩
          · show (15 - A.iAdd h 5).toNat < (15 - h).toNat
            rw [hhs]; omega
        · conv => cbv
          split
          · conv => cbv
            exact hR' _ (.inr hn')
          · rename_i hc
            have hf : False := nF hA hc
            cases hf
      · rename_i hc
        have hm3 : m = 3 := by have := leF hA hc; omega
        conv => cbv
        refine ⟨hwr, hR3 (A.iAdd wi 1, kk) _ ?_ ?_ ?_⟩
        · conv => cbv
          exact wk_sl (by repeat (first | refine leL_same ?_ | refine leL_any ?_ | exact leL_nil))
        · exact ⟨w + 1, by show A.iAdd wi 1 = _; rw [hws]; omega, by omega, by show kk = _; omega⟩
        · show ((n : Int) - A.iAdd wi 1).toNat < ((n : Int) - wi).toNat
          rw [hws]; omega
    · rename_i hc
      have hw : w = n := by have := ltF' hA rfl (lenI hA hwll) hc; omega
      conv => cbv
      refine ⟨inR' hA hds (by unfold inI64; omega), hR2 (A.iAdd d 10, kk) _ ?_ ?_ ?_⟩
      · conv => cbv
        exact wk_sl (by repeat (first | refine leL_same ?_ | refine leL_any ?_ | exact leL_nil))
      · refine ⟨j + 1, by show A.iAdd d 10 = _; rw [hds]; omega, by omega, ?_⟩
        show kk = _
        rw [hkk, hw, Nat.add_mul, Nat.one_mul]
      · show (L + 10 - A.iAdd d 10).toNat < (L + 10 - d).toNat
        rw [hds]; omega
  · rename_i hc
    have hdL := leF hA hc
    have hj2 : j = (L / 10 + 1).toNat := by omega
    rw [hj2] at hkk
    conv => cbv
    cases f8 with
    | false =>
      conv => cbv
      exact hR' _ (.inl (by show kk = _; rw [hyl, hkk]; simp))
    | true =>
      have hyk : Y.ys[kk]? = some [.agg [.int .i64 0, .int .i64 0, .int .i64 0, .bool true]] := by
        rw [hys, hkk]
        exact measO_last
      conv => cbv
      refine yld_intro' hA rfl hy hyk ?_ (fun n' hn' => ?_)
      · conv => cbv
        exact hR' _ (.inl (by show kk + 1 = _; rw [hyl, hkk]; simp))
      · conv => cbv
        exact hR' _ (.inr hn')
end Go.Abs
