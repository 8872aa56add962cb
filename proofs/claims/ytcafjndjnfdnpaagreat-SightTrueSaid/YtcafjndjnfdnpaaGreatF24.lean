/-
  Functions: speed.Legs.
  Functions: trajectory.planned, product, many, Count.
  Functions: trajectory.Count, Bounds, Flies.
-/
import Derived.Test.YtcafjndjnfdnpaaGreatP1
set_option linter.unusedVariables false
set_option linter.unusedSimpArgs false
namespace Go.Abs
open Go.RowKit Go.Proofs

theorem speed_minutes (len speed : Int) (h0 : 1 ≤ len ∧ len ≤ 4096) (h1 : 1 ≤ speed ∧ speed ≤ 64) : CallsPV Tryz.prog 284 [.int .i64 len, .int .i64 speed] (.int .i64 (minutesC len speed)) := by
  refine callsPV_by (clo := fun _ => false) (rows := false) env_ok Tryz.func284 rfl (enters_of Tryz.func284 (by kernel_rfl) rfl) (fun A q P Y hr hA hq => ?_)
  have e1 : A.iAdd len speed = len + speed := addI hA _ _
  have e2 : A.iSub (A.iAdd len speed) 1 = len + speed - 1 := by rw [subI hA, e1]
  have e3 : A.iDiv (A.iSub (A.iAdd len speed) 1) speed = minutesC len speed := by rw [divI hA, e2]; rfl
  have hm := minutesC_spec h0.1 h1.1
  have nz : A.nz speed := by subst hA; show speed ≠ 0; omega
  conv => cbv
  refine ⟨inR' hA e1 (by unfold inI64; omega), inR' hA e2 (by unfold inI64; omega), ⟨nz, inR' hA e3 (by unfold inI64; omega)⟩, ?_⟩
  rw [← hq, ← e3]

theorem encBound_eq (b : Bound) : encBound b = .agg [.int .i64 b.Lo, .int .i64 b.Hi] := rfl

theorem kind_bound (k : Kind) (hk : KindOk k) (len : Int) (h0 : 1 ≤ len ∧ len ≤ 4096) : CallsPV Tryz.prog 255 [encKind k, .int .i64 len] (encBound (boundK k len 0)) := by
  refine callsPV_by (clo := fun _ => false) (rows := false) env_ok Tryz.func255 rfl (enters_of Tryz.func255 (by kernel_rfl) rfl) (fun A q P Y hr hA hq => ?_)
  have c1 := speed_minutes len k.Fast h0 ⟨by have := hk.s1; have := hk.s2; omega, hk.s3⟩
  have c2 := speed_minutes len k.Slow h0 ⟨hk.s1, by have := hk.s2; have := hk.s3; omega⟩
  simp only [boundK, encBound, Int.add_zero] at hq
  generalize minutesC len k.Fast = n1 at c1 hq
  generalize minutesC len k.Slow = n2 at c2 hq
  obtain ⟨k1, k2, k3, k4, k5, k6⟩ := k
  simp only [encKind] at c1 c2 hq ⊢
  obtain ⟨cs, hcs⟩ : ∃ cs, cs = encSpanLs k6 := ⟨_, rfl⟩
  rw [← hcs]
  conv => cbv
  refine ⟨draw_intro hA (by kernel_rfl), ?_⟩
  refine call_intro hA (c1) ?_
  conv => cbv
  refine call_intro hA (c2) ?_
  conv => cbv
  exact hq

theorem speed_length (n : Int) : CallsPV Tryz.prog 253 [.int .i64 n] (.bool (decide (1 ≤ n) && decide (n ≤ 4096))) := by
  refine callsPV_by (clo := fun _ => false) (rows := false) env_ok Tryz.func253 rfl (enters_of Tryz.func253 (by kernel_rfl) rfl) (fun A q P Y hr hA hq => ?_)
  have h := speed_within [n, 1, 4096] rfl (by simp)
  have e : withinL [n, 1, 4096] = (decide (1 ≤ n) && decide (n ≤ 4096)) := by
    rw [Bool.eq_iff_iff]; simp [withinL]
  rw [e] at h
  generalize (decide (1 ≤ n) && decide (n ≤ 4096)) = b at h hq
  conv => cbv
  refine call_intro hA (h) ?_
  conv => cbv
  exact hq

theorem speed_asked1 (x : Leg) : CallsPV Tryz.prog 252 [encLeg x] (.bool (!(decide (1 ≤ x.Length) && decide (x.Length ≤ 4096)))) := by
  refine callsPV_by (clo := fun _ => false) (rows := false) env_ok Tryz.func252 rfl (enters_of Tryz.func252 (by kernel_rfl) rfl) (fun A q P Y hr hA hq => ?_)
  obtain ⟨x1, x2, x3, x4⟩ := x
  have h := speed_length x3
  simp only at hq
  generalize (decide (1 ≤ x3) && decide (x3 ≤ 4096)) = b at h hq
  simp only [encLeg]
  obtain ⟨ms, hms⟩ : ∃ ms, ms = encSpans x4 := ⟨_, rfl⟩
  rw [← hms]
  conv => cbv
  refine call_intro hA (h) ?_
  conv => cbv
  refine Eq.trans ?_ hq
  show PV.bool (A.bNot b) = _
  subst hA; rfl

theorem speed_asked (k : Kind) (hk : KindOk k) (hkl : k.Curfews.length ≤ 9223372036854775807) (ls : List Leg) (hl : legsOk ls) (hold : Int) (h0 : 0 ≤ hold ∧ hold ≤ 10) {lg : List PV} (hlg : lg = encLegs ls) :
    CallsPV Tryz.prog 191 [encKind k, .list 4 lg, .int .i64 hold] (.int .i64 0) := by
  refine callsPV_by (clo := fun _ => false) (rows := false) env_ok Tryz.func191 rfl (enters_of Tryz.func191 (by kernel_rfl) rfl) (fun A q P Y hr hA hq => ?_)
  have h1 := speed_Check k hkl
  rw [hk.ok] at h1
  have hll : lg.length = ls.length := by rw [hlg]; simp [encLegs]
  have h2 := speed_within [A.lLen lg, 1, 8, hold, 0, 10] rfl (by simp)
  have e : withinL [A.lLen lg, 1, 8, hold, 0, 10] = true := by
    rw [lenI hA hll]
    have := hl.1; have := hl.2.1
    simp [withinL]; omega
  rw [e] at h2
  have h3 := containsFunc_Leg (fun x => !(decide (1 ≤ x.Length) && decide (x.Length ≤ 4096))) ls hlg (fun x _ => speed_asked1 x)
  rw [any_f (l := ls) (fun x hx => by have := hl.2.2 x hx; simp [this.1, this.2])] at h3
  obtain ⟨k1, k2, k3, k4, k5, k6⟩ := k
  simp only [encKind] at h1 ⊢
  obtain ⟨cs, hcs⟩ : ∃ cs, cs = encSpanLs k6 := ⟨_, rfl⟩
  rw [← hcs] at h1 ⊢
  conv => cbv
  refine call_intro hA (h1) ?_
  conv => cbv
  split
  · rename_i hc
    cases (neT hA hc rfl)
  conv => cbv
  refine call_intro hA (h2) ?_
  conv => cbv
  split
  · rename_i hc
    cases (nT hA hc)
  conv => cbv
  refine call_intro hA (h3) ?_
  conv => cbv
  exact hq

set_option maxHeartbeats 1000000 in
theorem kind_each1 (k : Kind) (hk : KindOk k) (ls : List Leg) (hl : legsOk ls) (hold : Int) (h0 : 0 ≤ hold ∧ hold ≤ 10) {lg cs : List PV} (hlg : lg = encLegs ls) (hcs : cs = encSpanLs k.Curfews) :
    SeqPV Tryz.prog 254 [.ptr [.list 4 lg] 0, .ptr [.int .i64 k.Slow, .int .i64 k.Fast, .int .i64 k.Places, .int .i64 k.Weight, .int .i64 k.Longest, .list 1 cs] 0, .ptr [.int .i64 hold] 0]
      ((legsB k hold ls).map fun b => [encBound b]) := by
  refine seqPV_by (clo := fun _ => false) (rows := false) env_ok Tryz.func254 rfl (enters_of Tryz.func254 (by kernel_rfl) rfl) rfl (fun A P Y Y' y R hr hys hy hA hR => ?_)
  have hR' := fun q (h : q = Y.ys.length ∨ q = Y.ys.length + 1) => hR q (by rw [hys] at h; exact h)
  have hll : lg.length = ls.length := by rw [hlg]; simp [encLegs]
  have hyl : Y.ys.length = ls.length := by rw [hys, List.length_map, legsB_len]
  have hl8 := hl.2.1
  have hyk : ∀ (i : Nat) (x : Leg), ls[i]? = some x → Y.ys[i]? = some [encBound (boundK k x.Length (if i + 1 = ls.length then hold else 0))] := fun i x h => by
    rw [hys, List.getElem?_map, legsB_get h]; rfl
  have hbd := fun (x : Leg) (hx : x ∈ ls) => kind_bound k hk x.Length (hl.2.2 x hx)
  have hbf := fun (x : Leg) (hx : x ∈ ls) => bound_facts hk (hl.2.2 x hx).1 (hl.2.2 x hx).2 (Int.le_refl 0) (by omega)
  have hbK : ∀ n h, encBound (boundK k n h) = .agg [.int .i64 (minutesC n k.Fast + h), .int .i64 (minutesC n k.Slow + h)] := fun n h => rfl
  obtain ⟨k1, k2, k3, k4, k5, k6⟩ := k
  simp only at hcs hbK ⊢
  simp only [encKind, ← hcs] at hbd
  conv => cbv
  refine loop_set hA (fun (z : Int × Nat) s => { s.put (some 10) (.val (.int .i64 z.1)) with ax := ⟨s.ax.mp, z.2⟩ }) (fun z => z.1 = (z.2 : Int) ∧ z.2 ≤ ls.length) (fun z => (ls.length - z.2)) (0, 0) ?_ ?_ ?_
  · conv => cbv
    exact wk_sl (by repeat (first | refine leL_same ?_ | refine leL_any ?_ | exact leL_nil))
  · exact ⟨rfl, Nat.zero_le _⟩
  rintro R2 ⟨i, kk⟩ ⟨hik, hkl⟩ hR2
  simp only at hik hkl
  conv => cbv
  split
  · rename_i hc
    have hi : i < ls.length := ltT' hA rfl (lenI hA hll) hc
    have his : A.iAdd i 1 = i + 1 := addI hA _ _
    have hir : A.inR (A.iAdd i 1) := inR' hA his (by unfold inI64; omega)
    have hls1 : A.iSub (A.lLen lg) 1 = (ls.length : Int) - 1 := by rw [subI hA, lenI hA hll]
    have hlsr : A.inR (A.iSub (A.lLen lg) 1) := inR' hA hls1 (by unfold inI64; omega)
    conv => cbv
    refine idx_Leg hA hlg (by omega) hi (fun x ms hx hms => ?_)
    have hxm := List.mem_of_getElem? hx
    have h1 := hbd x hxm
    have h2 := hbf x hxm
    have h3 := hyk i.toNat x hx
    rw [show i.toNat = kk by omega] at h3
    rw [hbK] at h1 h3
    simp only [boundK] at h2
    obtain ⟨x1, x2, x3, x4⟩ := x
    simp only at h1 h2 h3 hms
    generalize minutesC x3 k2 = m1 at h1 h2 h3
    generalize minutesC x3 k1 = m2 at h1 h2 h3
    rw [Int.add_zero, Int.add_zero] at h1
    conv => cbv
    refine call_intro hA (h1) ?_
    conv => cbv
    refine ⟨hlsr, ?_⟩
    split
    · rename_i hc
      have hl1 : i = (ls.length : Int) - 1 := eqT' hA rfl hls1 hc
      rw [if_pos (by omega)] at h3
      have a1 : A.iAdd m1 hold = m1 + hold := addI hA _ _
      have a2 : A.iAdd m2 hold = m2 + hold := addI hA _ _
      rw [← a1, ← a2] at h3
      conv => cbv
      refine ⟨inR' hA a1 (by unfold inI64; omega), inR' hA a2 (by unfold inI64; omega), ?_⟩
      refine yld_intro' hA rfl hy h3 ?_ (fun n' hn' => ?_)
      · conv => cbv
        split
        · rename_i hc
          cases (nT hA hc)
        conv => cbv
        refine ⟨hir, hR2 (A.iAdd i 1, kk + 1) _ ?_ ?_ ?_⟩
        · conv => cbv
          exact wk_round (bx := []) (bx' := [_, _]) (mp := []) (mp' := []) (by repeat (first | refine leL_same ?_ | refine leL_any ?_ | exact leL_nil)) (by simp) (by simp) rfl rfl
        · exact ⟨by show A.iAdd i 1 = _; rw [his]; omega, by show kk + 1 ≤ _; omega⟩
        · show ls.length - (kk + 1) < ls.length - kk
          omega
      · conv => cbv
        split
        rotate_left
        · rename_i hc
          cases (nF hA hc)
        conv => cbv
        exact hR' _ (.inr hn')
    · rename_i hc
      have hl1 : i ≠ (ls.length : Int) - 1 := eqF' hA rfl hls1 hc
      rw [if_neg (by omega), Int.add_zero, Int.add_zero] at h3
      conv => cbv
      refine yld_intro' hA rfl hy h3 ?_ (fun n' hn' => ?_)
      · conv => cbv
        split
        · rename_i hc
          cases (nT hA hc)
        conv => cbv
        refine ⟨hir, hR2 (A.iAdd i 1, kk + 1) _ ?_ ?_ ?_⟩
        · conv => cbv
          exact wk_round (bx := []) (bx' := [_, _]) (mp := []) (mp' := []) (by repeat (first | refine leL_same ?_ | refine leL_any ?_ | exact leL_nil)) (by simp) (by simp) rfl rfl
        · exact ⟨by show A.iAdd i 1 = _; rw [his]; omega, by show kk + 1 ≤ _; omega⟩
        · show ls.length - (kk + 1) < ls.length - kk
          omega
      · conv => cbv
        split
        rotate_left
        · rename_i hc
          cases (nF hA hc)
        conv => cbv
        exact hR' _ (.inr hn')
  · rename_i hc
    have hi : i = ls.length := by have := ltF' hA rfl (lenI hA hll) hc; omega
    conv => cbv
    exact hR' _ (.inl (by show kk = _; rw [hyl]; omega))

theorem kind_each (c1 c2 c3 c4 c5 : Int) (cs lg : List PV) (hold : Int) : CallsPV Tryz.prog 192 [.agg [.int .i64 c1, .int .i64 c2, .int .i64 c3, .int .i64 c4, .int .i64 c5, .list 1 cs], .list 4 lg, .int .i64 hold]
    (.fn 254 [.ptr [.list 4 lg] 0, .ptr [.int .i64 c1, .int .i64 c2, .int .i64 c3, .int .i64 c4, .int .i64 c5, .list 1 cs] 0, .ptr [.int .i64 hold] 0]) := by
  refine callsPV_by (clo := fun _ => false) (rows := false) env_ok Tryz.func192 rfl (enters_of Tryz.func192 (by kernel_rfl) rfl) (fun A q P Y hr hA hq => ?_)
  conv => cbv
  rw [← hq]

set_option maxHeartbeats 1000000 in
theorem speed_Legs (k : Kind) (hk : KindOk k) (ls : List Leg) (hl : legsOk ls) (hold : Int) (h0 : 0 ≤ hold ∧ hold ≤ 10) {lg : List PV} (hlg : lg = encLegs ls) :
    CallsPV Tryz.prog 131 [encKind k, .list 4 lg, .int .i64 hold] (.tup [.list 2 (encBounds (legsB k hold ls)), .int .i64 0]) := by
  refine callsPV_by (clo := fun _ => false) (rows := false) env_ok Tryz.func131 rfl (enters_of Tryz.func131 (by kernel_rfl) rfl) (fun A q P Y hr hA hq => ?_)
  have hkl : k.Curfews.length ≤ 9223372036854775807 := by
    have h1 := Real.cell (show Real [.agg _] from hr.mem (p := encKind k) (by simp)) (c := .list 1 (encSpanLs k.Curfews)) (by simp)
    have := h1.len; simpa [encSpanLs] using this
  have hask := speed_asked k hk hkl ls hl hold h0 hlg
  obtain ⟨cs, hcs⟩ : ∃ cs, cs = encSpanLs k.Curfews := ⟨_, rfl⟩
  have hseq := kind_each1 k hk ls hl hold h0 hlg hcs
  have hbl := legsB_len k hold ls
  have hl8 := hl.2.1
  generalize legsB k hold ls = M at hseq hq hbl
  obtain ⟨k1, k2, k3, k4, k5, k6⟩ := k
  simp only at hcs hseq
  simp only [encKind, ← hcs] at hask ⊢
  have hmk := kind_each k1 k2 k3 k4 k5 cs lg hold
  conv => cbv
  refine call_intro hA (hask) ?_
  conv => cbv
  split
  · rename_i hc
    cases (neT hA hc rfl)
  conv => cbv
  refine call_intro hA (hmk) ?_
  conv => cbv
  refine rng_intro hA hseq (fun x hx => ?_) (fun (L : List PV) s => { s with bx := s.bx.set 1 (some [.own 0 2 L]), tk := [(A.nLen L, 148)] })
    (fun k L => L = encBounds (M.take k)) [] (fun _ => rfl) ?_ ?_ ?_ ?_
  · obtain ⟨o, _, rfl⟩ := List.mem_map.1 hx; rfl
  · subst hA
    exact Wk.ownBx _ _ [] _ 1 0 0 2 [.lit 0 []] [] 148 rfl rfl (.inr rfl)
  · rfl
  · intro R k L x hx hL hR
    rw [List.getElem?_map, Option.map_eq_some_iff] at hx
    obtain ⟨o, ho, rfl⟩ := hx
    have hkl : k < M.length := (List.getElem?_eq_some_iff.1 ho).1
    have hLl : L.length ≤ 1000 := by rw [hL]; simp [encBounds]; omega
    obtain ⟨o1, o2⟩ := o
    have hnext : A.lApp L [encBound ⟨o1, o2⟩] = encBounds (M.take (k + 1)) := by
      subst hA hL
      rw [List.take_add_one, ho]
      show encBounds _ ++ _ = _
      simp [encBounds]
    have htk : A.tkEq (A.nLen L) (A.nLen L) := by subst hA; rfl
    have hroom : A.room (A.nLen (A.lApp L [encBound ⟨o1, o2⟩])) 16 := by
      subst hA
      show (L ++ [_]).length * (16 + 1) ≤ 140737488355328
      rw [List.length_append, List.length_singleton]; omega
    conv => cbv
    refine ⟨⟨htk, hroom⟩, hR (A.lApp L [.agg [.int .i64 o1, .int .i64 o2]]) _ ?_ hnext⟩
    conv => cbv
    exact wk_round (bx := [_, _]) (bx' := [_]) (mp := []) (mp' := []) (by repeat (first | refine leL_same ?_ | refine leL_any ?_ | exact leL_nil)) (by simp) (by simp) rfl rfl
  · intro L hL
    rw [List.take_of_length_le (by simp)] at hL
    conv => cbv
    rw [← hq, hL]
end Go.Abs

namespace Go.Abs
open Go.RowKit Go.Proofs

def planPV (t : Tables) (f : Flight) (o : Opt) : PV := if planE t f o = 0 then .agg [.int .i64 (planW f o), .int .i64 (firstB f o).Lo, .int .i64 (firstB f o).Hi, .list 2 (encBounds (planL t f o))] else .agg [.int .i64 0, .int .i64 0, .int .i64 0, .list 0 []]

set_option maxHeartbeats 2000000 in
theorem tr_planned (t : Tables) (f : Flight) (o : Opt) : CallsPV Tryz.prog 57 [encTables t, encFlight f, encOpt o] (.tup [planPV t f o, .int .i64 (planE t f o)]) := by
  have hdel := fl_Delay t f o
  by_cases h0 : planE t f o = 0
  · obtain ⟨k, w, h⟩ := planE_plan h0
    have h1 := h.del
    have h2 := h.can
    have h3 := h.k0
    have h4 := h.hk
    have h5 := h.d0
    have h6 := h.w0
    have h7 := h.hw
    have h8 := h.p0
    have h9 := h.hl
    have h10 := h.win
    have h11 := h.h0
    have hkl := (List.getElem?_eq_some_iff.1 h4).1
    have hlegs : ∀ lg v, lg = encLegs w.Legs → v = encSpanLs k.Curfews → CallsPV Tryz.prog 131 [.agg [.int .i64 k.Slow, .int .i64 k.Fast, .int .i64 k.Places, .int .i64 k.Weight, .int .i64 k.Longest, .list 1 v], .list 4 lg, .int .i64 o.Hold] (.tup [.list 2 (encBounds (planL t f o)), .int .i64 0]) := fun lg v e1 e2 => by
      have := speed_Legs k h.kok w.Legs h.lok o.Hold ⟨h11.1, h11.2.1⟩ e1
      rw [h.leg, e2]; exact this
    rw [h1] at hdel
    rw [planPV, if_pos h0, h0]
    generalize (delayF t f o).1 = d1 at hdel
    generalize (delayF t f o).2.1 = d2 at hdel
    generalize planW f o = pw at h7 h8 h9
    simp only [firstB]
    generalize encBounds (planL t f o) = bl at hlegs
    clear h h0 h1
    refine callsPV_by (clo := fun _ => false) (rows := false) env_ok Tryz.func57 rfl (enters_of Tryz.func57 (by kernel_rfl) rfl) (fun A q P Y hr hA hq => ?_)
    obtain ⟨ss, hss⟩ : ∃ ss, ss = encSectors t.Sectors := ⟨_, rfl⟩
    obtain ⟨cs, hcs⟩ : ∃ cs, cs = encConfigs t.Configs := ⟨_, rfl⟩
    obtain ⟨ws, hws⟩ : ∃ ws, ws = encWays t.Ways := ⟨_, rfl⟩
    obtain ⟨ms, hms⟩ : ∃ ms, ms = encIntLs t.Modes := ⟨_, rfl⟩
    obtain ⟨ks, hks⟩ : ∃ ks, ks = encKinds t.Kinds := ⟨_, rfl⟩
    obtain ⟨nv, hnv⟩ : ∃ nv, nv = t.Volumes := ⟨_, rfl⟩
    have htab : encTables t = .agg [.int .i64 nv, .list 5 ss, .list 3 cs, .list 3 ws, .list 1 ms, .list 6 ks] := by rw [encTables_eq t hss hcs hws hms hks, hnv]
    rw [htab] at hdel ⊢
    obtain ⟨f1, f2, f3, f4, f5, ⟨f6, f7⟩, f8⟩ := f
    obtain ⟨fl, hfl⟩ : ∃ fl, fl = encInts f5 := ⟨_, rfl⟩
    rw [encFlight_eq _ hfl] at hdel ⊢
    obtain ⟨o1, o2, o3, o4⟩ := o
    simp only at hdel h2 h3 h4 h5 h6 h7 h10 h11 hkl hlegs hq ⊢
    subst h2
    obtain ⟨k1, k2, k3, k4, k5, k6⟩ := k
    obtain ⟨w1, w2, w3⟩ := w
    simp only at hlegs
    have e1 : A.iAdd f6 o1 = f6 + o1 := addI hA _ _
    have e2 : A.iSub f7 1 = f7 - 1 := subI hA _ _
    have e3 : A.iAdd (A.iSub f7 1) o1 = f7 - 1 + o1 := by rw [addI hA, e2]
    conv => cbv
    refine call_intro hA (hdel) ?_
    conv => cbv
    split
    · rename_i hc
      cases (neT hA hc rfl)
    conv => cbv
    refine idx_Int hA hfl h6.1 h6.2 (fun x hx => ?_)
    obtain rfl := Option.some.inj (h7.symm.trans hx)
    conv => cbv
    refine ⟨inR' hA e1 (by unfold inI64; omega), inR' hA e2 (by unfold inI64; omega), inR' hA e3 (by unfold inI64; omega), ?_⟩
    refine ⟨draw_intro hA (by kernel_rfl), ?_⟩
    refine idx_Kind hA hks h3 (by omega) (fun z v hz hv => ?_)
    obtain rfl := Option.some.inj (h4.symm.trans hz)
    conv => cbv
    refine idx_Way hA hws h8.1 h8.2 (fun z lg hz hlg => ?_)
    obtain rfl := Option.some.inj (h9.symm.trans hz)
    conv => cbv
    refine call_intro hA (hlegs lg v hlg hv) ?_
    conv => cbv
    refine Eq.trans ?_ hq
    show PV.tup [.agg [_, .int .i64 (A.iAdd f6 o1), .int .i64 (A.iAdd (A.iSub f7 1) o1), _], _] = _
    rw [e1, e3]
  · rw [planPV, if_neg h0]
    have hE : planE t f o = if (delayF t f o).2.2 = 0 then if o.Cancel then 160 else 0 else (delayF t f o).2.2 := rfl
    generalize (delayF t f o).1 = d1 at hdel
    generalize (delayF t f o).2.1 = d2 at hdel
    generalize (delayF t f o).2.2 = d3 at hdel hE
    generalize planE t f o = pe at h0 hE
    refine callsPV_by (clo := fun _ => false) (rows := false) env_ok Tryz.func57 rfl (enters_of Tryz.func57 (by kernel_rfl) rfl) (fun A q P Y hr hA hq => ?_)
    obtain ⟨ss, hss⟩ : ∃ ss, ss = encSectors t.Sectors := ⟨_, rfl⟩
    obtain ⟨cs, hcs⟩ : ∃ cs, cs = encConfigs t.Configs := ⟨_, rfl⟩
    obtain ⟨ws, hws⟩ : ∃ ws, ws = encWays t.Ways := ⟨_, rfl⟩
    obtain ⟨ms, hms⟩ : ∃ ms, ms = encIntLs t.Modes := ⟨_, rfl⟩
    obtain ⟨ks, hks⟩ : ∃ ks, ks = encKinds t.Kinds := ⟨_, rfl⟩
    obtain ⟨nv, hnv⟩ : ∃ nv, nv = t.Volumes := ⟨_, rfl⟩
    have htab : encTables t = .agg [.int .i64 nv, .list 5 ss, .list 3 cs, .list 3 ws, .list 1 ms, .list 6 ks] := by rw [encTables_eq t hss hcs hws hms hks, hnv]
    rw [htab] at hdel ⊢
    obtain ⟨f1, f2, f3, f4, f5, ⟨f6, f7⟩, f8⟩ := f
    obtain ⟨fl, hfl⟩ : ∃ fl, fl = encInts f5 := ⟨_, rfl⟩
    rw [encFlight_eq _ hfl] at hdel ⊢
    obtain ⟨o1, o2, o3, o4⟩ := o
    simp only at hdel hE ⊢
    conv => cbv
    refine call_intro hA (hdel) ?_
    conv => cbv
    split
    · rename_i hc
      have h1 := neT hA hc
      rw [if_neg h1] at hE
      conv => cbv
      rw [← hq, hE]
    rename_i hc
    have h1 := neF hA hc
    rw [if_pos h1] at hE
    cases o4 with
    | true =>
      conv => cbv
      rw [← hq, hE]; rfl
    | false =>
      exact absurd hE h0

/-- A product, up to a bound. -/
def prodI : List Int → Int
  | [] => 1
  | x :: r => x * prodI r
theorem prodI_append : ∀ (a b : List Int), prodI (a ++ b) = prodI a * prodI b
  | [], b => by simp [prodI]
  | x :: a, b => by rw [List.cons_append, prodI, prodI_append a b, prodI, Int.mul_assoc]
theorem prodI_pos : ∀ {l : List Int}, (∀ x ∈ l, 1 ≤ x) → 1 ≤ prodI l
  | [], _ => by simp [prodI]
  | x :: r, h => by
    have h1 := h x (by simp)
    have h2 := prodI_pos fun y hy => h y (List.mem_cons_of_mem x hy)
    rw [prodI]
    have : 1 * 1 ≤ x * prodI r := Int.mul_le_mul h1 h2 (by omega) (by omega)
    omega

theorem tr_product (l : List Int) {xs : List PV} (hx : xs = encInts l) (hl : ∀ x ∈ l, 1 ≤ x ∧ x ≤ 1000000) : CallsPV Tryz.prog 132 [.list 1 xs] (.int .i64 (if prodI l ≤ 4096 then prodI l else 4097)) := by
  refine callsPV_by (clo := fun _ => false) (rows := false) env_ok Tryz.func132 rfl (enters_of Tryz.func132 (by kernel_rfl) rfl) (fun A q P Y hr hA hq => ?_)
  have hll : xs.length = l.length := by rw [hx]; simp [encInts]
  have hlen : l.length ≤ 9223372036854775807 := by have := (hr.mem (p := .list 1 xs) (by simp)).len; omega
  conv => cbv
  refine loop_set hA (fun (z : Int × Int) s => (s.put (some 8) (.val (.int .i64 z.1))).put (some 3) (.val (.int .i64 z.2))) (fun z => 0 ≤ z.1 ∧ z.1 ≤ l.length ∧ z.2 = prodI (l.take z.1.toNat) ∧ z.2 ≤ 4096) (fun z => ((l.length : Int) - z.1).toNat) (0, 1) ?_ ?_ ?_
  · conv => cbv
    exact wk_sl (by repeat (first | refine leL_same ?_ | refine leL_any ?_ | exact leL_nil))
  · exact ⟨Int.le_refl _, by omega, by simp [prodI], by omega⟩
  rintro R ⟨i, n⟩ ⟨hi0, hi1, hn, hn4⟩ hR
  simp only at hi0 hi1 hn hn4
  have hn1 : 1 ≤ n := by rw [hn]; exact prodI_pos fun x hx => (hl x (List.mem_of_mem_take hx)).1
  conv => cbv
  split
  · rename_i hc
    have hi : i < l.length := ltT' hA rfl (lenI hA hll) hc
    have his : A.iAdd i 1 = i + 1 := addI hA _ _
    have hir : A.inR (A.iAdd i 1) := inR' hA his (by unfold inI64; omega)
    conv => cbv
    refine idx_Int hA hx hi0 hi (fun x hx0 => ?_)
    have ht := take_snoc' hi0 hx0
    have hxb := hl x (List.mem_of_getElem? hx0)
    have e : A.iMul n x = n * x := mulI hA _ _
    have hu : n * x ≤ 4096 * 1000000 := Int.mul_le_mul hn4 hxb.2 (by omega) (by omega)
    have hlo : 1 * 1 ≤ n * x := Int.mul_le_mul hn1 hxb.1 (by omega) (by omega)
    have hp : n * x = prodI (l.take (i + 1).toNat) := by rw [ht, prodI_append, hn]; simp [prodI]
    have hdvd : prodI l = n * x * prodI (l.drop (i + 1).toNat) := by
      rw [hp, ← prodI_append, List.take_append_drop]
    have hdp : 1 ≤ prodI (l.drop (i + 1).toNat) := prodI_pos fun y hy => (hl y (List.mem_of_mem_drop hy)).1
    conv => cbv
    refine ⟨inR' hA e (by unfold inI64; omega), ?_⟩
    split
    · rename_i hc
      have h1 := ltT' hA rfl e hc
      have h2 : n * x * 1 ≤ n * x * prodI (l.drop (i + 1).toNat) := Int.mul_le_mul_of_nonneg_left hdp (by omega)
      conv => cbv
      rw [← hq, if_neg (by omega)]
    · rename_i hc
      have h1 := ltF' hA rfl e hc
      conv => cbv
      refine ⟨hir, hR (A.iAdd i 1, A.iMul n x) _ ?_ ?_ ?_⟩
      · conv => cbv
        exact wk_sl (by repeat (first | refine leL_same ?_ | refine leL_any ?_ | exact leL_nil))
      · show 0 ≤ A.iAdd i 1 ∧ A.iAdd i 1 ≤ l.length ∧ A.iMul n x = prodI (l.take (A.iAdd i 1).toNat) ∧ A.iMul n x ≤ 4096
        rw [his, e]
        exact ⟨by omega, by omega, hp, h1⟩
      · show ((l.length : Int) - A.iAdd i 1).toNat < ((l.length : Int) - i).toNat
        rw [his]; omega
  · rename_i hc
    have hi : l.length ≤ i := ltF' hA rfl (lenI hA hll) hc
    rw [List.take_of_length_le (by omega)] at hn
    conv => cbv
    rw [← hq, ← hn, if_pos hn4]

def widthI (b : Bound) : Int := b.Hi - b.Lo + 1
theorem prodI_width : ∀ {bs : List Bound}, (∀ b ∈ bs, b.Lo ≤ b.Hi) → prodI (bs.map widthI) = prodB bs
  | [], _ => rfl
  | b :: r, h => by
    have h1 := h b (by simp)
    rw [List.map_cons, prodI, prodB, prodI_width fun c hc => h c (by simp [hc]), Int.natCast_mul]
    congr 1
    unfold widthI widthB
    omega

set_option maxHeartbeats 1000000 in
theorem tr_many (way : Int) (first : Bound) (legs : List Bound) (hb : ∀ b ∈ first :: legs, -10000 ≤ b.Lo ∧ b.Lo ≤ b.Hi ∧ b.Hi ≤ 10000) (hl : legs.length ≤ 100) {bl : List PV} (hbl : bl = encBounds legs) :
    CallsPV Tryz.prog 58 [.agg [.int .i64 way, .int .i64 first.Lo, .int .i64 first.Hi, .list 2 bl]] (.int .i64 (if prodB (first :: legs) ≤ 4096 then prodB (first :: legs) else 4097)) := by
  have hprod := fun xs (hx : xs = encInts ((first :: legs).map widthI)) => tr_product _ hx (fun x hx => by
    obtain ⟨b, hb1, rfl⟩ := List.mem_map.1 hx
    have := hb b hb1
    unfold widthI; omega)
  rw [prodI_width (fun b h => (hb b h).2.1)] at hprod
  have hif : (if (prodB (first :: legs) : Int) ≤ 4096 then (prodB (first :: legs) : Int) else 4097) = (if prodB (first :: legs) ≤ 4096 then (prodB (first :: legs) : Int) else 4097) := by
    split <;> split <;> omega
  rw [hif] at hprod
  generalize (if prodB (first :: legs) ≤ 4096 then (prodB (first :: legs) : Int) else 4097) = r at hprod ⊢
  refine callsPV_by (clo := fun _ => false) (rows := false) env_ok Tryz.func58 rfl (enters_of Tryz.func58 (by kernel_rfl) rfl) (fun A q P Y hr hA hq => ?_)
  have hbll : bl.length = legs.length := by rw [hbl]; simp [encBounds]
  have hbf := hb first (by simp)
  obtain ⟨f1, f2⟩ := first
  simp only at hbf hprod ⊢
  have e1 : A.iSub f2 f1 = f2 - f1 := subI hA _ _
  have e2 : A.iAdd (A.iSub f2 f1) 1 = f2 - f1 + 1 := by rw [addI hA, e1]
  conv => cbv
  refine ⟨inR' hA e1 (by unfold inI64; omega), inR' hA e2 (by unfold inI64; omega), ?_⟩
  refine loop_set hA (fun (z : Int × List PV) s => { (s.put (some 18) (.val (.int .i64 z.1))).put (some 3) (.own 0 1 z.2) with tk := [(A.nLen z.2, 3)] }) (fun z => 0 ≤ z.1 ∧ z.1 ≤ legs.length ∧ z.2 = encInts ((⟨f1, f2⟩ :: legs.take z.1.toNat).map widthI)) (fun z => ((legs.length : Int) - z.1).toNat) (0, [.int .i64 (A.iAdd (A.iSub f2 f1) 1)]) ?_ ?_ ?_
  · conv => cbv
    exact wk_own 3 1 1 _ _ rfl (.inl rfl) (by repeat (first | refine leL_same ?_ | refine leL_any ?_ | exact leL_nil)) (by subst hA; rfl)
  · refine ⟨Int.le_refl _, by omega, ?_⟩
    show [PV.int .i64 (A.iAdd (A.iSub f2 f1) 1)] = _
    rw [e2]; rfl
  rintro R ⟨i, L⟩ ⟨hi0, hi1, hL⟩ hR
  simp only at hi0 hi1 hL
  conv => cbv
  split
  · rename_i hc
    have hi : i < legs.length := ltT' hA rfl (lenI hA hbll) hc
    have his : A.iAdd i 1 = i + 1 := addI hA _ _
    have hir : A.inR (A.iAdd i 1) := inR' hA his (by unfold inI64; omega)
    conv => cbv
    refine idx_Bound hA hbl hi0 hi (fun b hb0 => ?_)
    have ht := take_snoc' hi0 hb0
    have hbb := hb b (List.mem_cons_of_mem _ (List.mem_of_getElem? hb0))
    obtain ⟨b1, b2⟩ := b
    simp only at hbb
    have g1 : A.iSub b2 b1 = b2 - b1 := subI hA _ _
    have g2 : A.iAdd (A.iSub b2 b1) 1 = b2 - b1 + 1 := by rw [addI hA, g1]
    have hLl : L.length ≤ 1000 := by rw [hL]; simp [encInts]; omega
    have hnext : A.lApp L [.int .i64 (A.iAdd (A.iSub b2 b1) 1)] = encInts ((⟨f1, f2⟩ :: legs.take (i + 1).toNat).map widthI) := by
      rw [ht, g2, hL]
      subst hA
      show encInts _ ++ _ = _
      simp [encInts, encInt, widthI]
    have htk : A.tkEq (A.nLen L) (A.nLen L) := by subst hA; rfl
    have hroom : A.room (A.nLen (A.lApp L [.int .i64 (A.iAdd (A.iSub b2 b1) 1)])) 8 := by
      subst hA
      show (L ++ [_]).length * (8 + 1) ≤ 140737488355328
      rw [List.length_append, List.length_singleton]; omega
    conv => cbv
    refine ⟨inR' hA g1 (by unfold inI64; omega), inR' hA g2 (by unfold inI64; omega), ⟨htk, hroom⟩, hir, hR (A.iAdd i 1, A.lApp L [.int .i64 (A.iAdd (A.iSub b2 b1) 1)]) _ ?_ ?_ ?_⟩
    · conv => cbv
      exact wk_round (bx := [_]) (bx' := [_]) (mp := []) (mp' := []) (by repeat (first | refine leL_same ?_ | refine leL_any ?_ | refine leL_own ?_ | exact leL_nil)) (by simp) (by simp) rfl rfl
    · show 0 ≤ A.iAdd i 1 ∧ A.iAdd i 1 ≤ legs.length ∧ _ = encInts ((⟨f1, f2⟩ :: legs.take (A.iAdd i 1).toNat).map widthI)
      rw [his]
      exact ⟨by omega, by omega, hnext⟩
    · show ((legs.length : Int) - A.iAdd i 1).toNat < ((legs.length : Int) - i).toNat
      rw [his]; omega
  · rename_i hc
    have hi : legs.length ≤ i := ltF' hA rfl (lenI hA hbll) hc
    rw [List.take_of_length_le (by omega)] at hL
    conv => cbv
    refine call_intro hA (hprod L hL) ?_
    conv => cbv
    exact hq
end Go.Abs

namespace Go.Abs
open Go.RowKit Go.Proofs

theorem planPV_ok {t : Tables} {f : Flight} {o : Opt} (h : planE t f o = 0) : planPV t f o = .agg [.int .i64 (planW f o), .int .i64 (firstB f o).Lo, .int .i64 (firstB f o).Hi, .list 2 (encBounds (planL t f o))] := by rw [planPV, if_pos h]
theorem planPV_no {t : Tables} {f : Flight} {o : Opt} (h : planE t f o ≠ 0) : planPV t f o = .agg [.int .i64 0, .int .i64 0, .int .i64 0, .list 0 []] := by rw [planPV, if_neg h]
theorem PlanOk.all {t : Tables} {f : Flight} {o : Opt} {k : Kind} {w : Way} (h : PlanOk t f o k w) : ∀ b ∈ firstB f o :: planL t f o, -10000 ≤ b.Lo ∧ b.Lo ≤ b.Hi ∧ b.Hi ≤ 10000 := by
  intro b hb
  rcases List.mem_cons.1 hb with rfl | hb
  · have := h.first; omega
  · have := h.bounds.1 b hb; omega

theorem tr_Count (t : Tables) (f : Flight) (o : Opt) : CallsPV Tryz.prog 15 [encTables t, encFlight f, encOpt o] (.tup [.int .i64 (countN t f o), .int .i64 (countE t f o)]) := by
  have hpl := tr_planned t f o
  by_cases h0 : planE t f o = 0
  · obtain ⟨k, w, h⟩ := planE_plan h0
    have hmany := fun bl hbl => tr_many (planW f o) (firstB f o) (planL t f o) h.all (by have := h.bounds.2.2.2; omega) (bl := bl) hbl
    rw [planPV_ok h0, h0] at hpl
    have hN : countE t f o = if manyT t f o ≤ 4096 then 0 else 160 := by rw [countE, if_pos h0]
    have hC : countN t f o = if countE t f o = 0 then (manyT t f o : Int) else 0 := rfl
    rw [hC, hN]
    have hm : prodB (firstB f o :: planL t f o) = manyT t f o := rfl
    rw [hm] at hmany
    generalize manyT t f o = n at hmany
    generalize planW f o = pw at hpl hmany
    generalize firstB f o = fb at hpl hmany
    generalize planL t f o = pL at hpl hmany
    obtain ⟨b1, b2⟩ := fb
    obtain ⟨bl, hbl⟩ : ∃ bl, bl = encBounds pL := ⟨_, rfl⟩
    have hm2 := hmany bl hbl
    rw [← hbl] at hpl
    obtain ⟨r, hr⟩ : ∃ r : Int, r = if n ≤ 4096 then (n : Int) else 4097 := ⟨_, rfl⟩
    rw [← hr] at hm2
    have hr2 : (n ≤ 4096 ∧ r = n) ∨ (4096 < n ∧ r = 4097) := by rw [hr]; split <;> omega
    clear hr
    clear hmany hN hC hm h h0
    refine callsPV_by (clo := fun _ => false) (rows := false) env_ok Tryz.func15 rfl (enters_of Tryz.func15 (by kernel_rfl) rfl) (fun A q P Y hr hA hq => ?_)
    obtain ⟨ss, hss⟩ : ∃ ss, ss = encSectors t.Sectors := ⟨_, rfl⟩
    obtain ⟨cs, hcs⟩ : ∃ cs, cs = encConfigs t.Configs := ⟨_, rfl⟩
    obtain ⟨ws, hws⟩ : ∃ ws, ws = encWays t.Ways := ⟨_, rfl⟩
    obtain ⟨ms, hms⟩ : ∃ ms, ms = encIntLs t.Modes := ⟨_, rfl⟩
    obtain ⟨ks, hks⟩ : ∃ ks, ks = encKinds t.Kinds := ⟨_, rfl⟩
    obtain ⟨nv, hnv⟩ : ∃ nv, nv = t.Volumes := ⟨_, rfl⟩
    have htab : encTables t = .agg [.int .i64 nv, .list 5 ss, .list 3 cs, .list 3 ws, .list 1 ms, .list 6 ks] := by rw [encTables_eq t hss hcs hws hms hks, hnv]
    rw [htab] at hpl ⊢
    obtain ⟨f1, f2, f3, f4, f5, ⟨f6, f7⟩, f8⟩ := f
    obtain ⟨fl, hfl⟩ : ∃ fl, fl = encInts f5 := ⟨_, rfl⟩
    rw [encFlight_eq _ hfl] at hpl ⊢
    obtain ⟨o1, o2, o3, o4⟩ := o
    simp only at hpl hm2 ⊢
    conv => cbv
    refine call_intro hA (hpl) ?_
    conv => cbv
    split
    · rename_i hc
      cases (neT hA hc rfl)
    conv => cbv
    refine call_intro hA (hm2) ?_
    conv => cbv
    split
    · rename_i hc
      have h1 := ltT hA hc
      conv => cbv
      rw [← hq, if_neg (show ¬ n ≤ 4096 by omega)]; rfl
    · rename_i hc
      have h1 := ltF hA hc
      have h2 : n ≤ 4096 := by omega
      have h3 : r = n := by omega
      rw [if_pos h2] at hq
      conv => cbv
      rw [← hq, h3]; rfl
  · rw [planPV_no h0] at hpl
    have hE : countE t f o = planE t f o := by rw [countE, if_neg h0]
    have hN : countN t f o = 0 := by rw [countN, hE, if_neg h0]
    rw [hE, hN]
    generalize planE t f o = e at hpl h0
    refine callsPV_by (clo := fun _ => false) (rows := false) env_ok Tryz.func15 rfl (enters_of Tryz.func15 (by kernel_rfl) rfl) (fun A q P Y hr hA hq => ?_)
    obtain ⟨ss, hss⟩ : ∃ ss, ss = encSectors t.Sectors := ⟨_, rfl⟩
    obtain ⟨cs, hcs⟩ : ∃ cs, cs = encConfigs t.Configs := ⟨_, rfl⟩
    obtain ⟨ws, hws⟩ : ∃ ws, ws = encWays t.Ways := ⟨_, rfl⟩
    obtain ⟨ms, hms⟩ : ∃ ms, ms = encIntLs t.Modes := ⟨_, rfl⟩
    obtain ⟨ks, hks⟩ : ∃ ks, ks = encKinds t.Kinds := ⟨_, rfl⟩
    obtain ⟨nv, hnv⟩ : ∃ nv, nv = t.Volumes := ⟨_, rfl⟩
    have htab : encTables t = .agg [.int .i64 nv, .list 5 ss, .list 3 cs, .list 3 ws, .list 1 ms, .list 6 ks] := by rw [encTables_eq t hss hcs hws hms hks, hnv]
    rw [htab] at hpl ⊢
    obtain ⟨f1, f2, f3, f4, f5, ⟨f6, f7⟩, f8⟩ := f
    obtain ⟨fl, hfl⟩ : ∃ fl, fl = encInts f5 := ⟨_, rfl⟩
    rw [encFlight_eq _ hfl] at hpl ⊢
    obtain ⟨o1, o2, o3, o4⟩ := o
    simp only at hpl ⊢
    conv => cbv
    refine call_intro hA (hpl) ?_
    conv => cbv
    split
    rotate_left
    · rename_i hc
      cases ((h0 (neF hA hc)))
    conv => cbv
    exact hq

theorem boundsB_eq {t : Tables} {f : Flight} {o : Opt} (h : planE t f o = 0) : boundsB t f o = firstB f o :: sumT (firstB f o) (planL t f o) := by
  rw [boundsB, if_pos h, sumT]
  simp

/-- What a path must be like to be flown, place by place. -/
theorem flies_iff {first : Bound} {legs : List Bound} {ts : List Int} : fliesT 0 (first :: legs) ts ↔ ts.length = legs.length + 1 ∧ (∀ x, ts[0]? = some x → first.Lo ≤ x ∧ x ≤ first.Hi) ∧ ∀ (i : Nat) (b : Bound) (x y : Int), legs[i]? = some b → ts[i]? = some x → ts[i + 1]? = some y → x + b.Lo ≤ y ∧ y ≤ x + b.Hi := by
  rw [fliesT_get]
  constructor
  · rintro ⟨h1, h2⟩
    refine ⟨h1, fun x hx => by have := h2 0 first x 0 rfl hx rfl; omega, fun i b x y hb hx hy => h2 (i + 1) b y x (by simpa using hb) hy (by simpa using hx)⟩
  · rintro ⟨h1, h2, h3⟩
    refine ⟨h1, fun k b t p hb ht hp => ?_⟩
    cases k with
    | zero =>
      simp at hb hp
      subst hb hp
      have := h2 t ht
      omega
    | succ k => exact h3 k b p t (by simpa using hb) (by simpa using hp) ht

open Classical in
theorem fliesB_ok {t : Tables} {f : Flight} {o : Opt} {p : Path} (h : planE t f o = 0) : fliesB t f o p = true ↔ p.Way = planW f o ∧ fliesT 0 (firstB f o :: planL t f o) p.Times := by
  unfold fliesB
  rw [decide_eq_true_iff]
  exact ⟨fun x => x.2, fun x => ⟨h, x⟩⟩
open Classical in
theorem fliesB_no {t : Tables} {f : Flight} {o : Opt} {p : Path} (h : planE t f o ≠ 0) : fliesB t f o p = false := by
  unfold fliesB
  rw [decide_eq_false_iff_not]
  exact fun x => h x.1
end Go.Abs
