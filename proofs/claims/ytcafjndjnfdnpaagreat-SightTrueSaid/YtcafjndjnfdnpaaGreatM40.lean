/-
  Law SightTrue.
-/
import Derived.Test.YtcafjndjnfdnpaaGreatL1
import Derived.Test.YtcafjndjnfdnpaaGreatS2
import Derived.Test.YtcafjndjnfdnpaaGreatR2
import Derived.Test.YtcafjndjnfdnpaaGreatP14
import Derived.Test.YtcafjndjnfdnpaaGreatF30
import Derived.Test.YtcafjndjnfdnpaaGreatG1
set_option linter.unusedVariables false
set_option linter.unusedSimpArgs false
namespace Go.Abs
open Go.RowKit Go.Proofs

theorem stRes1_ok {t : Tables} {p : Path} {w : Way} (h : Flown t p w) : ∃ n zs, stRes1 t p = .list n zs ∧ zs.length = w.Legs.length + 2 := by
  refine ⟨4, encStays (staysP t p), by rw [stRes1, if_pos h.err], ?_⟩
  rw [h.sty]
  simp [encStays, staysOf, staysOf_len2 _ _ h.len]

set_option maxRecDepth 10000 in
set_option maxHeartbeats 4000000 in
theorem law_SightTrue (t : Tables) (f : Flight) (o : Opt) (pk at' af sh : Int) (_ : okTables t) (_ : okFlight f) (_ : okOpt o) (h1 : (Lit.int .u64 pk).wf = true) (h2 : (Lit.int .u64 at').wf = true) (h3 : (Lit.int .u64 af).wf = true) (h4 : (Lit.int .i8 sh).wf = true) :
    CallsPV Tryz.prog 3 [encTables t, encFlight f, encOpt o, .int .u64 pk, .int .u64 at', .int .u64 af, .int .i8 sh] (.bool true) := by
  have hf14 := ref_Few14 t
  have hf15 := ref15_Few f
  have hck := fl_Check t f
  have hcnt := tr_Count t f o
  have hall := tr_All t f o
  have hcase := countE_case t f o
  have hfw : countE t f o = 0 → ∀ p ∈ allP t f o, ∃ w, Flown t p w := fun h p hp => flown_ok h hp
  have hst := fun p => occ_Stays t p
  have hse := fun (r : Report) (s : Int) (p : Path) => sight_Sees t r s [p] (by simp) rfl
  generalize few14 t = b1 at hf14
  generalize fewF f = b2 at hf15
  generalize checkF t f = e1 at hck
  generalize countE t f o = e2 at hcnt hall hcase hfw
  generalize countN t f o = n at hcnt hcase
  generalize allP t f o = M at hall hcase hfw
  generalize allT t f o = T at hcase
  obtain ⟨xs, hxs⟩ : ∃ xs, xs = encPaths M := ⟨_, rfl⟩
  have hxl : xs.length = M.length := by rw [hxs]; simp [encPaths]
  rw [← hxs] at hall
  have g1 : 0 ≤ pk := by simp [Lit.wf, IntKind.min, IntKind.max, IntKind.signed] at h1; omega
  have g2 : 0 ≤ at' := by simp [Lit.wf, IntKind.min, IntKind.max, IntKind.signed] at h2; omega
  have g3 : 0 ≤ af := by simp [Lit.wf, IntKind.min, IntKind.max, IntKind.signed] at h3; omega
  have g4 : -128 ≤ sh ∧ sh ≤ 127 := by simp [Lit.wf, IntKind.min, IntKind.max, IntKind.signed, IntKind.bits] at h4; omega
  clear h1 h2 h3 h4
  refine callsPV_by (clo := fun _ => false) (rows := false) env_ok Tryz.func3 rfl (enters_of Tryz.func3 (by kernel_rfl) rfl) (fun A q P Y hr hA hq => ?_)
  obtain ⟨ss, hss⟩ : ∃ ss, ss = encSectors t.Sectors := ⟨_, rfl⟩
  obtain ⟨cs, hcs⟩ : ∃ cs, cs = encConfigs t.Configs := ⟨_, rfl⟩
  obtain ⟨ws, hws⟩ : ∃ ws, ws = encWays t.Ways := ⟨_, rfl⟩
  obtain ⟨ms, hms⟩ : ∃ ms, ms = encIntLs t.Modes := ⟨_, rfl⟩
  obtain ⟨ks, hks⟩ : ∃ ks, ks = encKinds t.Kinds := ⟨_, rfl⟩
  obtain ⟨nv, hnv⟩ : ∃ nv, nv = t.Volumes := ⟨_, rfl⟩
  have htab : encTables t = .agg [.int .i64 nv, .list 5 ss, .list 3 cs, .list 3 ws, .list 1 ms, .list 6 ks] := by rw [encTables_eq t hss hcs hws hms hks, hnv]
  have hwl : ws.length = t.Ways.length := by rw [hws]; simp [encWays]
  rw [htab] at hf14 hck hcnt hall hst hse ⊢
  obtain ⟨f1, f2, f3, f4, f5, ⟨f6, f7⟩, f8⟩ := f
  obtain ⟨fl, hfl⟩ : ∃ fl, fl = encInts f5 := ⟨_, rfl⟩
  rw [encFlight_eq _ hfl] at hf15 hck hcnt hall ⊢
  obtain ⟨a1, a2, a3, a4⟩ := o
  refine seq_stop (fun R hR => ?_)
  conv => cbv
  refine hR _ ?_
  clear hR
  refine seq_stop (fun R hR => ?_)
  conv => cbv
  refine call_intro hA (law_sane) ?_
  conv => cbv
  split
  · rename_i hc
    cases (nT hA hc)
  conv => cbv
  refine hR _ ?_
  clear hR
  refine seq_stop (fun R hR => ?_)
  conv => cbv
  refine call_intro hA (hf14) ?_
  conv => cbv
  split
  · conv => cbv
    exact hq
  conv => cbv
  refine call_intro hA (hf15) ?_
  conv => cbv
  split
  · conv => cbv
    exact hq
  conv => cbv
  refine call_intro hA (hck) ?_
  conv => cbv
  split
  · conv => cbv
    exact hq
  refine hR _ ?_
  clear hR
  refine seq_stop (fun R hR => ?_)
  conv => cbv
  refine call_intro hA (hcnt) ?_
  conv => cbv
  refine hR _ ?_
  clear hR
  refine seq_stop (fun R hR => ?_)
  conv => cbv
  split
  · conv => cbv
    exact hq
  rename_i hc
  have he := neF hA hc
  conv => cbv
  split
  · conv => cbv
    exact hq
  refine hR _ ?_
  clear hR
  rcases hcase with ⟨h0, _⟩ | ⟨h0, _, _, hM0, hM1, hM2⟩
  · exact absurd he h0
  subst h0
  have hfw := hfw rfl
  refine seq_stop (fun R hR => ?_)
  conv => cbv
  refine call_intro hA (hall) ?_
  conv => cbv
  refine hR _ ?_
  clear hR
  refine seq_stop (fun R hR => ?_)
  conv => cbv
  split
  · rename_i hc
    cases (neT hA hc rfl)
  conv => cbv
  split
  · rename_i hc
    cases (neT' hA (lenI hA hxl) hM0 hc rfl)
  conv => cbv
  split
  · rename_i hc
    cases ((show False by have := eqT hA hc; omega))
  conv => cbv
  refine hR _ ?_
  clear hR
  have hwu : A.wrap .u64 (A.lLen xs) = (M.length : Int) := by
    have : A.lLen xs = (M.length : Int) := lenI hA hxl
    rw [this]; subst hA
    exact u64_wrap (Nat.lt_of_le_of_lt hM2 (by decide))
  have hnz : A.nz (A.wrap .u64 (A.lLen xs)) := by rw [hwu]; subst hA; show (M.length : Int) ≠ 0; omega
  obtain ⟨ix, hix⟩ : ∃ ix, ix = A.wrap .i64 (A.iMod pk (A.wrap .u64 (A.lLen xs))) := ⟨_, rfl⟩
  have hixr := u64_rem g1 (show 0 < (M.length : Int) by omega)
  have hix2 : ix = pk.tmod M.length := by
    rw [hix, hwu]; subst hA
    exact wrap_in (show inI64 (pk.tmod M.length) by unfold inI64; omega)
  obtain ⟨p, hp0⟩ : ∃ p, M[ix.toNat]? = some p := ⟨_, List.getElem?_eq_getElem (show ix.toNat < M.length by rw [hix2]; omega)⟩
  obtain ⟨w, hw⟩ := hfw p (List.mem_of_getElem? hp0)
  obtain ⟨v, hv⟩ : ∃ v, v = encInts p.Times := ⟨_, rfl⟩
  have hvl : v.length = p.Times.length := by rw [hv]; simp [encInts]
  refine seq_stop (fun R hR => ?_)
  conv => cbv
  refine ⟨hnz, ?_⟩
  conv => cbv
  refine idx_Path hA hxs (n := A.wrap .i64 (A.iMod pk (A.wrap .u64 (A.lLen xs)))) (by rw [← hix]; omega) (by rw [← hix]; omega) (fun z zv hz hzv => ?_)
  rw [← hix] at hz
  obtain rfl := Option.some.inj ((hp0).symm.trans hz)
  obtain rfl : v = zv := hv.trans hzv.symm
  clear hz hzv
  conv => cbv
  refine hR _ ?_
  clear hR
  obtain ⟨s, hs⟩ : ∃ s, s = A.iMod (A.wrap .i64 sh) 4 := ⟨_, rfl⟩
  have hs2 : s = sh.tmod 4 := by
    rw [hs, show A.wrap .i64 sh = sh by subst hA; exact wrap_in (by unfold inI64; omega)]; subst hA; rfl
  have hsr := i64_rem4 sh
  rw [← hs2] at hsr
  have hst := hst p
  obtain ⟨n3, W, r3, hWl⟩ := stRes1_ok hw
  rw [r3, hw.err] at hst
  rw [encPath_eq p hv] at hst
  refine seq_stop (fun R hR => ?_)
  conv => cbv
  refine ⟨by subst hA; exact (show (4 : Int) ≠ 0 by decide), ?_⟩
  refine hR _ ?_
  clear hR
  refine seq_stop (fun R hR => ?_)
  conv => cbv
  refine call_intro hA (hst) ?_
  conv => cbv
  refine hR _ ?_
  clear hR
  refine seq_stop (fun R hR => ?_)
  conv => cbv
  refine ⟨draw_intro hA (by kernel_rfl), ?_⟩
  split
  · rename_i hc
    cases (neT hA hc rfl)
  conv => cbv
  have hlv : A.lLen v = (p.Times.length : Int) := lenI hA hvl
  have hlen := hw.len
  have hl1 := hw.l1
  have hw0 := hw.w0
  split
  · rename_i hc
    cases ((show False by have h1 := ltT' hA hlv rfl hc; omega))
  conv => cbv
  split
  · rename_i hc
    cases ((show False by have h1 : p.Way < 0 := ltT hA hc; omega))
  conv => cbv
  split
  · rename_i hc
    cases ((show False by have h1 : (t.Ways.length : Int) ≤ p.Way := leT' hA (lenI hA hwl) rfl hc; omega))
  conv => cbv
  refine idx_Way hA hws hw0.1 hw0.2 (fun z lg hz hlg => ?_)
  obtain rfl := Option.some.inj ((hw.hw).symm.trans hz)
  clear hz
  have hlgl : lg.length = w.Legs.length := by rw [hlg]; simp [encLegs]
  conv => cbv
  have hsub : A.iSub (A.lLen v) 1 = (w.Legs.length : Int) := by rw [subI hA, hlv]; omega
  have hsubr : A.inR (A.iSub (A.lLen v) 1) := inR' hA hsub (by unfold inI64; omega)
  refine ⟨hsubr, ?_⟩
  split
  · rename_i hc
    cases (neT' hA (lenI hA hlgl) hsub hc rfl)
  conv => cbv
  split
  · rename_i hc
    cases ((show False by have h1 : ((w.Legs.length + 2 : Nat) : Int) = 0 := eqT' hA (lenI hA hWl) rfl hc; omega))
  conv => cbv
  refine hR _ ?_
  clear hR
  have hwu2 : A.wrap .u64 (A.iSub (A.lLen v) 1) = (w.Legs.length : Int) := by
    rw [hsub]; subst hA
    exact u64_wrap (Nat.lt_of_le_of_lt hl1.2 (by decide))
  have hnz2 : A.nz (A.wrap .u64 (A.iSub (A.lLen v) 1)) := by rw [hwu2]; subst hA; show (w.Legs.length : Int) ≠ 0; omega
  obtain ⟨lx, hlx⟩ : ∃ lx, lx = A.wrap .i64 (A.iMod at' (A.wrap .u64 (A.iSub (A.lLen v) 1))) := ⟨_, rfl⟩
  have hlxr := u64_rem g2 (show 0 < (w.Legs.length : Int) by omega)
  have hlx2 : lx = at'.tmod w.Legs.length := by
    rw [hlx, hwu2]; subst hA
    exact wrap_in (show inI64 (at'.tmod w.Legs.length) by unfold inI64; omega)
  have hlx0 : 0 ≤ lx ∧ lx < w.Legs.length := by rw [hlx2]; exact hlxr
  obtain ⟨l, hl0⟩ : ∃ l, w.Legs[lx.toNat]? = some l := ⟨_, List.getElem?_eq_getElem (show lx.toNat < w.Legs.length by omega)⟩
  obtain ⟨x, hx0⟩ : ∃ x, p.Times[lx.toNat]? = some x := ⟨_, List.getElem?_eq_getElem (show lx.toNat < p.Times.length by omega)⟩
  obtain ⟨y, hy0⟩ : ∃ y, p.Times[lx.toNat + 1]? = some y := ⟨_, List.getElem?_eq_getElem (show lx.toNat + 1 < p.Times.length by omega)⟩
  have hxy := hw.up _ _ _ hx0 hy0
  have hxb := hw.big _ (List.mem_of_getElem? hx0)
  have hyb := hw.big _ (List.mem_of_getElem? hy0)
  refine seq_stop (fun R hR => ?_)
  conv => cbv
  refine ⟨hsubr, ?_⟩
  refine ⟨hnz2, ?_⟩
  refine hR _ ?_
  clear hR
  refine seq_stop (fun R hR => ?_)
  conv => cbv
  refine ⟨draw_intro hA (by kernel_rfl), ?_⟩
  have hls : A.iAdd (A.wrap .i64 (A.iMod at' (A.wrap .u64 (A.iSub (A.lLen v) 1)))) 1 = lx + 1 := by rw [addI hA, ← hlx]
  refine idx_Int hA hv (n := A.wrap .i64 (A.iMod at' (A.wrap .u64 (A.iSub (A.lLen v) 1)))) (by rw [← hlx]; omega) (by rw [← hlx]; omega) (fun z hz => ?_)
  rw [← hlx] at hz
  obtain rfl := Option.some.inj (hx0.symm.trans hz)
  clear hz
  conv => cbv
  refine ⟨inR' hA hls (by unfold inI64; omega), ?_⟩
  refine idx_Int hA hv (n := A.iAdd (A.wrap .i64 (A.iMod at' (A.wrap .u64 (A.iSub (A.lLen v) 1)))) 1) (by rw [hls]; omega) (by rw [hls]; omega) (fun z hz => ?_)
  rw [hls, show (lx + 1).toNat = lx.toNat + 1 by omega] at hz
  obtain rfl := Option.some.inj (hy0.symm.trans hz)
  clear hz
  conv => cbv
  refine hR _ ?_
  clear hR
  refine seq_stop (fun R hR => ?_)
  conv => cbv
  split
  · rename_i hc
    cases ((show False by have := leT hA hc; omega))
  conv => cbv
  refine hR _ ?_
  clear hR
  have hd : A.iSub y x = y - x := subI hA _ _
  have hwu3 : A.wrap .u64 (A.iSub y x) = y - x := by
    rw [hd]; subst hA
    obtain ⟨k, hk⟩ : ∃ k : Nat, y - x = k := ⟨(y - x).toNat, by omega⟩
    rw [hk]
    exact u64_wrap (Nat.lt_of_le_of_lt (show k ≤ 65535 by omega) (by decide))
  have hnz3 : A.nz (A.wrap .u64 (A.iSub y x)) := by rw [hwu3]; subst hA; show (y - x : Int) ≠ 0; omega
  have hmr := u64_rem g3 (show 0 < y - x by omega)
  obtain ⟨ex, hex⟩ : ∃ ex, ex = A.wrap .i64 (A.iMod af (A.wrap .u64 (A.iSub y x))) := ⟨_, rfl⟩
  have hex2 : ex = af.tmod (y - x) := by
    rw [hex, hwu3]; subst hA
    exact wrap_in (show inI64 (af.tmod (y - x)) by unfold inI64; omega)
  have hex0 : 0 ≤ ex ∧ ex < y - x := by rw [hex2]; exact hmr
  obtain ⟨m, hm⟩ : ∃ m, m = A.iAdd x (A.wrap .i64 (A.iMod af (A.wrap .u64 (A.iSub y x)))) := ⟨_, rfl⟩
  have hm2 : m = x + ex := by rw [hm, ← hex]; exact addI hA _ _
  refine seq_stop (fun R hR => ?_)
  conv => cbv
  refine ⟨inR' hA hd (by unfold inI64; omega), ?_⟩
  refine ⟨hnz3, ?_⟩
  refine ⟨inR' hA (hm.symm.trans hm2) (by unfold inI64; omega), ?_⟩
  refine hR _ ?_
  clear hR
  obtain ⟨m0, hm0⟩ : ∃ m0, m0 = A.iAdd x (A.wrap .i64 (A.iMod af (A.wrap .u64 (A.iSub y x)))) := ⟨_, rfl⟩
  obtain ⟨s0, hs0⟩ : ∃ s0, s0 = A.iMod (A.wrap .i64 sh) 4 := ⟨_, rfl⟩
  rw [← hm0] at hm
  rw [← hs0] at hs
  have hms : A.iSub m0 s0 = m - s := by rw [subI hA, hm, hs]
  have hmsr : A.inR (A.iSub m0 s0) := inR' hA hms (by unfold inI64; omega)
  refine seq_stop (fun R hR => ?_)
  conv => cbv
  split
  · conv => cbv
    exact hq
  rename_i hc
  have q1 : m < 1440 := by rw [hm, hm0]; exact leF' hA rfl rfl hc
  conv => cbv
  refine ⟨by rw [hm0, hs0] at hmsr; exact hmsr, ?_⟩
  split
  · conv => cbv
    exact hq
  rename_i hc
  have q2 : 0 ≤ m - s := ltF' hA (show A.iSub (A.iAdd x (A.wrap .i64 (A.iMod af (A.wrap .u64 (A.iSub y x))))) (A.iMod (A.wrap .i64 sh) 4) = m - s by rw [← hm0, ← hs0]; exact hms) rfl hc
  conv => cbv
  refine ⟨by rw [hm0, hs0] at hmsr; exact hmsr, ?_⟩
  split
  · conv => cbv
    exact hq
  rename_i hc
  have q3 : m - s < 1440 := leF' hA rfl (show A.iSub (A.iAdd x (A.wrap .i64 (A.iMod af (A.wrap .u64 (A.iSub y x))))) (A.iMod (A.wrap .i64 sh) 4) = m - s by rw [← hm0, ← hs0]; exact hms) hc
  refine hR _ ?_
  clear hR
  have hsee := hw.right hl0 hx0 hy0 (m := m) (s := s) (by omega) (by omega) q1 q2 q3 hsr 0 0 0 ByteArray.empty
  obtain ⟨k1, k2⟩ := hsee
  rw [← hms, hs] at k1 k2
  have hc1 := hse ⟨0, 0, A.iSub m0 s0, 0, ByteArray.empty, l.Volume⟩ s0 p
  rw [k1, k2, hm0, hs0, show encPaths [p] = [.agg [.int .i64 p.Way, .list 1 v]] by rw [hv]; rfl] at hc1
  refine seq_stop (fun R hR => ?_)
  conv => cbv
  refine ⟨draw_intro hA (by kernel_rfl), ?_⟩
  refine ⟨by rw [hm0, hs0] at hmsr; exact hmsr, ?_⟩
  refine idx_Way hA hws hw0.1 hw0.2 (fun z lg2 hz hlg2 => ?_)
  obtain rfl := Option.some.inj ((hw.hw).symm.trans hz)
  clear hz
  obtain rfl : lg = lg2 := hlg.trans hlg2.symm
  conv => cbv
  refine idx_Leg hA hlg (n := A.wrap .i64 (A.iMod at' (A.wrap .u64 (A.iSub (A.lLen v) 1)))) (by rw [← hlx]; omega) (by rw [← hlx]; omega) (fun z sp hz hsp => ?_)
  rw [← hlx] at hz
  obtain rfl := Option.some.inj (hl0.symm.trans hz)
  clear hz
  conv => cbv
  refine call_intro hA (hc1) ?_
  conv => cbv
  refine hR _ ?_
  clear hR
  conv => cbv
  split
  rotate_left
  · rename_i hc
    cases (eqF hA hc rfl)
  conv => cbv
  exact hq
end Go.Abs
