/-
  Functions: maps.Keys at cells, slices.Collect, SortedFunc; demand.sorted.
-/
import Derived.Test.YtjiimmaikohliaaGreatF44
import Derived.Test.YtjiimmaikohliaaGreatC4
set_option linter.unusedVariables false
set_option linter.unusedSimpArgs false
namespace Go.Abs
open Go.RowKit Go.Proofs

theorem maps_Keys (ks vs : List PV) : CallsPV Tryz.prog 54 [.map ks vs] (.fn 85 [.ptr [.map ks vs] 0]) := by
  refine callsPV_by (clo := fun _ => false) (rows := false) env_ok Tryz.func54 rfl (enters_of Tryz.func54 (by kernel_rfl) rfl) (fun A q P Y hr hA hq => ?_)
  conv => cbv
  rw [← hq]

theorem keys_seq (cs : List Cell) (vs : List PV) (hn : cs.Nodup) (hl : cs.length = vs.length) {ks : List PV} (hks : ks = cs.map encCell) :
    SeqG Tryz.prog 85 [.ptr [.map ks vs] 0] (cs.map fun c => [encCell c]) true := by
  refine seqAny_by (clo := fun _ => false) (rows := false) env_ok Tryz.func85 rfl (enters_of Tryz.func85 (by kernel_rfl) rfl) rfl (fun A P Y Y' y R hr hys hy hA hR => ?_)
  have hyl : Y.ys.length = cs.length := by rw [hys]; simp
  obtain ⟨es, hes⟩ : ∃ es, es = A.eZip ks vs := ⟨_, rfl⟩
  conv => cbv
  refine loop_set hA (fun (z : List PV × Nat) s => { s with ax := ⟨[.iter none (A.eZip ks vs) z.1 none], z.2⟩ })
    (fun z => ∃ left : List Cell, z.1 = left.map encCell ∧ left.Nodup ∧ (∀ c ∈ left, c ∈ cs) ∧ (∀ (i : Nat) (c : Cell), cs[i]? = some c → z.2.testBit i = !decide (c ∈ left)) ∧ z.2 < 2 ^ cs.length) (fun z => z.1.length) (ks, 0) ?_ ?_ ?_
  · conv => cbv
    exact wk_sl (by repeat (first | refine leL_same ?_ | refine leL_any ?_ | exact leL_nil))
  · exact ⟨cs, hks, hn, fun _ h => h, fun i c h => by simp [List.mem_of_getElem? h], Nat.two_pow_pos _⟩
  rintro R2 ⟨lf, k⟩ ⟨left, hl1, hl2, hl3, hl4, hl5⟩ hR2
  simp only at hl1 hl4 hl5
  conv => cbv
  refine nxt_intro hA (fun h0 => ?_) (fun q w hq hqv => ?_)
  · conv => cbv
    refine hR _ (.inl ?_)
    have hl0 : left = [] := List.map_eq_nil_iff.1 (hl1.symm.trans h0)
    have e : k = 2 ^ cs.length - 1 := by
      refine Nat.eq_of_testBit_eq fun i => ?_
      rw [Nat.testBit_two_pow_sub_one]
      rcases Nat.lt_or_ge i cs.length with h | h
      · rw [hl4 i _ (List.getElem?_eq_getElem h), hl0, decide_eq_true h]; simp
      · rw [decide_eq_false (by omega)]
        exact Nat.testBit_lt_two_pow (Nat.lt_of_lt_of_le hl5 (Nat.pow_le_pow_right (by decide) h))
    show k + 1 = 2 ^ _
    rw [List.length_map]
    have := Nat.two_pow_pos cs.length
    omega
  · rw [hl1] at hq
    obtain ⟨c, hc, hcq⟩ := List.mem_map.1 hq
    subst hcq
    obtain ⟨i, hi⟩ := List.getElem?_of_mem (hl3 c hc)
    have hb : k.testBit i = false := by rw [hl4 i c hi, decide_eq_true hc]; rfl
    have hyi : Y.ys[i]? = some [encCell c] := by rw [hys, List.getElem?_map, hi]; rfl
    have hil := (List.getElem?_eq_some_iff.1 hi).1
    obtain ⟨k1, k2, k3⟩ := c
    have hdr : A.lDrop lf (.agg [.bool k1, .int .i64 k2, .int .i64 k3]) = (left.filter fun d => !decide ((⟨k1, k2, k3⟩ : Cell) = d)).map encCell := by
      subst hA
      rw [hl1]
      show (left.map encCell).filter (fun y => !keq (encCell ⟨k1, k2, k3⟩) y) = _
      rw [List.filter_map]
      simp only [Function.comp_def, keq_Cell]
    have hlk : lookE (A.eZip ks vs) (encCell ⟨k1, k2, k3⟩) = some w := by
      subst hA
      refine (lookE_some (es := ks.zip vs) ?_ rfl).2 hqv
      unfold NodK
      rw [show (ks.zip vs).map (·.1) = ks from List.map_fst_zip (by rw [hks, List.length_map]; omega), hks]
      exact List.Pairwise.map _ (fun a b h e => h (by have := keq_Cell a b; rw [e, keq_self rfl] at this; simpa using this)) hn
    conv => cbv
    refine ent_intro hA hlk ?_
    conv => cbv
    refine yld_any hA rfl hy i (by rw [hyl]; exact hl5) hyi hb (fun n hn' => ?_) (fun n hn' => ?_)
    · conv => cbv
      split
      · rename_i hc
        cases (nT hA hc)
      conv => cbv
      refine hR2 (A.lDrop lf (.agg [.bool k1, .int .i64 k2, .int .i64 k3]), n) _ ?_ ?_ ?_
      · (conv => cbv)
        exact Wk.trans _ _ _ (Wk.forgetMp _ _ _ _ [.iter none (A.eZip ks vs) (A.lDrop lf (.agg [.bool k1, .int .i64 k2, .int .i64 k3])) none] _ ⟨⟨rfl, rfl, rfl, .inl rfl⟩, trivial⟩) (wk_round (bx := []) (bx' := [_]) (mp := [_]) (mp' := []) (by repeat (first | refine leL_same ?_ | refine leL_any ?_ | exact leL_nil)) (by simp) (.inl rfl) rfl rfl)
      · refine ⟨left.filter fun d => !decide ((⟨k1, k2, k3⟩ : Cell) = d), hdr, hl2.filter _, fun c h => hl3 c (List.mem_filter.1 h).1, fun j d hd => ?_, ?_⟩
        · show n.testBit j = _
          rw [hn', Nat.testBit_or, Nat.testBit_two_pow]
          rw [hl4 j d hd]
          by_cases e : i = j
          · subst e
            have : d = ⟨k1, k2, k3⟩ := Option.some.inj (hd.symm.trans hi)
            subst this
            simp
          · have e2 : (⟨k1, k2, k3⟩ : Cell) ≠ d := fun h => e ((List.getElem?_inj hil hn).1 (hi.trans (by rw [h, ← hd])))
            simp [e, e2]
        · show n < _
          rw [hn']
          exact Nat.or_lt_two_pow hl5 (Nat.pow_lt_pow_right (by decide) hil)
      · show (A.lDrop lf _).length < lf.length
        rw [hdr, hl1, List.length_map, List.length_map]
        exact List.length_filter_lt_length_iff_exists.2 ⟨_, hc, by simp⟩
    · conv => cbv
      split
      · conv => cbv
        refine hR _ (.inr ?_)
        show n = _
        rw [hn', hyl, List.length_map]
      · rename_i hc
        cases nF hA hc
end Go.Abs

namespace Go.Abs
open Go.RowKit Go.Proofs

def cloSC (n : Nat) : Bool := n == 10000000 || n == 5000000 + 83 || n == 5000000 + 117

theorem ArgM.more {α : Type} {pv : α → List PV} {m k0 : Nat} {b : List α} {rs : List (Option (List SV))} {arg : SV} (h : ArgM pv m k0 b rs arg) (ex : List (Option (List SV))) : ArgM pv m k0 b (rs ++ ex) arg := by
  rcases h with h | ⟨h0, j, cap, h1, junk, h2, h3⟩
  · exact .inl h
  · exact .inr ⟨h0, j, cap, h1, junk, by rw [List.getElem?_append_left (List.getElem?_eq_some_iff.1 h2).1, h2], h3⟩

theorem appendSeqC {f : FuncId} {caps : List PV} (cs : List Cell) (hn : cs.Nodup) (hlen : cs.length ≤ 1000000) (hseq : SeqG Tryz.prog f caps (cs.map fun c => [encCell c]) true) :
    CallsR ⟨Tryz.prog, tab, cloSC, true, .none⟩ 117 [.lit 0 [], .val (.fn f caps)] [] [] ⟨[], 0⟩
      (fun r bx' tk' ax' => ∃ b, tk' = [] ∧ ax' = ⟨[], 0⟩ ∧ b.Perm cs ∧ ArgM pvC 3 0 b bx' r) := by
  refine callsR_by (clo := cloSC) (rows := true) env_ok Tryz.func117 rfl (enters_of Tryz.func117 (by kernel_rfl) rfl) (by intro h; rfl) (fun A P' Y' nb R hA hnb hR => ?_)
  conv => cbv
  refine bxo_intro hA ⟨by trivial, ?_⟩
  conv => cbv
  refine rng_introG hA hseq (fun x hx => ?_) (fun (y : List (Option (List SV))) s => { s with bx := y }) (fun k y => ∃ b arg rs, y = some [arg] :: rs ∧ Got cs k b ∧ ArgM pvC 3 1 b rs arg) [some [.lit 0 []]] ?_ ?_ ?_ ?_ ?_
  · obtain ⟨y, _, rfl⟩ := List.mem_map.1 hx; rfl
  · exact fun y => rfl
  · exact Wk.refl _
  · exact ⟨[], _, _, rfl, Got.nil _, .inl ⟨rfl, rfl⟩⟩
  · rintro R2 k k1 B x hk ⟨b, arg, rs, hB, hgot, harg⟩ hR2
    obtain ⟨c, rfl, hc, hcb, hgot1⟩ := hgot.next hn hk
    have hbl : b.length ≤ 1000000 := Nat.le_trans (hgot.2.1.length_le_of_subset hgot.2.2.1) hlen
    have hap := fun ex sl K => appM (E := ⟨Tryz.prog, tab, cloSC, true, .none⟩) hA (pv := pvC) (m := 3) (ts := 86) (e := 43) rfl rfl rfl (by decide) (by decide) (fun _ => rfl) (bx0 := [some [arg]]) (k0 := 1) rfl (harg.more ex) hbl c sl [] ⟨[], 0⟩ K
    have hone : arg.one = true := by
      rcases harg with ⟨_, rfl⟩ | ⟨_, _, _, rfl, _⟩ <;> rfl
    have hpv : pvC c = [.bool c.Airport, .int .i64 c.Index, .int .i64 c.Minute] := rfl
    obtain ⟨ca, ci, cm⟩ := c
    conv => cbv
    refine alc_at hA (z := [.bool false, .int .i64 0, .int .i64 0]) rfl rfl (by decide) (fun n B1 hn1 hB1 => ?_)
    simp only at hn1 hB1
    have hn2 : n = 1 + rs.length := by rw [hn1, hB]; simp; omega
    conv => cbv
    have h1 : B1[n]? = some (some [.val (.bool false), .val (.int .i64 0), .val (.int .i64 0)]) := by
      rw [hB1, hn1, List.getElem?_append_right (Nat.le_refl _), Nat.sub_self]; rfl
    refine rstA_at hA h1 rfl rfl rfl (Nat.le_refl 3) (fun B2 hB2 => ?_)
    have hB2' : B2 = [some [arg]] ++ (rs ++ [some [.val (.bool ca), .val (.int .i64 ci), .val (.int .i64 cm)]]) := by
      rw [hB2, hB1, hB, hn1, hB]
      simp
    conv => cbv
    refine rld_at hA (cs := [arg]) (c := arg) (by rw [hB2']; rfl) rfl rfl rfl ?_
    conv => cbv
    refine rldA_at hA (cs := [.val (.bool ca), .val (.int .i64 ci), .val (.int .i64 cm)]) (by rw [hB2', hn2, List.getElem?_append_right (by simp), List.getElem?_append_right (by simp)]; simp) rfl rfl (Nat.le_refl 3) ?_
    conv => cbv
    have hap1 := hap [some [.val (.bool ca), .val (.int .i64 ci), .val (.int .i64 cm)]]
    rw [← hB2'] at hap1
    refine hap1 _ _ (fun j cap rs' hrow => ?_)
    obtain ⟨B3, hB3⟩ : ∃ B3, B3 = [some [arg]] ++ rs' := ⟨_, rfl⟩
    obtain ⟨id, hid⟩ : ∃ id, id = 1 + j := ⟨_, rfl⟩
    obtain ⟨nn, hnn⟩ : ∃ nn, nn = b.length + 1 := ⟨_, rfl⟩
    rw [← hB3, ← hid, ← hnn]
    conv => cbv
    refine rst_at hA (cs := [arg]) (by rw [hB3]; rfl) rfl rfl rfl Nat.zero_lt_one (fun B4 hB4 => ?_)
    conv => cbv
    refine hR2 B4 _ (Wk.refl _) ⟨_, .row id 0 3 nn cap, rs', by rw [hB4, hB3]; rfl, hgot1, .inr ⟨by simp, j, cap, ?_, hrow⟩⟩
    rw [hid, hnn]; simp
  · rintro k B hfin ⟨b, arg, rs, hB, hgot, harg⟩
    have hperm := hgot.fin hn hfin
    conv => cbv
    refine rld_at hA (cs := [arg]) (c := arg) (by rw [hB]; rfl) rfl rfl rfl ?_
    rcases harg with ⟨hb, rfl⟩ | ⟨hb0, j, cap, harg, hrow⟩
    · conv => cbv
      exact hR _ ⟨_, .lit 0 [], Wk.refl _, .inr (.inl ⟨4, rfl, rfl⟩), b, rfl, rfl, hperm, .inl ⟨hb, rfl⟩⟩
    · obtain ⟨id, hid⟩ : ∃ id, id = 1 + j := ⟨_, rfl⟩
      obtain ⟨n, hn⟩ : ∃ n, n = b.length := ⟨_, rfl⟩
      rw [← hid, ← hn] at harg
      subst harg
      conv => cbv
      refine hR _ ⟨_, .row id 0 3 n cap, Wk.refl _, .inr (.inl ⟨4, rfl, rfl⟩), b, rfl, rfl, hperm, .inr ⟨hb0, j + 1, cap, ?_, ?_⟩⟩
      · rw [hid, hn, show 1 + j = 0 + (j + 1) by omega]
      · obtain ⟨junk, h1, h2⟩ := hrow
        exact ⟨junk, by rw [hB]; exact h1, h2⟩

theorem collectC {f : FuncId} {caps : List PV} (cs : List Cell) (hn : cs.Nodup) (hlen : cs.length ≤ 1000000) (hseq : SeqG Tryz.prog f caps (cs.map fun c => [encCell c]) true) :
    CallsR ⟨Tryz.prog, tab, cloSC, true, .none⟩ 83 [.val (.fn f caps)] [] [] ⟨[], 0⟩
      (fun r bx' tk' ax' => ∃ b, tk' = [] ∧ ax' = ⟨[], 0⟩ ∧ b.Perm cs ∧ ArgM pvC 3 0 b bx' r) := by
  refine callsR_by (clo := cloSC) (rows := true) env_ok Tryz.func83 rfl (enters_of Tryz.func83 (by kernel_rfl) rfl) (by intro h; rfl) (fun A P' Y' nb R hA hnb hR => ?_)
  conv => cbv
  refine shareR_intro hA (appendSeqC cs hn hlen hseq) (fun r bx' tk' ax' h => ?_)
  obtain ⟨b, rfl, rfl, hperm, harg⟩ := h
  have h2 : ArgM pvC 3 0 b bx' r := harg
  rcases harg with ⟨hb, rfl⟩ | ⟨hb0, j, cap, harg, hrow⟩
  · conv => cbv
    exact hR _ ⟨_, .lit 0 [], Wk.refl _, .inr (.inl ⟨2, rfl, rfl⟩), b, rfl, rfl, hperm, h2⟩
  · obtain ⟨id, hid⟩ : ∃ id, id = 0 + j := ⟨_, rfl⟩
    obtain ⟨n, hn⟩ : ∃ n, n = b.length := ⟨_, rfl⟩
    rw [← hid, ← hn] at harg
    subst harg
    conv => cbv
    exact hR _ ⟨_, .row id 0 3 n cap, Wk.refl _, .inr (.inl ⟨2, rfl, rfl⟩), b, rfl, rfl, hperm, h2⟩

theorem CallsPV.nilm {P : Program} {f : FuncId} {args : List PV} {m m' : Nat} (h : CallsPV P f args (.list m [])) : CallsPV P f args (.list m' []) := by
  refine ⟨h.1, fun S w vs hS hv => (h.2 S w vs hS hv).mono ?_⟩
  rintro e w' ⟨v, rfl, hb, hr⟩
  refine ⟨v, rfl, hb, ?_⟩
  obtain ⟨a, ad, cap, g, rfl, h1, h2, h3, h4, h5, h6⟩ := RV.slice_iff hr
  exact RV.list_nil m' a cap h3

set_option maxRecDepth 4000 in
/-- slices.SortedFunc of cells that come in whatever order, each once. -/
theorem sortedFuncC {f : FuncId} {caps : List PV} (cs : List Cell) (hn : cs.Nodup) (hlen : cs.length ≤ 1000000) (hseq : SeqG Tryz.prog f caps (cs.map fun c => [encCell c]) true) :
    CallsPV Tryz.prog 53 [.fn f caps, .fn 22 []] (.list 3 (encCells (sortC cs))) := by
  by_cases h0 : cs = []
  · subst h0
    rw [show encCells (sortC []) = [] by simp [encCells, sortC]]
    refine CallsPV.nilm (m := 0) ?_
    refine callsPV_by (clo := cloSC) (rows := true) env_ok Tryz.func53 rfl (enters_of Tryz.func53 (by kernel_rfl) rfl) (fun A q P Y hr hA hq => ?_)
    conv => cbv
    refine shareR_intro hA (collectC [] hn hlen hseq) (fun r bx' tk' ax' h => ?_)
    obtain ⟨b, rfl, rfl, hperm, harg⟩ := h
    have hb := hperm.eq_nil
    subst hb
    rcases harg with ⟨_, rfl⟩ | ⟨hb0, j, cap, harg, hrow⟩
    · conv => cbv
      refine call_intro hA sortFunc_none ?_
      conv => cbv
      exact ⟨_, Frz.refl _ _, by (conv => cbv); exact hq⟩
    · exact absurd rfl hb0
  refine callsPV_by (clo := cloSC) (rows := true) env_ok Tryz.func53 rfl (enters_of Tryz.func53 (by kernel_rfl) rfl) (fun A q P Y hr hA hq => ?_)
  conv => cbv
  refine shareR_intro hA (collectC cs hn hlen hseq) (fun r bx' tk' ax' h => ?_)
  obtain ⟨b, rfl, rfl, hperm, harg⟩ := h
  rcases harg with ⟨hb, rfl⟩ | ⟨hb0, j, cap, harg, hrow⟩
  · subst hb
    exact absurd hperm.nil_eq.symm h0
  · obtain ⟨id, hid⟩ : ∃ id, id = 0 + j := ⟨_, rfl⟩
    obtain ⟨n, hn'⟩ : ∃ n, n = b.length := ⟨_, rfl⟩
    rw [← hid, ← hn'] at harg
    subst harg
    obtain ⟨junk, h1, h2, h3, h4⟩ := hrow
    have hc : bx'[id]? = some (some ((b.flatMap pvC).map SV.val ++ (junk.flatten).map SV.val)) := by
      rw [hid, Nat.zero_add, h1, rowCells_split]
    have hbl : b.length < 4611686018427387904 := by have := hperm.length_eq; omega
    have hs := sortFunc_Cell (rows := true) (clo := cloSC) (Y := .none) (tk := []) (ax := ⟨[], 0⟩) (cap := cap) hc hn' hbl
    conv => cbv
    refine shareR_intro hA hs (fun r bx2 tk2 ax2 h => ?_)
    obtain ⟨rfl, hbx2, rfl, rfl⟩ := h
    conv => cbv
    have hget : bx2[id]? = some (some (rowCells pvC (sortC b) junk)) := by
      rw [hbx2, List.getElem?_set_self (List.getElem?_eq_some_iff.1 hc).1, rowCells_split]
    have hx : rowSV id 3 (((sortC b).map pvC ++ junk).map PV.agg) (.row id 0 3 n cap) = .val (.list 3 (encCells (sortC cs))) := by
      unfold rowSV
      have hsl : (sortC b).length = b.length := (sortC_perm b).length_eq
      simp only
      rw [if_pos ⟨trivial, trivial, trivial, by simp; omega⟩, List.map_append, List.take_left' (by simp; omega), sortC_congr hperm, List.map_map]
      rfl
    generalize encCells (sortC cs) = zs at hx hq
    refine ⟨_, Frz.row id 3 _ (((sortC b).map pvC ++ junk).map PV.agg) _ _ _ _ (by rw [List.getD_eq_getElem?_getD, hget]; rfl) (rowCells_agg _ _ _) (fun x hx => ?_) (Frz.refl _ _), ?_⟩
    · obtain ⟨y, hy, rfl⟩ := List.mem_map.1 hx
      rcases List.mem_append.1 hy with h | h
      · obtain ⟨z, _, rfl⟩ := List.mem_map.1 h; rfl
      · exact h2 y h
    · simp only [St.sealRow, List.map_cons, List.map_nil, hx]
      (conv => cbv)
      exact hq

/-- The uses of a map's cells, in order. -/
def usesM (es : List (Cell × Int)) : List Use := (sortC (es.map (·.1))).map fun c => ⟨c, (lookM es c).getD 0⟩

set_option maxHeartbeats 4000000 in
theorem dm_sorted (es : List (Cell × Int)) (hn : NodM es) (hlen : es.length ≤ 1000000) {ks vs xs : List PV} (hks : ks = keysM es) (hvs : vs = valsM es) (hxs : xs = encUses (usesM es)) :
    CallsPV Tryz.prog 39 [.map ks vs] (.list 4 xs) := by
  refine callsPV_by (clo := fun _ => false) (rows := false) env_ok Tryz.func39 rfl (enters_of Tryz.func39 (by kernel_rfl) rfl) (fun A q P Y hr hA hq => ?_)
  have hkl : ks.length = vs.length := by rw [hks, hvs]; simp [keysM, valsM]
  have hks' : ks = (es.map (·.1)).map encCell := by rw [hks]; simp [keysM]
  have hs := sortedFuncC (es.map fun p : Cell × Int => p.1) hn (by simpa using hlen) (keys_seq (es.map fun p : Cell × Int => p.1) vs hn (by rw [← hkl, hks']; simp) hks')
  obtain ⟨L, hL⟩ : ∃ L, L = sortC (es.map (·.1)) := ⟨_, rfl⟩
  have hLl : L.length = es.length := by rw [hL, (sortC_perm _).length_eq, List.length_map]
  have hxs' : xs = encUses (L.map fun c => ⟨c, (lookM es c).getD 0⟩) := by rw [hxs, hL]; rfl
  rw [← hL] at hs
  obtain ⟨ys, hys⟩ : ∃ ys, ys = encCells L := ⟨_, rfl⟩
  rw [← hys] at hs
  have hyl : ys.length = L.length := by rw [hys]; simp [encCells]
  conv => cbv
  refine call_intro hA (maps_Keys ks vs) ?_
  conv => cbv
  refine call_intro hA hs ?_
  conv => cbv
  refine loop_set hA (fun (z : Int × List PV) s => { (s.put (some 9) (.val (.int .i64 z.1))).put (some 2) (.own 0 4 z.2) with tk := [(A.nLen z.2, 55)] })
    (fun z => 0 ≤ z.1 ∧ z.1 ≤ L.length ∧ z.2 = encUses ((L.take z.1.toNat).map fun c => ⟨c, (lookM es c).getD 0⟩)) (fun z => (L.length - z.1).toNat) (0, []) ?_ ?_ ?_
  · conv => cbv
    exact wk_own 2 0 4 [] _ rfl (.inr rfl) (by repeat (first | refine leL_same ?_ | refine leL_any ?_ | exact leL_nil)) (by subst hA; rfl)
  · exact ⟨Int.le_refl _, by omega, rfl⟩
  · rintro R ⟨i, U⟩ ⟨hi0, hi1, hU⟩ hR
    simp only at hi0 hi1 hU
    conv => cbv
    split
    · rename_i hc
      have hi : i < L.length := ltT' hA rfl (lenI hA hyl) hc
      have his : A.iAdd i 1 = i + 1 := addI hA _ _
      have hir : A.inR (A.iAdd i 1) := inR' hA his (by unfold inI64; omega)
      conv => cbv
      refine idx_Cell hA hys hi0 hi (fun c hc => ?_)
      have htake := take_snoc' hi0 hc
      obtain ⟨o, ho⟩ : ∃ o, o = (lookM es c).getD 0 := ⟨_, rfl⟩
      have hkk : keysOk true [.bool, .int, .int] (ks.zip vs) (encCell c) := by rw [hks, hvs, ← encM_zip]; exact keysOk_Cell _ _
      have hlk : (lookE (ks.zip vs) (encCell c)).getD (.int .i64 0) = .int .i64 o := by
        rw [hks, hvs, ← encM_zip, lookE_enc keq_Cell, ho]
        cases lookM es c <;> rfl
      have hnext : A.lApp U [.agg [.bool c.Airport, .int .i64 c.Index, .int .i64 c.Minute, .int .i64 o]] = encUses ((L.take (i + 1).toNat).map fun c => ⟨c, (lookM es c).getD 0⟩) := by
        rw [htake]
        subst hA hU
        show encUses _ ++ _ = _
        simp [encUses, encUse, ho]
      have hUl : U.length = i.toNat := by rw [hU]; simp [encUses]; omega
      have hroom : A.room (A.nLen (A.lApp U [.agg [.bool c.Airport, .int .i64 c.Index, .int .i64 c.Minute, .int .i64 o]])) 32 := by
        subst hA
        show (U ++ [_]).length * (32 + 1) ≤ 140737488355328
        rw [List.length_append, List.length_singleton]
        omega
      have htk : A.tkEq (A.nLen U) (A.nLen U) := by subst hA; rfl
      obtain ⟨c1, c2, c3⟩ := c
      simp only at hnext hroom
      have hkk2 : keysOk true [.bool, .int, .int] (A.eZip ks vs) (.agg [.bool c1, .int .i64 c2, .int .i64 c3]) := by subst hA; exact hkk
      have hlk2 : (lookE (A.eZip ks vs) (.agg [.bool c1, .int .i64 c2, .int .i64 c3])).getD (.int .i64 0) = .int .i64 o := by subst hA; exact hlk
      conv => cbv
      refine ⟨draw_intro hA (by kernel_rfl), ?_⟩
      refine ⟨kOk_intro hA hkk2, look_intro hA hlk2 rfl ?_⟩
      conv => cbv
      refine ⟨⟨htk, hroom⟩, hir, hR (A.iAdd i 1, A.lApp U [.agg [.bool c1, .int .i64 c2, .int .i64 c3, .int .i64 o]]) _ ?_ ?_ ?_⟩
      · (conv => cbv)
        exact wk_round (bx := []) (bx' := [_]) (mp := []) (mp' := []) (by repeat (first | refine leL_same ?_ | refine leL_any ?_ | exact leL_nil)) (by simp) (by simp) rfl rfl
      · rw [his]; exact ⟨by omega, by omega, hnext⟩
      · rw [his]; simp only; omega
    · rename_i hc
      have hi : L.length ≤ i := ltF' hA rfl (lenI hA hyl) hc
      conv => cbv
      rw [List.take_of_length_le (by omega), ← hxs'] at hU
      rw [← hq, hU]
end Go.Abs
