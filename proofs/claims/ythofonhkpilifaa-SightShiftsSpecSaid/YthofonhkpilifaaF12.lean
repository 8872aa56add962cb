/-
  Functions: occupancy.Stays.
-/
import Derived.Test.YthofonhkpilifaaF10
import Derived.Test.YthofonhkpilifaaF11
namespace Go.Abs
open Go.RowKit Go.Proofs

/-- The legs of a path, with their minutes. -/
def legRows : List Leg → List Int → List (List PV)
  | x :: r, a :: b :: ts => [encLeg x, encSpan ⟨a, b⟩] :: legRows r (b :: ts)
  | _, _ => []

theorem legRows_get : ∀ (ls : List Leg) (ts : List Int) (k : Nat) (x : Leg) (a b : Int), ls[k]? = some x → ts[k]? = some a → ts[k + 1]? = some b → (legRows ls ts)[k]? = some [encLeg x, encSpan ⟨a, b⟩]
  | [], _, k, x, a, b, h, _, _ => by simp at h
  | _ :: _, [], k, x, a, b, _, h, _ => by simp at h
  | _ :: _, [_], k, x, a, b, _, _, h => by simp at h
  | y :: r, u :: v :: ts, 0, x, a, b, h1, h2, h3 => by simp at h1 h2 h3; subst h1 h2 h3; rfl
  | y :: r, u :: v :: ts, k + 1, x, a, b, h1, h2, h3 => by
    simp only [legRows, List.getElem?_cons_succ] at h1 h2 h3 ⊢
    exact legRows_get r (v :: ts) k x a b h1 h2 h3

theorem legRows_len : ∀ (ls : List Leg) (ts : List Int), ts.length = ls.length + 1 → (legRows ls ts).length = ls.length
  | [], _, _ => by simp [legRows]
  | _ :: _, [], h => by simp at h
  | _ :: _, [_], h => by simp at h
  | y :: r, u :: v :: ts, h => by simp only [legRows, List.length_cons]; rw [legRows_len r (v :: ts) (by simpa using h)]

theorem occ_legs1 (t : Tables) (p : Path) (w : Way) (h0 : 0 ≤ p.Way) (hw : t.Ways[p.Way.toNat]? = some w) (hl : p.Times.length = w.Legs.length + 1) (h8 : w.Legs.length ≤ 8) {ss cs ws ms ks ts : List PV} (hws : ws = encWays t.Ways) (hts : ts = encInts p.Times) :
    SeqPV Try.prog 92 [.ptr [.int .i64 t.Volumes, .list 5 ss, .list 3 cs, .list 3 ws, .list 1 ms, .list 6 ks] 0, .ptr [.int .i64 p.Way, .list 1 ts] 0] (legRows w.Legs p.Times) := by
  refine seqPV_by (clo := fun n => n == 1000003 || n == 3000314) (rows := false) env_ok Try.func92 rfl (enters_of Try.func92 (by kernel_rfl) rfl) rfl (fun A P Y Y' y R hr hys hy hA hR => ?_)
  have hT : A.bNot true = false := by subst hA; rfl
  have hF : A.bNot false = true := by subst hA; rfl
  have hlt := (List.getElem?_eq_some_iff.1 hw).1
  obtain ⟨nv, hnv⟩ : ∃ nv, nv = t.Volumes := ⟨_, rfl⟩
  rw [← hnv]
  obtain ⟨way, T⟩ := p
  obtain ⟨w1, w2, ls⟩ := w
  simp only at h0 hw hl h8 hts hys hR hlt ⊢
  rw [legRows_len ls T hl] at hR
  have hyl : Y.ys.length = ls.length := by rw [hys]; exact legRows_len ls T hl
  conv => cbv
  refine idx_Way hA hws h0 (by omega) (fun w v hw' hv => ?_)
  rw [hw] at hw'
  simp only [Option.some.injEq] at hw'
  subst hw'
  simp only at hv
  have hvl : A.lLen v = ls.length := by subst hA; show (v.length : Int) = _; rw [hv]; simp [encLegs]
  conv => cbv
  refine loop_set hA (fun (k : Nat) s => { s.put (some 14) (.val (.int .i64 k)) with ax := ⟨s.ax.mp, k⟩ }) (fun k => k ≤ ls.length) (fun k => ls.length - k) 0 ?_ ?_ ?_
  · conv => cbv
    exact wk_sl (by simp [leL, leS])
  · exact Nat.zero_le _
  · intro R2 k hk hR2
    obtain ⟨i, hi⟩ : ∃ i, i = (k : Int) := ⟨_, rfl⟩
    rw [← hi]
    conv => cbv
    split
    · rename_i hc
      have hc' : k < ls.length := by
        have h' : A.iLt i (A.lLen v) = true := hc
        rw [hvl, hi] at h'; subst hA; simpa [stdOps] using h'
      conv => cbv
      refine idx_Leg hA hv (by omega) (by omega) (fun x u hx hu => ?_)
      have hxk : ls[k]? = some x := by rw [hi, Int.toNat_natCast] at hx; exact hx
      have hi1 : A.iAdd i 1 = ((k + 1 : Nat) : Int) := by subst hA; show i + 1 = _; omega
      have hinr : A.inR (A.iAdd i 1) := by rw [hi1]; subst hA; show inI64 _; unfold inI64; omega
      have hfin : ∀ s', Wk (0, 0) s' _ → R2 s' := fun s' hw => hR2 (k + 1) s' hw (by omega) (by omega)
      obtain ⟨x1, x2, x3, x4⟩ := x
      conv => cbv
      refine ⟨cut_intro hA (by kernel_rfl), ?_⟩
      refine idx_Int hA hts (by omega) (by omega) (fun a ha => ?_)
      conv => cbv
      refine ⟨hinr, ?_⟩
      refine idx_Int hA hts (n := A.iAdd i 1) (by omega) (by omega) (fun b hb => ?_)
      have hget : Y.ys[k]? = some [encLeg ⟨x1, x2, x3, x4⟩, encSpan ⟨a, b⟩] := by
        rw [hys]
        refine legRows_get ls T k _ a b hxk ?_ ?_
        · rw [hi, Int.toNat_natCast] at ha; exact ha
        · rw [hi1, Int.toNat_natCast] at hb; exact hb
      have hgu : Y.ys[k]? = some [.agg [.int .i64 x1, .int .i64 x2, .int .i64 x3, .list 2 u], .agg [.int .i64 a, .int .i64 b]] := by rw [hget, hu]; rfl
      conv => cbv
      refine yld_intro' hA rfl hy hgu ?_ (fun n hn => ?_)
      · conv => cbv
        split
        · rename_i c3
          have hf : False := absurd (show A.bNot true = true from c3) (by rw [hT]; simp); cases hf
        · conv => cbv
          refine ⟨hinr, hfin _ ?_⟩
          rw [← hi1]
          (conv => cbv)
          exact wk_round (bx := []) (bx' := [_]) (mp := []) (mp' := []) (by simp [leL, leS]) (by simp) (by simp) rfl rfl
      · conv => cbv
        split
        · conv => cbv
          exact hR _ (.inr (by rw [hn, hyl]))
        · rename_i c3
          have hf : False := absurd (show A.bNot false = false from c3) (by rw [hF]; simp); cases hf
    · rename_i hc
      have hc' : k = ls.length := by
        have h' : A.iLt i (A.lLen v) = false := hc
        rw [hvl, hi] at h'; subst hA; simp [stdOps] at h'; omega
      conv => cbv
      exact hR _ (.inl hc')


theorem legRows_stay : ∀ (ls : List Leg) (ts : List Int) (k : Nat) (x : List PV), (legRows ls ts)[k]? = some x → ∃ (lg : Leg) (a b : Int), x = [encLeg lg, encSpan ⟨a, b⟩] ∧ (legStays ls ts)[k]? = some ⟨false, lg.Volume, ⟨a, b⟩⟩
  | [], _, k, x, h => by simp [legRows] at h
  | _ :: _, [], k, x, h => by simp [legRows] at h
  | _ :: _, [_], k, x, h => by simp [legRows] at h
  | y :: r, u :: v :: ts, 0, x, h => by simp [legRows] at h; exact ⟨y, u, v, h.symm, rfl⟩
  | y :: r, u :: v :: ts, k + 1, x, h => by
    simp only [legRows, legStays, List.getElem?_cons_succ] at h ⊢
    exact legRows_stay r (v :: ts) k x h

theorem legStays_len : ∀ (ls : List Leg) (ts : List Int), (legStays ls ts).length = (legRows ls ts).length
  | [], _ => by simp [legRows, legStays]
  | _ :: _, [] => by simp [legRows, legStays]
  | _ :: _, [_] => by simp [legRows, legStays]
  | y :: r, u :: v :: ts => by simp only [legRows, legStays, List.length_cons]; rw [legStays_len r (v :: ts)]

theorem occ_legs (nv way : Int) (ss cs ws ms ks ts : List PV) : CallsPV Try.prog 70 [.agg [.int .i64 nv, .list 5 ss, .list 3 cs, .list 3 ws, .list 1 ms, .list 6 ks], .agg [.int .i64 way, .list 1 ts]]
    (.fn 92 [.ptr [.int .i64 nv, .list 5 ss, .list 3 cs, .list 3 ws, .list 1 ms, .list 6 ks] 0, .ptr [.int .i64 way, .list 1 ts] 0]) := by
  refine callsPV_by (clo := fun _ => false) (rows := false) env_ok Try.func70 rfl (enters_of Try.func70 (by kernel_rfl) rfl) (fun A q P Y hr hA hq => ?_)
  conv => cbv
  rw [← hq]

theorem occ_stays1 (a m : Int) (hm : inI64 (m + 1)) : CallsPV Try.prog 69 [.int .i64 a, .int .i64 m] (.agg [.bool true, .int .i64 a, .int .i64 m, .int .i64 (m + 1)]) := by
  refine callsPV_by (clo := fun _ => false) (rows := false) env_ok Try.func69 rfl (enters_of Try.func69 (by kernel_rfl) rfl) (fun A q P Y hr hA hq => ?_)
  conv => cbv
  refine ⟨by subst hA; exact hm, ?_⟩
  rw [← hq]
  subst hA
  rfl

theorem occ_stays (t : Tables) (p : Path) (w : Way) (h0 : 0 ≤ p.Way) (hw : t.Ways[p.Way.toNat]? = some w) (hl : p.Times.length = w.Legs.length + 1) (h8 : w.Legs.length ≤ 8) (hb : ∀ m ∈ p.Times, inI64 (m + 1)) :
    CallsPV Try.prog 46 [encTables t, encPath p] (.list 4 (encStays (staysOf w p.Times))) := by
  refine callsPV_by (clo := fun _ => false) (rows := false) env_ok Try.func46 rfl (enters_of Try.func46 (by kernel_rfl) rfl) (fun A q P Y hr hA hq => ?_)
  have hlt := (List.getElem?_eq_some_iff.1 hw).1
  obtain ⟨ss, hss⟩ : ∃ ss, ss = encSectors t.Sectors := ⟨_, rfl⟩
  obtain ⟨cs, hcs⟩ : ∃ cs, cs = encConfigs t.Configs := ⟨_, rfl⟩
  obtain ⟨ws, hws⟩ : ∃ ws, ws = encWays t.Ways := ⟨_, rfl⟩
  obtain ⟨ms, hms⟩ : ∃ ms, ms = encIntLs t.Modes := ⟨_, rfl⟩
  obtain ⟨ks, hks⟩ : ∃ ks, ks = encKinds t.Kinds := ⟨_, rfl⟩
  obtain ⟨ts, hts⟩ : ∃ ts, ts = encInts p.Times := ⟨_, rfl⟩
  have htl : ts.length = p.Times.length := by rw [hts]; simp [encInts]
  have hseq := occ_legs1 t p w h0 hw hl h8 (ss := ss) (cs := cs) (ms := ms) (ks := ks) hws hts
  rw [encTables_eq t hss hcs hws hms hks, encPath_eq p hts]
  obtain ⟨way, T⟩ := p
  obtain ⟨w1, w2, ls⟩ := w
  simp only at h0 hw hl h8 hb hts hlt hq htl hseq ⊢
  obtain ⟨nv, hnv⟩ : ∃ nv, nv = t.Volumes := ⟨_, rfl⟩
  rw [← hnv] at hseq ⊢
  have hlen0 : A.lLen ts = T.length := by subst hA; show (ts.length : Int) = _; rw [htl]
  conv => cbv
  refine idx_Way hA hws h0 (by omega) (fun w v hw' hv => ?_)
  rw [hw] at hw'
  simp only [Option.some.injEq] at hw'
  subst hw'
  simp only at hv
  conv => cbv
  refine ⟨draw_intro hA (by kernel_rfl), ?_⟩
  refine idx_Int hA hts (n := 0) (by omega) (by omega) (fun a ha => ?_)
  have haT : a ∈ T := List.mem_of_getElem? ha
  conv => cbv
  refine call_intro hA (occ_stays1 w1 a (hb a haT)) ?_
  obtain ⟨a1, ha1⟩ : ∃ a1, a1 = a + 1 := ⟨_, rfl⟩
  rw [← ha1]
  conv => cbv
  refine ⟨by subst hA; show (0 + 1) * (32 + 1) ≤ 140737488355328; omega, ?_⟩
  refine call_intro hA (occ_legs nv way ss cs ws ms ks ts) ?_
  conv => cbv
  have hll := legRows_len ls T hl
  have hsl := legStays_len ls T
  refine rng_intro hA hseq (fun x hx => ?_) (fun (L : List PV) s => { s with bx := s.bx.set 2 (some [.own 0 4 L]), tk := [(A.nLen L, 101)] })
    (fun k L => L = encStays (⟨true, w1, ⟨a, a1⟩⟩ :: (legStays ls T).take k)) [.agg [.bool true, .int .i64 w1, .int .i64 a, .int .i64 a1]] (fun _ => rfl) ?_ ?_ ?_ ?_
  · obtain ⟨k, hk⟩ := List.getElem?_of_mem hx
    obtain ⟨lg, u, v, rfl, _⟩ := legRows_stay ls T k x hk
    rfl
  · conv => cbv
    exact Wk.refl _
  · rfl
  · intro R k L x hx hL hR
    have hkl : k < (legRows ls T).length := (List.getElem?_eq_some_iff.1 hx).1
    obtain ⟨lg, u, v, rfl, hst⟩ := legRows_stay ls T k x hx
    have hLl : L.length ≤ 9 := by rw [hL]; simp [encStays]; omega
    have hnext : A.lApp L [.agg [.bool false, .int .i64 lg.Volume, .int .i64 u, .int .i64 v]] = encStays (⟨true, w1, ⟨a, a1⟩⟩ :: (legStays ls T).take (k + 1)) := by
      subst hA hL
      rw [List.take_add_one, hst]
      show encStays _ ++ _ = _
      simp [encStays, encStay]
    have htk : A.tkEq (A.nLen L) (A.nLen L) := by subst hA; rfl
    have hroom : A.room (A.nLen (A.lApp L [.agg [.bool false, .int .i64 lg.Volume, .int .i64 u, .int .i64 v]])) 32 := by
      subst hA
      show (L ++ [_]).length * (32 + 1) ≤ 140737488355328
      rw [List.length_append, List.length_singleton]; omega
    obtain ⟨l1, l2, l3, l4⟩ := lg
    rw [show encLeg ⟨l1, l2, l3, l4⟩ = .agg [.int .i64 l1, .int .i64 l2, .int .i64 l3, .list 2 (encSpans l4)] from rfl]
    generalize encSpans l4 = u4
    simp only at hnext hroom
    conv => cbv
    refine ⟨⟨htk, hroom⟩, hR (A.lApp L [.agg [.bool false, .int .i64 l2, .int .i64 u, .int .i64 v]]) _ ?_ hnext⟩
    conv => cbv
    exact wk_round (bx := [_, _, _, _]) (bx' := [_, _]) (mp := []) (mp' := []) (by simp [leL, leS]) (by simp) (by simp) rfl rfl
  · intro L hL
    rw [hll, List.take_of_length_le (by omega)] at hL
    have hLl : L.length ≤ 9 := by rw [hL]; simp [encStays]; omega
    have hsub : A.iSub (A.lLen ts) 1 = ls.length := by rw [hlen0]; subst hA; show (T.length : Int) - 1 = _; omega
    conv => cbv
    refine ⟨draw_intro hA (by kernel_rfl), by (show A.inR (A.iSub (A.lLen ts) 1)); rw [hsub]; subst hA; show inI64 _; unfold inI64; omega, ?_⟩
    refine idx_Int hA hts (n := A.iSub (A.lLen ts) 1) (by omega) (by omega) (fun z hz => ?_)
    rw [hsub, Int.toNat_natCast] at hz
    have hzT : z ∈ T := List.mem_of_getElem? hz
    have hroom : A.room (A.nLen (A.lApp L [.agg [.bool true, .int .i64 w2, .int .i64 z, .int .i64 (z + 1)]])) 32 := by
      subst hA
      show (L ++ [_]).length * (32 + 1) ≤ 140737488355328
      rw [List.length_append, List.length_singleton]; omega
    have hres : A.lApp L [.agg [.bool true, .int .i64 w2, .int .i64 z, .int .i64 (z + 1)]] = encStays (staysOf ⟨w1, w2, ls⟩ T) := by
      have hh : T.headD 0 = a := by rw [Int.toNat_zero] at ha; cases T with
        | nil => simp at ha
        | cons x r => simp at ha; exact ha
      have hg : T.getLastD 0 = z := by
        rw [List.getLastD_eq_getLast?, List.getLast?_eq_getElem?, show T.length - 1 = ls.length by omega, hz]; rfl
      unfold staysOf
      rw [hh, hg, ← ha1]
      subst hA hL
      show encStays _ ++ _ = _
      simp [encStays, encStay]
    have htk : A.tkEq (A.nLen L) (A.nLen L) := by subst hA; rfl
    conv => cbv
    refine call_intro hA (occ_stays1 w2 z (hb z hzT)) ?_
    obtain ⟨z1, hz1⟩ : ∃ z1, z1 = z + 1 := ⟨_, rfl⟩
    rw [← hz1] at hroom hres ⊢
    conv => cbv
    refine ⟨⟨htk, hroom⟩, ?_⟩
    rw [← hq, ← hres]
end Go.Abs
