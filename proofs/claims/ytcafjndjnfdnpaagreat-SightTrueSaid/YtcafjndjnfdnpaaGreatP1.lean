/-
  Plain law: what is sorted and made compact is as long as it was, exactly if all of it are other ones.
  flights.Measures, flights.Delay.
  Plain law: a valid flight's ways; a flight with one way more.
  flights.Delay.
  Plain law: what the trajectories of a flight under a measure depend on.
-/
import Derived.Test.YtcafjndjnfdnpaaGreatF18
import Derived.Test.YtcafjndjnfdnpaaGreatF15
import Derived.Test.YtcafjndjnfdnpaaGreatS1
set_option linter.unusedVariables false
set_option linter.unusedSimpArgs false
namespace Go.Abs
open Go.Lib

theorem onceB_iff (l : List Int) : onceB l = true ↔ l.Nodup := by
  obtain ⟨s, hs⟩ : ∃ s, s = l.mergeSort fun x y => decide (x ≤ y) := ⟨_, rfl⟩
  have hl : s.length = l.length := by rw [hs, List.length_mergeSort]
  have hp : List.Pairwise (fun x y => decide (x ≤ y) = true) s := by
    rw [hs]
    exact List.pairwise_mergeSort (fun a b c h1 h2 => by simp at h1 h2 ⊢; omega) (fun a b => by simp; omega) l
  have hn : s.Nodup ↔ l.Nodup := by rw [hs]; exact (List.mergeSort_perm l _).nodup_iff
  have hget : ∀ j (h : j < s.length), s.toArray[j]! = s[j] := fun j h => by simp [h]
  have hO : onceB l = true ↔ ∀ j, j < s.length → (j = 0 ∨ s.toArray[j]! ≠ s.toArray[j - 1]!) := by
    unfold onceB
    rw [← hs, decide_eq_true_iff, ← hl]
    unfold compactUpTo
    rw [List.length_map]
    have h := List.length_filter_eq_length_iff (p := keeps s.toArray) (l := List.range s.length)
    rw [List.length_range] at h
    rw [h]
    simp only [List.mem_range, keeps, decide_eq_true_iff]
  rw [hO, ← hn]
  constructor
  · intro h
    refine (List.pairwise_iff_getElem.2 fun i j hi hj hij => ?_ : List.Pairwise (· < ·) s).imp (fun hab => by omega)
    have h1 : s[i] ≤ s[j - 1]'(by omega) := by
      rcases Nat.lt_or_eq_of_le (Nat.le_sub_one_of_lt hij) with h2 | h2
      · simpa using List.pairwise_iff_getElem.1 hp i (j - 1) hi (by omega) h2
      · simp [h2]
    have h3 : s[j - 1]'(by omega) ≤ s[j] := by simpa using List.pairwise_iff_getElem.1 hp (j - 1) j (by omega) hj (by omega)
    have h4 := h j hj
    rw [hget j hj, hget (j - 1) (by omega)] at h4
    rcases h4 with h4 | h4
    · omega
    · omega
  · intro h j hj
    rcases Nat.eq_zero_or_pos j with h0 | h0
    · exact .inl h0
    · refine .inr ?_
      rw [hget j hj, hget (j - 1) (by omega)]
      intro e
      exact List.pairwise_iff_getElem.1 h (j - 1) j (by omega) hj (by omega) e.symm
end Go.Abs

namespace Go.Abs
open Go.RowKit Go.Proofs

/-- The measures of a flight that is valid. -/
def measL (t : Tables) (f : Flight) : List Opt :=
  match t.Kinds[f.Class.toNat]? with
  | some k => measO k.Longest f.Ways.length f.Cancel
  | none => []
def measuresF (t : Tables) (f : Flight) : List Opt := if checkF t f = 0 then measL t f else []

theorem checkF_zero {t : Tables} {f : Flight} (h : checkF t f = 0) : airOk t = true ∧ flightB t f = true := by
  unfold checkF at h
  split at h
  · split at h
    · exact ⟨‹_›, ‹_›⟩
    · cases h
  · cases h

/-- What a valid flight's class is like. -/
theorem checkF_kind {t : Tables} {f : Flight} (h : checkF t f = 0) : ∃ k, t.Kinds[f.Class.toNat]? = some k ∧ 0 ≤ f.Class ∧ 0 ≤ k.Longest ∧ k.Longest ≤ 60 ∧ k.Longest.tmod 10 = 0 ∧ 1 ≤ k.Weight ∧ k.Weight ≤ 8 ∧ 1 ≤ f.Ways.length ∧ f.Ways.length ≤ 4 := by
  obtain ⟨h1, h2⟩ := checkF_zero h
  simp only [flightB, Bool.and_eq_true, Bool.not_eq_true'] at h2
  obtain ⟨⟨⟨⟨⟨⟨⟨⟨_, _⟩, hc⟩, _⟩, hw⟩, _⟩, _⟩, _⟩, _⟩ := h2
  simp [outB] at hc hw
  have hlt : f.Class.toNat < t.Kinds.length := by omega
  refine ⟨t.Kinds[f.Class.toNat], List.getElem?_eq_getElem hlt, hc.1, ?_⟩
  simp only [airOk, Bool.and_eq_true, List.all_eq_true, decide_eq_true_eq] at h1
  have hk := (h1.2 _ (List.getElem_mem hlt)).1
  generalize t.Kinds[f.Class.toNat] = k at hk ⊢
  simp [kindOk, withinL] at hk
  refine ⟨by omega, by omega, by omega, by omega, by omega, by omega, by omega⟩

theorem fl_Measures (t : Tables) (f : Flight) : CallsPV Tryz.prog 147 [encTables t, encFlight f] (.tup [.list 4 (encOpts (measuresF t f)), .int .i64 (checkF t f)]) := by
  have hchk := fl_Check t f
  obtain ⟨ck, hck⟩ : ∃ ck, ck = checkF t f := ⟨_, rfl⟩
  by_cases h0 : ck = 0
  · obtain ⟨k, hk, hc0, hL0, hL1, _, _, _, hw1, hw4⟩ := checkF_kind (hck ▸ h0)
    have hml : measuresF t f = measO k.Longest f.Ways.length f.Cancel := by
      rw [measuresF, if_pos (hck ▸ h0), measL, hk]
    rw [hml, ← hck, h0]
    rw [← hck, h0] at hchk
    refine callsPV_by (clo := fun _ => false) (rows := false) env_ok Tryz.func147 rfl (enters_of Tryz.func147 (by kernel_rfl) rfl) (fun A q P Y hr hA hq => ?_)
    obtain ⟨ss, hss⟩ : ∃ ss, ss = encSectors t.Sectors := ⟨_, rfl⟩
    obtain ⟨cs, hcs⟩ : ∃ cs, cs = encConfigs t.Configs := ⟨_, rfl⟩
    obtain ⟨ws, hws⟩ : ∃ ws, ws = encWays t.Ways := ⟨_, rfl⟩
    obtain ⟨ms, hms⟩ : ∃ ms, ms = encIntLs t.Modes := ⟨_, rfl⟩
    obtain ⟨ks, hks⟩ : ∃ ks, ks = encKinds t.Kinds := ⟨_, rfl⟩
    obtain ⟨nv, hnv⟩ : ∃ nv, nv = t.Volumes := ⟨_, rfl⟩
    have htab : encTables t = .agg [.int .i64 nv, .list 5 ss, .list 3 cs, .list 3 ws, .list 1 ms, .list 6 ks] := by rw [encTables_eq t hss hcs hws hms hks, hnv]
    have hseq := fun wl (hwl : wl = encInts f.Ways) => fl_measures1 t.Kinds f k hc0 hk hL0 hL1 (by omega) nv ss cs ws ms ks wl hks hwl
    have hmk := fun wl => fl_measures nv ss cs ws ms ks f.ID f.Airline f.Class f.Window.From f.Window.To f.Call wl f.Cancel
    rw [htab] at hchk ⊢
    have hlen : (measO k.Longest f.Ways.length f.Cancel).length ≤ 1000 := by
      rw [measO_len]
      have h1 : (k.Longest / 10 + 1).toNat ≤ 7 := by omega
      have h2 : (k.Longest / 10 + 1).toNat * (3 * f.Ways.length) ≤ 7 * (3 * 4) := Nat.mul_le_mul h1 (by omega)
      split <;> omega
    generalize measO k.Longest f.Ways.length f.Cancel = M at hseq hq hlen
    obtain ⟨f1, f2, f3, f4, f5, ⟨f6, f7⟩, f8⟩ := f
    obtain ⟨fl, hfl⟩ : ∃ fl, fl = encInts f5 := ⟨_, rfl⟩
    rw [encFlight_eq _ hfl] at hchk ⊢
    have hs := hseq fl hfl
    have hm := hmk fl
    simp only at hchk hs hm ⊢
    clear hseq hmk
    conv => cbv
    refine call_intro hA hchk ?_
    conv => cbv
    split
    · rename_i h
      cases (neT hA h rfl)
    conv => cbv
    refine call_intro hA hm ?_
    conv => cbv
    refine rng_intro hA hs (fun x hx => ?_) (fun (L : List PV) s => { s with bx := s.bx.set 2 (some [.own 0 4 L]), tk := [(A.nLen L, 35)] })
      (fun k L => L = encOpts (M.take k)) [] (fun _ => rfl) ?_ ?_ ?_ ?_
    · obtain ⟨o, _, rfl⟩ := List.mem_map.1 hx; rfl
    · subst hA
      exact Wk.ownBx _ _ [] _ 2 0 0 4 [.lit 0 []] [] 35 rfl rfl (.inr rfl)
    · rfl
    · intro R k L x hx hL hR
      rw [List.getElem?_map, Option.map_eq_some_iff] at hx
      obtain ⟨o, ho, rfl⟩ := hx
      have hkl : k < M.length := (List.getElem?_eq_some_iff.1 ho).1
      have hLl : L.length ≤ 1000 := by rw [hL]; simp [encOpts]; omega
      obtain ⟨o1, o2, o3, o4⟩ := o
      have hnext : A.lApp L [encOpt ⟨o1, o2, o3, o4⟩] = encOpts (M.take (k + 1)) := by
        subst hA hL
        rw [List.take_add_one, ho]
        show encOpts _ ++ _ = _
        simp [encOpts]
      have htk : A.tkEq (A.nLen L) (A.nLen L) := by subst hA; rfl
      have hroom : A.room (A.nLen (A.lApp L [encOpt ⟨o1, o2, o3, o4⟩])) 32 := by
        subst hA
        show (L ++ [_]).length * (32 + 1) ≤ 140737488355328
        rw [List.length_append, List.length_singleton]; omega
      conv => cbv
      refine ⟨⟨htk, hroom⟩, hR (A.lApp L [.agg [.int .i64 o1, .int .i64 o2, .int .i64 o3, .bool o4]]) _ ?_ hnext⟩
      conv => cbv
      exact wk_round (bx := [_, _, _]) (bx' := [_]) (mp := []) (mp' := []) (by repeat (first | refine leL_same ?_ | refine leL_any ?_ | exact leL_nil)) (by simp) (by simp) rfl rfl
    · intro L hL
      rw [List.take_of_length_le (by simp)] at hL
      conv => cbv
      rw [← hq, hL]
  · have hml : measuresF t f = [] := by rw [measuresF, if_neg (hck ▸ h0)]
    rw [hml, ← hck]
    rw [← hck] at hchk
    refine CallsPV.le (p := .tup [.list 0 [], .int .i64 ck]) (args' := [encTables t, encFlight f]) ?_ (.cons (.refl _) (.cons (.refl _) .nil)) (.tup _ _ rfl fun i x y hx hy => ?_)
    · refine callsPV_by (clo := fun _ => false) (rows := false) env_ok Tryz.func147 rfl (enters_of Tryz.func147 (by kernel_rfl) rfl) (fun A q P Y hr hA hq => ?_)
      obtain ⟨ss, hss⟩ : ∃ ss, ss = encSectors t.Sectors := ⟨_, rfl⟩
      obtain ⟨cs, hcs⟩ : ∃ cs, cs = encConfigs t.Configs := ⟨_, rfl⟩
      obtain ⟨ws, hws⟩ : ∃ ws, ws = encWays t.Ways := ⟨_, rfl⟩
      obtain ⟨ms, hms⟩ : ∃ ms, ms = encIntLs t.Modes := ⟨_, rfl⟩
      obtain ⟨ks, hks⟩ : ∃ ks, ks = encKinds t.Kinds := ⟨_, rfl⟩
      obtain ⟨nv, hnv⟩ : ∃ nv, nv = t.Volumes := ⟨_, rfl⟩
      have htab : encTables t = .agg [.int .i64 nv, .list 5 ss, .list 3 cs, .list 3 ws, .list 1 ms, .list 6 ks] := by rw [encTables_eq t hss hcs hws hms hks, hnv]
      rw [htab] at hchk ⊢
      obtain ⟨f1, f2, f3, f4, f5, ⟨f6, f7⟩, f8⟩ := f
      obtain ⟨fl, hfl⟩ : ∃ fl, fl = encInts f5 := ⟨_, rfl⟩
      rw [encFlight_eq _ hfl] at hchk ⊢
      simp only at hchk ⊢
      conv => cbv
      refine call_intro hA hchk ?_
      conv => cbv
      split
      · conv => cbv
        exact hq
      · rename_i h
        exact absurd (neF hA h) h0
    · match i, hx, hy with
      | 0, hx, hy => simp at hx hy; subst hx hy; exact .nil _ _
      | 1, hx, hy => simp at hx hy; subst hx hy; exact .refl _
      | i + 2, hx, hy => simp at hx
end Go.Abs

namespace Go.Abs

/-- A flight with one way more. -/
def moreF (f : Flight) (w : Int) : Flight := ⟨f.ID, f.Airline, f.Class, f.Call, f.Ways ++ [w], f.Window, f.Cancel⟩
def goodW (t : Tables) (f : Flight) (w : Int) : Bool := decide (f.Ways.length + 1 ≤ 4) && !decide (w ∈ f.Ways) && decide (0 ≤ w) && decide (w < t.Ways.length) && !elsewhere t.Ways (head0 t f) w

theorem check_ways {t : Tables} {f : Flight} (h : checkF t f = 0) : ∃ (x : Int) (w0 : Way), f.Ways[0]? = some x ∧ 0 ≤ x ∧ x < t.Ways.length ∧ t.Ways[x.toNat]? = some w0 ∧ head0 t f = w0 ∧
    ∀ n : Int, n ∈ f.Ways → 0 ≤ n ∧ n < t.Ways.length ∧ ∃ v, t.Ways[n.toNat]? = some v ∧ v.From = w0.From ∧ v.To = w0.To := by
  obtain ⟨_, h2⟩ := checkF_zero h
  simp only [flightB, Bool.and_eq_true, Bool.not_eq_true'] at h2
  obtain ⟨⟨⟨⟨⟨⟨⟨⟨_, _⟩, _⟩, _⟩, hl⟩, hr⟩, _⟩, he⟩, _⟩ := h2
  have hl' : 1 ≤ f.Ways.length := by simp [outB] at hl; omega
  have hin : ∀ n ∈ f.Ways, 0 ≤ n ∧ n < t.Ways.length := fun n hn => by
    rw [List.any_eq_false] at hr
    have := hr n hn
    simp [outB] at this
    omega
  obtain ⟨x, hx⟩ : ∃ x, f.Ways[0]? = some x := ⟨f.Ways[0]'(by omega), List.getElem?_eq_getElem (by omega)⟩
  have hx1 := hin x (List.mem_of_getElem? hx)
  obtain ⟨w0, hw0⟩ : ∃ w0, t.Ways[x.toNat]? = some w0 := ⟨t.Ways[x.toNat]'(by omega), List.getElem?_eq_getElem (by omega)⟩
  have hhd : head0 t f = w0 := by
    have : f.Ways.headD 0 = x := by
      cases hf : f.Ways with
      | nil => rw [hf] at hx; simp at hx
      | cons a r => rw [hf] at hx; simpa using hx
    simp only [head0, this, hw0]
    rfl
  refine ⟨x, w0, hx, hx1.1, hx1.2, hw0, hhd, fun n hn => ⟨(hin n hn).1, (hin n hn).2, ?_⟩⟩
  have hn1 := hin n hn
  rw [List.any_eq_false] at he
  have := he n hn
  rw [hhd] at this
  unfold elsewhere at this
  rw [List.getElem?_eq_getElem (by omega)] at this ⊢
  simp at this
  exact ⟨_, rfl, this⟩

theorem check_more {t : Tables} {f : Flight} (h : checkF t f = 0) (w : Int) : checkF t (moreF f w) = if goodW t f w then 0 else 150 := by
  obtain ⟨ha, h2⟩ := checkF_zero h
  obtain ⟨x, w0, hx, _, _, _, hhd, _⟩ := check_ways h
  unfold checkF
  rw [if_pos ha]
  congr 1
  have e : flightB t (moreF f w) = (!outB 0 4095 f.ID && !outB 0 7 f.Airline && !outB 0 (t.Kinds.length - 1) f.Class && nameB f.Call && !outB 1 4 (f.Ways ++ [w]).length && !(f.Ways ++ [w]).any (outB 0 (t.Ways.length - 1)) &&
      !(decide (f.Window.From < 0) || decide (f.Window.To ≤ f.Window.From) || decide (1440 < f.Window.To) || decide (16 < f.Window.To - f.Window.From)) &&
      !(f.Ways ++ [w]).any (elsewhere t.Ways (head0 t (moreF f w))) && onceB (f.Ways ++ [w])) := rfl
  rw [Bool.eq_iff_iff, e, goodW]
  have hh : head0 t (moreF f w) = head0 t f := by
    have : (moreF f w).Ways.headD 0 = f.Ways.headD 0 := by
      simp only [moreF]
      cases hf : f.Ways with
      | nil => rw [hf] at hx; simp at hx
      | cons a r => rfl
    simp only [head0, this]
  rw [hh]
  simp only [flightB, Bool.and_eq_true, Bool.not_eq_true'] at h2
  obtain ⟨⟨⟨⟨⟨⟨⟨⟨h1, h3⟩, h4⟩, h5⟩, hl⟩, hr⟩, h6⟩, he⟩, ho⟩ := h2
  simp only [Bool.and_eq_true, Bool.not_eq_true', h1, h3, h4, h5, h6, true_and, and_true]
  simp only [List.any_append, hr, he, Bool.false_or, List.any_cons, List.any_nil, Bool.or_false]
  rw [onceB_iff, List.nodup_append]
  rw [onceB_iff] at ho
  simp [outB] at hl ⊢
  constructor
  · rintro ⟨⟨⟨a, b⟩, c⟩, d⟩
    refine ⟨⟨⟨⟨by omega, fun hm => d.2 w hm rfl⟩, by omega⟩, by omega⟩, c⟩
  · rintro ⟨⟨⟨⟨a, b⟩, c⟩, d⟩, e⟩
    exact ⟨⟨⟨by omega, by omega⟩, e⟩, ho, fun y hy e => b (e ▸ hy)⟩
end Go.Abs

namespace Go.Abs
open Go.RowKit Go.Proofs

def weightOf (t : Tables) (f : Flight) : Int := match t.Kinds[f.Class.toNat]? with | some k => k.Weight | none => 0
def minutesOf (o : Opt) : Int := if o.Cancel then 120 else o.Delay + o.Hold
/-- Delay, weight and error. -/
def delayF (t : Tables) (f : Flight) (o : Opt) : Int × Int × Int :=
  if checkF t f = 0 then if o ∈ measL t f then (minutesOf o, minutesOf o * weightOf t f, 0) else (0, 0, 150) else (0, 0, checkF t f)

theorem measO_mem {L : Int} {n : Nat} {c : Bool} (hL0 : 0 ≤ L) (hL : L ≤ 60) {o : Opt} (h : o ∈ measO L n c) : 0 ≤ o.Delay ∧ o.Delay ≤ 60 ∧ 0 ≤ o.Hold ∧ o.Hold ≤ 10 := by
  unfold measO at h
  rcases List.mem_append.1 h with h | h
  · obtain ⟨k, hk, rfl⟩ := List.mem_map.1 h
    have hk' := List.mem_range.1 hk
    have hB : 0 < 3 * n := by
      rcases Nat.eq_zero_or_pos n with h0 | h0
      · subst h0; simp at hk'
      · omega
    have h1 : k / (3 * n) < (L / 10 + 1).toNat := (Nat.div_lt_iff_lt_mul hB).2 hk'
    have h2 : k % 3 < 3 := Nat.mod_lt _ (by omega)
    simp only [optAt]
    omega
  · cases c
    · simp at h
    · simp at h; subst h; simp

theorem fl_Delay (t : Tables) (f : Flight) (o : Opt) : CallsPV Tryz.prog 87 [encTables t, encFlight f, encOpt o] (.tup [.int .i64 (delayF t f o).1, .int .i64 (delayF t f o).2.1, .int .i64 (delayF t f o).2.2]) := by
  have hmeas := fl_Measures t f
  obtain ⟨ck, hck⟩ : ∃ ck, ck = checkF t f := ⟨_, rfl⟩
  rw [← hck] at hmeas
  by_cases h0 : ck = 0
  · obtain ⟨k, hk, hc0, hL0, hL1, _, hW1, hW8, hw1, hw4⟩ := checkF_kind (hck ▸ h0)
    have hml : measuresF t f = measL t f := by rw [measuresF, if_pos (hck ▸ h0)]
    have hmO : measL t f = measO k.Longest f.Ways.length f.Cancel := by rw [measL, hk]
    have hwt : weightOf t f = k.Weight := by rw [weightOf, hk]
    have hin : o ∈ measL t f → 0 ≤ o.Delay ∧ o.Delay ≤ 60 ∧ 0 ≤ o.Hold ∧ o.Hold ≤ 10 := fun h => measO_mem hL0 hL1 (hmO ▸ h)
    have hcon := fun xs (hx : xs = encOpts (measL t f)) => contains_Opt o (measL t f) hx
    rw [hml, h0] at hmeas
    have hcf : checkF t f = 0 := hck ▸ h0
    have hD : delayF t f o = if o ∈ measL t f then (minutesOf o, minutesOf o * k.Weight, 0) else (0, 0, 150) := by rw [delayF, if_pos hcf, hwt]
    rw [hD]
    refine callsPV_by (clo := fun _ => false) (rows := false) env_ok Tryz.func87 rfl (enters_of Tryz.func87 (by kernel_rfl) rfl) (fun A q P Y hr hA hq => ?_)
    have hkl0 : f.Class.toNat < t.Kinds.length := (List.getElem?_eq_some_iff.1 hk).1
    obtain ⟨ss, hss⟩ : ∃ ss, ss = encSectors t.Sectors := ⟨_, rfl⟩
    obtain ⟨cs, hcs⟩ : ∃ cs, cs = encConfigs t.Configs := ⟨_, rfl⟩
    obtain ⟨ws, hws⟩ : ∃ ws, ws = encWays t.Ways := ⟨_, rfl⟩
    obtain ⟨ms, hms⟩ : ∃ ms, ms = encIntLs t.Modes := ⟨_, rfl⟩
    obtain ⟨ks, hks⟩ : ∃ ks, ks = encKinds t.Kinds := ⟨_, rfl⟩
    obtain ⟨nv, hnv⟩ : ∃ nv, nv = t.Volumes := ⟨_, rfl⟩
    have htab : encTables t = .agg [.int .i64 nv, .list 5 ss, .list 3 cs, .list 3 ws, .list 1 ms, .list 6 ks] := by rw [encTables_eq t hss hcs hws hms hks, hnv]
    rw [htab] at hmeas ⊢
    generalize measL t f = M at hmeas hcon hin hq
    clear hml hmO hwt hcf hD
    obtain ⟨xs, hxs⟩ : ∃ xs, xs = encOpts M := ⟨_, rfl⟩
    rw [← hxs] at hmeas
    have hco := hcon xs hxs
    obtain ⟨f1, f2, f3, f4, f5, ⟨f6, f7⟩, f8⟩ := f
    obtain ⟨fl, hfl⟩ : ∃ fl, fl = encInts f5 := ⟨_, rfl⟩
    rw [encFlight_eq _ hfl] at hmeas ⊢
    obtain ⟨o1, o2, o3, o4⟩ := o
    simp only at hmeas hco hk hkl0 hc0 hin hq ⊢
    clear hcon
    conv => cbv
    refine call_intro hA hmeas ?_
    conv => cbv
    split
    · rename_i h
      cases (neT hA h rfl)
    conv => cbv
    refine callB hA hco rfl (fun r hr => ?_)
    conv => cbv
    split
    · rename_i h
      have h' := notT hA h
      have hno : (⟨o1, o2, o3, o4⟩ : Opt) ∉ M := by rw [h'] at hr; exact of_decide_eq_false hr.symm
      rw [if_neg hno] at hq
      conv => cbv
      exact hq
    rename_i h
    have h' := notF hA h
    have hyes : (⟨o1, o2, o3, o4⟩ : Opt) ∈ M := by rw [h'] at hr; exact of_decide_eq_true hr.symm
    rw [if_pos hyes] at hq
    have hb := hin hyes
    have hadd : A.iAdd o1 o3 = o1 + o3 := addI hA _ _
    clear h
    conv => cbv
    refine ⟨inR' hA hadd (by unfold inI64; omega), ?_⟩
    obtain ⟨k1, k2, k3, k4, k5, k6⟩ := k
    simp only at hW1 hW8 hq
    cases o4 with
    | true =>
      have hm : A.iMul 120 k4 = 120 * k4 := mulI hA _ _
      conv => cbv
      refine ⟨draw_intro hA (by kernel_rfl), ?_⟩
      refine idx_Kind hA hks hc0 (by omega) (fun z v hz hv => ?_)
      obtain rfl := Option.some.inj (hk.symm.trans hz)
      conv => cbv
      refine ⟨inR' hA hm (by unfold inI64; omega), ?_⟩
      show PV.tup [_, .int .i64 (A.iMul 120 k4), _] = _
      rw [← hq, hm]
      rfl
    | false =>
      have hm : A.iMul (A.iAdd o1 o3) k4 = (o1 + o3) * k4 := by rw [mulI hA, hadd]
      have hu : (o1 + o3) * k4 ≤ 70 * 8 := Int.mul_le_mul (by omega) hW8 (by omega) (by omega)
      have hl : 0 ≤ (o1 + o3) * k4 := Int.mul_nonneg (by omega) (by omega)
      conv => cbv
      refine ⟨draw_intro hA (by kernel_rfl), ?_⟩
      refine idx_Kind hA hks hc0 (by omega) (fun z v hz hv => ?_)
      obtain rfl := Option.some.inj (hk.symm.trans hz)
      conv => cbv
      refine ⟨inR' hA hm (by unfold inI64; omega), ?_⟩
      show PV.tup [.int .i64 (A.iAdd o1 o3), .int .i64 (A.iMul (A.iAdd o1 o3) k4), _] = _
      rw [← hq, hm, hadd]
      rfl
  · have hD : delayF t f o = (0, 0, ck) := by rw [delayF, if_neg (hck ▸ h0), hck]
    have hml : measuresF t f = [] := by rw [measuresF, if_neg (hck ▸ h0)]
    rw [hml] at hmeas
    rw [hD]
    refine callsPV_by (clo := fun _ => false) (rows := false) env_ok Tryz.func87 rfl (enters_of Tryz.func87 (by kernel_rfl) rfl) (fun A q P Y hr hA hq => ?_)
    obtain ⟨ss, hss⟩ : ∃ ss, ss = encSectors t.Sectors := ⟨_, rfl⟩
    obtain ⟨cs, hcs⟩ : ∃ cs, cs = encConfigs t.Configs := ⟨_, rfl⟩
    obtain ⟨ws, hws⟩ : ∃ ws, ws = encWays t.Ways := ⟨_, rfl⟩
    obtain ⟨ms, hms⟩ : ∃ ms, ms = encIntLs t.Modes := ⟨_, rfl⟩
    obtain ⟨ks, hks⟩ : ∃ ks, ks = encKinds t.Kinds := ⟨_, rfl⟩
    obtain ⟨nv, hnv⟩ : ∃ nv, nv = t.Volumes := ⟨_, rfl⟩
    have htab : encTables t = .agg [.int .i64 nv, .list 5 ss, .list 3 cs, .list 3 ws, .list 1 ms, .list 6 ks] := by rw [encTables_eq t hss hcs hws hms hks, hnv]
    rw [htab] at hmeas ⊢
    obtain ⟨f1, f2, f3, f4, f5, ⟨f6, f7⟩, f8⟩ := f
    obtain ⟨fl, hfl⟩ : ∃ fl, fl = encInts f5 := ⟨_, rfl⟩
    rw [encFlight_eq _ hfl] at hmeas ⊢
    obtain ⟨o1, o2, o3, o4⟩ := o
    simp only at hmeas ⊢
    conv => cbv
    refine call_intro hA hmeas ?_
    conv => cbv
    split
    · conv => cbv
      exact hq
    · rename_i h
      exact absurd (neF hA h) h0
end Go.Abs

namespace Go.Abs

/-- The minutes that a length takes at a speed. -/
def minutesC (len speed : Int) : Int := (len + speed - 1).tdiv speed
def boundK (k : Kind) (len hold : Int) : Bound := ⟨minutesC len k.Fast + hold, minutesC len k.Slow + hold⟩
/-- The bounds of all legs; the last one with the minutes in the air. -/
def legsB (k : Kind) (hold : Int) (ls : List Leg) : List Bound := ls.mapIdx fun i x => boundK k x.Length (if i + 1 = ls.length then hold else 0)

theorem minutesC_spec {len speed : Int} (h0 : 1 ≤ len) (h1 : 1 ≤ speed) : 1 ≤ minutesC len speed ∧ minutesC len speed ≤ len ∧ len ≤ minutesC len speed * speed ∧ (minutesC len speed - 1) * speed < len := by
  unfold minutesC
  rw [Int.tdiv_eq_ediv_of_nonneg (by omega)]
  have e1 := Int.mul_ediv_add_emod (len + speed - 1) speed
  have e2 := Int.emod_nonneg (len + speed - 1) (show speed ≠ 0 by omega)
  have e3 := Int.emod_lt_of_pos (len + speed - 1) (show 0 < speed by omega)
  generalize hq : (len + speed - 1) / speed = q at e1 ⊢
  generalize (len + speed - 1) % speed = r at e1 e2 e3
  have e4 : (q - 1) * speed = speed * q - speed := by rw [Int.sub_mul, Int.mul_comm]; omega
  have e5 : q * speed = speed * q := Int.mul_comm _ _
  have hq1 : 1 ≤ q := by
    rw [← hq, Int.le_ediv_iff_mul_le (by omega)]; omega
  have hq2 : q ≤ len := by
    rw [← hq]
    refine Int.lt_add_one_iff.1 (Int.ediv_lt_of_lt_mul (by omega) ?_)
    have : (len + 1) * speed = len * speed + speed := by rw [Int.add_mul]; omega
    have h2 : len * 1 ≤ len * speed := Int.mul_le_mul_of_nonneg_left h1 (by omega)
    omega
  exact ⟨hq1, hq2, by omega, by omega⟩
theorem minutesC_le {len a b : Int} (h0 : 1 ≤ len) (ha : 1 ≤ a) (hab : a ≤ b) : minutesC len b ≤ minutesC len a := by
  have h1 := minutesC_spec h0 ha
  have h2 := minutesC_spec h0 (show 1 ≤ b by omega)
  rcases Int.lt_or_le (minutesC len a) (minutesC len b) with h | h
  · exfalso
    have h3 : minutesC len a * a ≤ minutesC len a * b := Int.mul_le_mul_of_nonneg_left hab (by omega)
    have h4 : minutesC len a * b ≤ (minutesC len b - 1) * b := Int.mul_le_mul_of_nonneg_right (by omega) (by omega)
    omega
  · exact h

theorem legsB_len (k : Kind) (hold : Int) (ls : List Leg) : (legsB k hold ls).length = ls.length := by simp [legsB]
theorem legsB_get {k : Kind} {hold : Int} {ls : List Leg} {i : Nat} {x : Leg} (h : ls[i]? = some x) : (legsB k hold ls)[i]? = some (boundK k x.Length (if i + 1 = ls.length then hold else 0)) := by
  unfold legsB
  rw [List.getElem?_mapIdx, h]; rfl
theorem lateB_len (d : Int) : ∀ (l : List Bound), (lateB d l).length = l.length
  | [] => rfl
  | [x] => rfl
  | x :: y :: r => by simp [lateB, lateB_len d (y :: r)]
theorem lateB_get (d : Int) : ∀ (l : List Bound) (i : Nat), (lateB d l)[i]? = l[i]?.map fun x => if i + 1 = l.length then ⟨x.Lo + d, x.Hi + d⟩ else x
  | [], i => by simp [lateB]
  | [x], i => by cases i <;> simp [lateB]
  | x :: y :: r, i => by
    cases i with
    | zero => simp [lateB]
    | succ i =>
      rw [lateB, List.getElem?_cons_succ, lateB_get d (y :: r) i, List.getElem?_cons_succ]
      simp
theorem legsB_late (k : Kind) (hold : Int) (ls : List Leg) : legsB k hold ls = lateB hold (legsB k 0 ls) := by
  refine List.ext_getElem? fun i => ?_
  rw [lateB_get, legsB_len]
  cases h : ls[i]? with
  | none =>
    have : ls.length ≤ i := List.getElem?_eq_none_iff.1 h
    rw [List.getElem?_eq_none (by rw [legsB_len]; exact this), List.getElem?_eq_none (by rw [legsB_len]; exact this)]; rfl
  | some x =>
    rw [legsB_get h, legsB_get h, Option.map_some]
    split <;> simp [boundK]

/-- What is asked of legs: as their tables' check asks it. -/
def legsOk (ls : List Leg) : Prop := 1 ≤ ls.length ∧ ls.length ≤ 8 ∧ ∀ x ∈ ls, 1 ≤ x.Length ∧ x.Length ≤ 4096
structure KindOk (k : Kind) : Prop where
  ok : kindOk k = true
  s1 : 1 ≤ k.Slow
  s2 : k.Slow ≤ k.Fast
  s3 : k.Fast ≤ 64
theorem kindOk_speeds {k : Kind} (h : kindOk k = true) : KindOk k := by
  have h' := h
  simp [kindOk, withinL] at h'
  exact ⟨h, by omega, by omega, by omega⟩
theorem bound_facts {k : Kind} (hk : KindOk k) {len hold : Int} (h0 : 1 ≤ len) (h1 : len ≤ 4096) (h2 : 0 ≤ hold) (h3 : hold ≤ 10) : 1 ≤ (boundK k len hold).Lo ∧ (boundK k len hold).Lo ≤ (boundK k len hold).Hi ∧ (boundK k len hold).Hi ≤ 4106 := by
  have a := minutesC_spec h0 hk.s1
  have b := minutesC_spec h0 (show 1 ≤ k.Fast by have := hk.s1; have := hk.s2; omega)
  have c := minutesC_le h0 hk.s1 hk.s2
  unfold boundK
  simp only
  omega
theorem legsB_facts {k : Kind} (hk : KindOk k) {hold : Int} {ls : List Leg} (hl : legsOk ls) (h2 : 0 ≤ hold) (h3 : hold ≤ 10) : ∀ b ∈ legsB k hold ls, 1 ≤ b.Lo ∧ b.Lo ≤ b.Hi ∧ b.Hi ≤ 4106 := by
  intro b hb
  obtain ⟨i, hi⟩ := List.getElem?_of_mem hb
  cases h : ls[i]? with
  | none =>
    have : ls.length ≤ i := List.getElem?_eq_none_iff.1 h
    rw [List.getElem?_eq_none (by rw [legsB_len]; exact this)] at hi
    cases hi
  | some x =>
    rw [legsB_get h] at hi
    obtain rfl := Option.some.inj hi
    obtain ⟨c1, c2⟩ := hl.2.2 x (List.mem_of_getElem? h)
    split
    · exact bound_facts hk c1 c2 h2 h3
    · exact bound_facts hk c1 c2 (Int.le_refl _) (by omega)

/-- The plan's way, first bounds and legs; what keeps it from being one. -/
def planE (t : Tables) (f : Flight) (o : Opt) : Int := if (delayF t f o).2.2 = 0 then if o.Cancel then 160 else 0 else (delayF t f o).2.2
def planW (f : Flight) (o : Opt) : Int := (f.Ways[o.Way.toNat]?).getD 0
def firstB (f : Flight) (o : Opt) : Bound := ⟨f.Window.From + o.Delay, f.Window.To - 1 + o.Delay⟩
def planL (t : Tables) (f : Flight) (o : Opt) : List Bound :=
  match t.Kinds[f.Class.toNat]?, t.Ways[(planW f o).toNat]? with
  | some k, some w => legsB k o.Hold w.Legs
  | _, _ => []

/-- What holds of a plan. -/
structure PlanOk (t : Tables) (f : Flight) (o : Opt) (k : Kind) (w : Way) : Prop where
  chk : checkF t f = 0
  del : (delayF t f o).2.2 = 0
  can : o.Cancel = false
  k0 : 0 ≤ f.Class
  hk : t.Kinds[f.Class.toNat]? = some k
  kok : KindOk k
  d0 : 0 ≤ o.Delay ∧ o.Delay ≤ 60 ∧ o.Delay ≤ k.Longest ∧ o.Delay.tmod 10 = 0
  w0 : 0 ≤ o.Way ∧ o.Way < f.Ways.length
  hw : f.Ways[o.Way.toNat]? = some (planW f o)
  p0 : 0 ≤ planW f o ∧ planW f o < t.Ways.length
  hl : t.Ways[(planW f o).toNat]? = some w
  lok : legsOk w.Legs
  h0 : 0 ≤ o.Hold ∧ o.Hold ≤ 10 ∧ o.Hold.tmod 5 = 0
  win : 0 ≤ f.Window.From ∧ f.Window.From < f.Window.To ∧ f.Window.To ≤ 1440 ∧ f.Window.To - f.Window.From ≤ 16
  leg : planL t f o = legsB k o.Hold w.Legs

theorem way_legs {t : Tables} (h : airOk t = true) {w : Way} (hw : w ∈ t.Ways) : legsOk w.Legs := by
  unfold airOk at h
  simp only [Bool.and_eq_true, List.all_eq_true] at h
  have := h.1.1.2 w hw
  simp only [wayOk, legOk, inB, Bool.and_eq_true, decide_eq_true_eq, List.all_eq_true] at this
  exact ⟨by omega, by omega, fun x hx => by have := this.2 x hx; omega⟩

theorem planE_plan {t : Tables} {f : Flight} {o : Opt} (h : planE t f o = 0) : ∃ k w, PlanOk t f o k w := by
  unfold planE at h
  split at h
  · rename_i hd
    split at h
    · cases h
    · rename_i hc
      have hc' : o.Cancel = false := by simpa using hc
      have hd' := hd
      unfold delayF at hd'
      split at hd'
      · rename_i hck
        split at hd'
        · rename_i hm
          obtain ⟨k, hk, hk0, hL0, hL1, _, _, _, hw1, hw4⟩ := checkF_kind hck
          have hm' := hm
          rw [measL, hk] at hm'
          rcases (measO_iff o).1 hm' with ⟨h1, _⟩ | ⟨_, h1, h2, h3, h4, h5, h6, h7, h8⟩
          · rw [hc'] at h1; cases h1
          obtain ⟨x, w0, hx0, _, _, _, _, hin⟩ := check_ways hck
          have hlt : o.Way.toNat < f.Ways.length := by omega
          have hw : f.Ways[o.Way.toNat]? = some (planW f o) := by
            unfold planW
            rw [List.getElem?_eq_getElem hlt]; rfl
          obtain ⟨p0, p1, v, hv, _⟩ := hin _ (List.mem_of_getElem? hw)
          obtain ⟨ha, hb⟩ := checkF_zero hck
          have hkok : KindOk k := by
            simp only [airOk, Bool.and_eq_true, List.all_eq_true, decide_eq_true_eq] at ha
            exact kindOk_speeds (ha.2 k (List.mem_of_getElem? hk)).1
          have hwin : 0 ≤ f.Window.From ∧ f.Window.From < f.Window.To ∧ f.Window.To ≤ 1440 ∧ f.Window.To - f.Window.From ≤ 16 := by
            simp only [flightB, Bool.and_eq_true, Bool.not_eq_true'] at hb
            obtain ⟨⟨⟨⟨⟨⟨⟨⟨_, _⟩, _⟩, _⟩, _⟩, _⟩, hw⟩, _⟩, _⟩ := hb
            simp at hw
            omega
          exact ⟨k, v, ⟨hck, hd, hc', hk0, hk, hkok, ⟨h1, by omega, h3, h2⟩, ⟨h4, h5⟩, hw, ⟨p0, p1⟩, hv, way_legs ha (List.mem_of_getElem? hv), ⟨h6, h8, h7⟩, hwin, by rw [planL, hk, hv]⟩⟩
        · cases hd'
      · rename_i hne
        exact absurd hd' hne
  · rename_i hne
    exact absurd h hne

theorem PlanOk.bounds {t : Tables} {f : Flight} {o : Opt} {k : Kind} {w : Way} (h : PlanOk t f o k w) : (∀ b ∈ planL t f o, 1 ≤ b.Lo ∧ b.Lo ≤ b.Hi ∧ b.Hi ≤ 4106) ∧ (planL t f o).length = w.Legs.length ∧ 1 ≤ (planL t f o).length ∧ (planL t f o).length ≤ 8 := by
  have h1 := h.leg
  have h2 := h.lok
  refine ⟨fun b hb => legsB_facts h.kok h2 h.h0.1 h.h0.2.1 b (h1 ▸ hb), ?_, ?_, ?_⟩
  · rw [h1, legsB_len]
  · rw [h1, legsB_len]; exact h2.1
  · rw [h1, legsB_len]; exact h2.2.1
theorem PlanOk.first {t : Tables} {f : Flight} {o : Opt} {k : Kind} {w : Way} (h : PlanOk t f o k w) : 0 ≤ (firstB f o).Lo ∧ (firstB f o).Lo ≤ (firstB f o).Hi ∧ (firstB f o).Hi ≤ 1499 ∧ (firstB f o).Hi - (firstB f o).Lo + 1 = f.Window.To - f.Window.From ∧ widthB (firstB f o) ≤ 16 := by
  have := h.d0
  have := h.win
  unfold widthB firstB
  simp only
  omega

/-- How many trajectories there are; what keeps them from being counted. -/
def manyT (t : Tables) (f : Flight) (o : Opt) : Nat := prodB (firstB f o :: planL t f o)
def countE (t : Tables) (f : Flight) (o : Opt) : Int := if planE t f o = 0 then if manyT t f o ≤ 4096 then 0 else 160 else planE t f o
def countN (t : Tables) (f : Flight) (o : Opt) : Int := if countE t f o = 0 then manyT t f o else 0
/-- All times; all paths. -/
def allT (t : Tables) (f : Flight) (o : Opt) : List (List Int) := extL 0 (firstB f o :: planL t f o)
def allP (t : Tables) (f : Flight) (o : Opt) : List Path := if countE t f o = 0 then (allT t f o).map fun ts => ⟨planW f o, ts⟩ else []
def boundsB (t : Tables) (f : Flight) (o : Opt) : List Bound := if planE t f o = 0 then sumT ⟨0, 0⟩ (firstB f o :: planL t f o) else []
open Classical in
noncomputable def fliesB (t : Tables) (f : Flight) (o : Opt) (p : Path) : Bool := decide (planE t f o = 0 ∧ p.Way = planW f o ∧ fliesT 0 (firstB f o :: planL t f o) p.Times)
theorem countE_plan {t : Tables} {f : Flight} {o : Opt} (h : countE t f o = 0) : planE t f o = 0 ∧ manyT t f o ≤ 4096 := by
  unfold countE at h
  split at h
  · rename_i h1
    split at h
    · exact ⟨h1, ‹_›⟩
    · cases h
  · exact absurd h ‹_›
theorem allT_len (t : Tables) (f : Flight) (o : Opt) : (allT t f o).length = manyT t f o := extL_len _ _
end Go.Abs
