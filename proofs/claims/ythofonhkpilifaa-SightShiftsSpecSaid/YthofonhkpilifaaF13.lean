/-
  Functions: occupancy.Stays, sight.stays, sight.Sees.
-/
import Derived.Test.YthofonhkpilifaaF12
namespace Go.Abs
open Go.RowKit Go.Proofs

/-- The stays on a path of valid tables. -/
def staysP (t : Tables) (p : Path) : List Stay :=
  match (if 0 ≤ p.Way then t.Ways[p.Way.toNat]? else none) with
  | none => []
  | some w => staysOf w p.Times
def stErr1 (t : Tables) (p : Path) : Int := if airOk t then (if pathOk t.Ways p then 0 else 160) else 140
def stRes1 (t : Tables) (p : Path) : PV := if stErr1 t p = 0 then .list 4 (encStays (staysP t p)) else .list 0 []

theorem timesFrom_mem : ∀ (l : List Int) (p : Int), timesFrom p l = true → ∀ m ∈ l, 0 ≤ m ∧ m ≤ 65535
  | [], _, _, m, hm => by cases hm
  | x :: r, p, h, m, hm => by
    simp only [timesFrom, Bool.and_eq_true, decide_eq_true_eq] at h
    rcases List.mem_cons.1 hm with rfl | hm
    · omega
    · exact timesFrom_mem r x h.2 m hm

theorem pathOk_way {t : Tables} {p : Path} (h : pathOk t.Ways p = true) : ∃ w, 0 ≤ p.Way ∧ t.Ways[p.Way.toNat]? = some w ∧ p.Times.length = w.Legs.length + 1 ∧ (∀ m ∈ p.Times, 0 ≤ m ∧ m ≤ 65535) ∧ staysP t p = staysOf w p.Times := by
  unfold pathOk at h
  split at h
  · cases h
  · rename_i w hw
    split at hw
    · rename_i h0
      simp only [Bool.and_eq_true, decide_eq_true_eq] at h
      exact ⟨w, h0, hw, h.1, timesFrom_mem _ _ h.2, by unfold staysP; rw [if_pos h0, hw]⟩
    · cases hw

theorem occ_Stays (t : Tables) (p : Path) : CallsPV Try.prog 38 [encTables t, encPath p] (.tup [stRes1 t p, .int .i64 (stErr1 t p)]) := by
  refine callsPV_by (clo := fun _ => false) (rows := false) env_ok Try.func38 rfl (enters_of Try.func38 (by kernel_rfl) rfl) (fun A q P Y hr hA hq => ?_)
  have h1 := air_Check t
  have h2 : airOk t = true → CallsPV Try.prog 45 [encTables t, encPath p] (.int .i64 (if pathOk t.Ways p then 0 else 160)) := fun h => occ_check t h p
  have h3 : airOk t = true → pathOk t.Ways p = true → CallsPV Try.prog 46 [encTables t, encPath p] (.list 4 (encStays (staysP t p))) := fun ha h => by
    obtain ⟨w, a1, a2, a3, a4, a5⟩ := pathOk_way h
    rw [a5]
    exact occ_stays t p w a1 a2 a3 (air_legs ha (List.mem_of_getElem? a2)).1 (fun m hm => by have := a4 m hm; unfold inI64; omega)
  have e0 : stErr1 t p = if airOk t then (if pathOk t.Ways p then 0 else 160) else 140 := rfl
  have e1 : stRes1 t p = if stErr1 t p = 0 then .list 4 (encStays (staysP t p)) else .list 0 [] := rfl
  rw [e1, e0] at hq
  generalize encStays (staysP t p) = L at h3 hq
  generalize airOk t = b1 at h1 h2 h3 hq
  generalize pathOk t.Ways p = b2 at h2 h3 hq
  obtain ⟨ss, hss⟩ : ∃ ss, ss = encSectors t.Sectors := ⟨_, rfl⟩
  obtain ⟨cs, hcs⟩ : ∃ cs, cs = encConfigs t.Configs := ⟨_, rfl⟩
  obtain ⟨ws, hws⟩ : ∃ ws, ws = encWays t.Ways := ⟨_, rfl⟩
  obtain ⟨ms, hms⟩ : ∃ ms, ms = encIntLs t.Modes := ⟨_, rfl⟩
  obtain ⟨ks, hks⟩ : ∃ ks, ks = encKinds t.Kinds := ⟨_, rfl⟩
  obtain ⟨ts, hts⟩ : ∃ ts, ts = encInts p.Times := ⟨_, rfl⟩
  rw [encTables_eq t hss hcs hws hms hks] at h1 h2 h3 ⊢
  rw [encPath_eq p hts] at h2 h3 ⊢
  have hne : A.bNot (A.iEq 140 0) = true := by subst hA; rfl
  have hne2 : A.bNot (A.iEq 160 0) = true := by subst hA; rfl
  have heq : A.bNot (A.iEq 0 0) = false := by subst hA; rfl
  obtain ⟨nv, hnv⟩ : ∃ nv, nv = t.Volumes := ⟨_, rfl⟩
  obtain ⟨way, hway⟩ : ∃ way, way = p.Way := ⟨_, rfl⟩
  rw [← hnv] at h1 h2 h3 ⊢
  rw [← hway] at h2 h3 ⊢
  conv => cbv
  cases b1 with
  | false =>
    refine call_intro hA h1 ?_
    conv => cbv
    split
    · conv => cbv
      rw [← hq]; rfl
    · rename_i hc
      have hf : False := absurd (show A.bNot (A.iEq 140 0) = false from hc) (by rw [hne]; simp); cases hf
  | true =>
    refine call_intro hA h1 ?_
    conv => cbv
    split
    · rename_i hc
      have hf : False := absurd (show A.bNot (A.iEq 0 0) = true from hc) (by rw [heq]; simp); cases hf
    conv => cbv
    cases b2 with
    | false =>
      refine call_intro hA (h2 rfl) ?_
      conv => cbv
      split
      · conv => cbv
        rw [← hq]; rfl
      · rename_i hc
        have hf : False := absurd (show A.bNot (A.iEq 160 0) = false from hc) (by rw [hne2]; simp); cases hf
    | true =>
      refine call_intro hA (h2 rfl) ?_
      conv => cbv
      split
      · rename_i hc
        have hf : False := absurd (show A.bNot (A.iEq 0 0) = true from hc) (by rw [heq]; simp); cases hf
      conv => cbv
      refine call_intro hA (h3 rfl rfl) ?_
      conv => cbv
      rw [← hq]; rfl

/-- The stays on some paths; what is wrong with them. -/
def stL (t : Tables) (l : List Path) : List Stay := l.flatMap (staysP t)
def stErr (t : Tables) : List Path → Int
  | [] => 0
  | p :: r => if stErr1 t p = 0 then stErr t r else stErr1 t p
def stRes (t : Tables) (l : List Path) : PV := if stErr t l = 0 then .list 4 (encStays (stL t l)) else .list 0 []

theorem stErr_append (t : Tables) : ∀ (l m : List Path), stErr t l = 0 → stErr t (l ++ m) = stErr t m
  | [], m, _ => rfl
  | p :: r, m, h => by
    simp only [stErr, List.cons_append] at h ⊢
    split at h
    · rename_i h0; rw [if_pos h0]; exact stErr_append t r m h
    · rename_i h0; exact absurd h h0

theorem legStays_le : ∀ (ls : List Leg) (ts : List Int), (legStays ls ts).length ≤ ls.length
  | [], _ => by simp [legStays]
  | _ :: _, [] => by simp [legStays]
  | _ :: _, [_] => by simp [legStays]
  | y :: r, u :: v :: ts => by simp only [legStays, List.length_cons]; have := legStays_le r (v :: ts); omega

theorem staysP_len {t : Tables} {p : Path} (h : stErr1 t p = 0) : (staysP t p).length ≤ 10 := by
  unfold stErr1 at h
  split at h
  · rename_i ha
    split at h
    · rename_i hp
      obtain ⟨w, a1, a2, a3, a4, a5⟩ := pathOk_way hp
      rw [a5]
      have := (air_legs ha (List.mem_of_getElem? a2)).1
      have := legStays_le w.Legs p.Times
      simp [staysOf]; omega
    · cases h
  · cases h

theorem sight_stays (t : Tables) (l : List Path) (hl : l.length ≤ 1000) {xs : List PV} (hx : xs = encPaths l) : CallsPV Try.prog 23 [encTables t, .list 2 xs] (.tup [stRes t l, .int .i64 (stErr t l)]) := by
  refine callsPV_by (clo := fun _ => false) (rows := false) env_ok Try.func23 rfl (enters_of Try.func23 (by kernel_rfl) rfl) (fun A q P Y hr hA hq => ?_)
  have hll : A.lLen xs = l.length := by subst hA; show (xs.length : Int) = _; rw [hx]; simp [encPaths]
  have hcall := occ_Stays t
  obtain ⟨ss, hss⟩ : ∃ ss, ss = encSectors t.Sectors := ⟨_, rfl⟩
  obtain ⟨cs, hcs⟩ : ∃ cs, cs = encConfigs t.Configs := ⟨_, rfl⟩
  obtain ⟨ws, hws⟩ : ∃ ws, ws = encWays t.Ways := ⟨_, rfl⟩
  obtain ⟨ms, hms⟩ : ∃ ms, ms = encIntLs t.Modes := ⟨_, rfl⟩
  obtain ⟨ks, hks⟩ : ∃ ks, ks = encKinds t.Kinds := ⟨_, rfl⟩
  rw [encTables_eq t hss hcs hws hms hks] at hcall ⊢
  obtain ⟨nv, hnv⟩ : ∃ nv, nv = t.Volumes := ⟨_, rfl⟩
  rw [← hnv] at hcall ⊢
  conv => cbv
  refine loop_set hA (fun (z : Int × List PV) s => { (s.put (some 12) (.val (.int .i64 z.1))).put (some 4) (.own 0 4 z.2) with tk := [(A.nLen z.2, 101)] })
    (fun z => 0 ≤ z.1 ∧ z.1 ≤ l.length ∧ stErr t (l.take z.1.toNat) = 0 ∧ z.2 = encStays (stL t (l.take z.1.toNat)) ∧ z.2.length ≤ 10 * z.1.toNat) (fun z => (l.length - z.1).toNat) (0, []) ?_ ?_ ?_
  · conv => cbv
    exact wk_own 4 0 4 [] _ rfl (.inr rfl) (by simp [leL, leS]) (by subst hA; rfl)
  · exact ⟨Int.le_refl _, by omega, rfl, rfl, by simp⟩
  · rintro R ⟨i, L⟩ ⟨hi0, hi1, he, hL, hLl⟩ hR
    simp only at hi0 hi1 he hL hLl
    conv => cbv
    split
    · rename_i hc
      have hc' : i < l.length := by
        have h' : A.iLt i (A.lLen xs) = true := hc
        rw [hll] at h'; subst hA; simpa [stdOps] using h'
      conv => cbv
      refine idx_Path hA hx hi0 hc' (fun p ts hp hts => ?_)
      have htake := take_snoc' hi0 hp
      have hcp := hcall p
      rw [encPath_eq p hts] at hcp
      have hi1' : A.iAdd i 1 = i + 1 := by subst hA; rfl
      have hbad : stErr1 t p ≠ 0 → stErr t l = stErr1 t p := by
        intro h
        have e : l = l.take i.toNat ++ (p :: l.drop (i.toNat + 1)) := by
          have h1 := List.getElem?_eq_some_iff.1 hp
          rw [← h1.2, List.getElem_cons_drop h1.1, List.take_append_drop]
        rw [e, stErr_append t _ _ he, stErr, if_neg h]
      have hgood : stErr1 t p = 0 → stErr t (l.take (i + 1).toNat) = 0 ∧ stL t (l.take (i + 1).toNat) = stL t (l.take i.toNat) ++ staysP t p := by
        intro h
        rw [htake, stErr_append t _ _ he]
        exact ⟨by simp [stErr, h], by simp [stL]⟩
      have hinr : A.inR (A.iAdd i 1) := by rw [hi1']; subst hA; show inI64 (i + 1); unfold inI64; omega
      have hlp := fun h => staysP_len (t := t) (p := p) h
      obtain ⟨e, hee⟩ : ∃ e, e = stErr1 t p := ⟨_, rfl⟩
      obtain ⟨M, hM⟩ : ∃ M, M = encStays (staysP t p) := ⟨_, rfl⟩
      have hMl : M.length = (staysP t p).length := by rw [hM]; simp [encStays]
      unfold stRes1 at hcp
      rw [← hee, ← hM] at hcp
      rw [← hee] at hbad hgood hlp
      obtain ⟨way, T⟩ := p
      simp only at hcp hts
      conv => cbv
      by_cases h0 : e = 0
      · rw [if_pos h0, h0] at hcp
        obtain ⟨g1, g2⟩ := hgood h0
        have hml := hlp h0
        have hnext : A.lApp L M = encStays (stL t (l.take (i + 1).toNat)) := by
          rw [g2]; subst hA hL hM; show encStays _ ++ encStays _ = _; simp [encStays]
        have hnl : (A.lApp L M).length ≤ 10 * (i + 1).toNat := by
          subst hA; show (L ++ M).length ≤ _; rw [List.length_append]; omega
        have hroom : A.room (A.nLen (A.lApp L M)) 32 := by
          have : A.nLen (A.lApp L M) = (A.lApp L M).length := by subst hA; rfl
          rw [this]
          subst hA
          show (L ++ M).length * (32 + 1) ≤ 140737488355328
          have hq : (L ++ M).length ≤ 10 * (i + 1).toNat := hnl
          have : (i + 1).toNat ≤ 1000 := by omega
          have : (L ++ M).length ≤ 10000 := by omega
          omega
        have htk : A.tkEq (A.nLen L) (A.nLen L) := by subst hA; rfl
        have heq : A.bNot (A.iEq 0 0) = false := by subst hA; rfl
        refine call_intro hA hcp ?_
        conv => cbv
        split
        · rename_i hc
          have hf : False := absurd (show A.bNot (A.iEq 0 0) = true from hc) (by rw [heq]; simp); cases hf
        conv => cbv
        refine ⟨⟨htk, hroom⟩, hinr, hR (A.iAdd i 1, A.lApp L M) _ ?_ ?_ ?_⟩
        · (conv => cbv)
          exact wk_round (bx := [_]) (bx' := [_]) (mp := []) (mp' := []) (by simp [leL, leS]) (by simp) (by simp) rfl rfl
        · rw [hi1']; exact ⟨by omega, by omega, g1, hnext, hnl⟩
        · rw [hi1']; simp only; omega
      · rw [if_neg h0] at hcp
        refine call_intro hA hcp ?_
        conv => cbv
        split
        · conv => cbv
          unfold stRes at hq
          rw [hbad h0, if_neg h0] at hq
          rw [← hq]
        · rename_i hc
          have : e = 0 := by
            have h' : A.bNot (A.iEq e 0) = false := hc
            subst hA; simpa [stdOps] using h'
          exact absurd this h0
    · rename_i hc
      have hc' : ¬ i < l.length := by
        have h' : A.iLt i (A.lLen xs) = false := hc
        rw [hll] at h'; subst hA; simp [stdOps] at h'; omega
      conv => cbv
      rw [List.take_of_length_le (by omega)] at he hL
      unfold stRes at hq
      rw [he, if_pos rfl, ← hL] at hq
      rw [← hq]

def seesErr (t : Tables) (r : Report) (shift : Int) (l : List Path) : Int := if isShiftB shift && isMinuteB r.Minute then stErr t l else 230
def seesB (t : Tables) (r : Report) (shift : Int) (l : List Path) : Bool := if seesErr t r shift l = 0 then rightB r shift (stL t l) else false

theorem sight_Sees (t : Tables) (r : Report) (shift : Int) (l : List Path) (hl : l.length ≤ 1000) {xs : List PV} (hx : xs = encPaths l) : CallsPV Try.prog 11 [encTables t, encReport r, .int .i64 shift, .list 2 xs] (.tup [.bool (seesB t r shift l), .int .i64 (seesErr t r shift l)]) := by
  refine callsPV_by (clo := fun _ => false) (rows := false) env_ok Try.func11 rfl (enters_of Try.func11 (by kernel_rfl) rfl) (fun A q P Y hr hA hq => ?_)
  have hcall := sight_stays t l hl hx
  have hright : isShiftB shift = true → isMinuteB r.Minute = true → ∀ L, L = encStays (stL t l) → CallsPV Try.prog 24 [encReport r, .int .i64 shift, .list 4 L] (.bool (rightB r shift (stL t l))) := fun h1 h2 L hL => by
    simp only [isShiftB, isMinuteB, inB, Bool.and_eq_true, decide_eq_true_eq] at h1 h2
    exact sight_right r shift (by unfold inI64; omega) _ hL
  obtain ⟨L, hL⟩ : ∃ L, L = encStays (stL t l) := ⟨_, rfl⟩
  have hright := fun a b => hright a b L hL
  have hs : seesErr t r shift l = if isShiftB shift && isMinuteB r.Minute then stErr t l else 230 := rfl
  have hb : seesB t r shift l = if seesErr t r shift l = 0 then rightB r shift (stL t l) else false := rfl
  rw [hb, hs] at hq
  unfold stRes at hcall
  rw [← hL] at hcall
  generalize stErr t l = e at hcall hq
  generalize rightB r shift (stL t l) = rb at hright hq
  obtain ⟨ss, hss⟩ : ∃ ss, ss = encSectors t.Sectors := ⟨_, rfl⟩
  obtain ⟨cs, hcs⟩ : ∃ cs, cs = encConfigs t.Configs := ⟨_, rfl⟩
  obtain ⟨ws, hws⟩ : ∃ ws, ws = encWays t.Ways := ⟨_, rfl⟩
  obtain ⟨ms, hms⟩ : ∃ ms, ms = encIntLs t.Modes := ⟨_, rfl⟩
  obtain ⟨ks, hks⟩ : ∃ ks, ks = encKinds t.Kinds := ⟨_, rfl⟩
  rw [encTables_eq t hss hcs hws hms hks] at hcall ⊢
  obtain ⟨nv, hnv⟩ : ∃ nv, nv = t.Volumes := ⟨_, rfl⟩
  rw [← hnv] at hcall ⊢
  obtain ⟨r1, r2, r3, r4, r5, r6⟩ := r
  simp only at hq hright
  conv => cbv
  refine callB hA (sight_isShift shift) rfl (fun b1 hb1 => ?_)
  rw [← hb1] at hq hright
  conv => cbv
  cases b1 with
  | false =>
    split
    · conv => cbv
      rw [← hq]; rfl
    · rename_i hc
      have : A.bNot false = true := by subst hA; rfl
      have hf : False := absurd (show A.bNot false = false from hc) (by rw [this]; simp); cases hf
  | true =>
    split
    · rename_i hc
      have : A.bNot true = false := by subst hA; rfl
      have hf : False := absurd (show A.bNot true = true from hc) (by rw [this]; simp); cases hf
    conv => cbv
    refine callB hA (sight_isMinute r3) rfl (fun b2 hb2 => ?_)
    rw [← hb2] at hq hright
    conv => cbv
    cases b2 with
    | false =>
      split
      · conv => cbv
        rw [← hq]; rfl
      · rename_i hc
        have : A.bNot false = true := by subst hA; rfl
        have hf : False := absurd (show A.bNot false = false from hc) (by rw [this]; simp); cases hf
    | true =>
      split
      · rename_i hc
        have : A.bNot true = false := by subst hA; rfl
        have hf : False := absurd (show A.bNot true = true from hc) (by rw [this]; simp); cases hf
      conv => cbv
      simp only [Bool.and_self, if_true] at hq
      by_cases h0 : e = 0
      · rw [if_pos h0, h0] at hcall
        rw [if_pos h0, h0] at hq
        have heq : A.bNot (A.iEq 0 0) = false := by subst hA; rfl
        refine call_intro hA hcall ?_
        conv => cbv
        split
        · rename_i hc
          have hf : False := absurd (show A.bNot (A.iEq 0 0) = true from hc) (by rw [heq]; simp); cases hf
        conv => cbv
        refine callB hA (hright rfl rfl) rfl (fun b3 hb3 => ?_)
        conv => cbv
        rw [← hq, hb3]
      · rw [if_neg h0] at hcall hq
        refine call_intro hA hcall ?_
        conv => cbv
        split
        · conv => cbv
          rw [← hq]
        · rename_i hc
          have : e = 0 := by
            have h' : A.bNot (A.iEq e 0) = false := hc
            subst hA; simpa [stdOps] using h'
          exact absurd this h0
end Go.Abs
