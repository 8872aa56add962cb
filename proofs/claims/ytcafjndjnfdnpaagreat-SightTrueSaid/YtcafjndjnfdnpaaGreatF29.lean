/-
  trajectory's times: a closure that calls itself and hands on.
-/
import Derived.Test.YtcafjndjnfdnpaaGreatF24
import Derived.Test.YtcafjndjnfdnpaaGreatC1
import Derived.Test.YtcafjndjnfdnpaaGreatD1
set_option linter.unusedVariables false
set_option linter.unusedSimpArgs false
namespace Go.Abs
open Go.RowKit Go.Proofs

/-- All lists of times that begin as one does. -/
def extT (first : Bound) (legs : List Bound) (ts : List Int) : List (List Int) := (extL (ts.getLastD 0) ((first :: legs).drop ts.length)).map (ts ++ ·)

theorem flatMap_get {α β : Type} {F : α → List β} {c : Nat} : ∀ {l : List α}, (∀ y ∈ l, (F y).length = c) → ∀ {i j : Nat} {x : α}, l[i]? = some x → j < c → (l.flatMap F)[i * c + j]? = (F x)[j]?
  | [], _, i, j, x, h, _ => by simp at h
  | y :: r, hc, i, j, x, h, hj => by
    have hy := hc y (by simp)
    rw [List.flatMap_cons]
    cases i with
    | zero =>
      simp at h; subst h
      rw [Nat.zero_mul, Nat.zero_add, List.getElem?_append_left (by omega)]
    | succ i =>
      rw [List.getElem?_append_right (by rw [hy, Nat.succ_mul]; omega), hy, show (i + 1) * c + j - c = i * c + j by rw [Nat.succ_mul]; omega]
      exact flatMap_get (fun z hz => hc z (by simp [hz])) (by simpa using h) hj

theorem extT_step {first : Bound} {legs : List Bound} {ts : List Int} {b : Bound} (hb : (first :: legs)[ts.length]? = some b) :
    extT first legs ts = (rangeL (ts.getLastD 0 + b.Lo) (ts.getLastD 0 + b.Hi)).flatMap fun t => extT first legs (ts ++ [t]) := by
  have hlt := (List.getElem?_eq_some_iff.1 hb).1
  have hd : (first :: legs).drop ts.length = b :: (first :: legs).drop (ts.length + 1) := by
    rw [List.drop_eq_getElem_cons hlt, (List.getElem?_eq_some_iff.1 hb).2]
  unfold extT
  rw [hd]
  simp only [extL, List.map_flatMap, List.map_map]
  congr 1
  funext t
  rw [List.length_append, List.length_singleton, show (ts ++ [t]).getLastD 0 = t by simp]
  simp [Function.comp_def]
theorem extT_len (first : Bound) (legs : List Bound) (ts : List Int) : (extT first legs ts).length = prodB ((first :: legs).drop ts.length) := by
  unfold extT; rw [List.length_map, extL_len]
theorem extT_end {first : Bound} {legs : List Bound} {ts : List Int} (h : ts.length = legs.length + 1) : extT first legs ts = [ts] := by
  unfold extT
  rw [List.drop_eq_nil_of_le (by simp; omega)]
  simp [extL]
theorem extT_nil (first : Bound) (legs : List Bound) : extT first legs [] = extL 0 (first :: legs) := by simp [extT]

/-- A region at the head of a block that is gone through in each order, what comes behind it once for all outcomes. -/
theorem skip_eachB {A : Ops} {E : Env} {id b : Nat} {ops : Array Oper} {c d : Code} {nb : Nat × Nat} {st : St} {Q Q0 : AX → St → Prop} {α β γ : Type} (P : α → β → γ → Prop) (st1 : α → β → γ → St) (hQ : ∀ s, Q .normal s = wpC' A E (.seq (.block b (.seq (.region id ops true) c)) d) nb s Q0)
    (hm : drawMode E true id ops.size = .each) (h1 : ∀ K : St → Prop, (∀ x y z, P x y z → K (st1 x y z)) → wpAll' A E ops ops.size (Array.replicate ops.size false) st K)
    (h2 : ∀ x y z, P x y z → wpC' A E c nb (st1 x y z) fun e st' => match e with | .normal => wpC' A E d nb st' Q0 | .exit i => if i = b then wpC' A E d nb st' Q0 else Q0 (.exit i) st' | .ret => Q0 .ret st') : wpC' A E .skip nb st Q := by
  unfold wpC'
  rw [hQ]
  unfold wpC'
  unfold wpC'
  unfold wpC'
  unfold wpC'
  rw [hm]
  refine h1 _ fun x y z hp => ?_
  have h := h2 x y z hp
  exact h

/-- A slot without what leads to variables. -/
def plainS : SV → SV
  | .val p => .val p
  | _ => .val .any
theorem plainS_le : ∀ (l : List SV), leL l (l.map plainS)
  | [] => trivial
  | s :: r => by
    cases s <;> first | exact leL_same (plainS_le r) | exact leL_any (plainS_le r)
theorem plainS_within (n m k : Nat) (l : List SV) : (l.map plainS).all (SV.within n m k) = true := by
  rw [List.all_map, List.all_eq_true]
  intro s _
  cases s <;> rfl
/-- Where a function ends: its own variables are let go. -/
theorem wk_ret {nb : Nat × Nat} {sl : List SV} {bx bx' : List (Option (List SV))} {tk : List (Nat × TypeId)} {mp : List MapC} {yk : Nat} (hnb : nb.1 ≤ bx.length)
    (h2 : bx.all (fun o => match o with | none => true | some cs => cs.all (SV.within bx.length mp.length tk.length)) = true) : Wk nb ⟨sl, bx ++ bx', tk, ⟨mp, yk⟩⟩ ⟨sl.map plainS, bx, tk, ⟨mp, yk⟩⟩ := by
  have := wk_round (nb := nb) (bx' := bx') (mp' := []) (yk := yk) (plainS_le sl) hnb (.inl rfl) (plainS_within bx.length mp.length tk.length sl) h2
  rw [List.append_nil] at this
  exact this

def cloG (n : Nat) : Bool := n == 134 || n == 1000010 || n == 1000006 || n == 5000000 + 106 || n == 8000000
def bxG (pc : List PV) (l : Nat) : List (Option (List SV)) := [some [.val (.yld l)], some [.clo 134 [.pv (.ptr pc 0), .box 0 0, .box 1 0]]]

def growQ (pc : List PV) (l : Nat) (tk : List (Nat × TypeId)) (y1 y2 : Nat) (r : SV) (bx' : List (Option (List SV))) (tk' : List (Nat × TypeId)) (ax' : Ax) : Prop :=
  bx' = bxG pc l ∧ (∃ ex, tk' = tk ++ ex) ∧ ((r = .val (.bool true) ∧ ax' = ⟨[], y1⟩) ∨ (r = .val (.bool false) ∧ ax' = ⟨[], y2⟩))

set_option maxHeartbeats 8000000 in
theorem grow_spec (Y : YS) (hE : EnvOk ⟨Tryz.prog, tab, cloG, false, Y⟩) (hYa : Y.any = false) (way : Int) (first : Bound) (legs : List Bound) (hb : ∀ b ∈ first :: legs, -10000 ≤ b.Lo ∧ b.Lo ≤ b.Hi ∧ b.Hi ≤ 10000) (hl : legs.length ≤ 100) {bl : List PV} (hbl : bl = encBounds legs) :
    ∀ (d : Nat) (ts : List Int), ts.length + d = legs.length + 1 → (-10000 * (ts.length : Int) ≤ ts.getLastD 0 ∧ ts.getLastD 0 ≤ 10000 * (ts.length : Int)) → ∀ (yk : Nat) (tk : List (Nat × TypeId)) (m : Nat), (m = 1 ∨ ts = []) →
      (∀ (j : Nat) (x : List Int), (extT first legs ts)[j]? = some x → Y.ys[yk + j]? = some [.list 1 (encInts x)]) →
      CallsR ⟨Tryz.prog, tab, cloG, false, Y⟩ 134 [.val (.list m (encInts ts)), .val (.ptr [.int .i64 way, .int .i64 first.Lo, .int .i64 first.Hi, .list 2 bl] 0), .box 0 0, .box 1 0]
        (bxG [.int .i64 way, .int .i64 first.Lo, .int .i64 first.Hi, .list 2 bl] Y.l) tk ⟨[], yk⟩
        (growQ [.int .i64 way, .int .i64 first.Lo, .int .i64 first.Hi, .list 2 bl] Y.l tk (yk + (extT first legs ts).length) (Y.ys.length + 1)) := by
  have hbll : bl.length = legs.length := by rw [hbl]; simp [encBounds]
  obtain ⟨b1, b2⟩ := first
  simp only
  intro d
  induction d with
  | zero =>
    intro ts hts hlast yk tk m hm hys
    have hm1 : m = 1 := by
      rcases hm with h | h
      · exact h
      · rw [h] at hts; simp at hts
    subst hm1
    rw [extT_end (by omega)] at hys ⊢
    have hy0 := hys 0 ts rfl
    rw [Nat.add_zero] at hy0
    refine callsR_by (clo := cloG) (rows := false) hE Tryz.func134 rfl (enters_of Tryz.func134 (by kernel_rfl) rfl) (by intro h; simp [bxG] at h) (fun A P' Y' nb R hA hnb hR => ?_)
    obtain ⟨xs, hxs⟩ : ∃ xs, xs = encInts ts := ⟨_, rfl⟩
    have hxl : xs.length = ts.length := by rw [hxs]; simp [encInts]
    rw [← hxs] at hy0 ⊢
    have e1 : A.iAdd (A.lLen bl) 1 = (legs.length : Int) + 1 := by rw [addI hA, lenI hA hbll]
    have e2 : A.lLen xs = (ts.length : Int) := lenI hA hxl
    conv => cbv
    refine ⟨inR' hA e1 (by unfold inI64; omega), ?_⟩
    split
    rotate_left
    · rename_i hc
      cases ((show False by have := eqF' hA e2 e1 hc; omega))
    conv => cbv
    refine yld_intro' hA rfl ⟨rfl, hYa⟩ hy0 ?_ (fun n' hn' => ?_)
    · conv => cbv
      exact hR _ ⟨_, _, Wk.refl _, .inr (.inl ⟨5, rfl, rfl⟩), rfl, ⟨[], by simp⟩, .inl ⟨rfl, rfl⟩⟩
    · conv => cbv
      exact hR _ ⟨_, _, Wk.refl _, .inr (.inl ⟨5, rfl, rfl⟩), rfl, ⟨[], by simp⟩, .inr ⟨rfl, by rw [hn']⟩⟩
  | succ d ih =>
    intro ts hts hlast yk tk m hm hys
    have hlt : ts.length < (⟨b1, b2⟩ :: legs).length := by simp; omega
    obtain ⟨b, hbn⟩ : ∃ b, (⟨b1, b2⟩ :: legs)[ts.length]? = some b := ⟨_, List.getElem?_eq_getElem hlt⟩
    have hbb := hb b (List.mem_of_getElem? hbn)
    have hstep := extT_step hbn
    obtain ⟨c, hcc⟩ : ∃ c, c = prodB ((⟨b1, b2⟩ :: legs).drop (ts.length + 1)) := ⟨_, rfl⟩
    have hcl : ∀ t, (extT ⟨b1, b2⟩ legs (ts ++ [t])).length = c := fun t => by rw [extT_len, hcc]; simp
    obtain ⟨last, hla⟩ : ∃ last, last = ts.getLastD 0 := ⟨_, rfl⟩
    rw [← hla] at hlast hstep
    have hlen : (extT ⟨b1, b2⟩ legs ts).length = (b.Hi - b.Lo + 1).toNat * c := by
      rw [hstep, List.length_flatMap, show (fun t => (extT ⟨b1, b2⟩ legs (ts ++ [t])).length) = fun _ => c from funext hcl, List.map_const', List.sum_replicate_nat, rangeL_len]
      congr 1; congr 1; omega
    have hrow : ∀ (t : Int), last + b.Lo ≤ t → t ≤ last + b.Hi → ∀ (j : Nat) (x : List Int), (extT ⟨b1, b2⟩ legs (ts ++ [t]))[j]? = some x → Y.ys[yk + (t - (last + b.Lo)).toNat * c + j]? = some [.list 1 (encInts x)] := fun t h1 h2 j x hx => by
      have hj : j < c := by rw [← hcl t]; exact (List.getElem?_eq_some_iff.1 hx).1
      have hg : (rangeL (last + b.Lo) (last + b.Hi))[(t - (last + b.Lo)).toNat]? = some t := by
        rw [rangeL_get (by omega)]; congr 1; omega
      have := flatMap_get (F := fun t => extT ⟨b1, b2⟩ legs (ts ++ [t])) (fun y _ => hcl y) hg hj
      rw [Nat.add_assoc]
      refine hys _ x ?_
      rw [hstep, this]; exact hx
    have hih := fun (t : Int) (h1 : last + b.Lo ≤ t) (h2 : t ≤ last + b.Hi) (tk' : List (Nat × TypeId)) => ih (ts ++ [t]) (by simp; omega) (by simp; omega) (yk + (t - (last + b.Lo)).toNat * c) tk' 1 (.inl rfl) (hrow t h1 h2)
    obtain ⟨c1, c2⟩ := b
    simp only at hbb hstep hlen hrow hih
    rcases Nat.eq_zero_or_pos ts.length with hn0 | hpos
    · have ht0 : ts = [] := List.eq_nil_of_length_eq_zero hn0
      have hl0 : last = 0 := by rw [hla, ht0]; rfl
      obtain ⟨rfl, rfl⟩ : b1 = c1 ∧ b2 = c2 := by
        rw [hn0] at hbn
        simp at hbn
        exact hbn
      refine callsR_by (clo := cloG) (rows := false) hE Tryz.func134 rfl (enters_of Tryz.func134 (by kernel_rfl) rfl) (by intro h; simp [bxG] at h) (fun A P' Y' nb R hA hnb hR => ?_)
      obtain ⟨xs, hxs⟩ : ∃ xs, xs = encInts ts := ⟨_, rfl⟩
      have hxl : xs.length = ts.length := by rw [hxs]; simp [encInts]
      rw [← hxs]
      have e1 : A.iAdd (A.lLen bl) 1 = (legs.length : Int) + 1 := by rw [addI hA, lenI hA hbll]
      have e2 : A.lLen xs = (ts.length : Int) := lenI hA hxl
      have e3 : A.iSub (A.lLen xs) 1 = (ts.length : Int) - 1 := by rw [subI hA, e2]
      conv => cbv
      refine ⟨inR' hA e1 (by unfold inI64; omega), ?_⟩
      split
      · rename_i hc
        cases ((show False by have := eqT' hA e2 e1 hc; omega))
      conv => cbv
      split
      · rename_i hc
        cases ((show False by have := ltT' hA rfl e2 hc; omega))
      conv => cbv
      refine loop_set hA (fun (z : Int × Nat × List (Nat × TypeId)) s => { s.put (some 9) (.val (.int .i64 z.1)) with tk := z.2.2, ax := ⟨[], z.2.1⟩ }) (fun z => b1 ≤ z.1 ∧ z.1 ≤ b2 + 1 ∧ z.2.1 = yk + (z.1 - b1).toNat * c ∧ ∃ ex, z.2.2 = tk ++ ex) (fun z => (b2 + 1 - z.1).toNat) (b1, yk, tk) ?_ ?_ ?_
      · conv => cbv
        exact wk_sl (by repeat (first | refine leL_same ?_ | refine leL_any ?_ | exact leL_nil))
      · exact ⟨Int.le_refl _, by omega, by simp, [], by simp⟩
      rintro R2 ⟨mm, y2, tz⟩ ⟨h1, h2, h3, ex, h4⟩ hR2
      simp only at h1 h2 h3 h4
      conv => cbv
      split
      rotate_left
      · rename_i hc
        have hmB := leF hA hc
        have hmE : mm = b2 + 1 := by omega
        conv => cbv
        refine hR _ ⟨_, _, wk_ret (bx := [_, _]) (bx' := [_]) (by rw [hnb]; exact Nat.le_refl 2) rfl, .inr (.inl ⟨5, rfl, rfl⟩), rfl, ⟨ex, h4⟩, .inl ⟨rfl, ?_⟩⟩
        rw [hlen, h3, hmE, show b2 + 1 - b1 = b2 - b1 + 1 by omega]
      rename_i hc
      have hmB := leT hA hc
      have hfm : A.iAdd 0 mm = last + mm := by rw [addI hA] <;> omega
      obtain ⟨kz, hkz⟩ : ∃ kz, kz = tz.length := ⟨_, rfl⟩
      obtain ⟨tk1, htk1⟩ : ∃ tk1, tk1 = tz ++ [(ts.length, 3)] := ⟨_, rfl⟩
      have hclone : CallsR ⟨Tryz.prog, tab, cloG, false, Y⟩ 106 [.val (.list m xs)] [some [.val (.yld Y.l)], some [.clo 134 [.pv (.ptr [.int .i64 way, .int .i64 b1, .int .i64 b2, .list 2 bl] 0), .box 0 0, .box 1 0]], some [.val (.int .i64 b1), .val (.int .i64 b2)]] tz ⟨[], y2⟩
          (fun r bx' tk' ax' => r = .own kz 1 xs ∧ bx' = [some [.val (.yld Y.l)], some [.clo 134 [.pv (.ptr [.int .i64 way, .int .i64 b1, .int .i64 b2, .list 2 bl] 0), .box 0 0, .box 1 0]], some [.val (.int .i64 b1), .val (.int .i64 b2)]] ∧ tk' = tk1 ∧ ax' = ⟨[], y2⟩) := by
        rw [hkz, htk1, hxs]
        exact clone_own ts (by omega) m _ _ _
      have hat : A.tkAt tk1 kz 3 (A.nLen xs) := by
        rw [htk1, hkz]
        subst hA
        refine ⟨by simp [List.getD_eq_getElem?_getD], ?_, by simp⟩
        show ((tz ++ [(ts.length, 3)]).getD tz.length (0, 0)).1 = xs.length
        simp [List.getD_eq_getElem?_getD, hxl]
      have hrm : A.room (A.nLen (A.lApp xs [.int .i64 (A.iAdd 0 mm)])) 8 := by
        subst hA
        show (xs ++ [_]).length * (8 + 1) ≤ 140737488355328
        rw [List.length_append, List.length_singleton]; omega
      have hin : A.inR (A.iAdd 0 mm) := inR' hA hfm (by unfold inI64; omega)
      have hmr : A.inR (A.iAdd mm 1) := inR' hA (addI hA mm 1) (by unfold inI64; omega)
      have hdeep : CallsR ⟨Tryz.prog, tab, cloG, false, Y⟩ 134 [.own kz 1 (A.lApp xs [.int .i64 (A.iAdd 0 mm)]), .val (.ptr [.int .i64 way, .int .i64 b1, .int .i64 b2, .list 2 bl] 0), .box 0 0, .box 1 0]
          [some [.val (.yld Y.l)], some [.clo 134 [.pv (.ptr [.int .i64 way, .int .i64 b1, .int .i64 b2, .list 2 bl] 0), .box 0 0, .box 1 0]], some [.val (.int .i64 b1), .val (.int .i64 b2)]] (A.tkPut tk1 kz (A.nLen (A.lApp xs [.int .i64 (A.iAdd 0 mm)]), 3)) ⟨[], y2⟩
          (fun r bx' tk' ax' => ∃ (b : Bool) (y' : Nat), r = .val (.bool b) ∧ bx' = [some [.val (.yld Y.l)], some [.clo 134 [.pv (.ptr [.int .i64 way, .int .i64 b1, .int .i64 b2, .list 2 bl] 0), .box 0 0, .box 1 0]], some [.val (.int .i64 b1), .val (.int .i64 b2)]] ∧ ax' = ⟨[], y'⟩ ∧ (∃ ex, tk' = tk ++ ex) ∧ ((b = true ∧ y' = y2 + c) ∨ (b = false ∧ y' = Y.ys.length + 1))) := by
        have hg := hih (last + mm) (by omega) (by omega) (A.tkPut tk1 kz (A.nLen (A.lApp xs [.int .i64 (A.iAdd 0 mm)]), 3))
        rw [show (last + mm - (last + b1)).toNat = (mm - b1).toNat by congr 1; omega, ← h3, hcl] at hg
        have hf := CallsR.frame hg [some [.val (.int .i64 b1), .val (.int .i64 b2)]] (by intro o ho; simp at ho; exact ⟨_, ho, by intro c hc; simp at hc; rcases hc with rfl | rfl <;> exact ⟨_, rfl⟩⟩) (fun r bx' tk' ax' h => by rw [h.1]) (by simp [SV.within, bxG]) (by simp [SV.within, bxG]) (by simp)
        have hap : A.lApp xs [.int .i64 (A.iAdd 0 mm)] = encInts (ts ++ [last + mm]) := by
          rw [hfm, hxs]
          subst hA
          show encInts ts ++ _ = _
          simp [encInts, encInt]
        rw [hap]
        refine CallsR.wk (svs2 := [.val (.list 1 (encInts (ts ++ [last + mm]))), .val (.ptr [.int .i64 way, .int .i64 b1, .int .i64 b2, .list 2 bl] 0), .box 0 0, .box 1 0]) (bx2 := _) (tk2 := _) (ax2 := ⟨[], y2⟩) (by intro h; simp at h) (Wk.forget _ _ _ _ _ (leL_own (leL_same (leL_same (leL_same leL_nil))))) ?_
        have hf' := hf
        rw [hap] at hf'
        refine ⟨hf'.1, fun B S0 w0 G S w vs a b c d => (hf'.2 B S0 w0 G S w vs a b c d).mono ?_⟩
        rintro e w' ⟨v, r, bx', tk', ax', G2, S2, ⟨b0, rfl, h5, ⟨ex2, h6⟩, h7⟩, he⟩
        refine ⟨v, r, b0 ++ [some [.val (.int .i64 b1), .val (.int .i64 b2)]], tk', ax', G2, S2, ?_, he⟩
        have hex2 : ∃ ex, tk' = tk ++ ex := by
          obtain ⟨e3, he3⟩ : ∃ e3, A.tkPut tk1 kz (A.nLen (encInts (ts ++ [last + mm])), 3) = tk ++ e3 := by
            rw [htk1, hkz, h4]
            subst hA
            refine ⟨ex ++ [((encInts (ts ++ [last + mm])).length, 3)], ?_⟩
            show (tk ++ ex ++ [(ts.length, 3)]).set (tk ++ ex).length ((encInts (ts ++ [last + mm])).length, 3) = _
            rw [List.set_append_right _ _ (Nat.le_refl _)]
            simp
          rw [he3] at h6
          exact ⟨e3 ++ ex2, by rw [h6, List.append_assoc]⟩
        rcases h7 with ⟨rfl, rfl⟩ | ⟨rfl, rfl⟩
        · exact ⟨true, _, rfl, by rw [h5]; rfl, rfl, hex2, .inl ⟨rfl, rfl⟩⟩
        · exact ⟨false, _, rfl, by rw [h5]; rfl, rfl, hex2, .inr ⟨rfl, rfl⟩⟩
      apply skip_eachB (fun (b : Bool) (y' : Nat) (tk' : List (Nat × TypeId)) => (∃ ex, tk' = tk ++ ex) ∧ ((b = true ∧ y' = y2 + c) ∨ (b = false ∧ y' = Y.ys.length + 1))) (hQ := fun _ => rfl)
      case hm => rfl
      case h1 =>
        intro K hK
        conv => cbv
        repeat' first
          | exact hin
          | exact hrm
          | exact hat
          | (refine shareR_intro hA hclone ?_; rintro _ _ _ _ ⟨rfl, rfl, rfl, rfl⟩; conv => cbv)
          | (refine deepR_intro hA hdeep ?_; rintro _ _ tk' _ ⟨bb, y', rfl, rfl, rfl, hP⟩; conv => cbv)
          | exact hK _ _ _ hP
          | apply And.intro
      case h2 =>
        rintro bb y' tk' ⟨⟨ex', hex'⟩, h5⟩
        rcases h5 with ⟨rfl, hy'⟩ | ⟨rfl, hy'⟩
        · conv => cbv
          split
          · rename_i hc
            cases (nT hA hc)
          conv => cbv
          refine ⟨hmr, hR2 (A.iAdd mm 1, y', tk') _ ?_ ?_ ?_⟩
          · conv => cbv
            exact wk_sl (by repeat (first | refine leL_same ?_ | refine leL_any ?_ | exact leL_nil))
          · show b1 ≤ A.iAdd mm 1 ∧ A.iAdd mm 1 ≤ b2 + 1 ∧ y' = yk + (A.iAdd mm 1 - b1).toNat * c ∧ ∃ ex, tk' = tk ++ ex
            rw [addI hA]
            refine ⟨by omega, by omega, ?_, ex', hex'⟩
            rw [hy', h3, show (mm + 1 - b1).toNat = (mm - b1).toNat + 1 by omega, Nat.succ_mul]; omega
          · show (b2 + 1 - A.iAdd mm 1).toNat < (b2 + 1 - mm).toNat
            rw [addI hA]; omega
        · conv => cbv
          split
          rotate_left
          · rename_i hc
            cases (nF hA hc)
          conv => cbv
          exact hR _ ⟨_, _, wk_ret (bx := [_, _]) (bx' := [_]) (by rw [hnb]; exact Nat.le_refl 2) rfl, .inr (.inl ⟨5, rfl, rfl⟩), rfl, ⟨ex', hex'⟩, .inr ⟨rfl, by rw [hy']⟩⟩
    · have hm1 : m = 1 := by
        rcases hm with h | h
        · exact h
        · rw [h] at hpos; simp at hpos
      subst hm1
      refine callsR_by (clo := cloG) (rows := false) hE Tryz.func134 rfl (enters_of Tryz.func134 (by kernel_rfl) rfl) (by intro h; simp [bxG] at h) (fun A P' Y' nb R hA hnb hR => ?_)
      obtain ⟨xs, hxs⟩ : ∃ xs, xs = encInts ts := ⟨_, rfl⟩
      have hxl : xs.length = ts.length := by rw [hxs]; simp [encInts]
      rw [← hxs]
      have e1 : A.iAdd (A.lLen bl) 1 = (legs.length : Int) + 1 := by rw [addI hA, lenI hA hbll]
      have e2 : A.lLen xs = (ts.length : Int) := lenI hA hxl
      have e3 : A.iSub (A.lLen xs) 1 = (ts.length : Int) - 1 := by rw [subI hA, e2]
      conv => cbv
      refine ⟨inR' hA e1 (by unfold inI64; omega), ?_⟩
      split
      · rename_i hc
        cases ((show False by have := eqT' hA e2 e1 hc; omega))
      conv => cbv
      split
      rotate_left
      · rename_i hc
        cases (show False by have := ltF' hA rfl e2 hc; omega)
      have i0 : 0 ≤ A.iSub (A.lLen xs) 1 := by rw [e3]; omega
      have i1 : A.iSub (A.lLen xs) 1 < legs.length := by rw [e3]; omega
      have i2 : A.iSub (A.lLen xs) 1 < ts.length := by rw [e3]; omega
      have hsr : A.inR (A.iSub (A.lLen xs) 1) := inR' hA e3 (by unfold inI64; omega)
      have hlb : legs[(A.iSub (A.lLen xs) 1).toNat]? = some ⟨c1, c2⟩ := by
        have h' := hbn
        rw [show ts.length = (A.iSub (A.lLen xs) 1).toNat + 1 by have := e3; omega, List.getElem?_cons_succ] at h'
        exact h'
      have hlt2 : ts[(A.iSub (A.lLen xs) 1).toNat]? = some last := by
        rw [e3, hla, show ((ts.length : Int) - 1).toNat = ts.length - 1 by omega, List.getLastD_eq_getLast?, List.getLast?_eq_getElem?]
        rw [List.getElem?_eq_getElem (by omega)] <;> rfl
      refine region_inv rfl [.val (.ptr [.int .i64 way, .int .i64 b1, .int .i64 b2, .list 2 bl] 3), .val (.list 2 bl), .val (.int .i64 (A.lLen xs)), .val (.int .i64 (A.iSub (A.lLen xs) 1)), .val (.ptr [.int .i64 c1, .int .i64 c2] 0), .val (.agg [.int .i64 c1, .int .i64 c2]),
          .val (.list 1 xs), .val (.int .i64 (A.lLen xs)), .val (.int .i64 (A.iSub (A.lLen xs) 1)), .val (.ptr [.int .i64 last] 0), .val (.int .i64 last), .undef, .val (.int .i64 last)]
        (fun L => [some [.val (.yld Y.l)], some [.clo 134 [.pv (.ptr [.int .i64 way, .int .i64 b1, .int .i64 b2, .list 2 bl] 0), .box 0 0, .box 1 0]], some [.val (.int .i64 (cond (L 11) c1 b1)), .val (.int .i64 (cond (L 11) c2 b2))]])
        rfl (fun L L' h => by simp only [h 11 (by decide)]) rfl ?_ ?_
      · intro L i o hi he K' hK
        rcases i with _ | i
        · cases hi
          conv => cbv
          exact hK
        rcases i with _ | i
        · cases hi
          have h0 : L 0 = true := he ⟨0, .data⟩ (by simp) rfl
          conv => cbv
          simp only [h0] 
          conv => cbv
          refine cast (congrArg K' ?_) hK
          conv => lhs; cbv
          simp only [h0]
        rcases i with _ | i
        · cases hi
          conv => cbv
          exact hK
        rcases i with _ | i
        · cases hi
          have h2 : L 2 = true := he ⟨2, .data⟩ (by simp) rfl
          conv => cbv
          simp only [h2] 
          conv => cbv
          refine ⟨hsr, ?_⟩
          refine cast (congrArg K' ?_) hK
          conv => lhs; cbv
          simp only [h2]
        rcases i with _ | i
        · cases hi
          have h1 : L 1 = true := he ⟨1, .data⟩ (by simp) rfl
          have h3 : L 3 = true := he ⟨3, .data⟩ (by simp) rfl
          conv => cbv
          simp only [h1, h3] 
          conv => cbv
          refine idx_Bound hA hbl i0 i1 (fun z hz => ?_)
          obtain rfl := Option.some.inj (hlb.symm.trans hz)
          conv => cbv
          refine cast (congrArg K' ?_) hK
          conv => lhs; cbv
          simp only [h1, h3]
        rcases i with _ | i
        · cases hi
          have h4 : L 4 = true := he ⟨4, .data⟩ (by simp) rfl
          conv => cbv
          simp only [h4] 
          conv => cbv
          refine cast (congrArg K' ?_) hK
          conv => lhs; cbv
          simp only [h4]
        rcases i with _ | i
        · cases hi
          conv => cbv
          exact hK
        rcases i with _ | i
        · cases hi
          conv => cbv
          exact hK
        rcases i with _ | i
        · cases hi
          have h7 : L 7 = true := he ⟨7, .data⟩ (by simp) rfl
          conv => cbv
          simp only [h7] 
          conv => cbv
          refine ⟨hsr, ?_⟩
          refine cast (congrArg K' ?_) hK
          conv => lhs; cbv
          simp only [h7]
        rcases i with _ | i
        · cases hi
          have h6 : L 6 = true := he ⟨6, .data⟩ (by simp) rfl
          have h8 : L 8 = true := he ⟨8, .data⟩ (by simp) rfl
          conv => cbv
          simp only [h6, h8] 
          conv => cbv
          refine idx_Int hA hxs i0 i2 (fun z hz => ?_)
          obtain rfl := Option.some.inj (hlt2.symm.trans hz)
          conv => cbv
          refine cast (congrArg K' ?_) hK
          conv => lhs; cbv
          simp only [h6, h8]
        rcases i with _ | i
        · cases hi
          have h9 : L 9 = true := he ⟨9, .data⟩ (by simp) rfl
          conv => cbv
          simp only [h9] 
          conv => cbv
          refine cast (congrArg K' ?_) hK
          conv => lhs; cbv
          simp only [h9]
        rcases i with _ | i
        · cases hi
          have h5 : L 5 = true := he ⟨5, .data⟩ (by simp) rfl
          conv => cbv
          simp only [h5] 
          conv => cbv
          refine cast (congrArg K' ?_) hK
          conv => lhs; cbv
          simp only [h5]
        rcases i with _ | i
        · cases hi
          have h10 : L 10 = true := he ⟨10, .data⟩ (by simp) rfl
          conv => cbv
          simp only [h10] 
          conv => cbv
          refine cast (congrArg K' ?_) hK
          conv => lhs; cbv
          simp only [h10]
        simp at hi
      conv => cbv
      refine loop_set hA (fun (z : Int × Nat × List (Nat × TypeId)) s => { s.put (some 9) (.val (.int .i64 z.1)) with tk := z.2.2, ax := ⟨[], z.2.1⟩ }) (fun z => c1 ≤ z.1 ∧ z.1 ≤ c2 + 1 ∧ z.2.1 = yk + (z.1 - c1).toNat * c ∧ ∃ ex, z.2.2 = tk ++ ex) (fun z => (c2 + 1 - z.1).toNat) (c1, yk, tk) ?_ ?_ ?_
      · conv => cbv
        exact wk_sl (by repeat (first | refine leL_same ?_ | refine leL_any ?_ | exact leL_nil))
      · exact ⟨Int.le_refl _, by omega, by simp, [], by simp⟩
      rintro R2 ⟨mm, y2, tz⟩ ⟨h1, h2, h3, ex, h4⟩ hR2
      simp only at h1 h2 h3 h4
      conv => cbv
      split
      rotate_left
      · rename_i hc
        have hmB := leF hA hc
        have hmE : mm = c2 + 1 := by omega
        conv => cbv
        refine hR _ ⟨_, _, wk_ret (bx := [_, _]) (bx' := [_]) (by rw [hnb]; exact Nat.le_refl 2) rfl, .inr (.inl ⟨5, rfl, rfl⟩), rfl, ⟨ex, h4⟩, .inl ⟨rfl, ?_⟩⟩
        rw [hlen, h3, hmE, show c2 + 1 - c1 = c2 - c1 + 1 by omega]
      rename_i hc
      have hmB := leT hA hc
      have hfm : A.iAdd last mm = last + mm := by rw [addI hA] <;> omega
      obtain ⟨kz, hkz⟩ : ∃ kz, kz = tz.length := ⟨_, rfl⟩
      obtain ⟨tk1, htk1⟩ : ∃ tk1, tk1 = tz ++ [(ts.length, 3)] := ⟨_, rfl⟩
      have hclone : CallsR ⟨Tryz.prog, tab, cloG, false, Y⟩ 106 [.val (.list 1 xs)] [some [.val (.yld Y.l)], some [.clo 134 [.pv (.ptr [.int .i64 way, .int .i64 b1, .int .i64 b2, .list 2 bl] 0), .box 0 0, .box 1 0]], some [.val (.int .i64 c1), .val (.int .i64 c2)]] tz ⟨[], y2⟩
          (fun r bx' tk' ax' => r = .own kz 1 xs ∧ bx' = [some [.val (.yld Y.l)], some [.clo 134 [.pv (.ptr [.int .i64 way, .int .i64 b1, .int .i64 b2, .list 2 bl] 0), .box 0 0, .box 1 0]], some [.val (.int .i64 c1), .val (.int .i64 c2)]] ∧ tk' = tk1 ∧ ax' = ⟨[], y2⟩) := by
        rw [hkz, htk1, hxs]
        exact clone_own ts (by omega) 1 _ _ _
      have hat : A.tkAt tk1 kz 3 (A.nLen xs) := by
        rw [htk1, hkz]
        subst hA
        refine ⟨by simp [List.getD_eq_getElem?_getD], ?_, by simp⟩
        show ((tz ++ [(ts.length, 3)]).getD tz.length (0, 0)).1 = xs.length
        simp [List.getD_eq_getElem?_getD, hxl]
      have hrm : A.room (A.nLen (A.lApp xs [.int .i64 (A.iAdd last mm)])) 8 := by
        subst hA
        show (xs ++ [_]).length * (8 + 1) ≤ 140737488355328
        rw [List.length_append, List.length_singleton]; omega
      have hin : A.inR (A.iAdd last mm) := inR' hA hfm (by unfold inI64; omega)
      have hmr : A.inR (A.iAdd mm 1) := inR' hA (addI hA mm 1) (by unfold inI64; omega)
      have hdeep : CallsR ⟨Tryz.prog, tab, cloG, false, Y⟩ 134 [.own kz 1 (A.lApp xs [.int .i64 (A.iAdd last mm)]), .val (.ptr [.int .i64 way, .int .i64 b1, .int .i64 b2, .list 2 bl] 0), .box 0 0, .box 1 0]
          [some [.val (.yld Y.l)], some [.clo 134 [.pv (.ptr [.int .i64 way, .int .i64 b1, .int .i64 b2, .list 2 bl] 0), .box 0 0, .box 1 0]], some [.val (.int .i64 c1), .val (.int .i64 c2)]] (A.tkPut tk1 kz (A.nLen (A.lApp xs [.int .i64 (A.iAdd last mm)]), 3)) ⟨[], y2⟩
          (fun r bx' tk' ax' => ∃ (b : Bool) (y' : Nat), r = .val (.bool b) ∧ bx' = [some [.val (.yld Y.l)], some [.clo 134 [.pv (.ptr [.int .i64 way, .int .i64 b1, .int .i64 b2, .list 2 bl] 0), .box 0 0, .box 1 0]], some [.val (.int .i64 c1), .val (.int .i64 c2)]] ∧ ax' = ⟨[], y'⟩ ∧ (∃ ex, tk' = tk ++ ex) ∧ ((b = true ∧ y' = y2 + c) ∨ (b = false ∧ y' = Y.ys.length + 1))) := by
        have hg := hih (last + mm) (by omega) (by omega) (A.tkPut tk1 kz (A.nLen (A.lApp xs [.int .i64 (A.iAdd last mm)]), 3))
        rw [show (last + mm - (last + c1)).toNat = (mm - c1).toNat by congr 1; omega, ← h3, hcl] at hg
        have hf := CallsR.frame hg [some [.val (.int .i64 c1), .val (.int .i64 c2)]] (by intro o ho; simp at ho; exact ⟨_, ho, by intro c hc; simp at hc; rcases hc with rfl | rfl <;> exact ⟨_, rfl⟩⟩) (fun r bx' tk' ax' h => by rw [h.1]) (by simp [SV.within, bxG]) (by simp [SV.within, bxG]) (by simp)
        have hap : A.lApp xs [.int .i64 (A.iAdd last mm)] = encInts (ts ++ [last + mm]) := by
          rw [hfm, hxs]
          subst hA
          show encInts ts ++ _ = _
          simp [encInts, encInt]
        rw [hap]
        refine CallsR.wk (svs2 := [.val (.list 1 (encInts (ts ++ [last + mm]))), .val (.ptr [.int .i64 way, .int .i64 b1, .int .i64 b2, .list 2 bl] 0), .box 0 0, .box 1 0]) (bx2 := _) (tk2 := _) (ax2 := ⟨[], y2⟩) (by intro h; simp at h) (Wk.forget _ _ _ _ _ (leL_own (leL_same (leL_same (leL_same leL_nil))))) ?_
        have hf' := hf
        rw [hap] at hf'
        refine ⟨hf'.1, fun B S0 w0 G S w vs a b c d => (hf'.2 B S0 w0 G S w vs a b c d).mono ?_⟩
        rintro e w' ⟨v, r, bx', tk', ax', G2, S2, ⟨b0, rfl, h5, ⟨ex2, h6⟩, h7⟩, he⟩
        refine ⟨v, r, b0 ++ [some [.val (.int .i64 c1), .val (.int .i64 c2)]], tk', ax', G2, S2, ?_, he⟩
        have hex2 : ∃ ex, tk' = tk ++ ex := by
          obtain ⟨e3, he3⟩ : ∃ e3, A.tkPut tk1 kz (A.nLen (encInts (ts ++ [last + mm])), 3) = tk ++ e3 := by
            rw [htk1, hkz, h4]
            subst hA
            refine ⟨ex ++ [((encInts (ts ++ [last + mm])).length, 3)], ?_⟩
            show (tk ++ ex ++ [(ts.length, 3)]).set (tk ++ ex).length ((encInts (ts ++ [last + mm])).length, 3) = _
            rw [List.set_append_right _ _ (Nat.le_refl _)]
            simp
          rw [he3] at h6
          exact ⟨e3 ++ ex2, by rw [h6, List.append_assoc]⟩
        rcases h7 with ⟨rfl, rfl⟩ | ⟨rfl, rfl⟩
        · exact ⟨true, _, rfl, by rw [h5]; rfl, rfl, hex2, .inl ⟨rfl, rfl⟩⟩
        · exact ⟨false, _, rfl, by rw [h5]; rfl, rfl, hex2, .inr ⟨rfl, rfl⟩⟩
      apply skip_eachB (fun (b : Bool) (y' : Nat) (tk' : List (Nat × TypeId)) => (∃ ex, tk' = tk ++ ex) ∧ ((b = true ∧ y' = y2 + c) ∨ (b = false ∧ y' = Y.ys.length + 1))) (hQ := fun _ => rfl)
      case hm => rfl
      case h1 =>
        intro K hK
        conv => cbv
        repeat' first
          | exact hin
          | exact hrm
          | exact hat
          | (refine shareR_intro hA hclone ?_; rintro _ _ _ _ ⟨rfl, rfl, rfl, rfl⟩; conv => cbv)
          | (refine deepR_intro hA hdeep ?_; rintro _ _ tk' _ ⟨bb, y', rfl, rfl, rfl, hP⟩; conv => cbv)
          | exact hK _ _ _ hP
          | apply And.intro
      case h2 =>
        rintro bb y' tk' ⟨⟨ex', hex'⟩, h5⟩
        rcases h5 with ⟨rfl, hy'⟩ | ⟨rfl, hy'⟩
        · conv => cbv
          split
          · rename_i hc
            cases (nT hA hc)
          conv => cbv
          refine ⟨hmr, hR2 (A.iAdd mm 1, y', tk') _ ?_ ?_ ?_⟩
          · conv => cbv
            exact wk_sl (by repeat (first | refine leL_same ?_ | refine leL_any ?_ | exact leL_nil))
          · show c1 ≤ A.iAdd mm 1 ∧ A.iAdd mm 1 ≤ c2 + 1 ∧ y' = yk + (A.iAdd mm 1 - c1).toNat * c ∧ ∃ ex, tk' = tk ++ ex
            rw [addI hA]
            refine ⟨by omega, by omega, ?_, ex', hex'⟩
            rw [hy', h3, show (mm + 1 - c1).toNat = (mm - c1).toNat + 1 by omega, Nat.succ_mul]; omega
          · show (c2 + 1 - A.iAdd mm 1).toNat < (c2 + 1 - mm).toNat
            rw [addI hA]; omega
        · conv => cbv
          split
          rotate_left
          · rename_i hc
            cases (nF hA hc)
          conv => cbv
          exact hR _ ⟨_, _, wk_ret (bx := [_, _]) (bx' := [_]) (by rw [hnb]; exact Nat.le_refl 2) rfl, .inr (.inl ⟨5, rfl, rfl⟩), rfl, ⟨ex', hex'⟩, .inr ⟨rfl, by rw [hy']⟩⟩
end Go.Abs
