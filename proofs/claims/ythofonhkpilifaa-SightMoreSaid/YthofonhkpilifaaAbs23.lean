/-
  The abstract walk is sound: loops over functions; all code.
-/
import Derived.Test.YthofonhkpilifaaAbs22
import Derived.Sort.LoopGhostIn
namespace Go.Abs
open Go.RowKit

section
variable {E : Env} {B : Nat} {S0 : Addr → Prop} {w0 : World} {st : St} {G : Gh} {S : Addr → Prop} {w : World} {tmps : Array Value} {r : Option Nat} {n : Nat}

/-- What a round comes to, from without. -/
theorem turn_ok {tk tk1 tk2 : List (Nat × TypeId)} {G' Ga G2 : Gh} {S' Sa S2 : Addr → Prop} {W Wa W3 : World} {l : Nat} {r1 r2 r3 r4 : Loop} {F : Nat → Prop} (Xa : Ext tk G' S' W tk1 Ga Sa Wa) (hla : Wa.heap[l]? = some (.loop r1)) (Xc : Ext tk1 Ga Sa (Wa.putObj l (.loop r2)) tk2 G2 S2 W3)
    (hl3 : W3.heap[l]? = some (.loop r3)) (hF : ∀ b, Foot G' b → F b) (hl : F l) (hslt : ∀ a, S2 a → a.block < W3.heap.size) :
    Below 0 W (W3.putObj l (.loop r4)) ∧ (∀ b, b < W.heap.size → ¬ F b → (W3.putObj l (.loop r4)).heap[b]? = W.heap[b]?) ∧ (∀ b, b < W.heap.size → Foot G2 b → F b) ∧ (∀ a, S' a → S2 a) ∧ (∀ a, S' a → (W3.putObj l (.loop r4)).cell? a = W.cell? a) ∧
      (∀ a, S2 a → (S' a ∨ F a.block ∨ W.heap.size ≤ a.block) ∧ a.block < (W3.putObj l (.loop r4)).heap.size) := by
  have h1 : W.heap.size ≤ Wa.heap.size := Xa.calm.size
  have hp : ∀ {V : World} {o : Obj}, Below 0 V (V.putObj l o) := fun {V o} => ⟨rfl, rfl, rfl, by simp, fun k hk => absurd hk (Nat.not_lt_zero _)⟩
  have hfoot : ∀ b, b < W.heap.size → Foot Ga b → F b := fun b hb h => hF b (Xa.foot b hb h)
  have hfoot2 : ∀ b, b < W.heap.size → Foot G2 b → Foot Ga b := fun b hb h => Xc.foot b (by simp; omega) h
  refine ⟨(Xa.calm.trans hp).trans (Xc.calm.trans hp), fun b hb hf => ?_, fun b hb h => hfoot b hb (hfoot2 b hb h), fun a h => Xc.sub a (Xa.sub a h), fun a h => ?_, fun a h => ⟨?_, by simpa using hslt a h⟩⟩
  · have hbl : b ≠ l := fun e => hf (by rw [e]; exact hl)
    rw [World.putObj_heap_other hbl, Xc.same b (by simp; omega) (fun h => hf (hfoot b hb h)), World.putObj_heap_other hbl, Xa.same b hb (fun h => hf (hF b h))]
  · rw [cell_putRec hl3 rfl rfl, Xc.cell a (Xa.sub a h), cell_putRec hla rfl rfl, Xa.cell a h]
  · rcases Xc.new a h with h2 | h2 | h2
    · rcases Xa.new a h2 with h3 | h3 | h3
      · exact .inl h3
      · exact .inr (.inl (hF _ h3))
      · exact .inr (.inr h3)
    · rcases Nat.lt_or_ge a.block W.heap.size with h3 | h3
      · exact .inr (.inl (hfoot _ h3 h2))
      · exact .inr (.inr h3)
    · exact .inr (.inr (by simp at h2; omega))

theorem getElem?_length_le {α : Type} {l l' : List α} (h : ∀ (i : Nat) (b : α), l[i]? = some b → l'[i]? = some b) : l.length ≤ l'.length := by
  rcases Nat.lt_or_ge l'.length l.length with h' | h'
  · have := h l'.length l[l'.length] (List.getElem?_eq_getElem h')
    rw [List.getElem?_eq_none (Nat.le_refl _)] at this
    cases this
  · exact h'

set_option maxHeartbeats 1000000 in
theorem range_ok (hE : EnvOk E) {g : Operand} {ps : Array Tmp} {asg body : Code} (ha : WalkOk E asg) (hb : WalkOk E body) : WalkOk E (.rangeFunc g ps asg body) := by
  intro nb b0 rr n B S0 w0 d tk0 G0 S1 w1 hnb hnm st Q G S w tmps ds h R X P
  simp only [wpC] at h
  split at h
  rotate_left
  · exact h.elim
  rename_i f caps hf
  obtain ⟨xs, hseq, hlen, I, s0, hwk, hI0, hIsl, hround, hdone⟩ := h
  obtain ⟨G1, R1, X1, F1⟩ := R.wk hnb hnm hwk X
  have P1 := P.foot F1
  have hx := R.val g ds
  rw [hf] at hx
  generalize hvf : ({ tmps := tmps, defers := ds } : Act).eval g = vf at hx
  cases hx with
  | fn _ _ cvs hlc hc =>
  refine wpIn_rangeFunc ?_
  intro fn hfn
  obtain ⟨l, Ds, rec, W1, henter, hrec, hrec2, hrec3, hbel, hl1, hwl, hnd, hDs1⟩ : ∃ (l : Nat) (Ds : List Nat) (rec : LoopState → Option Code → Loop) (W1 : World),
      (Instr.enterLoop fn tmps ps asg body (Fr (rr.map (·.1))).round).run E.P w = .ok (l, Ds.map fun D => ({ target := .collected D, args := #[] } : Deferred)) W1 ∧
      (∀ st pe, (rec st pe).params = ps ∧ (rec st pe).tmps = tmps ∧ (rec st pe).fn = fn ∧ (rec st pe).assign = asg ∧ (rec st pe).body = body ∧ (rec st pe).state = st ∧ (rec st pe).pending = pe) ∧ (∀ st pe st' pe', ({ rec st pe with state := st', pending := pe' } : Loop) = rec st' pe') ∧ (∀ st pe st', ({ rec st pe with state := st' } : Loop) = rec st' pe) ∧
      Below w.heap.size w W1 ∧ W1.heap[l]? = some (.loop (rec .ready none)) ∧ w.heap.size ≤ l ∧ Ds.Nodup ∧ (∀ D ∈ Ds, W1.heap[D]? = some (.deferred (some [])) ∧ w.heap.size ≤ D ∧ D ≠ l) := by
    cases rr with
    | none =>
      refine ⟨w.heap.size + 1, [w.heap.size], fun st pe => { state := st, pending := pe, fn, tmps := tmps, params := ps, assign := asg, body, defers := w.heap.size }, _, run_enterLoop_outer _ _ _ _ _, fun _ _ => ⟨rfl, rfl, rfl, rfl, rfl, rfl, rfl⟩, fun _ _ _ _ => rfl, fun _ _ _ => rfl, (((Below.refl _ w).alloc (Nat.le_refl _) _).alloc (by simp) _), ?_, by omega, by simp, ?_⟩
      · have := World.alloc_heap_new (w.alloc (.deferred (some []))) (.loop { state := .ready, pending := none, fn, tmps := tmps, params := ps, assign := asg, body, defers := w.heap.size }); rwa [World.size_alloc] at this
      · intro D hD
        simp at hD
        subst hD
        exact ⟨(Below.heap_alloc _ _ _ (by simp)).trans (World.alloc_heap_new w _), Nat.le_refl _, by omega⟩
    | some x =>
      obtain ⟨l0, r0⟩ := x
      have hl0 := (P.rnd _ rfl).1
      refine ⟨w.heap.size, [], fun st pe => { state := st, pending := pe, fn, tmps := tmps, params := ps, assign := asg, body, defers := r0.defers }, _, run_enterLoop_inner hl0 _ _ _ _ _, fun _ _ => ⟨rfl, rfl, rfl, rfl, rfl, rfl, rfl⟩, fun _ _ _ _ => rfl, fun _ _ _ => rfl, (Below.refl _ w).alloc (Nat.le_refl _) _, World.alloc_heap_new w _, Nat.le_refl _, by simp, by simp⟩
  obtain ⟨R2, X2⟩ := R1.transport (S' := S) (w' := W1) (fun _ h => h) (fun _ h => .inl h) hbel
  have hlW1 : l < W1.heap.size := heap_lt hl1
  have hBl : B ≤ l := Nat.le_trans R1.inv.base hwl
  have hnf : ∀ b, w.heap.size ≤ b → ¬ Foot G1 b := fun b hb h => by have := R1.inv.foot_lt h; omega
  have hrs : ∀ st pe, (rec st pe).state = st := fun st pe => (hrec st pe).2.2.2.2.2.1
  have hrp : ∀ st pe, (rec st pe).pending = pe := fun st pe => (hrec st pe).2.2.2.2.2.2
  have hYkeeps := fun k F T T' w' w'' => Between.keeps (E := E) (B := B) (S0 := S0) (w0 := w0) (st0 := s0) (G0 := G1) (S1 := S) (w1 := w) (l := l) (base := W1.heap.size) (Ds := Ds) (rec := rec) (N := xs.length) (I := I) (Q := Q)
    hlW1 (fun D hD => heap_lt (hDs1 D hD).1) (Nat.le_trans R1.inv.base hbel.size) hbel.size k F T T' w' w''
  obtain ⟨Y, hY⟩ : ∃ Y : YS, Y = ⟨l, xs, Between E B S0 w0 s0 G1 S w l W1.heap.size Ds rec xs.length I Q, hYkeeps⟩ := ⟨_, rfl⟩
  have hJ0 : Between E B S0 w0 s0 G1 S w l W1.heap.size Ds rec xs.length I Q 0 (fun b => b < W1.heap.size) S W1 :=
    ⟨s0, G1, .inl ⟨Nat.zero_le _, hI0, hl1⟩, rfl, R2.inv, R2.below, X2, hnf l hwl, fun D hD => ⟨(hDs1 D hD).1, hnf D (hDs1 D hD).2.1⟩, fun b h => h.elim (fun h => Nat.lt_of_lt_of_le (R1.inv.foot_lt h) hbel.size) (fun h => h)⟩
  have hYok : YOk E.P Y := by
    subst hY
    intro r' n' k pvs vs F S' W hy hJ hFl hSl hv
    obtain ⟨s, G', hk, hsl, hI, hbel', X3, hfl, hDs, hF⟩ := hJ
    have hklt : k < xs.length := (List.getElem?_eq_some_iff.1 hy).1
    rcases hk with ⟨_, hIk, hl⟩ | ⟨h, _⟩
    rotate_left
    · omega
    have hps : vs.length = ps.size := by rw [← hv.1]; exact hlen _ (List.mem_of_getElem? hy)
    have hrun := run_yield (P := E.P) (args := vs.toArray) hl (by rw [(hrec _ _).1]; simp [hps])
    rw [(hrec _ _).1, (hrec _ _).2.1, (hrec _ _).2.2.1, (hrec _ _).2.2.2.1, (hrec _ _).2.2.2.2.1] at hrun
    have Rs : Rel E B S0 w0 s G' S' W tmps := ⟨hI, hbel', by rw [hsl]; exact R1.len, fun t sv v a b => RSV.mono X3 (R1.sl t sv v (by rw [← hsl]; exact a) b)⟩
    obtain ⟨p1, p2⟩ := setPs_rel ps.toList pvs vs s.sl tmps (tk := s.tk) (G := G') (S := S') (w := W) (by simp [hps]) hv Rs.len Rs.sl
    have hfold : (ps.zip vs.toArray).foldl (fun tmps x => match x with | (t, a) => tmps.setIfInBounds t a) tmps = (ps.toList.zip vs).foldl (fun t (p, v) => t.setIfInBounds p v) tmps := by
      rw [← Array.foldl_toList]
      simp
    rw [hfold] at hrun
    generalize (ps.toList.zip vs).foldl (fun t (p, v) => t.setIfInBounds p v) tmps = tm at hrun p1 p2
    have Rp : Rel E B S0 w0 (s.params ps.toList pvs) G' S' W tm := ⟨hI, hbel', p1, p2⟩
    have Pr : Put 0 (some (l, rec .ready none)) [] [] G' W := ⟨⟨[], rfl, List.nodup_nil, by simp⟩, fun x hx => by cases hx; exact ⟨hl, hfl⟩, Nat.zero_le _⟩
    have hlenG : G1.bx.length ≤ s.nbs.1 := by rw [St.nbs, ← hI.lbx]; exact getElem?_length_le X3.bx
    have hlenM : G1.mp.length ≤ s.nbs.2 := by rw [St.nbs, ← hI.lmp]; exact getElem?_length_le X3.mp
    have hFl' : F l := hF l (.inr hlW1)
    refine ⟨fn, tm, asg, body, hrun, roundIn_of_wpIn hfn (wpIn_mono (ha s.nbs 0 (some (l, rec .ready none)) n' B S0 w0 [] s.tk G' S' W (by simp [St.nbs, hI.lbx]) (by simp [St.nbs, hI.lmp]) _ _ G' S' W tm [] (hround k s pvs hy hIk) Rp (Ext.refl _ _ _ _) Pr) ?_)⟩
    intro e a1 Wa hq
    cases e with
    | exit id => obtain ⟨_, _, _, hk1, _⟩ := hq; exact hk1.elim
    | ret => obtain ⟨_, _, _, hk1, _⟩ := hq; exact hk1.elim
    | goto l => exact hq.elim
    | panic ch => exact hq.elim
    | outgrown => exact hq.elim
    | normal =>
    obtain ⟨s1, Ga, Sa, hk1, Ra, Xa, Pa⟩ := hq
    obtain ⟨hla, hfa⟩ := Pa.rnd _ rfl
    refine ⟨_, run_beginRound hla (hrs _ _), ?_⟩
    rw [hrec3]
    have Rb := Ra.putRec (o' := .loop (rec .busy none)) hla rfl rfl hfa hBl
    have hWb : (Wa.putObj l (.loop (rec .busy none))).heap[l]? = some (.loop (rec .busy none)) := World.putObj_heap_same (heap_lt hla)
    have Pb : Put 0 (some (l, rec .busy none)) [] a1.defers Ga (Wa.putObj l (.loop (rec .busy none))) := by
      obtain ⟨⟨Es, e1, e2, e3⟩, _, _⟩ := Pa
      exact ⟨⟨Es, e1, e2, fun D hD => ⟨(World.putObj_heap_other (fun e => by have := (e3 D hD).1; rw [e, hla] at this; cases this)).trans (e3 D hD).1, (e3 D hD).2⟩⟩, fun x hx => by cases hx; exact ⟨hWb, hfa⟩, Nat.zero_le _⟩
    refine wpIn_mono (hb s1.nbs 0 (some (l, rec .busy none)) n' B S0 w0 [] s1.tk Ga Sa _ (by simp [St.nbs, Ra.inv.lbx]) (by simp [St.nbs, Ra.inv.lmp]) _ _ Ga Sa _ a1.tmps a1.defers hk1 Rb (Ext.refl _ _ _ _) Pb) ?_
    have fin : ∀ (s2 : St) (G2 : Gh) (S2 : Addr → Prop) (W3 : World) (a3 : Act) (jump : Option Code), Rel E B S0 w0 s2 G2 S2 W3 a3.tmps → Ext s1.tk Ga Sa (Wa.putObj l (.loop (rec .busy none))) s2.tk G2 S2 W3 → Put 0 (some (l, rec .busy none)) [] a3.defers G2 W3 →
        (Instr.endRound l jump).run E.P W3 = .ok (.bool jump.isNone) (W3.putObj l (.loop (rec (if jump.isNone then .ready else .done) jump))) ∧ Rel E B S0 w0 (s2.withSl s0.sl) G2 S2 (W3.putObj l (.loop (rec (if jump.isNone then .ready else .done) jump))) tmps ∧
        Ext s0.tk G1 S w s2.tk G2 S2 (W3.putObj l (.loop (rec (if jump.isNone then .ready else .done) jump))) ∧ ¬ Foot G2 l ∧ (W3.putObj l (.loop (rec (if jump.isNone then .ready else .done) jump))).heap[l]? = some (.loop (rec (if jump.isNone then .ready else .done) jump)) ∧
        (∀ D ∈ Ds, (W3.putObj l (.loop (rec (if jump.isNone then .ready else .done) jump))).heap[D]? = some (.deferred (some [])) ∧ ¬ Foot G2 D) ∧ W3.heap[l]? = some (.loop (rec .busy none)) := by
      intro s2 G2 S2 W3 a3 jump R3 Xc P3
      obtain ⟨hl3, hf3⟩ := P3.rnd _ rfl
      have hend := run_endRound (P := E.P) jump hl3
      rw [hrec2] at hend
      have XT : Ext s0.tk G1 S w s2.tk G2 S2 (W3.putObj l (.loop (rec (if jump.isNone then .ready else .done) jump))) :=
        (((X3.trans Xa).putRec (o' := .loop (rec .busy none)) hla rfl rfl Ra.inv.slt hwl).trans Xc).putRec hl3 rfl rfl R3.inv.slt hwl
      have R4 := R3.putRec (o' := .loop (rec (if jump.isNone then .ready else .done) jump)) hl3 rfl rfl hf3 hBl
      refine ⟨hend, ⟨R4.inv, R4.below, R1.len, fun t sv v a b => RSV.mono XT (R1.sl t sv v a b)⟩, XT, hf3, World.putObj_heap_same (heap_lt hl3), fun D hD => ?_, hl3⟩
      have hDl : D ≠ l := (hDs1 D hD).2.2
      have q1 := (hDs D hD).1
      have q2 := (hDs D hD).2
      have q3 := (Xa.same D (heap_lt q1) q2).trans q1
      have q4 : ¬ Foot Ga D := fun h => q2 (Xa.foot D (heap_lt q1) h)
      have q5 := (World.putObj_heap_other (o := .loop (rec .busy none)) hDl).trans q3
      have q6 := (Xc.same D (heap_lt q5) q4).trans q5
      exact ⟨(World.putObj_heap_other hDl).trans q6, fun h => q4 (Xc.foot D (heap_lt q5) h)⟩
    intro e a3 W3 hq3
    have out : ∀ (s2 : St) (G2 G4 : Gh) (S2 : Addr → Prop) (r4 : Loop) (k' : Nat) (b : Bool), Ext s1.tk Ga Sa (Wa.putObj l (.loop (rec .busy none))) s2.tk G2 S2 W3 → W3.heap[l]? = some (.loop (rec .busy none)) → (∀ a, S2 a → a.block < W3.heap.size) → (∀ b, Foot G4 b → Foot G2 b) →
        (∀ b, Foot G4 b → b < (W3.putObj l (.loop r4)).heap.size) → ((b = true ∧ k' = k + 1) ∨ (b = false ∧ k' = xs.length + 1)) →
        (∀ F', (∀ c, Foot G4 c ∨ c < W1.heap.size → F' c) → Between E B S0 w0 s0 G1 S w l W1.heap.size Ds rec xs.length I Q k' F' S2 (W3.putObj l (.loop r4))) →
        ∃ (k' : Nat) (F' : Nat → Prop) (S'' : Addr → Prop), (((.returned (.bool b) : Ending) = .returned (.bool true) ∧ k' = k + 1) ∨ ((.returned (.bool b) : Ending) = .returned (.bool false) ∧ k' = xs.length + 1)) ∧ Between E B S0 w0 s0 G1 S w l W1.heap.size Ds rec xs.length I Q k' F' S'' (W3.putObj l (.loop r4)) ∧
          Below 0 W (W3.putObj l (.loop r4)) ∧ (∀ b, b < W.heap.size → ¬ F b → (W3.putObj l (.loop r4)).heap[b]? = W.heap[b]?) ∧ (∀ b, F' b → (F b ∨ W.heap.size ≤ b) ∧ b < (W3.putObj l (.loop r4)).heap.size) ∧ (∀ a, S' a → S'' a) ∧ (∀ a, S' a → (W3.putObj l (.loop r4)).cell? a = W.cell? a) ∧
          (∀ a, S'' a → (S' a ∨ F a.block ∨ W.heap.size ≤ a.block) ∧ a.block < (W3.putObj l (.loop r4)).heap.size) := by
      intro s2 G2 G4 S2 r4 k' b Xc hl3 hslt hfoot hfl4 hbk hBt
      obtain ⟨t1, t2, t3, t4, t5, t6⟩ := turn_ok (r4 := r4) Xa hla Xc hl3 (fun b h => hF b (.inl h)) hFl' hslt
      refine ⟨k', fun c => F c ∨ Foot G4 c, S2, ?_, hBt _ (fun c hc => hc.elim .inr (fun h => .inl (hF c (.inr h)))), t1, t2, fun c hc => ?_, t4, t5, t6⟩
      · rcases hbk with ⟨rfl, rfl⟩ | ⟨rfl, rfl⟩
        · exact .inl ⟨rfl, rfl⟩
        · exact .inr ⟨rfl, rfl⟩
      · rcases hc with hc | hc
        · exact ⟨.inl hc, Nat.lt_of_lt_of_le (hFl c hc) t1.size⟩
        · refine ⟨?_, hfl4 c hc⟩
          rcases Nat.lt_or_ge c W.heap.size with h | h
          · exact .inl (t3 c h (hfoot c hc))
          · exact .inr h
    cases e with
    | normal =>
      obtain ⟨s2, G2, S2, ⟨s3, hwk3, hI3⟩, R3, Xc, P3⟩ := hq3
      obtain ⟨hend, Rw, XT, hf3, hl4, hD4, hl3⟩ := fin s2 G2 S2 W3 a3 none R3 Xc P3
      obtain ⟨G4, R5, X5, F5⟩ := Rw.wk hlenG hlenM hwk3 XT
      exact ⟨_, _, hend, out s2 G2 G4 S2 _ (k + 1) true Xc hl3 R3.inv.slt F5 (fun b h => R5.inv.foot_lt h) (.inl ⟨rfl, rfl⟩) fun F' hF' =>
        ⟨s3, G4, .inl ⟨by omega, hI3, hl4⟩, hIsl _ _ hI3, R5.inv, R5.below, X5, fun h => hf3 (F5 _ h), fun D hD => ⟨(hD4 D hD).1, fun h => (hD4 D hD).2 (F5 _ h)⟩, hF'⟩⟩
    | exit i =>
      obtain ⟨s2, G2, S2, hq2, R3, Xc, P3⟩ := hq3
      obtain ⟨hend, Rw, XT, hf3, hl4, hD4, hl3⟩ := fin s2 G2 S2 W3 a3 (some (.exit i)) R3 Xc P3
      exact ⟨_, _, hend, out s2 G2 G2 S2 _ (xs.length + 1) false Xc hl3 R3.inv.slt (fun _ h => h) (fun b h => Rw.inv.foot_lt h) (.inr ⟨rfl, rfl⟩) fun F' hF' =>
        ⟨s2.withSl s0.sl, G2, .inr ⟨rfl, _, hl4, .inr ⟨i, rfl, hq2⟩⟩, rfl, Rw.inv, Rw.below, XT, hf3, hD4, hF'⟩⟩
    | ret =>
      obtain ⟨s2, G2, S2, hq2, R3, Xc, P3⟩ := hq3
      obtain ⟨hend, Rw, XT, hf3, hl4, hD4, hl3⟩ := fin s2 G2 S2 W3 a3 (some .ret) R3 Xc P3
      exact ⟨_, _, hend, out s2 G2 G2 S2 _ (xs.length + 1) false Xc hl3 R3.inv.slt (fun _ h => h) (fun b h => Rw.inv.foot_lt h) (.inr ⟨rfl, rfl⟩) fun F' hF' =>
        ⟨s2.withSl s0.sl, G2, .inr ⟨rfl, _, hl4, .inl ⟨rfl, hq2⟩⟩, rfl, Rw.inv, Rw.below, XT, hf3, hD4, hF'⟩⟩
    | goto l => exact hq3.elim
    | panic ch => exact hq3.elim
    | outgrown => exact hq3.elim
  refine ⟨l, Ds.map fun D => ({ target := .collected D, args := #[] } : Deferred), W1, { target := .fn (.func f) cvs.toArray, args := #[.func (.yield l) #[] #[]] }, W1, f, #[.func (.yield l) #[] #[]] ++ cvs.toArray, W1, henter, ?_, ?_, ?_, fun h => absurd h (by simp [Fr, Fence.wide]), ?_⟩
  · simp only [resolve, hvf]
    simp [go_sem]
  · intro f' _
    trivial
  · have := hseq.1
    simp [invoke, go_sem, this _ W1]
  have hcall := hseq.2 Y (rr.map (·.1)) (n - 1) (fun b => b < W1.heap.size) S W1 cvs (by rw [hY]) hYok (by rw [hY]; exact hJ0) (fun b h => h) R2.inv.slt (RVs.mono X2.sub X2.cell ⟨hlc, hc⟩)
  rw [show Y.l = l by rw [hY]] at hcall
  refine CallsIn.mono hcall ?_
  rintro e W2 ⟨v, k, F', S', rfl, hk, hJ, hcalm⟩
  rw [hY] at hJ
  obtain ⟨s, G', hkk, hsl, hI, hbel', X3, hfl, hDs, hF⟩ := hJ
  have Rs : Rel E B S0 w0 s G' S' W2 tmps := ⟨hI, hbel', by rw [hsl]; exact R1.len, fun t sv v a b => RSV.mono X3 (R1.sl t sv v (by rw [← hsl]; exact a) b)⟩
  have fin : ∀ (pe : Option Code) (stt : LoopState), W2.heap[l]? = some (.loop (rec stt pe)) → stt ≠ .busy → (Instr.endLoop l).run E.P W2 = .ok pe (W2.putObj l (.loop (rec .exhausted pe))) ∧ Rel E B S0 w0 s G' S' (W2.putObj l (.loop (rec .exhausted pe))) tmps ∧ Ext tk0 G0 S1 w1 s.tk G' S' (W2.putObj l (.loop (rec .exhausted pe))) ∧
      Put b0 rr d (Ds.map (fun D => ({ target := .collected D, args := #[] } : Deferred)) ++ ds) G' (W2.putObj l (.loop (rec .exhausted pe))) := by
    intro pe stt hl hst
    have hend := run_endLoop (P := E.P) hl (by rw [hrs]; exact hst)
    rw [hrec3, hrp] at hend
    refine ⟨hend, Rs.putRec hl rfl rfl hfl hBl, (X1.trans X3).putRec hl rfl rfl hI.slt (Nat.le_trans X1.calm.size hwl), ?_⟩
    obtain ⟨⟨Es, e1, e2, e3'⟩, e4', e5'⟩ := P1
    have e3 : ∀ D ∈ Es, W2.heap[D]? = some (.deferred (some [])) ∧ ¬ Foot G' D ∧ b0 ≤ D := fun D hD => ⟨(X3.same D (heap_lt (e3' D hD).1) (e3' D hD).2.1).trans (e3' D hD).1, fun hf => (e3' D hD).2.1 (X3.foot D (heap_lt (e3' D hD).1) hf), (e3' D hD).2.2⟩
    have e4 : ∀ x, rr = some x → W2.heap[x.1]? = some (.loop x.2) ∧ ¬ Foot G' x.1 := fun x hx => ⟨(X3.same x.1 (heap_lt (e4' x hx).1) (e4' x hx).2).trans (e4' x hx).1, fun hf => (e4' x hx).2 (X3.foot x.1 (heap_lt (e4' x hx).1) hf)⟩
    refine ⟨⟨Ds ++ Es, by rw [e1]; simp, List.nodup_append.2 ⟨hnd, e2, fun a ha b hb hab => ?_⟩, fun D hD => ?_⟩, fun x hx => ⟨(World.putObj_heap_other ?_).trans (e4 x hx).1, (e4 x hx).2⟩, by simpa using Nat.le_trans e5' X3.calm.size⟩
    · have h1 := (hDs1 a ha).2.1
      have h2 := heap_lt (e3' b hb).1
      omega
    · rcases List.mem_append.1 hD with hD | hD
      · exact ⟨(World.putObj_heap_other (hDs1 D hD).2.2).trans (hDs D hD).1, (hDs D hD).2, Nat.le_trans e5' (hDs1 D hD).2.1⟩
      · have h2 := heap_lt (e3' D hD).1
        exact ⟨(World.putObj_heap_other (by omega)).trans (e3 D hD).1, (e3 D hD).2⟩
    · have h2 := heap_lt (e4' x hx).1
      omega
  rcases hkk with ⟨hk1, hIk, hl⟩ | ⟨hk1, c, hl, hc⟩
  · have hkx : k = xs.length := by omega
    subst hkx
    obtain ⟨f1, f2, f3, f4⟩ := fin none .ready hl (by simp)
    exact ⟨none, _, f1, s, G', S', hdone s hIk, f2, f3, f4⟩
  · obtain ⟨f1, f2, f3, f4⟩ := fin (some c) .done hl (by simp)
    refine ⟨some c, _, f1, ?_⟩
    rcases hc with ⟨rfl, hq⟩ | ⟨i, rfl, hq⟩
    · exact wpIn_ret ⟨s, G', S', hq, f2, f3, f4⟩
    · exact wpIn_exit ⟨s, G', S', hq, f2, f3, f4⟩

/-- THE ABSTRACT WALK IS SOUND. -/
theorem wpC_ok (hE : EnvOk E) : ∀ (c : Code), WalkOk E c := by
  intro c
  induction c with
  | skip => intro nb b0 rr n B S0 w0 d tk0 G0 S1 w1 hnb hnm st Q G S w tmps ds h R X P; exact wpIn_skip ⟨st, G, S, h, R, X, P⟩
  | region id ops draw =>
    intro nb b0 rr n B S0 w0 d tk0 G0 S1 w1 hnb hnm st Q G S w tmps ds h R X P
    simp only [wpC] at h
    split at h
    rotate_left
    · rename_i c hea
      have hdr : draw = true := drawMode_draw (by rw [hea]; simp)
      subst hdr
      exact region_cut hE ds h R (Ext.refl _ _ _ _) fun st' G' S' w' tmps' hk R' X' => ⟨st', G', S', hk, R', X.trans X', P.ext X'⟩
    rotate_left
    · rename_i hea
      have hdr : draw = true := drawMode_draw (by rw [hea]; simp)
      subst hdr
      refine wpIn_region_any hE.mixed ?_
      have hb : Below w.heap.size w { w with drawn := w.drawn + 1 } := Below.drew (Below.refl _ _)
      obtain ⟨R1, X1⟩ := R.transport (S' := S) (w' := { w with drawn := w.drawn + 1 }) (fun _ h => h) (fun _ h => .inl h) hb
      exact wpAll_ok hE ops ds (fun st' G' S' w' tmps' hk R' X' => ⟨st', G', S', hk, R', X.trans X', P.ext X'⟩) _ _ st G S _ tmps h R1 X1
    obtain ⟨hd, h⟩ := h
    cases draw with
    | false =>
      refine wpIn_region ?_
      have := wpOps_ok (r := rr.map (·.1)) (n := n) (Q := LQ E B S0 w0 tk0 G0 S1 w1 b0 rr d Q) hE ops ds ops.toList 0 st G S w tmps (fun j => by simp) h R (Ext.refl _ _ _ _) (fun st' G' S' w' tmps' hk R' X' => ⟨st', G', S', hk, R', X.trans X', P.ext X'⟩)
      rw [List.range_eq_range']
      simpa using this
    | true =>
      exact region_any hE ds (by simpa using hd) h R (Ext.refl _ _ _ _) fun st' G' S' w' tmps' hk R' X' => ⟨st', G', S', hk, R', X.trans X', P.ext X'⟩
  | seq a b iha ihb =>
    intro nb b0 rr n B S0 w0 d tk0 G0 S1 w1 hnb hnm st Q G S w tmps ds h R X P
    refine wpIn_seq (wpIn_mono (iha nb b0 rr n B S0 w0 d tk0 G0 S1 w1 hnb hnm st _ G S w tmps ds h R X P) fun e a' w' hq => ?_)
    cases e with
    | normal =>
      obtain ⟨st', G', S', hk, R', X', P'⟩ := hq
      exact ihb nb b0 rr n B S0 w0 d tk0 G0 S1 w1 hnb hnm st' Q G' S' w' _ _ hk R' X' P'
    | exit id => exact hq
    | ret => exact hq
    | goto l => exact hq.elim
    | panic ch => exact hq.elim
    | outgrown => exact hq.elim
  | cond c a b iha ihb =>
    intro nb b0 rr n B S0 w0 d tk0 G0 S1 w1 hnb hnm st Q G S w tmps ds h R X P
    simp only [wpC] at h
    split at h
    · rename_i t ht
      have hv := R.val c ds
      rw [ht] at hv
      have hv' := RV.bool_inv hv
      exact wpIn_cond_split hv' (fun e => iha nb b0 rr n B S0 w0 d tk0 G0 S1 w1 hnb hnm st Q G S w tmps ds (h.1 e) R X P) (fun e => ihb nb b0 rr n B S0 w0 d tk0 G0 S1 w1 hnb hnm st Q G S w tmps ds (h.2 e) R X P)
    · exact h.elim
  | block id body ih =>
    intro nb b0 rr n B S0 w0 d tk0 G0 S1 w1 hnb hnm st Q G S w tmps ds h R X P
    refine wpIn_block (wpIn_mono (ih nb b0 rr n B S0 w0 d tk0 G0 S1 w1 hnb hnm st _ G S w tmps ds h R X P) fun e a' w' hq => ?_)
    cases e with
    | normal => exact hq
    | exit i =>
      obtain ⟨st', G', S', hk, R', X'⟩ := hq
      simp only at hk
      simp only [Exit.inBlock]
      split at hk
      · rename_i hi; rw [if_pos hi]; exact ⟨st', G', S', hk, R', X'⟩
      · rename_i hi; rw [if_neg hi]; exact ⟨st', G', S', hk, R', X'⟩
    | ret => exact hq
    | goto l => exact hq.elim
    | panic ch => exact hq.elim
    | outgrown => exact hq.elim
  | loop body ih =>
    intro nb b0 rr n B S0 w0 d tk0 G0 S1 w1 hnb hnm st Q G S w tmps ds h R X P
    obtain ⟨I, ⟨n0, st0, hwk, hI0⟩, hstep⟩ := h
    obtain ⟨Gs, Rs, Xs, Fs⟩ := R.wk hnb hnm hwk X
    refine wpIn_loop_ghost (fun k a w => ∃ st G S, I k st ∧ Rel E B S0 w0 st G S w a.tmps ∧ Ext tk0 G0 S1 w1 st.tk G S w ∧ Put b0 rr d a.defers G w) n0 ⟨st0, Gs, S, hI0, Rs, Xs, P.foot Fs⟩ ?_
    rintro k a w' ⟨s, G', S', hI, R', X', P'⟩
    refine wpIn_mono (ih nb b0 rr n B S0 w0 d tk0 G0 S1 w1 hnb hnm s _ G' S' w' a.tmps a.defers (hstep k s hI) R' X' P') fun e a' w'' hq => ?_
    cases e with
    | normal =>
      obtain ⟨s', G2, S2, ⟨n', s'', hlt, hwk', hI'⟩, R2, X2, P2⟩ := hq
      obtain ⟨G3, R3, X3, F3⟩ := R2.wk hnb hnm hwk' X2
      exact ⟨n', hlt, s'', G3, S2, hI', R3, X3, P2.foot F3⟩
    | exit i => exact hq
    | ret => exact hq
    | goto l => exact hq.elim
    | panic ch => exact hq.elim
    | outgrown => exact hq.elim
  | exit id => intro nb b0 rr n B S0 w0 d tk0 G0 S1 w1 hnb hnm st Q G S w tmps ds h R X P; exact wpIn_exit ⟨st, G, S, h, R, X, P⟩
  | ret => intro nb b0 rr n B S0 w0 d tk0 G0 S1 w1 hnb hnm st Q G S w tmps ds h R X P; exact wpIn_ret ⟨st, G, S, h, R, X, P⟩
  | label l => intro nb b0 rr n B S0 w0 d tk0 G0 S1 w1 hnb hnm st Q G S w tmps ds h R X P; exact wpIn_label ⟨st, G, S, h, R, X, P⟩
  | rangeFunc f ps a b iha ihb => exact range_ok hE iha ihb
  | scope b ih => intro nb b0 rr n B S0 w0 d tk0 G0 S1 w1 hnb hnm st Q G S w tmps ds h R X P; exact h.elim
  | goto l => intro nb b0 rr n B S0 w0 d tk0 G0 S1 w1 hnb hnm st Q G S w tmps ds h R X P; exact h.elim
  | refuse s => intro nb b0 rr n B S0 w0 d tk0 G0 S1 w1 hnb hnm st Q G S w tmps ds h R X P; exact h.elim

end
end Go.Abs
