/-
  The abstract walk is sound: the third part: numbers, equality, lengths, structs written out.
-/
import Derived.Test.YthofonhkpilifaaAbs4
import Derived.Laws.StructEq
namespace Go.Abs
open Go.RowKit

section
variable {E : Env} {B : Nat} {S0 : Addr → Prop} {w0 : World} {st : St} {G : Gh} {S : Addr → Prop} {w : World} {tmps : Array Value}

theorem wrap_in {n : Int} (h : inI64 n) : IntKind.i64.wrap n = n := by
  unfold inI64 at h
  rw [IntKind.wrap_i64]
  omega

theorem eqGuard_int (op : BinOp) (t : TypeId) (x y : Operand) (k k' : IntKind) (a b : Int) : (eqGuard op t x y (.int k a) (.int k' b)).run E.P w = .ok () w := by
  unfold eqGuard
  cases op <;> simp
theorem eqGuard_bool (op : BinOp) (t : TypeId) (x y : Operand) (a b : Bool) : (eqGuard op t x y (.bool a) (.bool b)).run E.P w = .ok () w := by
  unfold eqGuard
  cases op <;> simp
theorem eqGuard_str (op : BinOp) (t : TypeId) (x y : Operand) (a b : ByteArray) : (eqGuard op t x y (.string a) (.string b)).run E.P w = .ok () w := by
  unfold eqGuard
  cases op <;> simp

theorem arithI64_ok {op : BinOp} {a b : Int} {s : Prop} {p : PV} (h : arithI64 op a b = some (s, p)) (hs : s) (t : TypeId) :
    ∃ v, (binOp op t (.int .i64 a) (.int .i64 b)).run E.P w = .ok v w ∧ RV S w p v := by
  cases op <;> simp only [arithI64, Option.some.injEq, Prod.mk.injEq, reduceCtorEq] at h <;> obtain ⟨rfl, rfl⟩ := h
  · exact ⟨_, by simp [binOp, Op.intArith, wrap_in hs], RV.int _ _⟩
  · exact ⟨_, by simp [binOp, Op.intArith, wrap_in hs], RV.int _ _⟩
  · exact ⟨_, by simp [binOp, Op.intArith, wrap_in hs], RV.int _ _⟩
  · exact ⟨_, by simp [binOp, Op.intDiv, hs.1, wrap_in hs.2], RV.int _ _⟩
  · exact ⟨_, by have hs' : ¬ b = 0 := hs; simp [binOp, Op.intDiv, hs'], RV.int _ _⟩
  · refine ⟨.bool (a == b), by simp [binOp, Op.intCmp], ?_⟩
    have : (a == b) = decide (a = b) := by rw [Bool.eq_iff_iff]; simp
    rw [this]
    exact RV.bool _
  · refine ⟨.bool (a != b), by simp [binOp, Op.intCmp], ?_⟩
    have : (a != b) = decide (a ≠ b) := by rw [Bool.eq_iff_iff]; simp
    rw [this]
    exact RV.bool _
  · exact ⟨_, by simp [binOp, Op.intCmp], RV.bool _⟩
  · exact ⟨_, by simp [binOp, Op.intCmp], RV.bool _⟩
  · exact ⟨_, by simp [binOp, Op.intCmp], RV.bool _⟩
  · exact ⟨_, by simp [binOp, Op.intCmp], RV.bool _⟩

theorem arithOther_ok {op : BinOp} {k : IntKind} {a b : Int} {s : Prop} {p : PV} (h : arithOther op k a b = some (s, p)) (t : TypeId) :
    ∃ v, (binOp op t (.int k a) (.int k b)).run E.P w = .ok v w ∧ RV S w p v := by
  cases op <;> simp only [arithOther, Option.some.injEq, Prod.mk.injEq, reduceCtorEq] at h <;> obtain ⟨_, rfl⟩ := h
  · exact ⟨_, by simp [binOp, Op.intArith], RV.int _ _⟩
  · exact ⟨_, by simp [binOp, Op.intArith], RV.int _ _⟩
  · exact ⟨.int k _, by simp only [binOp, Op.intBits]; simp only [ne_eq, not_true_eq_false, ↓reduceIte, Sem.run_pure], RV.int _ _⟩
  · exact ⟨.int k _, by simp only [binOp, Op.intBits]; simp only [ne_eq, not_true_eq_false, ↓reduceIte, Sem.run_pure], RV.int _ _⟩
  · refine ⟨.bool (a == b), by simp [binOp, Op.intCmp], ?_⟩
    have : (a == b) = decide (a = b) := by rw [Bool.eq_iff_iff]; simp
    rw [this]
    exact RV.bool _
  · refine ⟨.bool (a != b), by simp [binOp, Op.intCmp], ?_⟩
    have : (a != b) = decide (a ≠ b) := by rw [Bool.eq_iff_iff]; simp
    rw [this]
    exact RV.bool _
  · exact ⟨_, by simp [binOp, Op.intCmp], RV.bool _⟩
  · exact ⟨_, by simp [binOp, Op.intCmp], RV.bool _⟩
  · exact ⟨_, by simp [binOp, Op.intCmp], RV.bool _⟩
  · exact ⟨_, by simp [binOp, Op.intCmp], RV.bool _⟩

theorem RV.int_inv {k : IntKind} {n : Int} {v : Value} (h : RV S w (.int k n) v) : v = .int k n := by cases h; rfl
theorem RV.bool_inv {b : Bool} {v : Value} (h : RV S w (.bool b) v) : v = .bool b := by cases h; rfl
theorem RV.str_inv {s : ByteArray} {v : Value} (h : RV S w (.str s) v) : v = .string s := by cases h; rfl

theorem str_beq (a b : ByteArray) : (a.toList == b.toList) = decide (a = b) := by
  rw [ByteArray.toList_eq, ByteArray.toList_eq, Bool.eq_iff_iff]
  obtain ⟨⟨x⟩⟩ := a
  obtain ⟨⟨y⟩⟩ := b
  simp

/-! ### '==' on structs -/

theorem eqCells_length : ∀ {ks : List SK} {xs ys : List PV} {r : Bool}, eqCells ks xs ys = some r → xs.length = ks.length ∧ ys.length = ks.length
  | [], [], [], _, _ => ⟨rfl, rfl⟩
  | k :: ks, x :: xs, y :: ys, r, h => by
    simp only [eqCells] at h
    split at h
    · rename_i a b _ hb
      obtain ⟨h1, h2⟩ := eqCells_length hb
      simp [h1, h2]
    · cases h
  | [], [], _ :: _, _, h | [], _ :: _, _, _, h | _ :: _, [], _, _, h | _ :: _, _ :: _, [], _, h => by simp [eqCells] at h

theorem eqCells_split : ∀ {ks ls : List SK} {xs ys : List PV} {r : Bool}, eqCells (ks ++ ls) xs ys = some r →
    ∃ a b, eqCells ks (xs.take ks.length) (ys.take ks.length) = some a ∧ eqCells ls (xs.drop ks.length) (ys.drop ks.length) = some b ∧ r = (a && b)
  | [], ls, xs, ys, r, h => ⟨true, r, by simp [eqCells], by simpa using h, by simp⟩
  | k :: ks, ls, x :: xs, y :: ys, r, h => by
    simp only [List.cons_append, eqCells] at h
    split at h
    · rename_i a b ha hb
      cases h
      obtain ⟨c, d, h1, h2, h3⟩ := eqCells_split hb
      exact ⟨a && c, d, by simp [eqCells, ha, h1], by simpa using h2, by rw [h3, Bool.and_assoc]⟩
    · cases h
  | k :: ks, ls, [], ys, r, h => by simp [eqCells] at h
  | k :: ks, ls, x :: xs, [], r, h => by simp [eqCells] at h

/-- A value of a type, from its cells. -/
def valIn (P : Program) (t : TypeId) (vs : List Value) : Value :=
  match P.underlying t with
  | some (.struct _) => .agg vs.toArray
  | _ => vs.getD 0 undef

theorem RVs.take {cs : List PV} {vs : List Value} (h : RVs S w cs vs) (n : Nat) : RVs S w (cs.take n) (vs.take n) := by simpa using RVs.drop_take h 0 n
theorem RVs.drop {cs : List PV} {vs : List Value} (h : RVs S w cs vs) (n : Nat) : RVs S w (cs.drop n) (vs.drop n) :=
  ⟨by simp [h.1], fun i p v h1 h2 => by rw [List.getElem?_drop] at h1 h2; exact h.2 _ p v h1 h2⟩

theorem RVs.one_inv {p : PV} {vs : List Value} (h : RVs S w [p] vs) : ∃ v, vs = [v] ∧ RV S w p v := by
  match vs, h with
  | [v], h => exact ⟨v, rfl, h.2 0 p v rfl rfl⟩
  | [], h => exact absurd h.1 (by simp)
  | _ :: _ :: _, h => exact absurd h.1 (by simp)

theorem info_of_underlying {P : Program} {t : TypeId} {u : TypeDesc} (h : P.underlying t = some u) : ∃ i, P.info? t = some i := by
  unfold Program.underlying at h
  cases hq : P.info? t with
  | some i => exact ⟨i, rfl⟩
  | none => rw [hq] at h; cases h

theorem valIn_struct {P : Program} {t : TypeId} {fs : Array Field} (h : P.underlying t = some (.struct fs)) (vs : List Value) : valIn P t vs = .agg vs.toArray := by
  simp only [valIn, h]
theorem valIn_one {P : Program} {t : TypeId} {u : TypeDesc} (h : P.underlying t = some u) (hag : isAggD u = false) (vs : List Value) : valIn P t vs = vs.getD 0 undef := by
  simp only [valIn, h]
  cases u <;> simp_all [isAggD]

theorem run_part {t : TypeId} {ks : List SK} (hk : ∃ d, flatK E.P d t = some ks) (hn : ks.length = E.P.cellsOf t) (vs : List Value) (off : Nat) (h : off + ks.length ≤ vs.length) :
    (part t vs.toArray off).run E.P w = .ok (valIn E.P t ((vs.drop off).take ks.length)) w := by
  obtain ⟨d, hd⟩ := hk
  cases d with
  | zero => cases hd
  | succ d =>
    have hsc : ∀ u : TypeDesc, E.P.underlying t = some u → isAggD u = false → ks.length = 1 → (part t vs.toArray off).run E.P w = .ok (valIn E.P t ((vs.drop off).take ks.length)) w := by
      intro u hu hag h1
      have hlt : off < vs.length := by omega
      rw [valIn_one hu hag, h1]
      have e : ((vs.drop off).take 1).getD 0 undef = vs[off] := by
        rw [List.drop_eq_getElem_cons hlt]
        rfl
      rw [e]
      simp [part, run_isAgg' hu, hag, hlt]
    simp only [flatK] at hd
    split at hd
    · rename_i hu; cases hd; exact hsc _ hu rfl rfl
    · rename_i hu; cases hd; exact hsc _ hu rfl rfl
    · rename_i hu; cases hd; exact hsc _ hu rfl rfl
    · rename_i fs hu
      obtain ⟨i, hi⟩ := info_of_underlying hu
      have hsz : i.size = ks.length := by
        rw [hn]; simp [Program.cellsOf, hi]
      rw [valIn_struct hu]
      simp [part, run_isAgg' hu, isAggD, run_sizeOf' hi, hsz]
      try (apply Array.ext'; simp [List.take_drop, Nat.add_comm])
    · cases hd

theorem run_eqFields (d : Nat) (F : TypeId → Option (List SK)) (hF : ∀ t ks, F t = some ks → ∃ n, flatK E.P n t = some ks)
    (heq : ∀ (t : TypeId) (ks : List SK) (xs ys : List PV) (vs us : List Value) (r : Bool), F t = some ks → RVs S w xs vs → RVs S w ys us → eqCells ks xs ys = some r →
      (Op.equalIn d t (valIn E.P t vs) (valIn E.P t us)).run E.P w = .ok r w) :
    ∀ (fs : List Field) (off : Nat) (ks : List SK) (xs ys : List PV) (vs us : List Value) (r : Bool), flatFields E.P F off fs = some ks → RVs S w xs vs → RVs S w ys us → eqCells ks (xs.drop off) (ys.drop off) = some r →
      (Op.eqFields d vs.toArray us.toArray fs).run E.P w = .ok r w
  | [], off, ks, xs, ys, vs, us, r, hf, hx, hy, he => by
    simp only [flatFields, Option.some.injEq] at hf
    subst hf
    generalize xs.drop off = a at he
    generalize ys.drop off = b at he
    match a, b, he with
    | [], [], he => simp [eqCells] at he; subst he; simp [Op.eqFields]
    | _ :: _, _, he => simp [eqCells] at he
    | [], _ :: _, he => simp [eqCells] at he
  | f :: fs, off, ks, xs, ys, vs, us, r, hf, hx, hy, he => by
    simp only [flatFields] at hf
    split at hf
    · rename_i hname
      split at hf
      · cases hf
      · rename_i ks1 hk1
        split at hf
        · rename_i hlen
          cases hr1 : flatFields E.P F (off + ks1.length) fs with
          | none => simp [hr1] at hf
          | some ks2 =>
            simp [hr1] at hf
            subst hf
            obtain ⟨a, b, h1, h2, rfl⟩ := eqCells_split he
            have hL := eqCells_length h1
            have hx1 : ks1.length ≤ (xs.drop off).length := by
              have := hL.1; simp at this ⊢; omega
            have hy1 : ks1.length ≤ (ys.drop off).length := by
              have := hL.2; simp at this ⊢; omega
            have hz : 0 < ks1.length := List.length_pos_iff.2 hlen.2
            have hvs : off + ks1.length ≤ vs.length := by rw [← hx.1]; simp at hx1; omega
            have hus : off + ks1.length ≤ us.length := by rw [← hy.1]; simp at hy1; omega
            have e1 := heq f.type ks1 _ _ _ _ a hk1 ((hx.drop off).take ks1.length) ((hy.drop off).take ks1.length) h1
            have ih := run_eqFields d F hF heq fs (off + ks1.length) ks2 xs ys vs us b hr1 hx hy (by simpa [List.drop_drop, Nat.add_comm] using h2)
            simp only [Op.eqFields, ne_eq, hname.1, not_false_eq_true, ↓reduceIte, Sem.run_bind, hname.2, run_part (hF _ _ hk1) hlen.1 vs off hvs, run_part (hF _ _ hk1) hlen.1 us off hus, Result.andThen_ok, e1, Sem.run_ite, ih, Sem.run_pure]
            cases a <;> simp
        · cases hf
    · cases hf

theorem eqCells_one {k : SK} {xs ys : List PV} {r : Bool} (h : eqCells [k] xs ys = some r) : ∃ x y, xs = [x] ∧ ys = [y] ∧ eqPV k x y = some r := by
  match xs, ys, h with
  | [x], [y], h =>
    simp only [eqCells] at h
    cases hq : eqPV k x y with
    | none => simp [hq] at h
    | some a => simp [hq] at h; exact ⟨x, y, rfl, rfl, by rw [← h]; exact hq⟩
  | [], _, h => simp [eqCells] at h
  | x :: y :: xs, [], h => simp [eqCells] at h
  | x :: y :: xs, [z], h => simp [eqCells] at h
  | x :: y :: xs, z :: u :: zs, h => simp [eqCells] at h
  | [x], [], h => simp [eqCells] at h
  | [x], y :: z :: zs, h => simp [eqCells] at h

theorem run_equalIn_flat : ∀ (n d : Nat), n ≤ d → ∀ (t : TypeId) (ks : List SK) (xs ys : List PV) (vs us : List Value) (r : Bool), flatK E.P n t = some ks → RVs S w xs vs → RVs S w ys us → eqCells ks xs ys = some r →
      (Op.equalIn d t (valIn E.P t vs) (valIn E.P t us)).run E.P w = .ok r w
  | 0, _, _, _, _, _, _, _, _, _, h, _, _, _ => by cases h
  | n + 1, 0, hd, _, _, _, _, _, _, _, _, _, _, _ => by omega
  | n + 1, d + 1, hd, t, ks, xs, ys, vs, us, r, h, hx, hy, he => by
    simp only [flatK] at h
    split at h
    · rename_i hu
      cases h
      obtain ⟨x, y, rfl, rfl, hp⟩ := eqCells_one he
      obtain ⟨v, rfl, hv⟩ := RVs.one_inv hx
      obtain ⟨u, rfl, hu'⟩ := RVs.one_inv hy
      rw [valIn_one hu rfl, valIn_one hu rfl]
      cases x <;> cases y <;> simp only [eqPV, reduceCtorEq, Option.some.injEq] at hp
      cases hv; cases hu'
      rename_i a b
      simp [Op.equalIn, run_underlying hu, List.getD, ← hp]
      rw [Bool.eq_iff_iff]; simp
    · rename_i hu
      cases h
      obtain ⟨x, y, rfl, rfl, hp⟩ := eqCells_one he
      obtain ⟨v, rfl, hv⟩ := RVs.one_inv hx
      obtain ⟨u, rfl, hu'⟩ := RVs.one_inv hy
      rw [valIn_one hu rfl, valIn_one hu rfl]
      cases x <;> cases y <;> simp only [eqPV, reduceCtorEq, Option.ite_none_right_eq_some, Option.some.injEq] at hp
      cases hv; cases hu'
      obtain ⟨rfl, hp⟩ := hp
      simp [Op.equalIn, run_underlying hu, List.getD, ← hp]
      rw [Bool.eq_iff_iff]; simp
    · rename_i hu
      cases h
      obtain ⟨x, y, rfl, rfl, hp⟩ := eqCells_one he
      obtain ⟨v, rfl, hv⟩ := RVs.one_inv hx
      obtain ⟨u, rfl, hu'⟩ := RVs.one_inv hy
      rw [valIn_one hu rfl, valIn_one hu rfl]
      cases x <;> cases y <;> simp only [eqPV, reduceCtorEq, Option.some.injEq] at hp
      cases hv; cases hu'
      rename_i a b
      simp [Op.equalIn, run_underlying hu, List.getD, ← hp]
      rw [← str_beq, beq_toListBytes]
    · rename_i fs hu
      split at h
      · cases h
      · rename_i hst
        have hfo : E.P.fieldsOf t = fs := by simp [Program.fieldsOf, hu]
        rw [valIn_struct hu, valIn_struct hu, run_equalIn_struct w d t vs.toArray us.toArray (by rw [hfo]; exact hu) (by simpa using hst), hfo]
        exact run_eqFields d (flatK E.P n) (fun t ks h => ⟨n, h⟩) (fun t ks xs ys vs us r h1 h2 h3 h4 => run_equalIn_flat n d (by omega) t ks xs ys vs us r h1 h2 h3 h4) fs.toList 0 ks xs ys vs us r h hx hy (by simpa using he)
    · cases h

theorem run_eqGuard_agg {op : BinOp} {t : TypeId} (x y : Operand) (vs us : Array Value) (h : E.P.eqGuardType E.P.depth t = false) : (eqGuard op t x y (.agg vs) (.agg us)).run E.P w = .ok () w := by
  unfold eqGuard
  cases op <;> simp [h]

theorem run_equalIn_bool (d : Nat) {t : TypeId} (hu : E.P.underlying t = some .bool) (a b : Bool) : (Op.equalIn (d + 1) t (.bool a) (.bool b)).run E.P w = .ok (a == b) w := by
  simp [Op.equalIn, run_underlying hu]

theorem ok_bin (hE : EnvOk E) (R : Rel E B S0 w0 st G S w tmps) {op : BinOp} {t : TypeId} {x y : SV} {vx vy : Value} (ox oy : Operand) (hx : RSV st.tk G S w x vx) (hy : RSV st.tk G S w y vy) :
    OpOk E B S0 w0 (opBin E op t x y st) G S w st.tk tmps (do pure (.value (← (do eqGuard op t ox oy vx vy; binOp op t vx vy)))) :=
  OpOk.same R fun r' hr hside => by
    unfold opBin at hr
    split at hr
    · rename_i k a k' b
      cases RV.int_inv hx
      cases RV.int_inv hy
      split at hr
      · cases hr
        obtain ⟨h0, h1⟩ := hside
        refine ⟨rfl, .int k (k.wrap (a * 2 ^ b.toNat)), ?_, RV.int _ _⟩
        have hm : min b.toNat k.bits = b.toNat := by omega
        simp [eqGuard_int, binOp, Op.shift, show ¬ b < 0 by omega, hm]
      · cases hr
        obtain ⟨h0, h1⟩ := hside
        refine ⟨rfl, .int k (a.fdiv (2 ^ b.toNat)), ?_, RV.int _ _⟩
        have hm : min b.toNat k.bits = b.toNat := by omega
        simp [eqGuard_int, binOp, Op.shift, show ¬ b < 0 by omega, hm]
      · split at hr
        · rename_i hkk
          subst hkk
          split at hr
          · rename_i s p hsp
            cases hr
            split at hsp
            · rename_i hk
              subst hk
              obtain ⟨v, h1, h2⟩ := arithI64_ok (E := E) (w := w) (S := S) hsp hside t
              exact ⟨rfl, v, by simp [eqGuard_int, h1], h2⟩
            · obtain ⟨v, h1, h2⟩ := arithOther_ok (E := E) (w := w) (S := S) hsp t
              exact ⟨rfl, v, by simp [eqGuard_int, h1], h2⟩
          · cases hr
        · cases hr
    · rename_i a b
      cases RV.bool_inv hx
      cases RV.bool_inv hy
      have hk := (hE.td t).k
      split at hr
      · rename_i hs
        rw [hs] at hk
        cases hr
        refine ⟨rfl, .bool (a == b), by simp only [Sem.run_bind, eqGuard_bool, binOp, Op.equal, Op.maxDepth, run_equalIn_bool 9999 hk, Result.andThen_ok, Sem.run_pure], ?_⟩
        have : (a == b) = decide (a = b) := by rw [Bool.eq_iff_iff]; simp
        rw [this]
        exact RV.bool _
      · rename_i hs
        rw [hs] at hk
        cases hr
        refine ⟨rfl, .bool (!(a == b)), by simp only [Sem.run_bind, eqGuard_bool, binOp, Op.equal, Op.maxDepth, run_equalIn_bool 9999 hk, Result.andThen_ok, Sem.run_pure], ?_⟩
        have : (!(a == b)) = decide (a ≠ b) := by rw [Bool.eq_iff_iff]; simp
        rw [this]
        exact RV.bool _
      · cases hr
    · rename_i a b
      cases RV.str_inv hx
      cases RV.str_inv hy
      split at hr
      · cases hr
        refine ⟨rfl, .bool (a.toList == b.toList), by simp [eqGuard_str, binOp, Op.stringOp], ?_⟩
        rw [str_beq]
        exact RV.bool _
      · cases hr
        refine ⟨rfl, .bool (!(a.toList == b.toList)), by simp [eqGuard_str, binOp, Op.stringOp], ?_⟩
        rw [str_beq, ← decide_not]
        exact RV.bool _
      · cases hr
    · rename_i a b
      obtain ⟨vs, rfl, hvs⟩ := RV.agg_iff hx
      obtain ⟨us, rfl, hus⟩ := RV.agg_iff hy
      split at hr
      · cases hr
      · rename_i ks hks
        obtain ⟨d, hd, hfl, hgt, fs, hu⟩ := (hE.td t).eq ks hks
        split at hr
        · rename_i r he
          cases hr
          have hq := run_equalIn_flat (E := E) (w := w) (S := S) d 10000 (by omega) t ks a b vs us r hfl hvs hus he
          rw [valIn_struct hu, valIn_struct hu] at hq
          refine ⟨rfl, .bool r, ?_, RV.bool _⟩
          simp only [Sem.run_bind, run_eqGuard_agg ox oy _ _ hgt, Result.andThen_ok, binOp, Op.equal, Op.maxDepth, hq, Sem.run_pure]
        · rename_i r he
          cases hr
          have hq := run_equalIn_flat (E := E) (w := w) (S := S) d 10000 (by omega) t ks a b vs us r hfl hvs hus he
          rw [valIn_struct hu, valIn_struct hu] at hq
          refine ⟨rfl, .bool (!r), ?_, RV.bool _⟩
          simp only [Sem.run_bind, run_eqGuard_agg ox oy _ _ hgt, Result.andThen_ok, binOp, Op.equal, Op.maxDepth, hq, Sem.run_pure]
        · cases hr
    · cases hr

theorem ok_convert (hE : EnvOk E) (R : Rel E B S0 w0 st G S w tmps) {s d : TypeId} {x : SV} {vx : Value} (hx : RSV st.tk G S w x vx) :
    OpOk E B S0 w0 (opConvert E s d x st) G S w st.tk tmps (do pure (.value (← convert s d vx))) :=
  OpOk.same R fun r' hr hside => by
    unfold opConvert at hr
    have hs := (hE.td s).k
    have hd := (hE.td d).k
    split at hr
    · rename_i k k' k'' n h1 h2
      rw [h1] at hs
      rw [h2] at hd
      cases RV.int_inv hx
      split at hr
      · rename_i hk
        obtain ⟨rfl, rfl, rfl⟩ := hk
        cases hr
        refine ⟨rfl, .int .i64 n, ?_, RV.int _ _⟩
        simp [convert, run_underlying hs, run_underlying hd, Conv.intToInt, wrap_in (show inI64 n from hside)]
      · cases hr
        refine ⟨rfl, .int k' (k'.wrap n), ?_, RV.int _ _⟩
        simp [convert, run_underlying hs, run_underlying hd, Conv.intToInt]
    · rename_i str h1 h2
      rw [h1] at hs
      rw [h2] at hd
      cases hr
      cases RV.str_inv hx
      refine ⟨rfl, .string str, ?_, RV.str _⟩
      simp [convert, run_underlying hs, run_underlying hd]
    · cases hr

theorem ok_len (hE : EnvOk E) (R : Rel E B S0 w0 st G S w tmps) {t : TypeId} {x : SV} {vx : Value} (hx : RSV st.tk G S w x vx) (ty : TypeId) :
    OpOk E B S0 w0 (opLen E t x st) G S w st.tk tmps (do pure (.value (← Builtin.len_ #[t] ty #[vx]))) :=
  OpOk.same R fun r' hr hside => by
    unfold opLen at hr
    have hk := (hE.td t).k
    split at hr
    · rename_i s h1
      rw [h1] at hk
      cases hr
      cases RV.str_inv hx
      exact ⟨rfl, _, by simp [Builtin.len_, run_underlying hk, goInt], RV.int _ _⟩
    · rename_i e id off n h1
      rw [h1] at hk
      cases hr
      obtain ⟨b, cap, hb, rfl, _⟩ := hx
      exact ⟨rfl, _, by simp [Builtin.len_, run_underlying hk, goInt], RV.int _ _⟩
    · rename_i e id off m n cap h1
      rw [h1] at hk
      cases hr
      obtain ⟨b, hb, rfl, _⟩ := hx
      exact ⟨rfl, _, by simp [Builtin.len_, run_underlying hk, goInt], RV.int _ _⟩
    · rename_i e x' h1 _ _
      rw [h1] at hk
      split at hr
      · rename_i m xs hel
        cases hr
        obtain ⟨a, ad, cap, g, rfl, _⟩ := RV.slice_iff (RSV.elems hx hel)
        exact ⟨rfl, _, by simp [Builtin.len_, run_underlying hk, goInt], RV.int _ _⟩
      · cases hr
    · rename_i n e h1
      rw [h1] at hk
      cases hr
      exact ⟨rfl, _, by simp [Builtin.len_, run_underlying hk, goInt], RV.int _ _⟩
    · cases hr

end
end Go.Abs
