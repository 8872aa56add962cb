/-
  Regions whose order is drawn: what an operation looks at; that it does the same wherever what it looks at is the same.
-/
import Derived.Test.YthofonhkpilifaaAbs11
namespace Go.Abs
open Go.RowKit

def memW : Op → Bool
  | .alloc _ | .box .. | .store .. => true
  | _ => false
def memR : Op → Bool
  | .load .. => true
  | _ => false
def tkW : Op → Bool
  | .call c => (match c.callee with | .builtin .append => true | _ => false)
  | _ => false
def noSeal (rw : RowM) : Op → Bool
  | .makeFunc .. | .makeMap .. | .mapUpdate .. => false
  | .makeSlice .. => !rw.rows
  | .call { callee := .builtin .append, argTypes, .. } => !rw.at_ argTypes.toList
  | _ => true

/-- What does not turn the state, nor looks at what is not handed to it. -/
def PureOp (f : St → Option Res) : Prop := ∀ st st2 r, f st = some r → f st2 = some ⟨r.side, r.v, st2⟩ ∧ r.st = st

theorem pure_pick (c a b : SV) : PureOp (opPick c a b) := by
  intro st st2 r h
  unfold opPick at h ⊢
  split at h
  · cases h; exact ⟨rfl, rfl⟩
  · cases h
theorem pure_fieldAddr (E : Env) (s : TypeId) (x : SV) (f : Nat) : PureOp (opFieldAddr E s x f) := by
  intro st st2 r h
  unfold opFieldAddr at h ⊢
  repeat' split at h
  all_goals first | (cases h; fail) | (cases h; simp_all) | (cases h)
theorem pure_build (E : Env) (t : TypeId) (ps : List (Nat × SV)) : PureOp (opBuild E t ps) := by
  intro st st2 r h
  unfold opBuild at h ⊢
  repeat' split at h
  all_goals first | (cases h; fail) | (cases h; simp_all; done) | (cases h; simp_all; grind) | (cases h)
theorem pure_buildSlice (E : Env) (t : TypeId) (n : Nat) (ps : List (Nat × SV)) : PureOp (opBuildSlice E t n ps) := by
  intro st st2 r h
  unfold opBuildSlice at h ⊢
  repeat' split at h
  all_goals first | (cases h; fail) | (cases h; simp_all) | (cases h)
theorem pure_sliceArr (E : Env) (t : TypeId) (id off : Nat) (lo hi mx : Option SV) : PureOp (opSliceArr E t id off lo hi mx) := by
  intro st st2 r h
  unfold opSliceArr at h ⊢
  repeat' split at h
  all_goals first | (cases h; fail) | (cases h; simp_all) | (cases h)
theorem pure_slice (E : Env) (t : TypeId) (x : SV) (lo hi mx : Option SV) : PureOp (opSlice E t x lo hi mx) := by
  intro st st2 r h
  unfold opSlice at h ⊢
  repeat' split at h
  all_goals first | (cases h; fail) | (cases h; simp_all) | (cases h)
theorem pure_indexAddr (E : Env) (t : TypeId) (x i : SV) : PureOp (opIndexAddr E t x i) := by
  intro st st2 r h
  unfold opIndexAddr at h ⊢
  split at h
  · cases h
  · split at h
    · split at h
      · cases h
      · rename_i hz
        rw [if_neg hz]
        split at h
        · cases h; exact ⟨rfl, rfl⟩
        · cases h; exact ⟨rfl, rfl⟩
        · rename_i hne _
          split at h
          · split at h
            · rename_i he hm
              cases h
              simp [hm]
            · cases h
          · cases h
    · split at h
      · cases h
      · rename_i hz
        rw [if_neg hz]
        split at h
        · cases h; exact ⟨rfl, rfl⟩
        · cases h; exact ⟨rfl, rfl⟩
        · cases h
    · cases h
theorem pure_sliceRow (E : Env) (t : TypeId) (id off m len cap : Nat) (lo hi mx : Option SV) : PureOp (opSliceRow E t id off m len cap lo hi mx) := by
  intro st st2 r h
  unfold opSliceRow at h ⊢
  repeat' split at h
  all_goals first | (cases h; fail) | (cases h; simp_all; omega) | (cases h; simp_all) | (cases h)
theorem pure_index (E : Env) (t : TypeId) (x i : SV) : PureOp (opIndex E t x i) := by
  intro st st2 r h
  unfold opIndex at h ⊢
  split at h
  · cases h; exact ⟨rfl, rfl⟩
  · cases h
theorem pure_field (E : Env) (t : TypeId) (x : SV) (f : Nat) : PureOp (opField E t x f) := by
  intro st st2 r h
  unfold opField at h ⊢
  repeat' split at h
  all_goals first | (cases h; fail) | (cases h; simp_all) | (cases h)
theorem pure_extract (x : SV) (i : Nat) : PureOp (opExtract x i) := by
  intro st st2 r h
  unfold opExtract at h ⊢
  repeat' split at h
  all_goals first | (cases h; fail) | (cases h; simp_all) | (cases h)
theorem pure_un (o : UnOp) (x : SV) : PureOp (opUn o x) := by
  intro st st2 r h
  unfold opUn at h ⊢
  repeat' split at h
  all_goals first | (cases h; fail) | (cases h; simp_all) | (cases h)
theorem pure_convert (E : Env) (s d : TypeId) (x : SV) : PureOp (opConvert E s d x) := by
  intro st st2 r h
  unfold opConvert at h ⊢
  split at h
  · split at h
    · rename_i hc; cases h; rw [if_pos hc]; exact ⟨rfl, rfl⟩
    · rename_i hc; cases h; rw [if_neg hc]; exact ⟨rfl, rfl⟩
  · cases h; exact ⟨rfl, rfl⟩
  · cases h
theorem pure_bin (E : Env) (o : BinOp) (t : TypeId) (x y : SV) : PureOp (opBin E o t x y) := by
  intro st st2 r h
  unfold opBin at h ⊢
  repeat' split at h
  all_goals first | (cases h; fail) | (cases h; simp_all; done) | (cases h; exact ⟨rfl, rfl⟩) | (cases h)
theorem pure_len (E : Env) (t : TypeId) (x : SV) : PureOp (opLen E t x) := by
  intro st st2 r h
  unfold opLen at h ⊢
  repeat' split at h
  all_goals first | (cases h; fail) | (cases h; simp_all) | (cases h)
theorem pure_minMax (mn : Bool) (xs : List SV) : PureOp (opMinMax mn xs) := by
  intro st st2 r h
  unfold opMinMax at h ⊢
  repeat' split at h
  all_goals first | (cases h; fail) | (cases h; simp_all) | (cases h)

theorem pure_makeSlice (E : Env) (h0 : E.rows = false) (t : TypeId) (l c : SV) : PureOp (opMakeSlice E t l c) := by
  intro st st2 r h
  unfold opMakeSlice at h ⊢
  rw [h0] at h ⊢
  repeat' split at h
  all_goals first | (cases h; fail) | (cases h; simp_all) | (cases h)

/-- What an operation looks at besides its operands; what it leaves alone. -/
def LocalOp (op : Op) (st st2 : St) (r r2 : Option Res) : Prop :=
  ∀ x, r = some x → (x.st.sl = st.sl ∧ x.st.ax = st.ax) ∧ (memW op = false → x.st.bx = st.bx) ∧ (tkW op = false → x.st.tk = st.tk) ∧
    r2 = some ⟨x.side, x.v, ⟨st2.sl, if memW op then x.st.bx else st2.bx, if tkW op then x.st.tk else st2.tk, st2.ax⟩⟩

theorem PureOp.local {f : St → Option Res} (h : PureOp f) {op : Op} (hm : memW op = false) (ht : tkW op = false) (st st2 : St) : LocalOp op st st2 (f st) (f st2) := by
  intro x hx
  obtain ⟨h1, h2⟩ := h st st2 x hx
  rw [hm, ht, h1, h2]
  exact ⟨⟨rfl, rfl⟩, fun _ => rfl, fun _ => rfl, rfl⟩

theorem evalOp_local (E : Env) (op : Op) (st st2 : St) (hs : noSeal E.rm op = true) (hv : ∀ x ∈ op.operands, valOf st2 x = valOf st x) (hb : memW op = true ∨ memR op = true → st2.bx = st.bx) (ht : tkW op = true → st2.tk = st.tk) :
    LocalOp op st st2 (evalOp E op st) (evalOp E op st2) := by
  have none_ : ∀ r2, LocalOp op st st2 none r2 := fun r2 x hx => by cases hx
  cases op with
  | move x => 
    have := hv x (by simp [Op.operands])
    simp only [evalOp, this]
    exact PureOp.local (f := fun st' => some ⟨True, valOf st x, st'⟩) (fun a b r h => by cases h; exact ⟨rfl, rfl⟩) rfl rfl st st2
  | assign x =>
    have := hv x (by simp [Op.operands])
    simp only [evalOp, this]
    exact PureOp.local (f := fun st' => some ⟨True, valOf st x, st'⟩) (fun a b r h => by cases h; exact ⟨rfl, rfl⟩) rfl rfl st st2
  | pick c a b =>
    simp only [evalOp, hv c (by simp [Op.operands]), hv a (by simp [Op.operands]), hv b (by simp [Op.operands])]
    exact PureOp.local (pure_pick _ _ _) rfl rfl st st2
  | alloc t =>
    have e := hb (.inl rfl)
    intro x hx
    simp only [evalOp, opAlloc] at hx ⊢
    split at hx
    · rename_i hc
      cases hx
      simp [hc, e, memW, tkW, St.newBx]
    · cases hx
  | box t x =>
    have e := hb (.inl rfl)
    intro r hx
    simp only [evalOp, hv x (by simp [Op.operands])] at hx ⊢
    have m1 : memW (.box t x) = true := rfl
    have m2 : tkW (.box t x) = false := rfl
    rw [m1, m2]
    unfold opBox at hx ⊢
    repeat' split at hx
    all_goals first | (cases hx; fail) | (cases hx; simp_all [St.newBx]; done) | (cases hx)
  | build t ps =>
    have e : (ps.toList.map fun p => (p.1, valOf st2 p.2)) = ps.toList.map fun p => (p.1, valOf st p.2) := List.map_congr_left fun p hp => by
      rw [hv p.2 (by simp only [Op.operands, List.mem_toArray, List.mem_map]; exact ⟨p, hp, rfl⟩)]
    simp only [evalOp, e]
    exact PureOp.local (pure_build _ _ _) rfl rfl st st2
  | buildSlice t n ps =>
    have e : (ps.toList.map fun p => (p.1, valOf st2 p.2)) = ps.toList.map fun p => (p.1, valOf st p.2) := List.map_congr_left fun p hp => by
      rw [hv p.2 (by simp only [Op.operands, List.mem_toArray, List.mem_map]; exact ⟨p, hp, rfl⟩)]
    simp only [evalOp, e]
    exact PureOp.local (pure_buildSlice _ _ _ _) rfl rfl st st2
  | load t a =>
    have e := hb (.inr rfl)
    intro r hx
    simp only [evalOp, hv a (by simp [Op.operands])] at hx ⊢
    have m1 : memW (.load t a) = false := rfl
    have m2 : tkW (.load t a) = false := rfl
    rw [m1, m2]
    unfold opLoad at hx ⊢
    clear hb hv ht none_ m1 m2
    obtain ⟨sl2, bx2, tk2, ax2⟩ := st2
    obtain ⟨sl1, bx1, tk1, ax1⟩ := st
    subst e
    split at hx
    · split at hx
      · rename_i hc; cases hx; rw [if_pos hc]; exact ⟨⟨rfl, rfl⟩, fun _ => rfl, fun _ => rfl, rfl⟩
      · rename_i hc
        rw [if_neg hc]
        split at hx
        · rename_i h1; cases hx; rw [if_pos h1]; exact ⟨⟨rfl, rfl⟩, fun _ => rfl, fun _ => rfl, rfl⟩
        · cases hx
    · simp only at hx ⊢
      split at hx
      · split at hx
        · rename_i hcs hc
          split at hx
          · rename_i hp; cases hx; exact ⟨⟨rfl, rfl⟩, fun _ => rfl, fun _ => rfl, by simp [hcs, hc, hp]⟩
          · cases hx
        · rename_i hcs hc
          split at hx
          · rename_i h1; cases hx; exact ⟨⟨rfl, rfl⟩, fun _ => rfl, fun _ => rfl, by simp only [hcs, hc, h1]; rfl⟩
          · cases hx
      · cases hx
    · cases hx
  | store t a x =>
    have e := hb (.inl rfl)
    intro r hx
    simp only [evalOp, hv a (by simp [Op.operands]), hv x (by simp [Op.operands])] at hx ⊢
    have m1 : memW (.store t a x) = true := rfl
    have m2 : tkW (.store t a x) = false := rfl
    rw [m1, m2]
    unfold opStore at hx ⊢
    obtain ⟨sl2, bx2, tk2, ax2⟩ := st2
    obtain ⟨sl1, bx1, tk1, ax1⟩ := st
    subst e
    clear hb hv ht
    repeat' split at hx
    all_goals first | (cases hx; fail) | (cases hx; simp_all [St.setBx]; done) | (cases hx)
  | nilCheck x =>
    simp only [evalOp, hv x (by simp [Op.operands])]
    refine PureOp.local (f := fun st => (match valOf _ x with | .val (.ptr cs o) => some ⟨True, .val (.ptr cs o), st⟩ | .box id o => some ⟨True, .box id o, st⟩ | .val (.fn f cs) => some ⟨True, .val (.fn f cs), st⟩ | .clo f cs => some ⟨True, .clo f cs, st⟩ | .rbx a b c d e => some ⟨True, .rbx a b c d e, st⟩ | .val (.yld l) => some ⟨True, .val (.yld l), st⟩ | _ => none)) (fun a b r h => ?_) rfl rfl st st2
    split at h <;> cases h <;> simp_all
  | binOp o t x y z =>
    simp only [evalOp, hv x (by simp [Op.operands]), hv y (by simp [Op.operands])]
    exact PureOp.local (pure_bin _ _ _ _ _) rfl rfl st st2
  | unOp o t x =>
    simp only [evalOp, hv x (by simp [Op.operands])]
    exact PureOp.local (pure_un _ _) rfl rfl st st2
  | convert s d x =>
    simp only [evalOp, hv x (by simp [Op.operands])]
    exact PureOp.local (pure_convert _ _ _ _) rfl rfl st st2
  | makeFunc f a b => cases hs
  | makeMap t r => cases hs
  | mapUpdate t m x v => cases hs
  | makeSlice t l c =>
    have hrw : E.rows = false := by simpa [noSeal, Env.rm] using hs
    simp only [evalOp, hv l (by simp [Op.operands]), hv c (by simp [Op.operands])]
    exact PureOp.local (pure_makeSlice _ hrw _ _ _) rfl rfl st st2
  | slice t x lo hi mx =>
    have e1 : lo.map (valOf st2) = lo.map (valOf st) := by cases lo with | none => rfl | some y => simp [hv y (by simp [Op.operands])]
    have e2 : hi.map (valOf st2) = hi.map (valOf st) := by cases hi with | none => rfl | some y => simp [hv y (by simp [Op.operands])]
    have e3 : mx.map (valOf st2) = mx.map (valOf st) := by cases mx with | none => rfl | some y => simp [hv y (by simp [Op.operands])]
    simp only [evalOp, hv x (by simp [Op.operands]), e1, e2, e3]
    split
    · exact PureOp.local (pure_sliceArr _ _ _ _ _ _ _) rfl rfl st st2
    · exact PureOp.local (pure_sliceRow _ _ _ _ _ _ _ _ _ _) rfl rfl st st2
    · exact PureOp.local (pure_slice _ _ _ _ _ _) rfl rfl st st2
  | fieldAddr s x f =>
    simp only [evalOp, hv x (by simp [Op.operands])]
    exact PureOp.local (pure_fieldAddr _ _ _ _) rfl rfl st st2
  | field t x f =>
    simp only [evalOp, hv x (by simp [Op.operands])]
    exact PureOp.local (pure_field _ _ _ _) rfl rfl st st2
  | indexAddr t x i =>
    simp only [evalOp, hv x (by simp [Op.operands]), hv i (by simp [Op.operands])]
    exact PureOp.local (pure_indexAddr _ _ _ _) rfl rfl st st2
  | index t x i =>
    simp only [evalOp, hv x (by simp [Op.operands]), hv i (by simp [Op.operands])]
    exact PureOp.local (pure_index _ _ _ _) rfl rfl st st2
  | extract x i =>
    simp only [evalOp, hv x (by simp [Op.operands])]
    exact PureOp.local (pure_extract _ _) rfl rfl st st2
  | call c =>
    have e : c.args.toList.map (valOf st2) = c.args.toList.map (valOf st) := List.map_congr_left fun p hp => hv p (by simp only [Op.operands, Call.operands]; exact Array.mem_append.2 (.inr (by simpa using hp)))
    obtain ⟨callee, args, argTypes⟩ := c
    cases callee with
    | builtin b =>
      simp only [evalOp] at e ⊢
      rw [e]
      unfold opBuiltin
      split
      · exact PureOp.local (pure_len _ _ _) rfl rfl st st2
      · have ek := ht rfl
        split
        · intro r hx
          rw [show memW _ = false from rfl, show tkW _ = true from rfl]
          unfold opAppend at hx ⊢
          rw [ek]
          repeat' split at hx
          all_goals first | (cases hx; fail) | (cases hx; simp_all [St.newBx]; done) | (cases hx)
        · exact none_ _
      · exact PureOp.local (pure_minMax _ _) rfl rfl st st2
      · exact PureOp.local (pure_minMax _ _) rfl rfl st st2
      · exact none_ _
    | value x => exact none_ _
    | invoke r m => exact none_ _
  | _ => exact none_ _

end Go.Abs
