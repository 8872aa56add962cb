/-
  The table of types, read off the program; that it agrees.
-/
import Derived.Test.YthofonhkpilifaaAbs13
namespace Go.Abs
open Go.RowKit

def tkOf : TypeDesc → TK
  | .int k => .int k
  | .bool => .bool
  | .string => .str
  | .slice e => .slice e
  | .struct F => .struct (F.toList.map fun f => (f.offset, f.type))
  | .array n e => .array n e
  | .pointer e => .ptr e
  | .map k e => .map k e
  | .func .. => .func
  | _ => .other

/-- Fit for the table. -/
def zeroFits (i : TypeInfo) (z : Value) (u : TypeDesc) : Bool :=
  z.cells.toList.all Value.oneCell' && (z.cells.size == i.size) && (if isAggD u then (match z with | .agg _ => true | _ => false) else z.oneCell')

def eqOf (P : Program) (t : TypeId) : TypeDesc → Option (List SK)
  | .struct _ => if P.eqGuardType P.depth t then none else flatK P 20 t
  | _ => none

def tdOf (P : Program) (t : TypeId) : TD :=
  match P.underlying t with
  | none => default
  | some u =>
    match P.info? t with
    | none => ⟨tkOf u, 0, 0, false, eqOf P t u, []⟩
    | some i =>
      match i.zero with
      | none => ⟨tkOf u, 0, 0, false, eqOf P t u, []⟩
      | some z => if zeroFits i z u then ⟨tkOf u, i.size, i.bytes, isAggD u, eqOf P t u, z.cells.toList.map constPV⟩ else ⟨tkOf u, 0, 0, false, eqOf P t u, []⟩

theorem kok_of {P : Program} {t : TypeId} {u : TypeDesc} (h : P.underlying t = some u) : KOk P t (tkOf u) := by
  cases u <;> first | exact h | exact ⟨_, h, rfl⟩ | trivial

theorem tdOf_ok (P : Program) (t : TypeId) : TDOk P (tdOf P) t := by
  have hk : KOk P t (tdOf P t).k := by
    unfold tdOf
    cases h : P.underlying t with
    | none => exact trivial
    | some u =>
      simp only
      repeat' split
      all_goals exact kok_of h
  refine ⟨hk, fun h => ?_, fun ks h => ?_⟩
  · have hx : ∃ u i z, P.underlying t = some u ∧ P.info? t = some i ∧ i.zero = some z ∧ zeroFits i z u = true := by
      unfold tdOf at h
      cases hu : P.underlying t with
      | none => rw [hu] at h; rcases h with h | h <;> simp [default] at h
      | some u =>
        rw [hu] at h
        simp only at h
        cases hi : P.info? t with
        | none => rw [hi] at h; rcases h with h | h <;> simp at h
        | some i =>
          rw [hi] at h
          simp only at h
          cases hz : i.zero with
          | none => rw [hz] at h; rcases h with h | h <;> simp at h
          | some z =>
            rw [hz] at h
            simp only at h
            by_cases hf : zeroFits i z u = true
            · exact ⟨u, i, z, rfl, rfl, hz, hf⟩
            · rw [if_neg hf] at h
              rcases h with h | h <;> simp at h
    obtain ⟨u, i, z, hu, hi, hz, hf⟩ := hx
    have e : ∃ eq, tdOf P t = ⟨tkOf u, i.size, i.bytes, isAggD u, eq, z.cells.toList.map constPV⟩ := by
      unfold tdOf
      rw [hu]
      simp only [hi]
      rw [hz]
      simp only [hf, if_true]
      exact ⟨_, rfl⟩
    obtain ⟨eq, e⟩ := e
    rw [e]
    simp only [zeroFits, Bool.and_eq_true, beq_iff_eq] at hf
    obtain ⟨⟨h1, h2⟩, h3⟩ := hf
    refine ⟨i, z, u, hi, rfl, rfl, hz, rfl, fun v hv => List.all_eq_true.1 h1 v hv, h2, ?_, hu, rfl⟩
    show (if isAggD u = true then _ else _)
    split at h3
    · rename_i ha
      rw [if_pos ha]
      split at h3
      · exact ⟨_, rfl⟩
      · cases h3
    · rename_i ha
      rw [if_neg ha]
      exact h3
  · unfold tdOf at h
    cases hu : P.underlying t with
    | none => rw [hu] at h; simp [default] at h
    | some u =>
      rw [hu] at h
      simp only at h
      have he : eqOf P t u = some ks := by
        repeat' split at h
        all_goals exact h
      unfold eqOf at he
      split at he
      · rename_i F
        split at he
        · cases he
        · rename_i hg
          exact ⟨20, by omega, he, by simpa using hg, F, rfl⟩
      · cases he

theorem td_default (P : Program) (T : TypeId → TD) (t : TypeId) (h : T t = default) : TDOk P T t := by
  refine ⟨by rw [h]; exact trivial, fun h' => ?_, fun ks h' => ?_⟩
  · rw [h] at h'; rcases h' with h' | h' <;> simp [default] at h'
  · rw [h] at h'; simp [default] at h'

theorem td_same {P : Program} {T T' : TypeId → TD} {t : TypeId} (e : T t = T' t) (h : TDOk P T' t) : TDOk P T t :=
  ⟨by rw [e]; exact h.k, by rw [e]; exact h.info, by rw [e]; exact h.eq⟩

/-- A table that is written out. -/
theorem envOk_tab {P : Program} {T : TypeId → TD} (clo : FuncId → Bool) (rows : Bool) (n : Nat) (h : (List.range n).map T = (List.range n).map (tdOf P)) (hd : ∀ t, n ≤ t → T t = default) (hm : P.follows .mixedOrders = true) : EnvOk ⟨P, T, clo, rows, .none⟩ := by
  refine ⟨fun t => ?_, hm, fun r n k ps vs F S w h => by simp [YS.none] at h⟩
  rcases Nat.lt_or_ge t n with ht | ht
  · have e := congrArg (fun l => l[t]?) h
    simp only [List.getElem?_map, List.getElem?_range ht, Option.map_some, Option.some.injEq] at e
    exact td_same e (tdOf_ok P t)
  · exact td_default P T t (hd t ht)

end Go.Abs
