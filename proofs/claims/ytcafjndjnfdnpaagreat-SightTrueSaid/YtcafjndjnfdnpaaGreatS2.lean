/-
  Stops between codes.
-/
import Derived.Test.YtcafjndjnfdnpaaGreatA4
set_option linter.unusedVariables false
set_option linter.unusedSimpArgs false
namespace Go.Abs
open Go.RowKit

/-- A stop between two codes. -/
theorem seq_stop {A : Ops} {E : Env} {a c : Code} {nb : Nat × Nat} {st : St} {Q : AX → St → Prop}
    (h : ∀ R3 : St → Prop, (∀ s, wpC' A E c nb s Q → R3 s) → wpC' A E a nb st fun e s => match e with
      | .normal => R3 s
      | .exit i => Q (.exit i) s
      | .ret => Q .ret s) : wpC' A E (.seq a c) nb st Q := by
  unfold wpC'
  exact h _ fun s h => h
/-- A drawn region at the tail of a block. -/
theorem block_tail {A : Ops} {E : Env} {id b : Nat} {ops : Array Oper} {a : Code} {nb : Nat × Nat} {st : St} {Q0 : AX → St → Prop}
    (h : ∀ R3 : St → Prop, (∀ s, wpC' A E (.region id ops true) nb s (fun e st' => match e with
      | .normal => Q0 .normal st'
      | .exit i => if i = b then Q0 .normal st' else Q0 (.exit i) st'
      | .ret => Q0 .ret st') → R3 s) → wpC' A E a nb st fun e s => match e with
      | .normal => R3 s
      | .exit i => if i = b then Q0 .normal s else Q0 (.exit i) s
      | .ret => Q0 .ret s) : wpC' A E (.block b (.seq a (.region id ops true))) nb st Q0 := by
  unfold wpC'
  have h2 := h _ fun s h => h
  unfold wpC'
  exact h2
theorem block_seq {A : Ops} {E : Env} {b : Nat} {a c : Code} {nb : Nat × Nat} {st : St} {Q0 : AX → St → Prop}
    (h : ∀ R3 : St → Prop, (∀ s, wpC' A E c nb s (fun e st' => match e with
      | .normal => Q0 .normal st'
      | .exit i => if i = b then Q0 .normal st' else Q0 (.exit i) st'
      | .ret => Q0 .ret st') → R3 s) → wpC' A E a nb st fun e s => match e with
      | .normal => R3 s
      | .exit i => if i = b then Q0 .normal s else Q0 (.exit i) s
      | .ret => Q0 .ret s) : wpC' A E (.block b (.seq a c)) nb st Q0 := by
  unfold wpC'
  exact seq_stop h
end Go.Abs
