/-
  Searches in lists: slices.IndexFunc, slices.ContainsFunc, airspace.all (printed by program, for each type of elements).
-/
import Derived.Test.YtcafjndjnfdnpaaGreatTyp
import Derived.Test.YtcafjndjnfdnpaaGreatD1
import Derived.Shelf.Abstract
set_option linter.unusedVariables false
set_option linter.unusedSimpArgs false
namespace Go.Abs
open Go.RowKit Go.Proofs

theorem indexFunc_Int {g : FuncId} {caps xs : List PV} (p : Int → Bool) (l : List Int) (hxs : xs = encInts l) (hg : ∀ x ∈ l, CallsPV Tryz.prog g (encInt x :: caps) (.bool (p x))) :
    CallsPV Tryz.prog 130 [.list 1 xs, .fn g caps] (.int .i64 (findI p l)) := by
  refine callsPV_by (clo := fun _ => false) (rows := false) env_ok Tryz.func130 rfl (enters_of Tryz.func130 (by kernel_rfl) rfl) (fun A q P Y hr hA hq => ?_)
  have hlen := (hr.mem (p := .list 1 xs) (by simp)).len
  have hll : xs.length = l.length := by rw [hxs]; simp [encInts]
  conv => cbv
  refine loop_set hA (fun (i : Int) s => s.put (some 8) (.val (.int .i64 i))) (fun i => 0 ≤ i ∧ i ≤ l.length ∧ ∀ x ∈ l.take i.toNat, p x = false) (fun i => (l.length - i).toNat) 0 ?_ ?_ ?_
  · conv => cbv
    exact wk_sl (by simp [leL, leS])
  · exact ⟨Int.le_refl _, by omega, by simp⟩
  · intro R i hi hR
    conv => cbv
    split
    · rename_i h1
      have h1' : i < l.length := by subst hA; rw [← hll]; simpa [stdOps] using h1
      conv => cbv
      refine idx_Int hA hxs hi.1 h1' (fun x hx  => ?_)
      conv => cbv
      refine call_intro' hA (hg x (List.mem_of_getElem? hx)) (by simp [encInt]) ?_
      have htake := take_snoc' hi.1 hx
      conv => cbv
      split
      · rename_i h2
        conv => cbv
        rw [← hq, findI_hit hi.1 hx h2 hi.2.2]
      · rename_i h2
        conv => cbv
        refine ⟨by subst hA; show inI64 (i + 1); unfold inI64; omega, hR (A.iAdd i 1) _ (by (conv => cbv); exact wk_sl (by simp [leL, leS])) ?_ ?_⟩
        · subst hA
          show 0 ≤ i + 1 ∧ i + 1 ≤ l.length ∧ ∀ x ∈ l.take (i + 1).toNat, p x = false
          refine ⟨by omega, by omega, fun y hy => ?_⟩
          rw [htake, List.mem_append] at hy
          rcases hy with hy | hy
          · exact hi.2.2 y hy
          · rw [List.mem_singleton.1 hy]; exact h2
        · subst hA
          show (l.length - (i + 1)).toNat < (l.length - i).toNat
          omega
    · rename_i h1
      have h1' : ¬ i < l.length := by subst hA; rw [← hll]; simpa [stdOps] using h1
      conv => cbv
      rw [← hq, findI_miss]
      intro y hy
      refine hi.2.2 y ?_
      rw [List.take_of_length_le (by omega)]
      exact hy

theorem containsFunc_Int {g : FuncId} {caps xs : List PV} (p : Int → Bool) (l : List Int) (hxs : xs = encInts l) (hg : ∀ x ∈ l, CallsPV Tryz.prog g (encInt x :: caps) (.bool (p x))) :
    CallsPV Tryz.prog 56 [.list 1 xs, .fn g caps] (.bool (l.any p)) := by
  refine callsPV_by (clo := fun _ => false) (rows := false) env_ok Tryz.func56 rfl (enters_of Tryz.func56 (by kernel_rfl) rfl) (fun A q P Y hr hA hq => ?_)
  conv => cbv
  refine call_intro hA (indexFunc_Int p l hxs hg) ?_
  obtain ⟨r, hr⟩ : ∃ r, r = findI p l := ⟨_, rfl⟩
  rw [← hr]
  conv => cbv
  rw [← hq, ← findI_any, ← hr]
  subst hA
  rfl

theorem all1_Int {g : FuncId} {caps : List PV} (p : Int → Bool) (x : Int) (hg : CallsPV Tryz.prog g (encInt x :: caps) (.bool (p x))) :
    CallsPV Tryz.prog 173 [encInt x, .ptr [.fn g caps] 0] (.bool (!p x)) := by
  refine callsPV_by (clo := fun _ => false) (rows := false) env_ok Tryz.func173 rfl (enters_of Tryz.func173 (by kernel_rfl) rfl) (fun A q P Y hr hA hq => ?_)
  rw [show encInt x = .int .i64 x from rfl] at hg ⊢
  conv => cbv
  refine call_intro hA hg ?_
  conv => cbv
  rw [← hq]
  subst hA
  rfl
theorem all_Int {g : FuncId} {caps xs : List PV} (p : Int → Bool) (l : List Int) (hxs : xs = encInts l) (hg : ∀ x ∈ l, CallsPV Tryz.prog g (encInt x :: caps) (.bool (p x))) :
    CallsPV Tryz.prog 110 [.list 1 xs, .fn g caps] (.bool (l.all p)) := by
  refine callsPV_by (clo := fun _ => false) (rows := false) env_ok Tryz.func110 rfl (enters_of Tryz.func110 (by kernel_rfl) rfl) (fun A q P Y hr hA hq => ?_)
  conv => cbv
  refine call_intro hA (containsFunc_Int (fun x => !p x) l hxs (fun x hx => all1_Int p x (hg x hx))) ?_
  obtain ⟨r, hr⟩ : ∃ r, r = l.any (fun x => !p x) := ⟨_, rfl⟩
  rw [← hr]
  conv => cbv
  rw [← hq]
  subst hA
  show PV.bool (!r) = _
  rw [hr]
  simp [List.any_eq_not_all_not]

theorem indexFunc_Span {g : FuncId} {caps xs : List PV} (p : Span → Bool) (l : List Span) (hxs : xs = encSpans l) (hg : ∀ x ∈ l, CallsPV Tryz.prog g (encSpan x :: caps) (.bool (p x))) :
    CallsPV Tryz.prog 233 [.list 2 xs, .fn g caps] (.int .i64 (findI p l)) := by
  refine callsPV_by (clo := fun _ => false) (rows := false) env_ok Tryz.func233 rfl (enters_of Tryz.func233 (by kernel_rfl) rfl) (fun A q P Y hr hA hq => ?_)
  have hlen := (hr.mem (p := .list 2 xs) (by simp)).len
  have hll : xs.length = l.length := by rw [hxs]; simp [encSpans]
  conv => cbv
  refine loop_set hA (fun (i : Int) s => s.put (some 8) (.val (.int .i64 i))) (fun i => 0 ≤ i ∧ i ≤ l.length ∧ ∀ x ∈ l.take i.toNat, p x = false) (fun i => (l.length - i).toNat) 0 ?_ ?_ ?_
  · conv => cbv
    exact wk_sl (by simp [leL, leS])
  · exact ⟨Int.le_refl _, by omega, by simp⟩
  · intro R i hi hR
    conv => cbv
    split
    · rename_i h1
      have h1' : i < l.length := by subst hA; rw [← hll]; simpa [stdOps] using h1
      conv => cbv
      refine idx_Span hA hxs hi.1 h1' (fun x hx  => ?_)
      conv => cbv
      refine call_intro' hA (hg x (List.mem_of_getElem? hx)) (by simp [encSpan]) ?_
      have htake := take_snoc' hi.1 hx
      conv => cbv
      split
      · rename_i h2
        conv => cbv
        rw [← hq, findI_hit hi.1 hx h2 hi.2.2]
      · rename_i h2
        conv => cbv
        refine ⟨by subst hA; show inI64 (i + 1); unfold inI64; omega, hR (A.iAdd i 1) _ (by (conv => cbv); exact wk_sl (by simp [leL, leS])) ?_ ?_⟩
        · subst hA
          show 0 ≤ i + 1 ∧ i + 1 ≤ l.length ∧ ∀ x ∈ l.take (i + 1).toNat, p x = false
          refine ⟨by omega, by omega, fun y hy => ?_⟩
          rw [htake, List.mem_append] at hy
          rcases hy with hy | hy
          · exact hi.2.2 y hy
          · rw [List.mem_singleton.1 hy]; exact h2
        · subst hA
          show (l.length - (i + 1)).toNat < (l.length - i).toNat
          omega
    · rename_i h1
      have h1' : ¬ i < l.length := by subst hA; rw [← hll]; simpa [stdOps] using h1
      conv => cbv
      rw [← hq, findI_miss]
      intro y hy
      refine hi.2.2 y ?_
      rw [List.take_of_length_le (by omega)]
      exact hy

theorem containsFunc_Span {g : FuncId} {caps xs : List PV} (p : Span → Bool) (l : List Span) (hxs : xs = encSpans l) (hg : ∀ x ∈ l, CallsPV Tryz.prog g (encSpan x :: caps) (.bool (p x))) :
    CallsPV Tryz.prog 174 [.list 2 xs, .fn g caps] (.bool (l.any p)) := by
  refine callsPV_by (clo := fun _ => false) (rows := false) env_ok Tryz.func174 rfl (enters_of Tryz.func174 (by kernel_rfl) rfl) (fun A q P Y hr hA hq => ?_)
  conv => cbv
  refine call_intro hA (indexFunc_Span p l hxs hg) ?_
  obtain ⟨r, hr⟩ : ∃ r, r = findI p l := ⟨_, rfl⟩
  rw [← hr]
  conv => cbv
  rw [← hq, ← findI_any, ← hr]
  subst hA
  rfl

theorem indexFunc_ListInt {g : FuncId} {caps xs : List PV} (p : (List Int) → Bool) (l : List (List Int)) (hxs : xs = encIntLs l) (hg : ∀ x ∈ l, CallsPV Tryz.prog g (encIntL x :: caps) (.bool (p x))) :
    CallsPV Tryz.prog 240 [.list 1 xs, .fn g caps] (.int .i64 (findI p l)) := by
  refine callsPV_by (clo := fun _ => false) (rows := false) env_ok Tryz.func240 rfl (enters_of Tryz.func240 (by kernel_rfl) rfl) (fun A q P Y hr hA hq => ?_)
  have hlen := (hr.mem (p := .list 1 xs) (by simp)).len
  have hll : xs.length = l.length := by rw [hxs]; simp [encIntLs]
  conv => cbv
  refine loop_set hA (fun (i : Int) s => s.put (some 8) (.val (.int .i64 i))) (fun i => 0 ≤ i ∧ i ≤ l.length ∧ ∀ x ∈ l.take i.toNat, p x = false) (fun i => (l.length - i).toNat) 0 ?_ ?_ ?_
  · conv => cbv
    exact wk_sl (by simp [leL, leS])
  · exact ⟨Int.le_refl _, by omega, by simp⟩
  · intro R i hi hR
    conv => cbv
    split
    · rename_i h1
      have h1' : i < l.length := by subst hA; rw [← hll]; simpa [stdOps] using h1
      conv => cbv
      refine idx_IntL hA hxs hi.1 h1' (fun x v0 hx hv0 => ?_)
      conv => cbv
      refine call_intro' hA (hg x (List.mem_of_getElem? hx)) (by simp [encIntL, hv0]) ?_
      have htake := take_snoc' hi.1 hx
      conv => cbv
      split
      · rename_i h2
        conv => cbv
        rw [← hq, findI_hit hi.1 hx h2 hi.2.2]
      · rename_i h2
        conv => cbv
        refine ⟨by subst hA; show inI64 (i + 1); unfold inI64; omega, hR (A.iAdd i 1) _ (by (conv => cbv); exact wk_sl (by simp [leL, leS])) ?_ ?_⟩
        · subst hA
          show 0 ≤ i + 1 ∧ i + 1 ≤ l.length ∧ ∀ x ∈ l.take (i + 1).toNat, p x = false
          refine ⟨by omega, by omega, fun y hy => ?_⟩
          rw [htake, List.mem_append] at hy
          rcases hy with hy | hy
          · exact hi.2.2 y hy
          · rw [List.mem_singleton.1 hy]; exact h2
        · subst hA
          show (l.length - (i + 1)).toNat < (l.length - i).toNat
          omega
    · rename_i h1
      have h1' : ¬ i < l.length := by subst hA; rw [← hll]; simpa [stdOps] using h1
      conv => cbv
      rw [← hq, findI_miss]
      intro y hy
      refine hi.2.2 y ?_
      rw [List.take_of_length_le (by omega)]
      exact hy

theorem containsFunc_ListInt {g : FuncId} {caps xs : List PV} (p : (List Int) → Bool) (l : List (List Int)) (hxs : xs = encIntLs l) (hg : ∀ x ∈ l, CallsPV Tryz.prog g (encIntL x :: caps) (.bool (p x))) :
    CallsPV Tryz.prog 182 [.list 1 xs, .fn g caps] (.bool (l.any p)) := by
  refine callsPV_by (clo := fun _ => false) (rows := false) env_ok Tryz.func182 rfl (enters_of Tryz.func182 (by kernel_rfl) rfl) (fun A q P Y hr hA hq => ?_)
  conv => cbv
  refine call_intro hA (indexFunc_ListInt p l hxs hg) ?_
  obtain ⟨r, hr⟩ : ∃ r, r = findI p l := ⟨_, rfl⟩
  rw [← hr]
  conv => cbv
  rw [← hq, ← findI_any, ← hr]
  subst hA
  rfl

theorem all1_ListInt {g : FuncId} {caps : List PV} (p : (List Int) → Bool) (x : (List Int)) (hg : CallsPV Tryz.prog g (encIntL x :: caps) (.bool (p x))) :
    CallsPV Tryz.prog 183 [encIntL x, .ptr [.fn g caps] 0] (.bool (!p x)) := by
  refine callsPV_by (clo := fun _ => false) (rows := false) env_ok Tryz.func183 rfl (enters_of Tryz.func183 (by kernel_rfl) rfl) (fun A q P Y hr hA hq => ?_)
  rw [show encIntL x = .list 1 (encInts x) from rfl] at hg ⊢
  generalize encInts x = u0 at hg ⊢
  conv => cbv
  refine call_intro hA hg ?_
  conv => cbv
  rw [← hq]
  subst hA
  rfl
theorem all_ListInt {g : FuncId} {caps xs : List PV} (p : (List Int) → Bool) (l : List (List Int)) (hxs : xs = encIntLs l) (hg : ∀ x ∈ l, CallsPV Tryz.prog g (encIntL x :: caps) (.bool (p x))) :
    CallsPV Tryz.prog 122 [.list 1 xs, .fn g caps] (.bool (l.all p)) := by
  refine callsPV_by (clo := fun _ => false) (rows := false) env_ok Tryz.func122 rfl (enters_of Tryz.func122 (by kernel_rfl) rfl) (fun A q P Y hr hA hq => ?_)
  conv => cbv
  refine call_intro hA (containsFunc_ListInt (fun x => !p x) l hxs (fun x hx => all1_ListInt p x (hg x hx))) ?_
  obtain ⟨r, hr⟩ : ∃ r, r = l.any (fun x => !p x) := ⟨_, rfl⟩
  rw [← hr]
  conv => cbv
  rw [← hq]
  subst hA
  show PV.bool (!r) = _
  rw [hr]
  simp [List.any_eq_not_all_not]

theorem indexFunc_ListSpan {g : FuncId} {caps xs : List PV} (p : (List Span) → Bool) (l : List (List Span)) (hxs : xs = encSpanLs l) (hg : ∀ x ∈ l, CallsPV Tryz.prog g (encSpanL x :: caps) (.bool (p x))) :
    CallsPV Tryz.prog 279 [.list 1 xs, .fn g caps] (.int .i64 (findI p l)) := by
  refine callsPV_by (clo := fun _ => false) (rows := false) env_ok Tryz.func279 rfl (enters_of Tryz.func279 (by kernel_rfl) rfl) (fun A q P Y hr hA hq => ?_)
  have hlen := (hr.mem (p := .list 1 xs) (by simp)).len
  have hll : xs.length = l.length := by rw [hxs]; simp [encSpanLs]
  conv => cbv
  refine loop_set hA (fun (i : Int) s => s.put (some 8) (.val (.int .i64 i))) (fun i => 0 ≤ i ∧ i ≤ l.length ∧ ∀ x ∈ l.take i.toNat, p x = false) (fun i => (l.length - i).toNat) 0 ?_ ?_ ?_
  · conv => cbv
    exact wk_sl (by simp [leL, leS])
  · exact ⟨Int.le_refl _, by omega, by simp⟩
  · intro R i hi hR
    conv => cbv
    split
    · rename_i h1
      have h1' : i < l.length := by subst hA; rw [← hll]; simpa [stdOps] using h1
      conv => cbv
      refine idx_SpanL hA hxs hi.1 h1' (fun x v0 hx hv0 => ?_)
      conv => cbv
      refine call_intro' hA (hg x (List.mem_of_getElem? hx)) (by simp [encSpanL, hv0]) ?_
      have htake := take_snoc' hi.1 hx
      conv => cbv
      split
      · rename_i h2
        conv => cbv
        rw [← hq, findI_hit hi.1 hx h2 hi.2.2]
      · rename_i h2
        conv => cbv
        refine ⟨by subst hA; show inI64 (i + 1); unfold inI64; omega, hR (A.iAdd i 1) _ (by (conv => cbv); exact wk_sl (by simp [leL, leS])) ?_ ?_⟩
        · subst hA
          show 0 ≤ i + 1 ∧ i + 1 ≤ l.length ∧ ∀ x ∈ l.take (i + 1).toNat, p x = false
          refine ⟨by omega, by omega, fun y hy => ?_⟩
          rw [htake, List.mem_append] at hy
          rcases hy with hy | hy
          · exact hi.2.2 y hy
          · rw [List.mem_singleton.1 hy]; exact h2
        · subst hA
          show (l.length - (i + 1)).toNat < (l.length - i).toNat
          omega
    · rename_i h1
      have h1' : ¬ i < l.length := by subst hA; rw [← hll]; simpa [stdOps] using h1
      conv => cbv
      rw [← hq, findI_miss]
      intro y hy
      refine hi.2.2 y ?_
      rw [List.take_of_length_le (by omega)]
      exact hy

theorem containsFunc_ListSpan {g : FuncId} {caps xs : List PV} (p : (List Span) → Bool) (l : List (List Span)) (hxs : xs = encSpanLs l) (hg : ∀ x ∈ l, CallsPV Tryz.prog g (encSpanL x :: caps) (.bool (p x))) :
    CallsPV Tryz.prog 236 [.list 1 xs, .fn g caps] (.bool (l.any p)) := by
  refine callsPV_by (clo := fun _ => false) (rows := false) env_ok Tryz.func236 rfl (enters_of Tryz.func236 (by kernel_rfl) rfl) (fun A q P Y hr hA hq => ?_)
  conv => cbv
  refine call_intro hA (indexFunc_ListSpan p l hxs hg) ?_
  obtain ⟨r, hr⟩ : ∃ r, r = findI p l := ⟨_, rfl⟩
  rw [← hr]
  conv => cbv
  rw [← hq, ← findI_any, ← hr]
  subst hA
  rfl

theorem indexFunc_Sector {g : FuncId} {caps xs : List PV} (p : Sector → Bool) (l : List Sector) (hxs : xs = encSectors l) (hg : ∀ x ∈ l, CallsPV Tryz.prog g (encSector x :: caps) (.bool (p x))) :
    CallsPV Tryz.prog 239 [.list 5 xs, .fn g caps] (.int .i64 (findI p l)) := by
  refine callsPV_by (clo := fun _ => false) (rows := false) env_ok Tryz.func239 rfl (enters_of Tryz.func239 (by kernel_rfl) rfl) (fun A q P Y hr hA hq => ?_)
  have hlen := (hr.mem (p := .list 5 xs) (by simp)).len
  have hll : xs.length = l.length := by rw [hxs]; simp [encSectors]
  conv => cbv
  refine loop_set hA (fun (i : Int) s => s.put (some 8) (.val (.int .i64 i))) (fun i => 0 ≤ i ∧ i ≤ l.length ∧ ∀ x ∈ l.take i.toNat, p x = false) (fun i => (l.length - i).toNat) 0 ?_ ?_ ?_
  · conv => cbv
    exact wk_sl (by simp [leL, leS])
  · exact ⟨Int.le_refl _, by omega, by simp⟩
  · intro R i hi hR
    conv => cbv
    split
    · rename_i h1
      have h1' : i < l.length := by subst hA; rw [← hll]; simpa [stdOps] using h1
      conv => cbv
      refine idx_Sector hA hxs hi.1 h1' (fun x v0 v1 hx hv0 hv1 => ?_)
      conv => cbv
      refine call_intro' hA (hg x (List.mem_of_getElem? hx)) (by simp [encSector, hv0, hv1]) ?_
      have htake := take_snoc' hi.1 hx
      conv => cbv
      split
      · rename_i h2
        conv => cbv
        rw [← hq, findI_hit hi.1 hx h2 hi.2.2]
      · rename_i h2
        conv => cbv
        refine ⟨by subst hA; show inI64 (i + 1); unfold inI64; omega, hR (A.iAdd i 1) _ (by (conv => cbv); exact wk_sl (by simp [leL, leS])) ?_ ?_⟩
        · subst hA
          show 0 ≤ i + 1 ∧ i + 1 ≤ l.length ∧ ∀ x ∈ l.take (i + 1).toNat, p x = false
          refine ⟨by omega, by omega, fun y hy => ?_⟩
          rw [htake, List.mem_append] at hy
          rcases hy with hy | hy
          · exact hi.2.2 y hy
          · rw [List.mem_singleton.1 hy]; exact h2
        · subst hA
          show (l.length - (i + 1)).toNat < (l.length - i).toNat
          omega
    · rename_i h1
      have h1' : ¬ i < l.length := by subst hA; rw [← hll]; simpa [stdOps] using h1
      conv => cbv
      rw [← hq, findI_miss]
      intro y hy
      refine hi.2.2 y ?_
      rw [List.take_of_length_le (by omega)]
      exact hy

theorem containsFunc_Sector {g : FuncId} {caps xs : List PV} (p : Sector → Bool) (l : List Sector) (hxs : xs = encSectors l) (hg : ∀ x ∈ l, CallsPV Tryz.prog g (encSector x :: caps) (.bool (p x))) :
    CallsPV Tryz.prog 180 [.list 5 xs, .fn g caps] (.bool (l.any p)) := by
  refine callsPV_by (clo := fun _ => false) (rows := false) env_ok Tryz.func180 rfl (enters_of Tryz.func180 (by kernel_rfl) rfl) (fun A q P Y hr hA hq => ?_)
  conv => cbv
  refine call_intro hA (indexFunc_Sector p l hxs hg) ?_
  obtain ⟨r, hr⟩ : ∃ r, r = findI p l := ⟨_, rfl⟩
  rw [← hr]
  conv => cbv
  rw [← hq, ← findI_any, ← hr]
  subst hA
  rfl

theorem all1_Sector {g : FuncId} {caps : List PV} (p : Sector → Bool) (x : Sector) (hg : CallsPV Tryz.prog g (encSector x :: caps) (.bool (p x))) :
    CallsPV Tryz.prog 181 [encSector x, .ptr [.fn g caps] 0] (.bool (!p x)) := by
  refine callsPV_by (clo := fun _ => false) (rows := false) env_ok Tryz.func181 rfl (enters_of Tryz.func181 (by kernel_rfl) rfl) (fun A q P Y hr hA hq => ?_)
  rw [show encSector x = .agg [.str x.Name, .list 1 (encStrs x.Names), .list 1 (encInts x.Volumes), .int .i64 x.Radar, .int .i64 x.Procedural] from rfl] at hg ⊢
  generalize encStrs x.Names = u0 at hg ⊢
  generalize encInts x.Volumes = u1 at hg ⊢
  conv => cbv
  refine call_intro hA hg ?_
  conv => cbv
  rw [← hq]
  subst hA
  rfl
theorem all_Sector {g : FuncId} {caps xs : List PV} (p : Sector → Bool) (l : List Sector) (hxs : xs = encSectors l) (hg : ∀ x ∈ l, CallsPV Tryz.prog g (encSector x :: caps) (.bool (p x))) :
    CallsPV Tryz.prog 121 [.list 5 xs, .fn g caps] (.bool (l.all p)) := by
  refine callsPV_by (clo := fun _ => false) (rows := false) env_ok Tryz.func121 rfl (enters_of Tryz.func121 (by kernel_rfl) rfl) (fun A q P Y hr hA hq => ?_)
  conv => cbv
  refine call_intro hA (containsFunc_Sector (fun x => !p x) l hxs (fun x hx => all1_Sector p x (hg x hx))) ?_
  obtain ⟨r, hr⟩ : ∃ r, r = l.any (fun x => !p x) := ⟨_, rfl⟩
  rw [← hr]
  conv => cbv
  rw [← hq]
  subst hA
  show PV.bool (!r) = _
  rw [hr]
  simp [List.any_eq_not_all_not]

theorem indexFunc_Leg {g : FuncId} {caps xs : List PV} (p : Leg → Bool) (l : List Leg) (hxs : xs = encLegs l) (hg : ∀ x ∈ l, CallsPV Tryz.prog g (encLeg x :: caps) (.bool (p x))) :
    CallsPV Tryz.prog 234 [.list 4 xs, .fn g caps] (.int .i64 (findI p l)) := by
  refine callsPV_by (clo := fun _ => false) (rows := false) env_ok Tryz.func234 rfl (enters_of Tryz.func234 (by kernel_rfl) rfl) (fun A q P Y hr hA hq => ?_)
  have hlen := (hr.mem (p := .list 4 xs) (by simp)).len
  have hll : xs.length = l.length := by rw [hxs]; simp [encLegs]
  conv => cbv
  refine loop_set hA (fun (i : Int) s => s.put (some 8) (.val (.int .i64 i))) (fun i => 0 ≤ i ∧ i ≤ l.length ∧ ∀ x ∈ l.take i.toNat, p x = false) (fun i => (l.length - i).toNat) 0 ?_ ?_ ?_
  · conv => cbv
    exact wk_sl (by simp [leL, leS])
  · exact ⟨Int.le_refl _, by omega, by simp⟩
  · intro R i hi hR
    conv => cbv
    split
    · rename_i h1
      have h1' : i < l.length := by subst hA; rw [← hll]; simpa [stdOps] using h1
      conv => cbv
      refine idx_Leg hA hxs hi.1 h1' (fun x v0 hx hv0 => ?_)
      conv => cbv
      refine call_intro' hA (hg x (List.mem_of_getElem? hx)) (by simp [encLeg, hv0]) ?_
      have htake := take_snoc' hi.1 hx
      conv => cbv
      split
      · rename_i h2
        conv => cbv
        rw [← hq, findI_hit hi.1 hx h2 hi.2.2]
      · rename_i h2
        conv => cbv
        refine ⟨by subst hA; show inI64 (i + 1); unfold inI64; omega, hR (A.iAdd i 1) _ (by (conv => cbv); exact wk_sl (by simp [leL, leS])) ?_ ?_⟩
        · subst hA
          show 0 ≤ i + 1 ∧ i + 1 ≤ l.length ∧ ∀ x ∈ l.take (i + 1).toNat, p x = false
          refine ⟨by omega, by omega, fun y hy => ?_⟩
          rw [htake, List.mem_append] at hy
          rcases hy with hy | hy
          · exact hi.2.2 y hy
          · rw [List.mem_singleton.1 hy]; exact h2
        · subst hA
          show (l.length - (i + 1)).toNat < (l.length - i).toNat
          omega
    · rename_i h1
      have h1' : ¬ i < l.length := by subst hA; rw [← hll]; simpa [stdOps] using h1
      conv => cbv
      rw [← hq, findI_miss]
      intro y hy
      refine hi.2.2 y ?_
      rw [List.take_of_length_le (by omega)]
      exact hy

theorem containsFunc_Leg {g : FuncId} {caps xs : List PV} (p : Leg → Bool) (l : List Leg) (hxs : xs = encLegs l) (hg : ∀ x ∈ l, CallsPV Tryz.prog g (encLeg x :: caps) (.bool (p x))) :
    CallsPV Tryz.prog 176 [.list 4 xs, .fn g caps] (.bool (l.any p)) := by
  refine callsPV_by (clo := fun _ => false) (rows := false) env_ok Tryz.func176 rfl (enters_of Tryz.func176 (by kernel_rfl) rfl) (fun A q P Y hr hA hq => ?_)
  conv => cbv
  refine call_intro hA (indexFunc_Leg p l hxs hg) ?_
  obtain ⟨r, hr⟩ : ∃ r, r = findI p l := ⟨_, rfl⟩
  rw [← hr]
  conv => cbv
  rw [← hq, ← findI_any, ← hr]
  subst hA
  rfl

theorem all1_Leg {g : FuncId} {caps : List PV} (p : Leg → Bool) (x : Leg) (hg : CallsPV Tryz.prog g (encLeg x :: caps) (.bool (p x))) :
    CallsPV Tryz.prog 177 [encLeg x, .ptr [.fn g caps] 0] (.bool (!p x)) := by
  refine callsPV_by (clo := fun _ => false) (rows := false) env_ok Tryz.func177 rfl (enters_of Tryz.func177 (by kernel_rfl) rfl) (fun A q P Y hr hA hq => ?_)
  rw [show encLeg x = .agg [.int .i64 x.Segment, .int .i64 x.Volume, .int .i64 x.Length, .list 2 (encSpans x.Minutes)] from rfl] at hg ⊢
  generalize encSpans x.Minutes = u0 at hg ⊢
  conv => cbv
  refine call_intro hA hg ?_
  conv => cbv
  rw [← hq]
  subst hA
  rfl
theorem all_Leg {g : FuncId} {caps xs : List PV} (p : Leg → Bool) (l : List Leg) (hxs : xs = encLegs l) (hg : ∀ x ∈ l, CallsPV Tryz.prog g (encLeg x :: caps) (.bool (p x))) :
    CallsPV Tryz.prog 116 [.list 4 xs, .fn g caps] (.bool (l.all p)) := by
  refine callsPV_by (clo := fun _ => false) (rows := false) env_ok Tryz.func116 rfl (enters_of Tryz.func116 (by kernel_rfl) rfl) (fun A q P Y hr hA hq => ?_)
  conv => cbv
  refine call_intro hA (containsFunc_Leg (fun x => !p x) l hxs (fun x hx => all1_Leg p x (hg x hx))) ?_
  obtain ⟨r, hr⟩ : ∃ r, r = l.any (fun x => !p x) := ⟨_, rfl⟩
  rw [← hr]
  conv => cbv
  rw [← hq]
  subst hA
  show PV.bool (!r) = _
  rw [hr]
  simp [List.any_eq_not_all_not]

theorem indexFunc_Way {g : FuncId} {caps xs : List PV} (p : Way → Bool) (l : List Way) (hxs : xs = encWays l) (hg : ∀ x ∈ l, CallsPV Tryz.prog g (encWay x :: caps) (.bool (p x))) :
    CallsPV Tryz.prog 241 [.list 3 xs, .fn g caps] (.int .i64 (findI p l)) := by
  refine callsPV_by (clo := fun _ => false) (rows := false) env_ok Tryz.func241 rfl (enters_of Tryz.func241 (by kernel_rfl) rfl) (fun A q P Y hr hA hq => ?_)
  have hlen := (hr.mem (p := .list 3 xs) (by simp)).len
  have hll : xs.length = l.length := by rw [hxs]; simp [encWays]
  conv => cbv
  refine loop_set hA (fun (i : Int) s => s.put (some 8) (.val (.int .i64 i))) (fun i => 0 ≤ i ∧ i ≤ l.length ∧ ∀ x ∈ l.take i.toNat, p x = false) (fun i => (l.length - i).toNat) 0 ?_ ?_ ?_
  · conv => cbv
    exact wk_sl (by simp [leL, leS])
  · exact ⟨Int.le_refl _, by omega, by simp⟩
  · intro R i hi hR
    conv => cbv
    split
    · rename_i h1
      have h1' : i < l.length := by subst hA; rw [← hll]; simpa [stdOps] using h1
      conv => cbv
      refine idx_Way hA hxs hi.1 h1' (fun x v0 hx hv0 => ?_)
      conv => cbv
      refine call_intro' hA (hg x (List.mem_of_getElem? hx)) (by simp [encWay, hv0]) ?_
      have htake := take_snoc' hi.1 hx
      conv => cbv
      split
      · rename_i h2
        conv => cbv
        rw [← hq, findI_hit hi.1 hx h2 hi.2.2]
      · rename_i h2
        conv => cbv
        refine ⟨by subst hA; show inI64 (i + 1); unfold inI64; omega, hR (A.iAdd i 1) _ (by (conv => cbv); exact wk_sl (by simp [leL, leS])) ?_ ?_⟩
        · subst hA
          show 0 ≤ i + 1 ∧ i + 1 ≤ l.length ∧ ∀ x ∈ l.take (i + 1).toNat, p x = false
          refine ⟨by omega, by omega, fun y hy => ?_⟩
          rw [htake, List.mem_append] at hy
          rcases hy with hy | hy
          · exact hi.2.2 y hy
          · rw [List.mem_singleton.1 hy]; exact h2
        · subst hA
          show (l.length - (i + 1)).toNat < (l.length - i).toNat
          omega
    · rename_i h1
      have h1' : ¬ i < l.length := by subst hA; rw [← hll]; simpa [stdOps] using h1
      conv => cbv
      rw [← hq, findI_miss]
      intro y hy
      refine hi.2.2 y ?_
      rw [List.take_of_length_le (by omega)]
      exact hy

theorem containsFunc_Way {g : FuncId} {caps xs : List PV} (p : Way → Bool) (l : List Way) (hxs : xs = encWays l) (hg : ∀ x ∈ l, CallsPV Tryz.prog g (encWay x :: caps) (.bool (p x))) :
    CallsPV Tryz.prog 184 [.list 3 xs, .fn g caps] (.bool (l.any p)) := by
  refine callsPV_by (clo := fun _ => false) (rows := false) env_ok Tryz.func184 rfl (enters_of Tryz.func184 (by kernel_rfl) rfl) (fun A q P Y hr hA hq => ?_)
  conv => cbv
  refine call_intro hA (indexFunc_Way p l hxs hg) ?_
  obtain ⟨r, hr⟩ : ∃ r, r = findI p l := ⟨_, rfl⟩
  rw [← hr]
  conv => cbv
  rw [← hq, ← findI_any, ← hr]
  subst hA
  rfl

theorem all1_Way {g : FuncId} {caps : List PV} (p : Way → Bool) (x : Way) (hg : CallsPV Tryz.prog g (encWay x :: caps) (.bool (p x))) :
    CallsPV Tryz.prog 185 [encWay x, .ptr [.fn g caps] 0] (.bool (!p x)) := by
  refine callsPV_by (clo := fun _ => false) (rows := false) env_ok Tryz.func185 rfl (enters_of Tryz.func185 (by kernel_rfl) rfl) (fun A q P Y hr hA hq => ?_)
  rw [show encWay x = .agg [.int .i64 x.From, .int .i64 x.To, .list 4 (encLegs x.Legs)] from rfl] at hg ⊢
  generalize encLegs x.Legs = u0 at hg ⊢
  conv => cbv
  refine call_intro hA hg ?_
  conv => cbv
  rw [← hq]
  subst hA
  rfl
theorem all_Way {g : FuncId} {caps xs : List PV} (p : Way → Bool) (l : List Way) (hxs : xs = encWays l) (hg : ∀ x ∈ l, CallsPV Tryz.prog g (encWay x :: caps) (.bool (p x))) :
    CallsPV Tryz.prog 123 [.list 3 xs, .fn g caps] (.bool (l.all p)) := by
  refine callsPV_by (clo := fun _ => false) (rows := false) env_ok Tryz.func123 rfl (enters_of Tryz.func123 (by kernel_rfl) rfl) (fun A q P Y hr hA hq => ?_)
  conv => cbv
  refine call_intro hA (containsFunc_Way (fun x => !p x) l hxs (fun x hx => all1_Way p x (hg x hx))) ?_
  obtain ⟨r, hr⟩ : ∃ r, r = l.any (fun x => !p x) := ⟨_, rfl⟩
  rw [← hr]
  conv => cbv
  rw [← hq]
  subst hA
  show PV.bool (!r) = _
  rw [hr]
  simp [List.any_eq_not_all_not]

theorem indexFunc_Kind {g : FuncId} {caps xs : List PV} (p : Kind → Bool) (l : List Kind) (hxs : xs = encKinds l) (hg : ∀ x ∈ l, CallsPV Tryz.prog g (encKind x :: caps) (.bool (p x))) :
    CallsPV Tryz.prog 242 [.list 6 xs, .fn g caps] (.int .i64 (findI p l)) := by
  refine callsPV_by (clo := fun _ => false) (rows := false) env_ok Tryz.func242 rfl (enters_of Tryz.func242 (by kernel_rfl) rfl) (fun A q P Y hr hA hq => ?_)
  have hlen := (hr.mem (p := .list 6 xs) (by simp)).len
  have hll : xs.length = l.length := by rw [hxs]; simp [encKinds]
  conv => cbv
  refine loop_set hA (fun (i : Int) s => s.put (some 8) (.val (.int .i64 i))) (fun i => 0 ≤ i ∧ i ≤ l.length ∧ ∀ x ∈ l.take i.toNat, p x = false) (fun i => (l.length - i).toNat) 0 ?_ ?_ ?_
  · conv => cbv
    exact wk_sl (by simp [leL, leS])
  · exact ⟨Int.le_refl _, by omega, by simp⟩
  · intro R i hi hR
    conv => cbv
    split
    · rename_i h1
      have h1' : i < l.length := by subst hA; rw [← hll]; simpa [stdOps] using h1
      conv => cbv
      refine idx_Kind hA hxs hi.1 h1' (fun x v0 hx hv0 => ?_)
      conv => cbv
      refine call_intro' hA (hg x (List.mem_of_getElem? hx)) (by simp [encKind, hv0]) ?_
      have htake := take_snoc' hi.1 hx
      conv => cbv
      split
      · rename_i h2
        conv => cbv
        rw [← hq, findI_hit hi.1 hx h2 hi.2.2]
      · rename_i h2
        conv => cbv
        refine ⟨by subst hA; show inI64 (i + 1); unfold inI64; omega, hR (A.iAdd i 1) _ (by (conv => cbv); exact wk_sl (by simp [leL, leS])) ?_ ?_⟩
        · subst hA
          show 0 ≤ i + 1 ∧ i + 1 ≤ l.length ∧ ∀ x ∈ l.take (i + 1).toNat, p x = false
          refine ⟨by omega, by omega, fun y hy => ?_⟩
          rw [htake, List.mem_append] at hy
          rcases hy with hy | hy
          · exact hi.2.2 y hy
          · rw [List.mem_singleton.1 hy]; exact h2
        · subst hA
          show (l.length - (i + 1)).toNat < (l.length - i).toNat
          omega
    · rename_i h1
      have h1' : ¬ i < l.length := by subst hA; rw [← hll]; simpa [stdOps] using h1
      conv => cbv
      rw [← hq, findI_miss]
      intro y hy
      refine hi.2.2 y ?_
      rw [List.take_of_length_le (by omega)]
      exact hy

theorem containsFunc_Kind {g : FuncId} {caps xs : List PV} (p : Kind → Bool) (l : List Kind) (hxs : xs = encKinds l) (hg : ∀ x ∈ l, CallsPV Tryz.prog g (encKind x :: caps) (.bool (p x))) :
    CallsPV Tryz.prog 186 [.list 6 xs, .fn g caps] (.bool (l.any p)) := by
  refine callsPV_by (clo := fun _ => false) (rows := false) env_ok Tryz.func186 rfl (enters_of Tryz.func186 (by kernel_rfl) rfl) (fun A q P Y hr hA hq => ?_)
  conv => cbv
  refine call_intro hA (indexFunc_Kind p l hxs hg) ?_
  obtain ⟨r, hr⟩ : ∃ r, r = findI p l := ⟨_, rfl⟩
  rw [← hr]
  conv => cbv
  rw [← hq, ← findI_any, ← hr]
  subst hA
  rfl

theorem all1_Kind {g : FuncId} {caps : List PV} (p : Kind → Bool) (x : Kind) (hg : CallsPV Tryz.prog g (encKind x :: caps) (.bool (p x))) :
    CallsPV Tryz.prog 187 [encKind x, .ptr [.fn g caps] 0] (.bool (!p x)) := by
  refine callsPV_by (clo := fun _ => false) (rows := false) env_ok Tryz.func187 rfl (enters_of Tryz.func187 (by kernel_rfl) rfl) (fun A q P Y hr hA hq => ?_)
  rw [show encKind x = .agg [.int .i64 x.Slow, .int .i64 x.Fast, .int .i64 x.Places, .int .i64 x.Weight, .int .i64 x.Longest, .list 1 (encSpanLs x.Curfews)] from rfl] at hg ⊢
  generalize encSpanLs x.Curfews = u0 at hg ⊢
  conv => cbv
  refine call_intro hA hg ?_
  conv => cbv
  rw [← hq]
  subst hA
  rfl
theorem all_Kind {g : FuncId} {caps xs : List PV} (p : Kind → Bool) (l : List Kind) (hxs : xs = encKinds l) (hg : ∀ x ∈ l, CallsPV Tryz.prog g (encKind x :: caps) (.bool (p x))) :
    CallsPV Tryz.prog 124 [.list 6 xs, .fn g caps] (.bool (l.all p)) := by
  refine callsPV_by (clo := fun _ => false) (rows := false) env_ok Tryz.func124 rfl (enters_of Tryz.func124 (by kernel_rfl) rfl) (fun A q P Y hr hA hq => ?_)
  conv => cbv
  refine call_intro hA (containsFunc_Kind (fun x => !p x) l hxs (fun x hx => all1_Kind p x (hg x hx))) ?_
  obtain ⟨r, hr⟩ : ∃ r, r = l.any (fun x => !p x) := ⟨_, rfl⟩
  rw [← hr]
  conv => cbv
  rw [← hq]
  subst hA
  show PV.bool (!r) = _
  rw [hr]
  simp [List.any_eq_not_all_not]

theorem indexFunc_Station {g : FuncId} {caps xs : List PV} (p : Station → Bool) (l : List Station) (hxs : xs = encStations l) (hg : ∀ x ∈ l, CallsPV Tryz.prog g (encStation x :: caps) (.bool (p x))) :
    CallsPV Tryz.prog 172 [.list 3 xs, .fn g caps] (.int .i64 (findI p l)) := by
  refine callsPV_by (clo := fun _ => false) (rows := false) env_ok Tryz.func172 rfl (enters_of Tryz.func172 (by kernel_rfl) rfl) (fun A q P Y hr hA hq => ?_)
  have hlen := (hr.mem (p := .list 3 xs) (by simp)).len
  have hll : xs.length = l.length := by rw [hxs]; simp [encStations]
  conv => cbv
  refine loop_set hA (fun (i : Int) s => s.put (some 8) (.val (.int .i64 i))) (fun i => 0 ≤ i ∧ i ≤ l.length ∧ ∀ x ∈ l.take i.toNat, p x = false) (fun i => (l.length - i).toNat) 0 ?_ ?_ ?_
  · conv => cbv
    exact wk_sl (by simp [leL, leS])
  · exact ⟨Int.le_refl _, by omega, by simp⟩
  · intro R i hi hR
    conv => cbv
    split
    · rename_i h1
      have h1' : i < l.length := by subst hA; rw [← hll]; simpa [stdOps] using h1
      conv => cbv
      refine idx_Station hA hxs hi.1 h1' (fun x v0 hx hv0 => ?_)
      conv => cbv
      refine call_intro' hA (hg x (List.mem_of_getElem? hx)) (by simp [encStation, hv0]) ?_
      have htake := take_snoc' hi.1 hx
      conv => cbv
      split
      · rename_i h2
        conv => cbv
        rw [← hq, findI_hit hi.1 hx h2 hi.2.2]
      · rename_i h2
        conv => cbv
        refine ⟨by subst hA; show inI64 (i + 1); unfold inI64; omega, hR (A.iAdd i 1) _ (by (conv => cbv); exact wk_sl (by simp [leL, leS])) ?_ ?_⟩
        · subst hA
          show 0 ≤ i + 1 ∧ i + 1 ≤ l.length ∧ ∀ x ∈ l.take (i + 1).toNat, p x = false
          refine ⟨by omega, by omega, fun y hy => ?_⟩
          rw [htake, List.mem_append] at hy
          rcases hy with hy | hy
          · exact hi.2.2 y hy
          · rw [List.mem_singleton.1 hy]; exact h2
        · subst hA
          show (l.length - (i + 1)).toNat < (l.length - i).toNat
          omega
    · rename_i h1
      have h1' : ¬ i < l.length := by subst hA; rw [← hll]; simpa [stdOps] using h1
      conv => cbv
      rw [← hq, findI_miss]
      intro y hy
      refine hi.2.2 y ?_
      rw [List.take_of_length_le (by omega)]
      exact hy

theorem containsFunc_Station {g : FuncId} {caps xs : List PV} (p : Station → Bool) (l : List Station) (hxs : xs = encStations l) (hg : ∀ x ∈ l, CallsPV Tryz.prog g (encStation x :: caps) (.bool (p x))) :
    CallsPV Tryz.prog 103 [.list 3 xs, .fn g caps] (.bool (l.any p)) := by
  refine callsPV_by (clo := fun _ => false) (rows := false) env_ok Tryz.func103 rfl (enters_of Tryz.func103 (by kernel_rfl) rfl) (fun A q P Y hr hA hq => ?_)
  conv => cbv
  refine call_intro hA (indexFunc_Station p l hxs hg) ?_
  obtain ⟨r, hr⟩ : ∃ r, r = findI p l := ⟨_, rfl⟩
  rw [← hr]
  conv => cbv
  rw [← hq, ← findI_any, ← hr]
  subst hA
  rfl

theorem indexFunc_Report {g : FuncId} {caps xs : List PV} (p : Report → Bool) (l : List Report) (hxs : xs = encReports l) (hg : ∀ x ∈ l, CallsPV Tryz.prog g (encReport x :: caps) (.bool (p x))) :
    CallsPV Tryz.prog 171 [.list 6 xs, .fn g caps] (.int .i64 (findI p l)) := by
  refine callsPV_by (clo := fun _ => false) (rows := false) env_ok Tryz.func171 rfl (enters_of Tryz.func171 (by kernel_rfl) rfl) (fun A q P Y hr hA hq => ?_)
  have hlen := (hr.mem (p := .list 6 xs) (by simp)).len
  have hll : xs.length = l.length := by rw [hxs]; simp [encReports]
  conv => cbv
  refine loop_set hA (fun (i : Int) s => s.put (some 8) (.val (.int .i64 i))) (fun i => 0 ≤ i ∧ i ≤ l.length ∧ ∀ x ∈ l.take i.toNat, p x = false) (fun i => (l.length - i).toNat) 0 ?_ ?_ ?_
  · conv => cbv
    exact wk_sl (by simp [leL, leS])
  · exact ⟨Int.le_refl _, by omega, by simp⟩
  · intro R i hi hR
    conv => cbv
    split
    · rename_i h1
      have h1' : i < l.length := by subst hA; rw [← hll]; simpa [stdOps] using h1
      conv => cbv
      refine idx_Report hA hxs hi.1 h1' (fun x hx  => ?_)
      conv => cbv
      refine call_intro' hA (hg x (List.mem_of_getElem? hx)) (by simp [encReport]) ?_
      have htake := take_snoc' hi.1 hx
      conv => cbv
      split
      · rename_i h2
        conv => cbv
        rw [← hq, findI_hit hi.1 hx h2 hi.2.2]
      · rename_i h2
        conv => cbv
        refine ⟨by subst hA; show inI64 (i + 1); unfold inI64; omega, hR (A.iAdd i 1) _ (by (conv => cbv); exact wk_sl (by simp [leL, leS])) ?_ ?_⟩
        · subst hA
          show 0 ≤ i + 1 ∧ i + 1 ≤ l.length ∧ ∀ x ∈ l.take (i + 1).toNat, p x = false
          refine ⟨by omega, by omega, fun y hy => ?_⟩
          rw [htake, List.mem_append] at hy
          rcases hy with hy | hy
          · exact hi.2.2 y hy
          · rw [List.mem_singleton.1 hy]; exact h2
        · subst hA
          show (l.length - (i + 1)).toNat < (l.length - i).toNat
          omega
    · rename_i h1
      have h1' : ¬ i < l.length := by subst hA; rw [← hll]; simpa [stdOps] using h1
      conv => cbv
      rw [← hq, findI_miss]
      intro y hy
      refine hi.2.2 y ?_
      rw [List.take_of_length_le (by omega)]
      exact hy

theorem containsFunc_Report {g : FuncId} {caps xs : List PV} (p : Report → Bool) (l : List Report) (hxs : xs = encReports l) (hg : ∀ x ∈ l, CallsPV Tryz.prog g (encReport x :: caps) (.bool (p x))) :
    CallsPV Tryz.prog 102 [.list 6 xs, .fn g caps] (.bool (l.any p)) := by
  refine callsPV_by (clo := fun _ => false) (rows := false) env_ok Tryz.func102 rfl (enters_of Tryz.func102 (by kernel_rfl) rfl) (fun A q P Y hr hA hq => ?_)
  conv => cbv
  refine call_intro hA (indexFunc_Report p l hxs hg) ?_
  obtain ⟨r, hr⟩ : ∃ r, r = findI p l := ⟨_, rfl⟩
  rw [← hr]
  conv => cbv
  rw [← hq, ← findI_any, ← hr]
  subst hA
  rfl

end Go.Abs
