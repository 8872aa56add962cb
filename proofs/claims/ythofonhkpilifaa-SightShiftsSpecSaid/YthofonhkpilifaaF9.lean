/-
  sight.Shifts.
-/
import Derived.Test.YthofonhkpilifaaF8
namespace Go.Abs
open Go.RowKit Go.Proofs

theorem CallsR.wk {E : Env} {f : FuncId} {svs svs2 : List SV} {bx bx2 : List (Option (List SV))} {tk tk2 : List (Nat × TypeId)} {ax ax2 : Ax} {Q : SV → List (Option (List SV)) → List (Nat × TypeId) → Ax → Prop}
    (hnt : (bx.length, ax.mp.length) = (0, 0) → tk = []) (hw : Wk (bx.length, ax.mp.length) ⟨svs, bx, tk, ax⟩ ⟨svs2, bx2, tk2, ax2⟩) (h : CallsR E f svs2 bx2 tk2 ax2 Q) : CallsR E f svs bx tk ax Q := by
  refine ⟨h.1, fun B S0 w0 G S w vs hI hb hl hv => ?_⟩
  have R : Rel E B S0 w0 ⟨svs, bx, tk, ax⟩ G S w vs.toArray := ⟨hI, hb, by simp [hl], fun i s v h1 h2 => hv i s v h1 (by simpa using h2)⟩
  obtain ⟨G', R', X', _⟩ := R.wk (Nat.le_of_eq hI.lbx) ⟨Nat.le_of_eq hI.lmp, hnt⟩ hw (Ext.refl tk G S w)
  have hc := h.2 B S0 w0 G' S w vs R'.inv R'.below (by simpa using R'.len) (fun i s v h1 h2 => R'.sl i s v h1 (by simpa using h2))
  refine hc.mono ?_
  rintro e w' ⟨v, r, bx', tk', ax', G2, S2, hq, he, hi, hb2, hx, hr⟩
  exact ⟨v, r, bx', tk', ax', G2, S2, hq, he, hi, hb2, X'.trans hx, hr⟩

def shiftsOk (l : List Station) : Bool := decide (l.length ≤ 4) && !l.any shiftBad

theorem sight_Shifts (l : List Station) {xs : List PV} (hx : xs = encStations l) : CallsPV Try.prog 16 [.list 3 xs] (if shiftsOk l then .tup [.list 1 (encIntLs (shiftsL l)), .int .i64 0] else .tup [.list 0 [], .int .i64 230]) := by
  refine callsPV_by (clo := fun n => n == 36) (rows := false) env_ok Try.func16 rfl (enters_of Try.func16 (by kernel_rfl) rfl) (fun A q P Y hr hA hq => ?_)
  have hll : xs.length = l.length := by rw [hx]; simp [encStations]
  have hany := containsFunc_Station shiftBad l hx (fun x _ => sight_Shifts1 x)
  obtain ⟨bad, hbad⟩ : ∃ bad, bad = l.any shiftBad := ⟨_, rfl⟩
  obtain ⟨L, hL⟩ : ∃ L, L = encIntLs (shiftsL l) := ⟨_, rfl⟩
  have hlast : shiftsOk l = true → ∀ ax, CallsR ⟨Try.prog, tab, fun n => n == 36, false, .none⟩ 36 [.lit 0 [], .box 0 0, .box 1 0, .box 2 0] [some [.val (.list 3 xs)], some [.lit 0 []], some [.clo 36 [.box 0 0, .box 1 0, .box 2 0]]] [] ax
      (fun r bx' tk' ax' => r = .val (.tup []) ∧ ∃ rest N, bx' = bx3 xs L ++ rest ∧ tk' = [(N, 40)] ∧ ax' = ax) := by
    intro hok ax
    simp only [shiftsOk, Bool.and_eq_true, decide_eq_true_eq, Bool.not_eq_true', List.any_eq_false, shiftBad, inB] at hok
    have hsh : ∀ s ∈ l, 0 ≤ s.Shift ∧ s.Shift ≤ 3 := fun s hs => by have := hok.2 s hs; simpa using this
    have hlen := shiftsL_len l hsh
    have h7 : 7 ^ l.length ≤ 7 ^ 4 := Nat.pow_le_pow_right (by omega) hok.1
    have h := extend_spec l hx hok.1 hsh ax l.length [] (by simp) [] [] none (.lit 0 []) (by simp; omega) (.inl ⟨rfl, rfl, rfl⟩)
    have h' := CallsR.flags (clo' := fun n => n == 36) (rows' := false) h
    refine CallsR.wk (svs2 := [.lit 0 [], .box 0 0, .box 1 0, .box 2 0]) (bx2 := bx3 xs (encIntLs []) ++ []) (tk2 := [((([] : List (List Int)).length), 40)]) (ax2 := ax) (by intro h; simp at h) ?_ ?_
    · exact Wk.ownBx _ _ [] ax 1 0 0 1 [.lit 0 []] [] 40 rfl rfl (.inr rfl)
    · refine ⟨h'.1, fun B S0 w0 G S w vs a b c d => (h'.2 B S0 w0 G S w vs a b c d).mono ?_⟩
      rintro e w' ⟨v, r, bx', tk', ax', G2, S2, ⟨hq1, rest', hq2, hq3, hq4, _⟩, he⟩
      refine ⟨v, r, bx', tk', ax', G2, S2, ⟨hq1, rest', _, ?_, hq3, hq4⟩, he⟩
      rw [hq2, hL]; simp
  rw [← hL] at hq
  have hsok : shiftsOk l = (decide (l.length ≤ 4) && !bad) := by rw [hbad]; rfl
  rw [← hbad] at hany
  rw [hsok] at hq hlast
  conv => cbv
  split
  · rename_i h1
    conv => cbv
    rw [← hq, if_neg]
    have : 4 < l.length := by subst hA; simp [stdOps] at h1; omega
    simp; intro h; omega
  · rename_i h1
    conv => cbv
    refine callB hA hany rfl (fun r hr => ?_)
    conv => cbv
    have h4 : l.length ≤ 4 := by subst hA; simp [stdOps] at h1; omega
    split
    · conv => cbv
      rw [← hq, if_neg]
      rw [← hr]; simp
    · conv => cbv
      rw [← hr] at hlast hq
      refine deepR_intro hA (hlast (by simp [h4]) _) ?_
      rintro _ _ _ _ ⟨rfl, rest, N, rfl, rfl, rfl⟩
      conv => cbv
      rw [← hq, if_pos (by simp [h4])]
end Go.Abs
