/-
  Rows of the activation's own, turned as a whole by a function of the library's.
-/
import Derived.Test.YtbljnbpddboohaaGreatD1
import Derived.Sort.OwnSortedInts
set_option linter.unusedVariables false
set_option linter.unusedSimpArgs false
namespace Go.Abs
open Go.RowKit Go.Proofs Go.Sort

section
variable {E : Env} {B : Nat} {S0 : Addr → Prop} {G : Gh} {S : Addr → Prop} {w : World}

/-- A variable of the activation's own has turned; and there are new blocks. -/
theorem Inv.rebox {bx : List (Option (List SV))} {tk : List (Nat × TypeId)} {ax : Ax} (hI : Inv E B S0 bx tk ax G S w) {id b : Nat} {t : TypeId} {arr arr' : Array Value} {cs cs' : List SV} {w' : World} (hb : G.bx[id]? = some b) (hc : bx[id]? = some (some cs)) (hh : w.heap[b]? = some (.cells arr t (0, 0)))
    (hg : w.grownBy w' (some b)) (hh' : w'.heap[b]? = some (.cells arr' t (0, 0)))
    (hl : arr'.size = cs'.length) (hr : ∀ (j : Nat) (c : SV) (v : Value), cs'[j]? = some c → arr'[j]? = some v → RSV tk G S w c v ∧ v.oneCell' = true) :
    Inv E B S0 (bx.set id (some cs')) tk ax G S w' ∧ Ext tk G S w tk G S w' ∧ ∀ w0, Below B w0 w → Below B w0 w' := by
  have hSb : ∀ a, S a → a.block ≠ b := (hI.box id b cs hc hb).2
  have hsz := hg.size
  have hbl : ∀ k, k < w.heap.size → k ≠ b → w'.heap[k]? = w.heap[k]? := fun k hk hne => hg.block k hk (fun e => hne (Option.some.inj e))
  have hE : Ext tk G S w tk G S w' := ⟨fun _ _ h => h, fun _ hv le h1 h2 => ⟨hv, le, h1, h2, .inl ⟨rfl, rfl⟩⟩, fun _ h => h, fun a ha => World.cell?_of_block (hbl _ (hI.slt a ha) (hSb a ha)), fun _ _ h => h, ⟨hg.os, hg.tape, hg.output, hsz, fun k hk => absurd hk (Nat.not_lt_zero _)⟩, fun b' hlt hf => hbl b' hlt (fun e => hf (.inl ⟨id, by rw [e]; exact hb⟩)), fun _ _ h => h, fun _ h => .inl h⟩
  have hBb := (hI.old id b hb).1
  have hid : id < bx.length := (List.getElem?_eq_some_iff.1 hc).1
  refine ⟨⟨Nat.le_trans hI.base hsz, hI.s0, fun a ha => Nat.lt_of_lt_of_le (hI.slt a ha) hsz, by simp [hI.lbx], hI.ltk, fun i b' h => ⟨(hI.old i b' h).1, Nat.lt_of_lt_of_le (hI.old i b' h).2 hsz⟩, hI.dist, ?_, ?_, hI.apart, hI.lmp, hI.dmp, fun i b' h => ⟨(hI.mpo i b' h).1, Nat.lt_of_lt_of_le (hI.mpo i b' h).2 hsz⟩, fun i b' c h1 h2 => (hI.mpk i b' c h1 h2).same (hbl b' (hI.mpo i b' h2).2 ((hI.mpk i b' c h1 h2).ne hh)), fun b' h => Nat.lt_of_lt_of_le (hI.flt b' h) hsz, hI.fbx, hI.ftk, hI.fmp,
    ⟨E.Y.ok _ _ _ _ _ _ hI.yl.1 ⟨hE.calm, fun b' h => hbl b' (hI.flt b' h) (fun e => hI.fbx id b' (by rw [e]; exact hb) h), fun _ h => h, hE.cell, fun _ h => .inl h, fun a ha => Nat.lt_of_lt_of_le (hI.slt a ha) hsz⟩, hI.yl.2⟩⟩, hE, fun w0 h => h.grown hg hI.base (fun k e => by cases e; exact hBb)⟩
  · intro id' b' cs'' h1 h2
    simp only [List.getElem?_set] at h1
    split at h1
    · rename_i he
      subst he
      simp only [Option.some.injEq] at h1
      subst h1
      rw [hb] at h2
      cases h2
      exact ⟨⟨t, arr', hh', hl, fun j c v a1 a2 => ⟨RSV.mono hE (hr j c v a1 a2).1, (hr j c v a1 a2).2⟩⟩, hSb⟩
    · rename_i hne
      have hbb : b' ≠ b := fun e => hne (hI.dist id id' b hb (by rw [← e]; exact h2))
      obtain ⟨⟨t', a', k1, k2, k3⟩, k4⟩ := hI.box id' b' cs'' h1 h2
      exact ⟨⟨t', a', by rw [hbl b' (hI.old id' b' h2).2 hbb]; exact k1, k2, fun j c v a1 a2 => ⟨RSV.mono hE (k3 j c v a1 a2).1, (k3 j c v a1 a2).2⟩⟩, k4⟩
  · intro t' n e hv h1 h2
    obtain ⟨a, cap, k1, k2, k3, k4⟩ := hI.tok t' n e hv h1 h2
    refine ⟨a, cap, k1, k2, k3, fun hlt => ?_⟩
    obtain ⟨g, cur, c1, c2, c3, c4, c5, c6⟩ := k4 hlt
    have hgb : g ≠ b := fun e => c6 id (by rw [e]; exact hb)
    exact ⟨g, cur, c1, c2, by rw [hbl g (Array.getElem?_eq_some_iff.1 c3).1 hgb]; exact c3, c4, c5, c6⟩

/-- A function of the library's that turns a row of numbers in place. -/
theorem callsR_rowI {f : FuncId} (he : Enters E.P f) {bx : List (Option (List SV))} {tk : List (Nat × TypeId)} {ax : Ax} {id n cap : Nat} {zs : List Int} {rest : List SV} (hc : bx[id]? = some (some ((encInts zs).map SV.val ++ rest)))
    (res : SV) (resv : Nat → Value) (hres : ∀ tk G S w b, G.bx[id]? = some b → RSV tk G S w res (resv b)) (D : List Int → Prop)
    (h : ∀ (w : World) (b : Nat), Holds (Value.int .i64) w b 0 zs.toArray → b < w.heap.size → n ≤ cap → cap ≤ maxLen →
      Calls E.P f #[.slice (some ⟨b, 0, none⟩) n cap] w fun e w' => e = .returned (resv b) ∧ ∃ k os d, d.length = zs.length ∧ D d ∧ w' = grow (putRow (Value.int .i64) (Sort.ahead w k) b 0 d.toArray) os) :
    CallsR E f [.row id 0 1 n cap] bx tk ax fun r bx' tk' ax' => r = res ∧ (∃ d, d.length = zs.length ∧ D d ∧ bx' = bx.set id (some ((encInts d).map SV.val ++ rest))) ∧ tk' = tk ∧ ax' = ax := by
  refine ⟨he, fun B S0 w0 G S w vs hI hw hlen hvs => ?_⟩
  match vs, hlen with
  | [v], _ =>
    obtain ⟨b, hb, rfl, hcap, hmax⟩ := hvs 0 _ v rfl rfl
    obtain ⟨⟨t, arr, hh, hsz, hcells⟩, hS⟩ := hI.box id b _ hc hb
    have hval : ∀ j, j < zs.length → arr[j]? = some (.int .i64 (zs.getD j 0)) := fun j hj => by
      have h1 : ((encInts zs).map SV.val ++ rest)[j]? = some (.val (.int .i64 (zs.getD j 0))) := by
        rw [List.getElem?_append_left (by simpa [encInts] using hj)]
        simp [encInts, encInt, hj]
      have hjs : j < arr.size := by rw [hsz]; simp [encInts]; omega
      obtain ⟨h2, _⟩ := hcells j _ arr[j] h1 (by simp [hjs])
      rw [Array.getElem?_eq_getElem hjs]
      generalize arr[j] = u at h2
      have h3 : RV S w (.int .i64 (zs.getD j 0)) u := h2
      cases h3
      rfl
    have htake : arr.toList.take zs.length = zs.map (Value.int .i64) := by
      apply List.ext_getElem?
      intro j
      by_cases hj : j < zs.length
      · rw [List.getElem?_take_of_lt hj, Array.getElem?_toList, hval j hj]
        simp [hj]
      · rw [List.getElem?_take_eq_none (by omega), List.getElem?_eq_none (by simp; omega)]
    have hlt : b < w.heap.size := (hI.old id b hb).2
    refine (h w b (holds_of_blockI hh htake) hlt hcap hmax).mono ?_
    rintro e w' ⟨rfl, k, os, d, hd, hD, rfl⟩
    have hg : w.grownBy (grow (putRow (Value.int .i64) (Sort.ahead w k) b 0 d.toArray) os) (some b) := grownBy_sortedI d.toArray
    have hh' := heap_sortedI (n := k) (os := os) d.toArray hh
    have harr : ∀ (j : Nat) (c : SV) (v : Value), ((encInts d).map SV.val ++ rest)[j]? = some c → (putCells (Value.int .i64) 0 d.toArray arr)[j]? = some v → RSV tk G S w c v ∧ v.oneCell' = true := by
      intro j c v h1 h2
      by_cases hj : j < d.length
      · rw [List.getElem?_append_left (by simpa [encInts] using hj)] at h1
        have hja : j < arr.size := by rw [hsz]; simp [encInts]; omega
        simp [encInts, encInt, hj] at h1
        simp [putCells, hj, hja] at h2
        subst h1; subst h2
        exact ⟨RV.int _ _, rfl⟩
      · rw [List.getElem?_append_right (by simpa [encInts] using hj)] at h1
        have h3 : ((encInts zs).map SV.val ++ rest)[j]? = some c := by
          rw [List.getElem?_append_right (by simp [encInts]; omega)]
          simpa [encInts, hd] using h1
        have h4 : arr[j]? = some v := by
          simp only [putCells, Array.getElem?_mapIdx] at h2
          rw [Option.map_eq_some_iff] at h2
          obtain ⟨x, h5, h6⟩ := h2
          rw [if_neg (by simp; omega)] at h6
          rw [h5, h6]
        exact hcells j c v h3 h4
    obtain ⟨k1, k2, k3⟩ := hI.rebox hb hc hh hg hh' (by simp [putCells, hsz, encInts, hd]) harr
    exact ⟨_, res, _, tk, ax, G, S, ⟨rfl, ⟨d, hd, hD, rfl⟩, rfl, rfl⟩, rfl, k1, k3 _ hw, k2, hres _ _ _ _ _ hb⟩
end
end Go.Abs
