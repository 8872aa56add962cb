/-
  slices.Clone at []int, of a row that is lent for the call: by the library's contract.
  slices.Clone at []int, whose result may be appended to.
-/
import Derived.Test.YtcafjndjnfdnpaaGreatF2
import Derived.Shelf.Slices.Clone
set_option linter.unusedVariables false
set_option linter.unusedSimpArgs false
namespace Go.Abs
open Go.RowKit Go.Proofs Go.Shelf

def renClone : Ren := ⟨fun _ => 106, fun x => if x = 3 then 3 else if x = 4 then 4 else 29, id⟩

theorem layClone : Lays2.n15 Tryz.prog renClone where
  mixed := by kernel_rfl
  f15 := by kernel_rfl
  t3 := Tryz.underlying3
  a3 := Tryz.isAgg3
  z3 := Tryz.sizeOf3
  v3 := Tryz.zeroValue3
  t4 := Tryz.underlying4
  a4 := Tryz.isAgg4
  z4 := Tryz.sizeOf4
  v4 := Tryz.zeroValue4
  t22 := Tryz.underlying29
  a22 := Tryz.isAgg29
  z22 := Tryz.sizeOf29
  v22 := Tryz.zeroValue29
  i3 := by kernel_rfl

theorem flat_ints (l : List Int) : (encInts l).flatMap PV.cells = encInts l := by
  induction l with
  | nil => rfl
  | cons x r ih => simp only [encInts, List.map_cons, List.flatMap_cons] at ih ⊢; rw [ih]; rfl

/-- What is owned reads as a list. -/
theorem rv_owned {S : Addr → Prop} {w w' : World} {t : TypeId} {v : Value} {l : List Int} (h : w'.ownsRow w.heap.size t 1 v l.length (l.map (Value.int .i64))) : RV (Snew S w w') w' (.list 1 (encInts l)) v := by
  rcases h.2 with ⟨rfl, h0⟩ | ⟨g, cap, cur, rfl, hb, hg, hn, hm, hs, ht⟩
  · have : l = [] := List.eq_nil_of_length_eq_zero h0
    subst this
    exact RV.list_nil 1 none 0 (by decide)
  · have hlt : g < w'.heap.size := (Array.getElem?_eq_some_iff.1 hg).1
    have hget : ∀ (i : Nat) (x : Int), l[i]? = some x → w'.cell? ⟨g, 0 + i, none⟩ = some (.int .i64 x) := fun i x hx => by
      have hi : i < l.length := (List.getElem?_eq_some_iff.1 hx).1
      have e1 : (cur.toList.take (l.length * 1))[i]? = (l.map (Value.int .i64))[i]? := by rw [ht]
      rw [List.getElem?_take, if_pos (by omega), Array.getElem?_toList, List.getElem?_map, hx] at e1
      simp only [World.cell?, hg, Nat.zero_add]
      simpa using e1
    have hlen : (encInts l).length = l.length := by simp [encInts]
    rw [← hlen]
    refine RV.list 1 (encInts l) (some ⟨g, 0, none⟩) ⟨g, 0, none⟩ cap (fun i _ => .int .i64 (l.getD i 0)) (fun _ => rfl) (by omega) hm (fun i x hx => ?_) (fun i x j c hx hc => ?_) (fun i x j c hx hc => ?_) (fun h => absurd h (by decide))
    all_goals
      rw [encInts, List.getElem?_map] at hx
      cases hq : l[i]? with
      | none => rw [hq] at hx; cases hx
      | some y => ?_
      rw [hq] at hx
      simp only [Option.map_some, Option.some.injEq] at hx
      subst hx
    · rfl
    · have hj : j = 0 := by
        cases j with
        | zero => rfl
        | succ j => simp [encInt, PV.cells] at hc
      subst hj
      have hi : i < l.length := (List.getElem?_eq_some_iff.1 hq).1
      rw [Addr.add_lit]
      refine ⟨.inr ⟨hb, hlt⟩, ?_, rfl⟩
      have := hget i y hq
      simp only [List.getD_eq_getElem?_getD, hq, Option.getD_some, Nat.mul_one, Nat.add_zero]
      exact this
    · have hj : j = 0 := by
        cases j with
        | zero => rfl
        | succ j => simp [encInt, PV.cells] at hc
      subst hj
      simp [encInt, PV.cells] at hc
      subst hc
      simp only [List.getD_eq_getElem?_getD, hq, Option.getD_some]
      exact .int _ _

theorem wpList_append_dr {P : Program} {ops : Array Oper} {rest : List Oper} {o : Oper} {a : Act} {Q : Exit → Act → World → Prop} {w : World} (hgd : o.guard = none) (s x : Operand) (t : TypeId)
    (ho : o.op = .call { callee := .builtin .append, args := #[s, x], argTypes := #[t, t] }) (B : Nat) (e : TypeId) (i : TypeInfo) (z : Value) (bytes : Nat) (ht : P.underlying t = some (.slice e)) (hi : P.info? e = some i) (hz : i.zero = some z) (hsize : i.size = 1) (hby : i.bytes = bytes) (hzs : z.cells.size = 1)
    (g : Nat) (hs : a.eval s = .slice (some ⟨g, 0, none⟩) 0 0) (hown : w.ownsRow B e 1 (.slice (some ⟨g, 0, none⟩) 0 0) 0 [])
    (ad : Addr) (m c : Nat) (news : List Value) (hx : a.eval x = .slice (some ad) m c) (hl : news.length = m) (hnews : ∀ j u, news[j]? = some u → w.cell? (ad.add j) = some u) (hbytes : m * bytes ≤ 140737488355328) (h63 : m ≤ 140737488355328) (hB : B ≤ w.heap.size)
    (h : ∀ v' w', w'.ownsRow B e 1 v' m news → Below B w w' → wpList P ops Q rest (a.put o.dst v') w') : wpList P ops Q (o :: rest) a w := by
  have hrun : ∃ v' w', (Builtin.append_ #[t, t] o.type #[.slice (some ⟨g, 0, none⟩) 0 0, .slice (some ad) m c]).run P w = .ok v' w' ∧ w'.ownsRow B e 1 v' m news ∧ Below B w w' := by
    by_cases hm : m = 0
    · subst hm
      have hn : news = [] := List.eq_nil_of_length_eq_zero hl
      subst hn
      refine ⟨.slice (some ⟨g, 0, none⟩) 0 0, w, ?_, hown, Below.refl _ _⟩
      simp [Builtin.append_, run_underlying ht, sizeOf, typeInfo, hi, Builtin.lenOf, Builtin.firstCells, loadCells, loadCellsFrom, storeCells]
    · have hr := run_append_grow (P := P) w t o.type e i z ht hi hz ⟨g, 0, none⟩ 0 0 [] (by simp) (by simp) ad m c news (by rw [hsize, hl, Nat.mul_one]) hnews (by omega) (by omega) (by rw [hby]; exact growslice_fits (by omega) (by simpa using hbytes))
      have hge := grownCap_ge w (0 + m) 0 e
      have hcm : grownCap w (0 + m) 0 e ≤ maxLen := grownCap_le_maxLen w (0 + m) 0 e (by simp only [maxLen]; omega)
      refine ⟨_, _, hr, ⟨by rw [hl, Nat.mul_one], .inr ⟨w.heap.size, _, _, by rw [Nat.zero_add], hB, heap_alloc_new w.drew _, by omega, hcm, ?_, ?_⟩⟩, ((Below.refl B w).drew).alloc hB _⟩
      · simp only [Array.size_append, List.size_toArray, size_zeroCells, hzs, hl, Nat.mul_one, List.length_nil]
        omega
      · simp only [Array.toList_append, List.append_assoc, Nat.mul_one, List.nil_append]
        rw [← hl]
        exact List.take_left
  obtain ⟨v', w', hr, h2, h3⟩ := hrun
  refine wpList_plain hgd fun K hK => ?_
  unfold Oper.wp execOp
  simp only [ho, resolve, invoke, builtin, Sem.run_bind, Sem.run_pure, Result.andThen_ok, List.map_toArray, List.map_cons, List.map_nil, hs, hx, hr]
  exact hK _ _ (h v' w' h2 h3)

theorem clone_some {P : Program} {ρ : Ren} (L : Lays2.n15 P ρ) (ad : Addr) (n c : Nat) (zs : List Int) (w : World) (hz : zs.length = n) (hbig : n * 8 ≤ 140737488355328) (hc : ∀ j, j < zs.length → w.cell? (ad.add j) = some (.int .i64 (zs.getD j 0))) :
    Calls P (ρ.f 15) #[.slice (some ad) n c] w fun e w' => ∃ v', e = .returned v' ∧ w'.ownsRow w.heap.size (ρ.t 3) 1 v' n (zs.map (Value.int .i64)) ∧ Below w.heap.size w w' := by
  have mixed := L.mixed; have t3 := L.t3; have a3 := L.a3; have z3 := L.z3; have v3 := L.v3; have t4 := L.t4; have a4 := L.a4; have z4 := L.z4; have v4 := L.v4; have t22 := L.t22; have a22 := L.a22; have z22 := L.z22; have v22 := L.v22
  obtain ⟨i0, hi, hz0, hz1, hz2⟩ := info_parts L.i3
  have q22 : ∀ (w : World) (a : Option Addr) (n c n' c' : Nat), (binOp .eql (ρ.t 22) (.slice a n c) (.slice none n' c')).run P w = .ok (.bool a.isNone) w := fun w a n c n' c' => Lib.run_eql_slice_nil w _ _ a n c n' c' L.t22
  have u22 : ∀ w, Sem.run P (underlying (ρ.t 22)) w = .ok (TypeDesc.slice (ρ.t 3)) w := run_underlying t22
  have A : Aside (∀ j, j < zs.length → w.cell? (ad.add j) = some (.int .i64 (zs.getD j 0))) := hc
  clear hc
  go_enter L.f15, Body2.n15_ntmps ρ
  go_wp2_with (at_builtin; refine wpList_append_dr rfl _ _ (ρ.t 22) rfl w.heap.size (ρ.t 3) i0 (.int .i64 0) 8 t22 hi hz0 hz1 hz2 rfl w.heap.size rfl (World.ownsRow_made w #[] 0 (Nat.le_refl _) (Nat.zero_le _) rfl) ad n c (zs.map (Value.int .i64)) rfl ?qc1 ?qc2 ?qc3 ?qc4 ?qc5 ?_)
  case qc1 => simp [hz]
  case qc2 =>
    intro j u hj
    have hjn : j < zs.length := by
      have := (List.getElem?_eq_some_iff.1 hj).1
      simpa using this
    refine Lib.cell?_alloc_some _ ?_
    rw [A.out j hjn]
    have e : (zs.map (Value.int .i64))[j]? = some (Value.int .i64 (zs.getD j 0)) := by simp [List.getD, List.getElem?_eq_getElem hjn]
    rw [e] at hj
    exact hj
  case qc3 => omega
  case qc4 => omega
  case qc5 => simp
  intro v' w1 hown hbel
  go_wp2
  go_ret
  exact ⟨v', rfl, hown, ((Below.refl _ w).alloc (Nat.le_refl _) _).trans hbel⟩

theorem clone_fresh (l : List Int) (hl : l.length ≤ 1000000) : CallsFresh Tryz.prog 106 1 (encInts l) (.list 1 (encInts l)) := by
  refine ⟨enters_of Tryz.func106 (by kernel_rfl) rfl, fun S w a cap vals hS hlen hc hrv hcap hmax => ?_⟩
  rw [flat_ints] at hrv
  have hel : (encInts l).length = l.length := by simp [encInts]
  rw [hel] at hlen hcap ⊢
  have hval : ∀ j, j < l.length → vals[j]? = some (.int .i64 (l.getD j 0)) := fun j hj => by
    have hv : j < vals.length := by omega
    have e1 : (encInts l)[j]? = some (.int .i64 l[j]) := by simp [encInts, encInt, hj]
    have := hrv.2 j _ _ e1 (List.getElem?_eq_getElem hv)
    rw [List.getElem?_eq_getElem hv, RV.int_inv this]
    simp [List.getD_eq_getElem?_getD, hj]
  refine (clone_some layClone a l.length cap l w rfl (by omega) (fun j hj => (hc j _ (hval j hj)).1)).mono ?_
  rintro e w' ⟨v', rfl, h1, h3⟩
  exact ⟨v', rfl, h3, rv_owned h1⟩

end Go.Abs

namespace Go.Abs
open Go.RowKit Go.Proofs Go.Shelf

set_option maxRecDepth 4000 in
theorem clone_calls (S : Addr → Prop) (w : World) (l : List Int) (hl : l.length ≤ 1000000) (m : Nat) (v : Value) (hv : RV S w (.list m (encInts l)) v) :
    Calls Tryz.prog 106 #[v] w fun e w' => ∃ v', e = .returned v' ∧ w'.ownsRow w.heap.size 3 1 v' l.length (l.map (Value.int .i64)) ∧ Below w.heap.size w w' := by
  obtain ⟨a, ad, cap, g, rfl, h1, h2, h3, h4, h5, h6⟩ := RV.slice_iff hv
  have hel : (encInts l).length = l.length := by simp [encInts]
  by_cases hnone : a = none
  · subst hnone
    have h0 : l = [] := by
      by_cases h0 : l = []
      · exact h0
      · have := h1 (by simp [encInts, h0]); cases this
    subst h0
    refine (Go.Proofs.Any.slices_Clone_int_nil layClone 0 cap w).mono ?_
    rintro e w' ⟨rfl, rfl⟩
    exact ⟨_, rfl, ⟨rfl, .inl ⟨rfl, rfl⟩⟩, Below.refl _ _⟩
  · obtain ⟨a', rfl⟩ := Option.ne_none_iff_exists'.1 hnone
    rw [hel]
    refine (clone_some layClone a' l.length cap l w rfl (by omega) (fun j hj => ?_)).mono ?_
    · have hp : 0 < l.length := by omega
      have ha := h1 (by simp [encInts]; intro e; subst e; simp at hp)
      cases ha
      have hm : m = 1 := by
        have := h4 0 (.int .i64 l[0]) (by simp [encInts, encInt, hp])
        simpa [PV.cells] using this.symm
      subst hm
      have e1 : (encInts l)[j]? = some (.int .i64 l[j]) := by simp [encInts, encInt, hj]
      have k1 := (h5 j _ 0 (.int .i64 l[j]) e1 rfl).2.1
      have k2 := RV.int_inv (h6 j _ 0 (.int .i64 l[j]) e1 rfl)
      rw [k2, Nat.mul_one, Nat.add_zero] at k1
      rw [k1]
      simp [List.getD_eq_getElem?_getD, hj]
    · rintro e w' ⟨v', rfl, k1, k3⟩
      exact ⟨v', rfl, k1, k3⟩

theorem clone_own {clo : FuncId → Bool} {rows : Bool} {Y : YS} (l : List Int) (hl : l.length ≤ 1000000) (m : Nat) (bx : List (Option (List SV))) (tk : List (Nat × TypeId)) (ax : Ax) :
    CallsR ⟨Tryz.prog, tab, clo, rows, Y⟩ 106 [.val (.list m (encInts l))] bx tk ax
      (fun r bx' tk' ax' => r = .own tk.length 1 (encInts l) ∧ bx' = bx ∧ tk' = tk ++ [(l.length, 3)] ∧ ax' = ax) := by
  refine ⟨enters_of Tryz.func106 (by kernel_rfl) rfl, fun B S0 w0 G S w vs hI hbel hlen hv => ?_⟩
  match vs, hlen with
  | [v], _ =>
    have hv0 : RV S w (.list m (encInts l)) v := hv 0 _ v rfl rfl
    refine (clone_calls S w l hl m v hv0).mono ?_
    rintro e w' ⟨v', rfl, k1, k2⟩
    have hel : (encInts l).length = l.length := by simp [encInts]
    have hsz : (tab 3).size = 1 := rfl
    -- what is still behind the call: what was, and what the new slice holds
    have R : Rel ⟨Tryz.prog, tab, clo, rows, Y⟩ B S0 w0 ⟨[.val (.list m (encInts l))], bx, tk, ax⟩ G S w #[v] := ⟨hI, hbel, rfl, fun i s u h1 h2 => hv i s u h1 (by simpa using h2)⟩
    rcases k1.2 with ⟨rfl, h0⟩ | ⟨g, cap, cur, rfl, hb, hg, hn, hm, hs, ht⟩
    · have hl0 : l = [] := List.eq_nil_of_length_eq_zero h0
      subst hl0
      obtain ⟨R1, X1⟩ := R.transport (S' := S) (fun _ h => h) (fun _ h => .inl h) k2
      have hH : Head ⟨Tryz.prog, tab, clo, rows, Y⟩ B G S w' tk.length 0 3 (.slice none 0 0) := ⟨⟨none, 0, rfl, Nat.le_refl _, by decide, fun h => absurd h (Nat.lt_irrefl _)⟩, fun _ _ _ _ _ _ h1 => by (injection h1 with h1; cases h1), fun _ _ _ h1 => by (injection h1 with h1; cases h1)⟩
      obtain ⟨R2, X2, h1, h2⟩ := R1.tokNew X1 hH (fun _ _ _ h1 => by (injection h1 with h1; cases h1))
      refine ⟨_, _, _, _, _, _, _, ⟨rfl, rfl, rfl, rfl⟩, rfl, R2.inv, R2.below, X2, ?_⟩
      exact ⟨RV.list_nil 1 none 0 (by decide), _, _, h1, h2, Nat.le_refl _, fun _ => rfl⟩
    · have hlt : g < w'.heap.size := (Array.getElem?_eq_some_iff.1 hg).1
      obtain ⟨R1, X1⟩ := R.transport (S' := fun a => S a ∨ (a.block = g ∧ a.off < l.length)) (fun _ h => .inl h) (fun a h => by
        rcases h with h | h
        · exact .inl h
        · exact .inr ⟨by omega, by omega⟩) k2
      have hold : ∀ (i b : Nat), G.bx[i]? = some b → b < w.heap.size := fun i b h => (hI.old i b h).2
      have hH : Head ⟨Tryz.prog, tab, clo, rows, Y⟩ B G (fun a => S a ∨ (a.block = g ∧ a.off < l.length)) w' tk.length l.length 3 (.slice (some ⟨g, 0, none⟩) l.length cap) := by
        refine ⟨⟨_, cap, rfl, hn, hm, fun _ => ⟨g, cur, rfl, Nat.le_trans hI.base hb, hg, by rw [hs]; rfl, fun a ha hab => ?_, fun i h => ?_⟩⟩, fun g' n' cap' t' n'' cap'' h1 h2 h3 h4 h5 => ?_, fun g' n' cap' h1 h2 h3 => ?_⟩
        · show a.off < l.length * (tab 3).size
          rw [hsz, Nat.mul_one]
          rcases ha with h | h
          · have := hI.slt a h; omega
          · exact h.2
        · have := hold i g h; omega
        · injection h1 with h1 _ _
          injection h1 with h1
          injection h1 with h1
          subst h1
          have hle : t' < tk.length := by
            have := (List.getElem?_eq_some_iff.1 h4).1
            have := hI.ltk
            omega
          obtain ⟨a, cp, q1, q2, q3, q4⟩ := hI.tok t' _ _ _ (List.getElem?_eq_getElem hle) h4
          injection q1 with q1 q1' q1''
          subst q1' q1''
          obtain ⟨g2, cur2, p1, p2, p3, _⟩ := q4 h5
          rw [← q1] at p1
          injection p1 with p1
          injection p1 with p1
          subst p1
          have := (Array.getElem?_eq_some_iff.1 p3).1
          omega
        · injection h1 with h1 _ _
          injection h1 with h1
          injection h1 with h1
          subst h1
          have := hI.flt _ h3
          omega
      obtain ⟨R2, X2, h1, h2⟩ := R1.tokNew X1 hH (fun g' n' c h _ => by injection h with h _ _; injection h with h; injection h with h; omega)
      refine ⟨_, _, _, _, _, _, _, ⟨rfl, rfl, rfl, rfl⟩, rfl, R2.inv, R2.below, X2, ?_⟩
      refine ⟨?_, _, _, h1, h2, by rw [hel]; exact Nat.le_refl _, fun _ => rfl⟩
      have hget : ∀ (i : Nat) (x : Int), l[i]? = some x → w'.cell? ⟨g, 0 + i, none⟩ = some (.int .i64 x) := fun i x hx => by
        have hi : i < l.length := (List.getElem?_eq_some_iff.1 hx).1
        have e1 : (cur.toList.take (l.length * 1))[i]? = (l.map (Value.int .i64))[i]? := by rw [ht]
        rw [List.getElem?_take, if_pos (by omega), Array.getElem?_toList, List.getElem?_map, hx] at e1
        simp only [World.cell?, hg, Nat.zero_add]
        simpa using e1
      rw [← hel]
      refine RV.list 1 (encInts l) (some ⟨g, 0, none⟩) ⟨g, 0, none⟩ cap (fun i _ => .int .i64 (l.getD i 0)) (fun _ => rfl) (by omega) hm (fun i x hx => ?_) (fun i x j c hx hc => ?_) (fun i x j c hx hc => ?_) (fun h => absurd h (by decide))
      all_goals
        rw [encInts, List.getElem?_map] at hx
        cases hq : l[i]? with
        | none => rw [hq] at hx; cases hx
        | some y => ?_
        rw [hq] at hx
        simp only [Option.map_some, Option.some.injEq] at hx
        subst hx
      · rfl
      · have hj : j = 0 := by
          cases j with
          | zero => rfl
          | succ j => simp [encInt, PV.cells] at hc
        subst hj
        have hi : i < l.length := (List.getElem?_eq_some_iff.1 hq).1
        rw [Addr.add_lit]
        refine ⟨.inr ⟨rfl, by show 0 + (i * 1 + 0) < _; omega⟩, ?_, rfl⟩
        have := hget i y hq
        simp only [List.getD_eq_getElem?_getD, hq, Option.getD_some, Nat.mul_one, Nat.add_zero]
        exact this
      · have hj : j = 0 := by
          cases j with
          | zero => rfl
          | succ j => simp [encInt, PV.cells] at hc
        subst hj
        simp [encInt, PV.cells] at hc
        subst hc
        simp only [List.getD_eq_getElem?_getD, hq, Option.getD_some]
        exact .int _ _
end Go.Abs
