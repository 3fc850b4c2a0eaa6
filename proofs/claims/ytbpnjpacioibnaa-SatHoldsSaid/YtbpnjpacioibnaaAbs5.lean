/- The three kinds of operations, whole. -/
import Derived.Test.YtbpnjpacioibnaaAbs4b
set_option linter.unusedVariables false
set_option linter.unusedSimpArgs false
namespace Go.Abs
open Go Go.RowKit
section
variable {P : Program} {X : Cx}
theorem VRs_map {ρ : Operand → AV} {ρ' : Operand → Value} : ∀ {l : List Operand}, (∀ x ∈ l, VR X (ρ x) (ρ' x)) → VRs X (l.map ρ) (l.map ρ')
  | [], _ => rfl
  | o :: l, h => ⟨_, _, rfl, h o (by simp), VRs_map fun x hx => h x (by simp [hx])⟩
theorem parts_ok {ρ : Operand → AV} {ρ' : Operand → Value} {ps : Array (Nat × Operand)} (h : ∀ x ∈ (ps.toList.map (·.2)), VR X (ρ x) (ρ' x)) (k : Nat) (p : Nat × AV) (q : Nat × Value)
    (hp : (ps.toList.map fun p => (p.1, ρ p.2))[k]? = some p) (hq : (ps.map fun (i, x) => (i, ρ' x)).toList[k]? = some q) : p.1 = q.1 ∧ VR X p.2 q.2 := by
  rw [List.getElem?_map, Option.map_eq_some_iff] at hp
  obtain ⟨a, ha, rfl⟩ := hp
  rw [Array.toList_map, List.getElem?_map, ha] at hq
  obtain rfl := Option.some.inj hq
  exact ⟨rfl, h _ (List.mem_map.2 ⟨a, List.mem_of_getElem? ha, rfl⟩)⟩
theorem abuild_ok {T : Tab} (hT : TabOk P T) {t : TypeId} {parts : List (Nat × AV)} {parts' : Array (Nat × Value)} {r : AV} (h : abuild T t parts = some r) (hl : parts.length = parts'.size)
    (hp : ∀ (k : Nat) (p : Nat × AV) (q : Nat × Value), parts[k]? = some p → parts'.toList[k]? = some q → p.1 = q.1 ∧ VR X p.2 q.2) : ∃ z, (Instr.build t parts').run P X.w = .ok z X.w ∧ VR X r z := by
  unfold abuild at h
  split at h
  · rename_i sz by_ fs z hte
    obtain ⟨i, d, zv, hi, hd, hz, _, _, hk, hzz⟩ := hT.get hte
    obtain ⟨gs, rfl, hgs, hall⟩ := mkTK_struct hk
    obtain ⟨cs, hf, rfl⟩ := Option.map_eq_some_iff.1 h
    let g : Field → Sem (Nat × Nat) := fun f => (do pure (f.offset, ← sizeOf f.type))
    have hg : ∀ f, (P.info? f.type).isSome = true → (g f).run P X.w = .ok (f.offset, ((P.info? f.type).map (·.size)).getD 0) X.w := fun f hf => by
      obtain ⟨ie, hie⟩ := Option.isSome_iff_exists.1 hf
      simp [g, sizeOf, typeInfo, hie]
    have hM : ∀ (l : List Field), (l.all fun f => (P.info? f.type).isSome) = true → (l.mapM g).run P X.w = .ok (l.map fun f => (f.offset, ((P.info? f.type).map (·.size)).getD 0)) X.w := by
      intro l
      induction l with
      | nil => intro _; rfl
      | cons f l ih =>
        intro hl
        simp only [List.all_cons, Bool.and_eq_true] at hl
        simp only [List.mapM_cons, Sem.run_bind, hg f hl.1, ih hl.2, Result.andThen, Sem.run_pure, List.map_cons]
    have hpl : (fun (i : Nat) => ((fs : List (Nat × TypeId × Nat))[i]?).map fun (f : Nat × TypeId × Nat) => (f.1, f.2.2)) = fun (i : Nat) => (gs.toList.map fun f => (f.offset, ((P.info? f.type).map (·.size)).getD 0))[i]? := by
      funext i
      rw [← hgs]
      simp [List.getElem?_map, Function.comp_def]
    rw [hpl] at hf
    obtain ⟨cs', h1, h2⟩ := afill_ok (X := X) (cells' := zv.cells) hf (by have := avOfs_ok X zv.cells.toList; rw [hzz] at this; exact this) (by simpa using hl) hp
    refine ⟨.agg cs', ?_, ?_⟩
    · have hM' : (gs.mapM g).run P X.w = .ok (gs.toList.map fun f => (f.offset, ((P.info? f.type).map (·.size)).getD 0)).toArray X.w := by
        rw [Array.mapM_eq_mapM_toList]
        simp only [Sem.run_map, hM _ hall, Result.andThen]
      have e : (fun (x : Nat) => ((gs.toList.map fun f => (f.offset, ((P.info? f.type).map (·.size)).getD 0)).toArray)[x]?) = fun (i : Nat) => (gs.toList.map fun f => (f.offset, ((P.info? f.type).map (·.size)).getD 0))[i]? := by funext x; simp
      have hzr : (zeroValue t).run P X.w = .ok zv X.w := by simp [zeroValue, typeInfo, hi, hz]
      show (do
        let zero := (← zeroValue t).cells
        match ← underlying t with
        | .struct fields =>
          let places ← fields.mapM g
          let some cells := Instr.fill (places[·]?) zero parts'.toList | stuck "build: no such field, or a part of the wrong size"
          pure (Value.agg cells)
        | .array _ elem =>
          let size ← sizeOf elem
          let some cells := Instr.fill (fun i => some (i * size, size)) zero parts'.toList | stuck "build: a part of the wrong size"
          pure (.agg cells)
        | _ => stuck "build: struct or array type expected" : Sem Value).run P X.w = _
      simp only [Sem.run_bind, hzr, Result.andThen, run_underlying hd, hM', e, h1, Sem.run_pure]
    · simp only [VR]; exact ⟨_, rfl, h2⟩
  · cases h
theorem read_ok {T : Tab} (hT : TabOk P T) (R : Rl X) {ρ : Operand → AV} {ρ' : Operand → Value} {o : Oper} {r : AV} (h : aread T ρ X.M o.op = some r) (hρ : ∀ x ∈ o.op.operands.toList, VR X (ρ x) (ρ' x)) :
    ∃ x, (execOp ρ' o).run P X.w = .ok (.value x) X.w ∧ VR X r x := by
  obtain ⟨dst, op, ty, pos, after, guard⟩ := o
  have lift : ∀ {s : Sem Value}, (∃ z, s.run P X.w = .ok z X.w ∧ VR X r z) → ∃ x, ((do pure (.value (← s)) : Sem Next)).run P X.w = .ok (.value x) X.w ∧ VR X r x := fun ⟨z, h1, h2⟩ => ⟨z, by simp [h1], h2⟩
  dsimp only at h hρ
  unfold aread at h
  split at h
  case h_1 x => obtain rfl := Option.some.inj h; exact ⟨_, rfl, hρ x (by simp [Op.operands])⟩
  case h_2 x => obtain rfl := Option.some.inj h; exact ⟨_, rfl, hρ x (by simp [Op.operands])⟩
  case h_3 c a b => exact apick_ok h (hρ c (by simp [Op.operands])) (hρ a (by simp [Op.operands])) (hρ b (by simp [Op.operands]))
  case h_4 t parts =>
    refine lift (abuild_ok hT h (by simp) fun k p q hp hq => parts_ok (fun x hx => hρ x ?_) k p q hp hq)
    simpa [Op.operands] using hx
  case h_5 t a => exact lift (load_ok hT R h (hρ a (by simp [Op.operands])))
  case h_6 x =>
    have hx := hρ x (by simp [Op.operands])
    split at h
    · rename_i i g o he
      rw [he] at hx
      cases hl : X.M.live i g with
      | false => rw [hl] at h; cases h
      | true =>
        rw [hl] at h
        obtain rfl := Option.some.inj h
        obtain ⟨b, hb, hx'⟩ := hx.ptr_live hl
        exact ⟨ρ' x, by simp [execOp, hx'], hx⟩
    · rename_i cs he
      rw [he] at hx
      obtain rfl := Option.some.inj h
      have hx2 := hx
      simp only [VR] at hx2
      obtain ⟨b, off, cur, e, fz, hx', _⟩ := hx2
      exact ⟨ρ' x, by simp [execOp, hx'], hx⟩
    · rename_i f a b he
      rw [he] at hx
      obtain rfl := Option.some.inj h
      have hx2 := hx
      simp only [VR] at hx2
      obtain ⟨p', q', hx', _⟩ := hx2
      exact ⟨ρ' x, by simp [execOp, hx'], hx⟩
    · cases h
  case h_7 op' t x y yt => exact lift (abinop_ok hT R h (hρ x (by simp [Op.operands])) (hρ y (by simp [Op.operands])))
  case h_8 op' t x => exact lift (aun_ok h (hρ x (by simp [Op.operands])))
  case h_9 s d x => exact lift (aconv_ok hT h (hρ x (by simp [Op.operands])))
  case h_10 t x =>
    cases hte : T t with
    | none => rw [hte] at h; cases h
    | some te =>
      rw [hte] at h
      obtain ⟨_, d, _, _, hd, _, _, _, hk, _⟩ := hT.get hte
      simp only at h
      generalize te.k = kk at h hk
      have hni : ∀ ms, d ≠ .interface ms := fun ms e => by subst e; simp [← hk, mkTK] at h
      have hr : r = .iface t (ρ x) := by
        cases kk <;> first | exact (Option.some.inj h).symm | cases h
      subst hr
      refine lift ⟨.iface t (ρ' x), ?_, ?_⟩
      · simp only [Instr.makeInterface, Sem.run_bind, run_underlying hd, Result.andThen]
        cases d <;> first | rfl | exact absurd rfl (hni _)
      · simp only [VR]; exact ⟨_, rfl, hρ x (by simp [Op.operands])⟩
  case h_11 f first captured =>
    obtain rfl := Option.some.inj h
    refine lift ⟨_, rfl, ?_⟩
    simp only [VR]
    refine ⟨_, _, rfl, ?_, ?_⟩
    · rw [Array.toList_map]; exact VRs_map fun x hx => hρ x (by simp [Op.operands] at hx ⊢; exact .inl hx)
    · rw [Array.toList_map]; exact VRs_map fun x hx => hρ x (by simp [Op.operands] at hx ⊢; exact .inr hx)
  case h_12 t x lo hi mx =>
    have ho : ∀ (z : Option Operand), (∀ y, z = some y → y ∈ (Op.slice t x lo hi mx).operands.toList) → VRo X (z.map ρ) (z.map ρ') := fun z hz => by
      cases z with
      | none => rfl
      | some y => exact ⟨_, rfl, hρ y (hz y rfl)⟩
    exact lift (aslice_ok hT h (hρ x (by simp [Op.operands])) (ho lo fun y e => by subst e; simp [Op.operands]) (ho hi fun y e => by subst e; simp [Op.operands]) (ho mx fun y e => by subst e; simp [Op.operands]))
  case h_13 t x f => exact lift (afieldA_ok hT h (hρ x (by simp [Op.operands])))
  case h_14 t x f => exact lift (afield_ok hT h (hρ x (by simp [Op.operands])))
  case h_15 t x i => exact lift (aindexA_ok hT h (hρ x (by simp [Op.operands])) (hρ i (by simp [Op.operands])))
  case h_16 t x i => exact lift (aindex_ok hT h (hρ x (by simp [Op.operands])) (hρ i (by simp [Op.operands])))
  case h_17 t m k ok => exact lift (alookup_ok hT R h (hρ m (by simp [Op.operands])) (hρ k (by simp [Op.operands])))
  case h_18 x i => exact lift (aextract_ok h (hρ x (by simp [Op.operands])))
  case h_19 args ts =>
    obtain ⟨args⟩ := args
    obtain ⟨ts⟩ := ts
    try simp only at h
    split at h
    · rename_i _ _ x t
      obtain ⟨z, h1, h2⟩ := alen_ok (ty := ty) hT h (hρ x (by simp [Op.operands, Call.operands]))
      exact ⟨z, by simp [execOp, resolve, invoke, builtin, h1], h2⟩
    · cases h
  case h_20 args ts =>
    obtain ⟨args⟩ := args
    try simp only at h
    split at h
    · rename_i _ x y
      have hx := hρ x (by simp [Op.operands, Call.operands])
      have hy := hρ y (by simp [Op.operands, Call.operands])
      unfold amax2 at h
      split at h
      · rename_i k a k' b he1 he2
        rw [he1] at hx
        rw [he2] at hy
        simp only [VR] at hx hy
        obtain rfl := Option.some.inj h
        refine ⟨_, by simp [execOp, resolve, invoke, builtin, hx, hy, Builtin.max_, Builtin.max2]; rfl, ?_⟩
        simp only [VR]
        by_cases hc : b > a <;> simp [hc]
      · cases h
    · cases h
  case h_21 args ts =>
    obtain ⟨args⟩ := args
    try simp only at h
    split at h
    · rename_i _ x y
      have hx := hρ x (by simp [Op.operands, Call.operands])
      have hy := hρ y (by simp [Op.operands, Call.operands])
      unfold amin2 at h
      split at h
      · rename_i k a k' b he1 he2
        rw [he1] at hx
        rw [he2] at hy
        simp only [VR] at hx hy
        obtain rfl := Option.some.inj h
        refine ⟨_, by simp [execOp, resolve, invoke, builtin, hx, hy, Builtin.min_, Builtin.min2]; rfl, ?_⟩
        simp only [VR]
        by_cases hc : b < a <;> simp [hc]
      · cases h
    · cases h
  case h_22 => cases h
end
end Go.Abs
