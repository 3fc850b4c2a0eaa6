/- What makes a block, what writes one. -/
import Derived.Test.YtbpnjpacioibnaaAbs5
import Derived.IntWalk
set_option linter.unusedVariables false
set_option linter.unusedSimpArgs false
namespace Go.Abs
open Go Go.RowKit
theorem rangeMod (z : Array Value) (hz : 0 < z.size) : ∀ n, ((Array.range (n * z.size)).map fun i => z[i % z.size]!).toList = (List.replicate n z.toList).flatten
  | 0 => by simp
  | n + 1 => by
    have ih := rangeMod z hz n
    rw [Array.toList_map, Array.toList_range] at ih ⊢
    rw [Nat.succ_mul, List.range_add, List.map_append, ih, List.replicate_succ', List.flatten_append]
    congr 1
    simp only [List.flatten_cons, List.flatten_nil, List.append_nil, List.map_map]
    apply List.ext_getElem?
    intro j
    by_cases hj : j < z.size
    · have e : (n * z.size + j) % z.size = j := by rw [Nat.mul_comm, Nat.mul_add_mod, Nat.mod_eq_of_lt hj]
      simp [hj, e]
    · simp [hj]
theorem VRs_reps {X : Cx} {z : List AV} {l : List Value} (h : VRs X z l) : ∀ n, VRs X (reps n z) (List.replicate n l).flatten
  | 0 => rfl
  | n + 1 => by
    simp only [reps, List.replicate_succ, List.flatten_cons]
    exact h.append (VRs_reps h n)
theorem len_reps (z : List AV) (n : Nat) : (reps n z).length = n * z.length := by
  induction n with
  | zero => simp [reps]
  | succ n ih => simp only [reps, List.replicate_succ, List.flatten_cons, List.length_append] at ih ⊢; rw [ih, Nat.succ_mul]; omega
theorem len_rep (z : List Value) (n : Nat) : ((List.replicate n z).flatten).length = n * z.length := by
  induction n with
  | zero => simp
  | succ n ih => simp only [List.replicate_succ, List.flatten_cons, List.length_append] at ih ⊢; rw [ih, Nat.succ_mul]; omega
theorem take_rep (z : List Value) {l c : Nat} (h : l ≤ c) : ((List.replicate c z).flatten).take (l * z.length) = (List.replicate l z).flatten := by
  obtain ⟨d, rfl⟩ := Nat.le.dest h
  rw [← List.replicate_append_replicate, List.flatten_append, List.take_append_of_le_length (Nat.le_of_eq (len_rep z l).symm), List.take_of_length_le (Nat.le_of_eq (len_rep z l))]
theorem afill_len {pl : Nat → Option (Nat × Nat)} : ∀ {ps : List (Nat × AV)} {c d : List AV}, afill pl c ps = some d → d.length = c.length
  | [], c, d, h => by cases h; rfl
  | (i, v) :: ps, c, d, h => by
    simp only [afill] at h
    cases hp : pl i with
    | none => rw [hp] at h; cases h
    | some os =>
      obtain ⟨off, size⟩ := os
      rw [hp] at h
      simp only at h
      cases hb : (Nat.beq (vcells v).length size && Nat.ble (off + size) c.length && (vcells v).all AV.cell) with
      | false => rw [hb] at h; cases h
      | true =>
        rw [hb] at h
        have := afill_len h
        simp only [Bool.and_eq_true] at hb
        have b1 := Nat.eq_of_beq_eq_true hb.1.1
        have b2 := Nat.le_of_ble_eq_true hb.1.2
        rw [this]
        simp [splice]; omega
section
variable {P : Program} {X : Cx}
/-- what a block's maker hands back -/
def AL.real (l : AL) (cur : Array Value) (b : Nat) (x : Value) : Prop :=
  if l.sl = true then ∃ cap, x = .slice (some ⟨b, 0, none⟩) l.len cap ∧ cap * l.sz = cur.size ∧ l.len ≤ cap else x = .pointer (some ⟨b, 0, none⟩)
theorem alloc_ok {T : Tab} (hT : TabOk P T) {ρ : Operand → AV} {ρ' : Operand → Value} {o : Oper} {l : AL} (h : aalloc T ρ o.op = some l) (hc : l.cs.all AV.cell = true) (hρ : ∀ x ∈ o.op.operands.toList, VR X (ρ x) (ρ' x)) :
    ∃ (cur : Array Value) (x : Value), (execOp ρ' o).run P X.w = .ok (.value x) (X.w.alloc (.cells cur l.e)) ∧ l.real cur X.w.heap.size x ∧ l.cs.length ≤ cur.size ∧ VRs X l.cs (cur.toList.take l.cs.length) := by
  obtain ⟨dst, op, ty, pos, after, guard⟩ := o
  dsimp only at h hρ
  unfold aalloc at h
  split at h
  · rename_i e
    cases hte : T e with
    | none => rw [hte] at h; cases h
    | some te =>
      rw [hte] at h
      obtain rfl := Option.some.inj h
      obtain ⟨i, d, z, hi, hd, hz, hs, hby, hk, hzz⟩ := hT.get hte
      have hv := avOfs_ok X z.cells.toList
      rw [hzz] at hv
      have hl : te.z.length = z.cells.size := by rw [← hzz]; simp
      refine ⟨z.cells, _, by simp [execOp, Instr.alloc, zeroValue, typeInfo, hi, hz, newVar, newRow]; rfl, by simp [AL.real], by simp [hl], ?_⟩
      rwa [List.take_of_length_le (by simp [hl])]
  · rename_i e x
    cases hte : T e with
    | none => rw [hte] at h; cases h
    | some te =>
      rw [hte] at h
      obtain rfl := Option.some.inj h
      have hv := vcells_ok (hρ x (by simp [Op.operands])) hc
      have hl := hv.len
      simp at hl
      refine ⟨(ρ' x).cells, _, by simp [execOp, Instr.box, newVar, newRow]; rfl, by simp [AL.real], by simp [hl], ?_⟩
      rwa [List.take_of_length_le (by simp [hl])]
  · rename_i t len parts
    unfold abuildS at h
    split at h
    · rename_i _ _ e_ _ hte
      obtain ⟨_, d, _, _, hd, _, _, _, hk, _⟩ := hT.get hte
      obtain rfl := mkTK_slice hk
      split at h
      · rename_i te hee
        obtain ⟨i, de, z, hi, hde, hz, hs, hby, hke, hzz⟩ := hT.get hee
        cases hcc : (Nat.ble (len * te.sz) 16777216 && Nat.blt 0 te.sz && Nat.beq te.z.length te.sz) with
        | false => rw [hcc] at h; cases h
        | true =>
          rw [hcc] at h
          obtain ⟨cs, hf, rfl⟩ := Option.map_eq_some_iff.1 h
          simp only [Bool.and_eq_true] at hcc
          have h1 := Nat.le_of_ble_eq_true hcc.1.1
          have h2 : 0 < te.sz := Nat.le_of_ble_eq_true hcc.1.2
          have h3 := Nat.eq_of_beq_eq_true hcc.2
          have hzl : z.cells.size = te.sz := by rw [← h3, ← hzz]; simp
          have hv := avOfs_ok X z.cells.toList
          rw [hzz] at hv
          have hcells : ((Array.range (len * te.sz)).map fun i => z.cells[i % z.cells.size]!).toList = (List.replicate len z.cells.toList).flatten := by
            rw [← hzl]; exact rangeMod z.cells (by omega) len
          obtain ⟨cs', g1, g2⟩ := afill_ok (X := X) (cells' := (Array.range (len * te.sz)).map fun i => z.cells[i % z.cells.size]!) (parts' := (parts.map fun (i, x) => (i, ρ' x)).toList) hf (by rw [hcells]; exact VRs_reps hv len) (by simp)
            fun k p q hp hq => parts_ok (fun x hx => hρ x (by simpa [Op.operands] using hx)) k p q hp hq
          have hcl : cs'.size = len * te.sz := by
            have e1 := g2.len
            have e3 := afill_len hf
            rw [len_reps, h3] at e3
            simp at e1
            omega
          refine ⟨cs', .slice (some ⟨X.w.heap.size, 0, none⟩) len len, ?_, ?_, ?_, ?_⟩
          rotate_left
          · simp only [AL.real, if_true]; exact ⟨len, rfl, hcl.symm, Nat.le_refl _⟩
          · have := g2.len; simp at this; simp [this]
          · have := g2.len; simp at this; rwa [List.take_of_length_le (by simp [this])]
          · have hnl : ¬ len * te.sz > 2 ^ 24 := by omega
            have hfin : ∀ A, Instr.fill (fun i => some (i * te.sz, te.sz)) A (parts.toList.map fun x => (x.fst, ρ' x.snd)) = some cs' →
                ((Sem.run P (match Instr.fill (fun i => some (i * te.sz, te.sz)) A (parts.toList.map fun x => (x.fst, ρ' x.snd)) with
                  | some cells => (fun a => Value.slice (some a) len len) <$> newRow e_ cells
                  | _ => stuck "buildSlice: a part of the wrong size") X.w).andThen fun a w' => Result.ok (Next.value a) w') = Result.ok (Next.value (.slice (some ⟨X.w.heap.size, 0, none⟩) len len)) (X.w.alloc (.cells cs' e_)) := fun A hA => by
              rw [hA]; simp [newRow]
            have hps : (parts.map fun (i, x) => (i, ρ' x)).toList = parts.toList.map fun x => (x.fst, ρ' x.snd) := by simp
            rw [hps] at g1
            by_cases h0 : len * te.sz = 0
            · simp [execOp, Instr.buildSlice, run_underlying hd, sizeOf, typeInfo, hi, hs, h0]
              refine hfin _ ?_
              rw [← g1, h0]
              congr 1
              simp
            · simp [execOp, Instr.buildSlice, run_underlying hd, sizeOf, typeInfo, hi, hs, h0, hnl, zeroValue, hz]
              exact hfin _ g1
      · cases h
    · cases h
  · rename_i t lo co
    unfold amakeS at h
    split at h
    · rename_i _ _ e_ _ l c hte hl0 hc0
      obtain ⟨_, d, _, _, hd, _, _, _, hk, _⟩ := hT.get hte
      obtain rfl := mkTK_slice hk
      split at h
      · rename_i te hee
        obtain ⟨i, de, z, hi, hde, hz, hs, hby, hke, hzz⟩ := hT.get hee
        cases hcc : (decide (0 ≤ l) && decide (l ≤ c) && Nat.ble (te.bytes * c.toNat) (2 ^ 47) && Nat.ble c.toNat (2 ^ 62) && Nat.blt 0 te.sz && Nat.beq te.z.length te.sz) with
        | false => rw [hcc] at h; cases h
        | true =>
          rw [hcc] at h
          obtain rfl := Option.some.inj h
          simp only [Bool.and_eq_true, decide_eq_true_eq] at hcc
          obtain ⟨⟨⟨⟨⟨h1, h2⟩, h3⟩, h4⟩, h5⟩, h6⟩ := hcc
          have h3 := Nat.le_of_ble_eq_true h3
          have h4 := Nat.le_of_ble_eq_true h4
          have h5 : 0 < te.sz := Nat.le_of_ble_eq_true h5
          have h6 := Nat.eq_of_beq_eq_true h6
          have hv1 := hρ lo (by simp [Op.operands])
          have hv2 := hρ co (by simp [Op.operands])
          rw [hl0] at hv1
          rw [hc0] at hv2
          simp only [VR] at hv1 hv2
          have hzl : z.cells.size = te.sz := by rw [← h6, ← hzz]; simp
          have hv := avOfs_ok X z.cells.toList
          rw [hzz] at hv
          have hcur : ((Array.range (c.toNat * te.sz)).map fun i => z.cells[i % z.cells.size]!).toList = (List.replicate c.toNat z.cells.toList).flatten := by
            rw [← hzl]; exact rangeMod z.cells (by omega) _
          have hlc : l.toNat ≤ c.toNat := by omega
          refine ⟨(Array.range (c.toNat * te.sz)).map fun i => z.cells[i % z.cells.size]!, .slice (some ⟨X.w.heap.size, 0, none⟩) l.toNat c.toNat, ?_, ?_, ?_, ?_⟩
          · have wl : IntKind.i64.wrap l = l := IntWalk.i64_in _ (by omega)
            have wc : IntKind.i64.wrap c = c := IntWalk.i64_in _ (by omega)
            have hbb : ¬ (281474976710656 < (te.bytes : Int) * c) := by
              have : (te.bytes : Int) * c = ((te.bytes * c.toNat : Nat) : Int) := by
                rw [Int.natCast_mul, Int.toNat_of_nonneg (by omega)]
              rw [this]; omega
            have hcz : ¬ c < 0 := by omega
            have hlz : ¬ l < 0 := by omega
            have hlec : ¬ c < l := by omega
            by_cases h0 : c.toNat * te.sz = 0
            · simp [execOp, hv1, hv2, Instr.makeSlice, run_underlying hd, sizeOf, typeInfo, hi, hs, hby, asInt, asIntOf, wl, wc, hbb, hcz, hlz, hlec, h0, newRow]
              congr 2
              simp
            · simp [execOp, hv1, hv2, Instr.makeSlice, run_underlying hd, sizeOf, typeInfo, hi, hs, hby, asInt, asIntOf, wl, wc, hbb, hcz, hlz, hlec, h0, newRow, zeroValue, hz]
          · simp only [AL.real, if_true]; exact ⟨c.toNat, rfl, by simp, hlc⟩
          · simp only [len_reps, h6]; simp; exact Nat.mul_le_mul_right _ hlc
          · rw [hcur, len_reps, h6, ← hzl, ← Array.length_toList, take_rep _ hlc]
            exact VRs_reps hv _
      · cases h
    · cases h
  · cases h
end
end Go.Abs
