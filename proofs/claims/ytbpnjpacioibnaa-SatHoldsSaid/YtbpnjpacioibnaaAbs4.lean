/- What reads, what makes a block, what writes. -/
import Derived.Test.YtbpnjpacioibnaaAbs3
import Derived.Laws.CopyRow
set_option linter.unusedVariables false
set_option linter.unusedSimpArgs false
namespace Go.Abs
open Go Go.RowKit
section
variable {P : Program} {X : Cx}
/-- an optional operand -/
def VRo (X : Cx) : Option AV → Option Value → Prop
  | none, y => y = none
  | some v, y => ∃ x, y = some x ∧ VR X v x
theorem abnd_ok {d : Nat} {o : Option AV} {n : Nat} {y : Option Value} (h : abnd d o = some n) (hy : VRo X o y) : (y = none ∧ n = d) ∨ ∃ k : IntKind, y = some (.int k (n : Int)) := by
  unfold abnd at h
  split at h
  · obtain rfl := Option.some.inj h; exact .inl ⟨hy, rfl⟩
  · rename_i k m
    obtain ⟨x, rfl, hx⟩ := hy
    simp only [VR] at hx
    subst hx
    cases hm : decide (0 ≤ m) with
    | false => rw [hm] at h; cases h
    | true =>
      rw [hm] at h
      obtain rfl := Option.some.inj h
      have := of_decide_eq_true hm
      exact .inr ⟨k, by rw [Int.toNat_of_nonneg this]⟩
  · cases h
/-- the bounds of a slice expression without a capacity -/
theorem bounds_run (isS : Bool) (len cap : Nat) {lo hi : Option Value} {l h : Nat} (w : World) (hl : (lo = none ∧ l = 0) ∨ ∃ k : IntKind, lo = some (.int k (l : Int))) (hh : (hi = none ∧ h = len) ∨ ∃ k : IntKind, hi = some (.int k (h : Int)))
    (h1 : l ≤ h) (h2 : h ≤ cap) : (Instr.sliceBounds isS len cap lo hi none).run P w = .ok (l, h, cap) w := by
  have hlast : ∀ c : Int, 0 ≤ (h : Int) := fun _ => by omega
  rcases hh with ⟨rfl, rfl⟩ | ⟨k, rfl⟩ <;> rcases hl with ⟨rfl, rfl⟩ | ⟨k', rfl⟩
  · simp [Instr.sliceBounds]
  · simp [Instr.sliceBounds, Instr.sliceBound, asIntOf, h1]
  · simp [Instr.sliceBounds, Instr.sliceBound, asIntOf, h2]
  · simp [Instr.sliceBounds, Instr.sliceBound, asIntOf, h2, h1]
theorem aslice_ok {T : Tab} (hT : TabOk P T) {t : TypeId} {a r : AV} {lo hi mx : Option AV} {x : Value} {lo' hi' mx' : Option Value} (h : aslice T X.M t a lo hi mx = some r) (hx : VR X a x)
    (h1 : VRo X lo lo') (h2 : VRo X hi hi') (h3 : VRo X mx mx') : ∃ z, (Instr.sliceAt t x lo' hi' mx').run P X.w = .ok z X.w ∧ VR X r z := by
  unfold aslice at h
  split at h
  · rename_i e _ _ hte
    obtain ⟨_, d, _, _, hd, _, _, _, hk, _⟩ := hT.get hte
    obtain rfl := mkTK_slice hk
    simp only [VRo] at h3
    subst h3
    split at h
    · rename_i te hee
      obtain ⟨ie, _, _, hie, _, _, hs, _⟩ := hT.get hee
      have hrun : ∀ (a : Option Addr) (len cap l h : Nat), (Instr.sliceBounds true len cap lo' hi' none).run P X.w = .ok (l, h, cap) X.w →
          (Instr.sliceAt t (.slice a len cap) lo' hi' none).run P X.w = .ok (.slice (if cap = l then a else a.map (·.add (l * te.sz))) (h - l) (cap - l)) X.w := fun a len cap l h hb => by
        simp [Instr.sliceAt, Instr.slice, run_underlying hd, hb, sizeOf, typeInfo, hie, hs]
      split at h
      · rename_i i g off len
        obtain ⟨l, hl, h⟩ := Option.bind_eq_some_iff.1 h
        obtain ⟨u, hu, h⟩ := Option.bind_eq_some_iff.1 h
        cases hc : (X.M.liveZ i g te.sz && Nat.ble l u && Nat.ble u len) with
        | false => rw [hc] at h; cases h
        | true =>
          rw [hc] at h
          simp only [Bool.and_eq_true] at hc
          obtain ⟨⟨hlive, hle1⟩, hle2⟩ := hc
          have hle1 := Nat.le_of_ble_eq_true hle1
          have hle2 := Nat.le_of_ble_eq_true hle2
          have hlv : X.M.live i g = true ∧ ∀ e sz fz cs, X.M.get i = some (.cells e sz fz cs) → sz = te.sz := by
            unfold Mem.liveZ at hlive
            unfold Mem.live
            split at hlive
            · rename_i hg
              simp only [Bool.and_eq_true] at hlive
              rw [hg]
              exact ⟨hlive.1, fun e sz fz cs h => by cases h; exact Nat.eq_of_beq_eq_true hlive.2⟩
            · cases hlive
          obtain ⟨e', sz, fz, cs, b, cap, cur, f, k1, k2, k3, rfl, k5, k6, k7⟩ := hx.ref_live hlv.1
          obtain rfl := hlv.2 _ _ _ _ k1
          have hb := hrun (some ⟨b, off, none⟩) len cap l u (bounds_run true len cap X.w (abnd_ok hl h1) (abnd_ok hu h2) hle1 (by omega))
          refine ⟨_, hb, ?_⟩
          simp only [cond_true] at h
          cases hz : (Nat.beq l u && Nat.blt 0 l) with
          | true =>
            rw [hz] at h
            obtain rfl := Option.some.inj h
            simp only [Bool.and_eq_true] at hz
            obtain rfl := Nat.eq_of_beq_eq_true hz.1
            simp only [VR, Nat.sub_self]
            exact .inl ⟨by simp, by simp, _, _, rfl⟩
          | false =>
            rw [hz] at h
            obtain rfl := Option.some.inj h
            have hne : (if cap = l then (some ⟨b, off, none⟩ : Option Addr) else (some ⟨b, off, none⟩ : Option Addr).map (·.add (l * te.sz))) = some ⟨b, off + l * te.sz, none⟩ := by
              split
              · rename_i hcl
                have hl0 : l = 0 := by
                  by_cases h0 : l = 0
                  · exact h0
                  · have e1 : l = u := by omega
                    subst e1
                    have e2 : Nat.blt 0 l = true := Nat.ble_eq_true_of_le (by omega)
                    rw [Nat.beq_refl, e2] at hz
                    cases hz
                simp [hl0]
              · simp [Addr.add_lit]
            rw [hne]
            simp only [VR]
            refine .inr ⟨e', te.sz, fz, cs, b, cap - l, cur, f, k1, k2, k3, rfl, k5, ?_, by omega⟩
            rw [Nat.add_assoc, ← Nat.add_mul, Nat.add_sub_cancel' (by omega)]
            exact k6
      · rename_i cs len
        obtain ⟨l, hl, h⟩ := Option.bind_eq_some_iff.1 h
        obtain ⟨u, hu, h⟩ := Option.bind_eq_some_iff.1 h
        cases hc : (Nat.ble l u && Nat.ble u len) with
        | false => rw [hc] at h; cases h
        | true =>
          rw [hc] at h
          obtain rfl := Option.some.inj h
          simp only [Bool.and_eq_true] at hc
          have hle1 := Nat.le_of_ble_eq_true hc.1
          have hle2 := Nat.le_of_ble_eq_true hc.2
          simp only [VR] at hx ⊢
          rcases hx with ⟨rfl, rfl, a, cap, rfl⟩ | ⟨b, off, cap, cur, e', fz, rfl, hF, k1, k2, k3⟩
          · have : l = 0 := by omega
            have : u = 0 := by omega
            subst_vars
            exact ⟨_, hrun a 0 cap 0 0 (bounds_run true 0 cap X.w (abnd_ok hl h1) (abnd_ok hu h2) (Nat.le_refl _) (Nat.zero_le _)), .inl ⟨by simp, rfl, _, _, rfl⟩⟩
          · refine ⟨_, hrun (some ⟨b, off, none⟩) len cap l u (bounds_run true len cap X.w (abnd_ok hl h1) (abnd_ok hu h2) hle1 (by omega)), ?_⟩
            by_cases hlu : l = u
            · subst hlu
              exact .inl ⟨by simp, Nat.sub_self _, if cap = l then some ⟨b, off, none⟩ else (some ⟨b, off, none⟩ : Option Addr).map (·.add (l * te.sz)), cap - l, by rw [Nat.sub_self]⟩
            · right
              rw [if_neg (by omega)]
              refine ⟨b, off + l * te.sz, cap - l, cur, e', fz, by simp [Addr.add_lit], hF, k1, ?_, by omega⟩
              have := (k2.drop (l * te.sz)).take ((u - l) * te.sz)
              rw [List.drop_take, List.drop_drop] at this
              have e1 : ((cs.drop (l * te.sz)).take ((u - l) * te.sz)).length = min ((u - l) * te.sz) (cs.length - l * te.sz) := by simp
              rw [e1]
              rwa [List.take_take] at this
      · obtain ⟨l, hl, h⟩ := Option.bind_eq_some_iff.1 h
        obtain ⟨u, hu, h⟩ := Option.bind_eq_some_iff.1 h
        cases hc : (Nat.beq l 0 && Nat.beq u 0) with
        | false => rw [hc] at h; cases h
        | true =>
          rw [hc] at h
          obtain rfl := Option.some.inj h
          simp only [Bool.and_eq_true] at hc
          obtain rfl := Nat.eq_of_beq_eq_true hc.1
          obtain rfl := Nat.eq_of_beq_eq_true hc.2
          simp only [VR] at hx ⊢
          subst hx
          exact ⟨_, hrun none 0 0 0 0 (bounds_run true 0 0 X.w (abnd_ok hl h1) (abnd_ok hu h2) (Nat.le_refl _) (Nat.le_refl _)), by simp⟩
      · cases h
    · cases h
  · rename_i _ _ _ hte
    obtain ⟨_, d, _, _, hd, _, _, _, hk, _⟩ := hT.get hte
    obtain rfl := mkTK_str hk
    simp only [VRo] at h3
    subst h3
    split at h
    · rename_i s
      obtain ⟨l, hl, h⟩ := Option.bind_eq_some_iff.1 h
      obtain ⟨u, hu, h⟩ := Option.bind_eq_some_iff.1 h
      cases hc : (Nat.ble l u && Nat.ble u s.size) with
      | false => rw [hc] at h; cases h
      | true =>
        rw [hc] at h
        obtain rfl := Option.some.inj h
        simp only [Bool.and_eq_true] at hc
        simp only [VR] at hx ⊢
        subst hx
        have hb := bounds_run false s.size s.size (P := P) X.w (abnd_ok hl h1) (abnd_ok hu h2) (Nat.le_of_ble_eq_true hc.1) (Nat.le_of_ble_eq_true hc.2)
        exact ⟨_, by simp [Instr.sliceAt, Instr.slice, run_underlying hd, hb], rfl⟩
    · cases h
  · cases h
theorem alen_ok {T : Tab} (hT : TabOk P T) {t ty : TypeId} {a r : AV} {x : Value} (h : alen T X.M t a = some r) (hx : VR X a x) : ∃ z, (Builtin.len_ #[t] ty #[x]).run P X.w = .ok z X.w ∧ VR X r z := by
  unfold alen at h
  split at h
  · rename_i _ _ _ s hte
    obtain ⟨_, d, _, _, hd, _, _, _, hk, _⟩ := hT.get hte
    obtain rfl := mkTK_str hk
    obtain rfl := Option.some.inj h
    simp only [VR] at hx ⊢
    subst hx
    exact ⟨_, by simp [Builtin.len_, run_underlying hd, goInt], rfl⟩
  · rename_i e _ _ hte
    obtain ⟨_, d, _, _, hd, _, _, _, hk, _⟩ := hT.get hte
    obtain rfl := mkTK_slice hk
    obtain rfl := Option.some.inj h
    simp only [VR] at hx ⊢
    subst hx
    exact ⟨_, by simp [Builtin.len_, run_underlying hd, goInt], rfl⟩
  · rename_i e _ _ _ n hte
    obtain ⟨_, d, _, _, hd, _, _, _, hk, _⟩ := hT.get hte
    obtain rfl := mkTK_slice hk
    obtain rfl := Option.some.inj h
    simp only [VR] at hx ⊢
    rcases hx with ⟨_, rfl, a, cap, rfl⟩ | ⟨b, off, cap, cur, e', fz, rfl, _⟩
    all_goals exact ⟨_, by simp [Builtin.len_, run_underlying hd, goInt], rfl⟩
  · rename_i e _ _ i g _ n hte
    obtain ⟨_, d, _, _, hd, _, _, _, hk, _⟩ := hT.get hte
    obtain rfl := mkTK_slice hk
    cases hl : X.M.live i g with
    | false => rw [hl] at h; cases h
    | true =>
      rw [hl] at h
      obtain rfl := Option.some.inj h
      obtain ⟨_, _, _, _, b, cap, _, _, _, _, _, rfl, _⟩ := hx.ref_live hl
      simp only [VR]
      exact ⟨_, by simp [Builtin.len_, run_underlying hd, goInt], rfl⟩
  · cases h
theorem foldl_splice (off : Nat) : ∀ (l : List Value) (k : Nat) (cells : Array Value), off + k + l.length ≤ cells.size →
    ((l.zipIdx k).foldl (fun cs (p : Value × Nat) => cs.setIfInBounds (off + p.2) p.1) cells).toList = cells.toList.take (off + k) ++ l ++ cells.toList.drop (off + k + l.length)
  | [], k, cells, _ => by simp
  | c :: l, k, cells, h => by
    simp only [List.length_cons] at h
    have hlt : off + k < cells.toList.length := by simp; omega
    rw [List.zipIdx_cons, List.foldl_cons, foldl_splice off l (k + 1) _ (by simp; omega)]
    simp only [Array.toList_setIfInBounds, List.length_cons]
    have e1 : (cells.toList.set (off + k) c).take (off + (k + 1)) = cells.toList.take (off + k) ++ [c] := by
      rw [← Nat.add_assoc, List.take_succ_eq_append_getElem (by simpa using hlt)]
      simp [List.take_set_of_le]
    have e2 : (cells.toList.set (off + k) c).drop (off + (k + 1) + l.length) = cells.toList.drop (off + k + (l.length + 1)) := by
      rw [List.drop_set_of_lt (by omega)]
      congr 1
      omega
    rw [e1, e2]
    simp
theorem splice_ok {cs vs : List AV} {l m : List Value} {off : Nat} (h : VRs X cs l) (k : VRs X vs m) : VRs X (splice cs off vs) (l.take off ++ m ++ l.drop (off + m.length)) := by
  unfold splice
  rw [← k.len]
  exact ((h.take off).append k).append (h.drop _)
theorem afill_ok {places : Nat → Option (Nat × Nat)} : ∀ {parts : List (Nat × AV)} {parts' : List (Nat × Value)} {cells cs : List AV} {cells' : Array Value},
    afill places cells parts = some cs → VRs X cells cells'.toList → parts.length = parts'.length → (∀ (k : Nat) (p : Nat × AV) (q : Nat × Value), parts[k]? = some p → parts'[k]? = some q → p.1 = q.1 ∧ VR X p.2 q.2) →
    ∃ cs', Instr.fill places cells' parts' = some cs' ∧ VRs X cs cs'.toList
  | [], parts', cells, cs, cells', h, hc, hl, _ => by
    obtain rfl : parts' = [] := List.eq_nil_of_length_eq_zero hl.symm
    obtain rfl := Option.some.inj h
    exact ⟨cells', rfl, hc⟩
  | (i, v) :: rest, parts', cells, cs, cells', h, hc, hl, hp => by
    cases parts' with
    | nil => cases hl
    | cons q rest' =>
      obtain ⟨j, x⟩ := q
      obtain ⟨e1, hv⟩ := hp 0 _ _ rfl rfl
      simp only at e1 hv
      subst e1
      simp only [afill] at h
      cases hpl : places i with
      | none => rw [hpl] at h; cases h
      | some os =>
        obtain ⟨off, size⟩ := os
        rw [hpl] at h
        simp only at h
        cases hb : (Nat.beq (vcells v).length size && Nat.ble (off + size) cells.length && (vcells v).all AV.cell) with
        | false => rw [hb] at h; cases h
        | true =>
          rw [hb] at h
          simp only [Bool.and_eq_true] at hb
          have hs := Nat.eq_of_beq_eq_true hb.1.1
          have hle := Nat.le_of_ble_eq_true hb.1.2
          have hcv := vcells_ok hv hb.2
          have hxs : x.cells.size = size := by have := hcv.len; simpa [hs] using this
          have hcs : cells'.size = cells.length := by simpa using hc.len
          have hsp : VRs X (splice cells off (vcells v)) (x.cells.zipIdx.foldl (fun cs (p : Value × Nat) => cs.setIfInBounds (off + p.2) p.1) cells').toList := by
            rw [← Array.foldl_toList, Array.toList_zipIdx, foldl_splice off _ 0 _ (by simp; omega)]
            have := splice_ok (off := off) hc hcv
            simpa using this
          obtain ⟨cs', h1, h2⟩ := afill_ok (parts' := rest') h hsp (by simpa using hl) fun k p q h1 h2 => hp (k + 1) p q (by simpa using h1) (by simpa using h2)
          refine ⟨cs', ?_, h2⟩
          simp only [Instr.fill, hpl]
          rw [if_neg (by simp [hxs]; omega)]
          exact h1
end
end Go.Abs
