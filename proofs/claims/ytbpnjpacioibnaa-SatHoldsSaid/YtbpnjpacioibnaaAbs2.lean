/- The operations that change nothing: what the abstract machine says holds in every world. -/
import Derived.Test.YtbpnjpacioibnaaAbs1
import Derived.Laws.Cells
import Derived.Laws.Rows
import Derived.Laws.Slices
import Derived.WalkSpells
set_option linter.unusedVariables false
set_option linter.unusedSimpArgs false
namespace Go.Abs
open Go Go.RowKit

theorem TabOk.get' {P : Program} {T : Tab} (hT : TabOk P T) {t : TypeId} {te : TE} (h : T t = some te) :
    ∃ i d z, P.info? t = some i ∧ P.underlying t = some d ∧ i.zero = some z ∧ i.size = te.sz ∧ i.bytes = te.bytes ∧ mkTK P d = te.k ∧ z.cells.toList.map avOf = te.z ∧ zfit te.k z = true := by
  have h := hT t te h
  unfold mkTE at h
  split at h
  · rename_i i d hi hd
    obtain ⟨z, hz, h⟩ := Option.bind_eq_some_iff.1 h
    cases hf : zfit (mkTK P d) z with
    | false => rw [hf] at h; cases h
    | true => rw [hf] at h; cases h; exact ⟨i, d, z, hi, hd, hz, rfl, rfl, rfl, rfl, hf⟩
  · cases h
theorem TabOk.get {P : Program} {T : Tab} (hT : TabOk P T) {t : TypeId} {te : TE} (h : T t = some te) :
    ∃ i d z, P.info? t = some i ∧ P.underlying t = some d ∧ i.zero = some z ∧ i.size = te.sz ∧ i.bytes = te.bytes ∧ mkTK P d = te.k ∧ z.cells.toList.map avOf = te.z := by
  obtain ⟨i, d, z, a, b, c, e, f, g, k, _⟩ := hT.get' h
  exact ⟨i, d, z, a, b, c, e, f, g, k⟩
section
variable {P : Program} {d : TypeDesc}
theorem mkTK_st (P : Program) (fs : Array Field) : mkTK P (.struct fs) = .other ∨ ∃ gs, mkTK P (.struct fs) = .struct gs := by
  rcases Bool.eq_false_or_eq_true (fs.toList.all fun f => (P.info? f.type).isSome) with h | h
  · exact .inr ⟨fs.toList.map fun f => (f.offset, f.type, ((P.info? f.type).map (·.size)).getD 0), by simp only [mkTK, h, cond_true]⟩
  · exact .inl (by simp only [mkTK, h, cond_false])
theorem mkTK_bool (h : mkTK P d = .bool) : d = .bool := by
  cases d <;> first | rfl | (rename_i fs; rcases mkTK_st P fs with e | ⟨_, e⟩ <;> rw [e] at h <;> cases h) | cases h
theorem mkTK_int {k : IntKind} (h : mkTK P d = .int k) : d = .int k := by
  cases d <;> first | (rename_i fs; rcases mkTK_st P fs with e | ⟨_, e⟩ <;> rw [e] at h <;> cases h; done) | (cases h; rfl) | cases h
theorem mkTK_str (h : mkTK P d = .str) : d = .string := by
  cases d <;> first | rfl | (rename_i fs; rcases mkTK_st P fs with e | ⟨_, e⟩ <;> rw [e] at h <;> cases h) | cases h
theorem mkTK_slice {e : TypeId} (h : mkTK P d = .slice e) : d = .slice e := by
  cases d <;> first | (rename_i fs; rcases mkTK_st P fs with e | ⟨_, e⟩ <;> rw [e] at h <;> cases h; done) | (cases h; rfl) | cases h
theorem mkTK_struct {fs : List (Nat × TypeId × Nat)} (h : mkTK P d = .struct fs) : ∃ gs, d = .struct gs ∧ (gs.toList.map fun f => (f.offset, f.type, ((P.info? f.type).map (·.size)).getD 0)) = fs ∧ (gs.toList.all fun f => (P.info? f.type).isSome) = true := by
  cases d with
  | struct gs =>
    rcases Bool.eq_false_or_eq_true (gs.toList.all fun f => (P.info? f.type).isSome) with ha | ha
    · simp only [mkTK, ha, cond_true] at h
      exact ⟨gs, rfl, TK.struct.inj h, ha⟩
    · simp only [mkTK, ha, cond_false] at h
      cases h
  | _ => cases h
theorem mkTK_ptr {e : TypeId} (h : mkTK P d = .ptr e) : d = .pointer e := by
  cases d <;> first | (rename_i fs; rcases mkTK_st P fs with e | ⟨_, e⟩ <;> rw [e] at h <;> cases h; done) | (cases h; rfl) | cases h
theorem mkTK_map {k e : TypeId} (h : mkTK P d = .map k e) : d = .map k e := by
  cases d <;> first | (rename_i fs; rcases mkTK_st P fs with e | ⟨_, e⟩ <;> rw [e] at h <;> cases h; done) | (cases h; rfl) | cases h
theorem mkTK_func (h : mkTK P d = .func) : ∃ a b c, d = .func a b c := by
  cases d <;> first | (rename_i fs; rcases mkTK_st P fs with e | ⟨_, e⟩ <;> rw [e] at h <;> cases h; done) | exact ⟨_, _, _, rfl⟩ | cases h
theorem mkTK_iface (h : mkTK P d = .iface) : ∃ a, d = .interface a := by
  cases d <;> first | (rename_i fs; rcases mkTK_st P fs with e | ⟨_, e⟩ <;> rw [e] at h <;> cases h; done) | exact ⟨_, rfl⟩ | cases h
theorem notAgg {te : TE} (hk : mkTK P d = te.k) (ha : te.isAgg = false) (hs : te.scalar = true) : (∀ fs, d ≠ .struct fs) ∧ ∀ n e, d ≠ .array n e := by
  refine ⟨fun fs e => ?_, fun n e e' => ?_⟩
  · subst e
    rcases mkTK_st P fs with e | ⟨_, e⟩ <;> rw [e] at hk
    · simp [TE.scalar, ← hk] at hs
    · simp [TE.isAgg, ← hk] at ha
  · subst e'; simp [TE.scalar, ← hk, mkTK] at hs
end
theorem avOf_ok (X : Cx) (v : Value) : VR X (avOf v) v := by
  cases v with
  | pointer a => cases a <;> simp [avOf, VR]
  | slice a n c =>
    cases a with
    | some a => simp [avOf, VR]
    | none => cases n <;> cases c <;> simp [avOf, VR]
  | map r => cases r <;> simp [avOf, VR]
  | _ => simp [avOf, VR]
theorem avOfs_ok (X : Cx) : ∀ l : List Value, VRs X (l.map avOf) l
  | [] => rfl
  | v :: l => ⟨v, l, rfl, avOf_ok X v, avOfs_ok X l⟩
theorem ev_const (X : Cx) (s : List AV) (v : Value) : VR X (ev s (.const v)) v := avOf_ok X v
theorem VR.one {X : Cx} {v : AV} {x : Value} (h : VR X v x) (hc : v.cell = true) : x.oneCell' = true := by
  cases v <;> simp only [VR, AV.cell] at h hc
  case row => rcases h with ⟨_, _, a, c, rfl⟩ | ⟨_, _, _, _, _, _, rfl, _⟩ <;> rfl
  case ref => rcases h with ⟨_, a, n, c, rfl⟩ | ⟨_, _, _, _, _, _, _, _, _, _, _, rfl, _⟩ <;> rfl
  case ptr => rcases h with ⟨_, a, rfl⟩ | ⟨_, _, _, rfl⟩ <;> rfl
  case rptr => obtain ⟨_, _, _, _, _, rfl, _⟩ := h; rfl
  case func => obtain ⟨_, _, rfl, _⟩ := h; rfl
  case map => obtain ⟨_, rfl, _⟩ := h; rfl
  case iter => obtain ⟨_, rfl, _⟩ := h; rfl
  case iface => obtain ⟨_, rfl, _⟩ := h; rfl
  all_goals first | (subst h; rfl) | cases hc
theorem VRs.one {X : Cx} : ∀ {cs : List AV} {l : List Value}, VRs X cs l → cs.all AV.cell = true → ∀ v ∈ l, v.oneCell' = true
  | [], l, h, _ => by simp only [VRs] at h; subst h; simp
  | x :: xs, l, h, hc => by
    simp only [VRs] at h
    obtain ⟨y, ys, rfl, h1, h⟩ := h
    simp only [List.all_cons, Bool.and_eq_true] at hc
    intro v hv
    rcases List.mem_cons.1 hv with rfl | hv
    · exact h1.one hc.1
    · exact h.one hc.2 v hv
/-- the cells of a value -/
theorem vcells_ok {X : Cx} {v : AV} {x : Value} (h : VR X v x) (hc : (vcells v).all AV.cell = true) : VRs X (vcells v) x.cells.toList := by
  cases v with
  | agg l =>
    simp only [VR] at h
    obtain ⟨m, rfl, h⟩ := h
    exact h
  | _ =>
    all_goals
      simp only [vcells, List.all_cons, List.all_nil, Bool.and_true] at hc
      have h1 := h.one hc
      have : x.cells = #[x] := by cases x <;> simp [Value.cells, Value.oneCell'] at h1 ⊢
      rw [this]
      exact ⟨x, [], rfl, h, rfl⟩
theorem cellAt (w : World) {b : Nat} {cur : Array Value} {e : TypeId} {f : Nat × Nat} (h : w.heap[b]? = some (.cells cur e f)) (k : Nat) : w.cell? ⟨b, k, none⟩ = cur[k]? := by simp [World.cell?, h]
/-- a variable is read -/
theorem load_at {P : Program} {T : Tab} (hT : TabOk P T) {X : Cx} {t : TypeId} {cs : List AV} {r : AV} (h : alo T t cs = some r) {b off : Nat} {cur : Array Value} {e : TypeId} {f : Nat × Nat}
    (hb : X.w.heap[b]? = some (.cells cur e f)) (hv : VRs X cs ((cur.toList.drop off).take cs.length)) : ∃ x, (Instr.loadAt t (.pointer (some ⟨b, off, none⟩))).run P X.w = .ok x X.w ∧ VR X r x := by
  unfold alo at h
  cases hte : T t with
  | none => rw [hte] at h; cases h
  | some te =>
    rw [hte] at h
    simp only at h
    obtain ⟨i, d, z, hi, hd, hz, hs, hby, hk, hzz⟩ := hT.get hte
    cases ha : te.isAgg with
    | true =>
      rw [ha] at h
      simp only [cond_true] at h
      cases hle : Nat.ble te.sz cs.length with
      | false => rw [hle] at h; cases h
      | true =>
        rw [hle] at h
        obtain rfl := Option.some.inj h
        have hle := Nat.le_of_ble_eq_true hle
        have hst : ∃ fs, d = .struct fs := by
          unfold TE.isAgg at ha
          split at ha
          · rename_i fs hfs; rw [hfs] at hk; obtain ⟨gs, rfl, _⟩ := mkTK_struct hk; exact ⟨gs, rfl⟩
          · cases ha
        obtain ⟨fs, rfl⟩ := hst
        have hl := hv.take te.sz
        have e1 : ((cur.toList.drop off).take cs.length).take te.sz = (cur.toList.drop off).take te.sz := by rw [List.take_take, Nat.min_eq_left hle]
        rw [e1] at hl
        have hlen : ((cur.toList.drop off).take te.sz).length = te.sz := by rw [hl.len, List.length_take, Nat.min_eq_left hle]
        have hrun := run_loadCells_list (P := P) X.w ⟨b, off, none⟩ ((cur.toList.drop off).take te.sz) fun j v hj => by
          rw [Addr.add_lit, cellAt X.w hb]
          rw [List.getElem?_take] at hj
          split at hj
          · rw [List.getElem?_drop] at hj; simpa using hj
          · cases hj
        rw [hlen] at hrun
        refine ⟨.agg ((cur.toList.drop off).take te.sz).toArray, ?_, ?_⟩
        · simp [Instr.loadAt, Instr.sureAddr, loadVar, isAgg, run_underlying hd, sizeOf, typeInfo, hi, hs, hrun]
        · simp only [VR]; exact ⟨_, rfl, hl⟩
    | false =>
      rw [ha] at h
      simp only [cond_false] at h
      cases hsc : te.scalar with
      | false => rw [hsc] at h; cases h
      | true =>
        rw [hsc] at h
        simp only [cond_true] at h
        have hg : cs[0]? = some r := by rw [← List.head?_eq_getElem?]; exact h
        obtain ⟨x, hx, hvr⟩ := hv.get hg
        rw [List.getElem?_take] at hx
        split at hx
        · rw [List.getElem?_drop] at hx
          refine ⟨x, ?_, hvr⟩
          have hc : X.w.cell? ⟨b, off, none⟩ = some x := by rw [cellAt X.w hb]; simpa using hx
          obtain ⟨hns, hna⟩ := notAgg hk ha hsc
          have hag : (isAgg t).run P X.w = .ok false X.w := by
            unfold isAgg
            simp only [Sem.run_bind, run_underlying hd, Result.andThen]
            cases d <;> first | rfl | exact absurd rfl (hns _) | exact absurd rfl (hna _ _)
          simp [Instr.loadAt, Instr.sureAddr, loadVar, hag, hc]
        · cases hx
theorem Rl.at {X : Cx} (R : Rl X) {i g off : Nat} {e sz : Nat} {fz : Bool} {cs : List AV} {x : Value} (hg : X.M.get i = some (.cells e sz fz cs)) (hl : cs.length = g) (h : VR X (.ptr i g off) x) :
    ∃ b cur, X.ι i = some b ∧ x = .pointer (some ⟨b, off, none⟩) ∧ X.w.heap[b]? = some (.cells cur e (0, 0)) ∧ cs.length ≤ cur.size ∧ VRs X cs (cur.toList.take cs.length) ∧ cs.all AV.cell = true ∧ (X.F b ↔ fz = true) := by
  simp only [VR] at h
  rcases h with ⟨⟨_, h⟩, _⟩ | ⟨_, b, hb, rfl⟩
  · have := h _ (Mem.len_of hg); omega
  · obtain ⟨⟨cur, a1, a2, a3⟩, a4, a5⟩ := R.cells i b e sz fz cs hg hb
    exact ⟨b, cur, hb, rfl, a1, a2, a3, a4, a5⟩
theorem load_ok {P : Program} {T : Tab} (hT : TabOk P T) {X : Cx} (R : Rl X) {t : TypeId} {a r : AV} {x : Value} (h : aload T X.M t a = some r) (hx : VR X a x) :
    ∃ y, (Instr.loadAt t x).run P X.w = .ok y X.w ∧ VR X r y := by
  unfold aload at h
  split at h
  · rename_i i g off
    split at h
    · rename_i e sz fz cs hg
      cases hb : Nat.beq cs.length g with
      | false => rw [hb] at h; cases h
      | true =>
        rw [hb] at h
        simp only [cond_true] at h
        obtain ⟨b, cur, _, rfl, h1, h2, h3, _, _⟩ := R.at hg (Nat.eq_of_beq_eq_true hb) hx
        refine load_at hT h h1 ?_
        have := h3.drop off
        rw [List.drop_take] at this
        simpa using this
    · cases h
  · simp only [VR] at hx
    obtain ⟨b, off, cur, e, fz, rfl, _, h1, h2⟩ := hx
    exact load_at hT h h1 h2
  · cases h
theorem live_get {M : Mem} {i g : Nat} (h : M.live i g = true) : ∃ e sz fz cs, M.get i = some (.cells e sz fz cs) ∧ cs.length = g := by
  unfold Mem.live at h
  split at h
  · rename_i e sz fz cs hg; exact ⟨e, sz, fz, cs, hg, Nat.eq_of_beq_eq_true h⟩
  · cases h
theorem VR.ptr_live {X : Cx} {i g off : Nat} {x : Value} (h : VR X (.ptr i g off) x) (hl : X.M.live i g = true) : ∃ b, X.ι i = some b ∧ x = .pointer (some ⟨b, off, none⟩) := by
  obtain ⟨e, sz, fz, cs, hg, rfl⟩ := live_get hl
  simp only [VR] at h
  rcases h with ⟨⟨_, h⟩, _⟩ | ⟨_, b, hb, rfl⟩
  · exact absurd (h _ (Mem.len_of hg)) (Nat.lt_irrefl _)
  · exact ⟨b, hb, rfl⟩
theorem VR.ref_live {X : Cx} {i g off len : Nat} {x : Value} (h : VR X (.ref i g off len) x) (hl : X.M.live i g = true) :
    ∃ e sz fz cs b cap cur f, X.M.get i = some (.cells e sz fz cs) ∧ cs.length = g ∧ X.ι i = some b ∧ x = .slice (some ⟨b, off, none⟩) len cap ∧ X.w.heap[b]? = some (.cells cur e f) ∧ off + cap * sz = cur.size ∧ len ≤ cap := by
  obtain ⟨e, sz, fz, cs, hg, rfl⟩ := live_get hl
  simp only [VR] at h
  rcases h with ⟨⟨_, h⟩, _⟩ | h
  · exact absurd (h _ (Mem.len_of hg)) (Nat.lt_irrefl _)
  · exact h
section
variable {P : Program} {X : Cx}
theorem abin_ok {op : BinOp} {a b r : AV} {t : TypeId} {x y : Value} {p q : Operand} (h : abin op a b = some r) (hx : VR X a x) (hy : VR X b y) :
    ∃ z, ((do eqGuard op t p q x y; binOp op t x y : Sem Value)).run P X.w = .ok z X.w ∧ VR X r z := by
  unfold abin at h
  split at h
  · rename_i k a yk b
    simp only [VR] at hx hy
    subst hx hy
    cases hb : decide (0 ≤ b) with
    | false => rw [hb] at h; cases h
    | true =>
      rw [hb] at h
      obtain rfl := Option.some.inj h
      have := of_decide_eq_true hb
      exact ⟨_, by rw [eqGuard_at_int, binOp_shl]; simp [Op.shift, show ¬ b < 0 by omega]; rfl, by simp only [VR]⟩
  · rename_i k a yk b
    simp only [VR] at hx hy
    subst hx hy
    cases hb : decide (0 ≤ b) with
    | false => rw [hb] at h; cases h
    | true =>
      rw [hb] at h
      obtain rfl := Option.some.inj h
      have := of_decide_eq_true hb
      exact ⟨_, by rw [eqGuard_at_int, binOp_shr]; simp [Op.shift, show ¬ b < 0 by omega]; rfl, by simp only [VR]⟩
  · rename_i k a k' b h1 h2
    simp only [VR] at hx hy
    subst hx hy
    by_cases hk : k = k'
    · subst hk
      simp only [decide_true, cond_true] at h
      rw [eqGuard_at_int]
      split at h
      all_goals first
        | (obtain rfl := Option.some.inj h; exact ⟨_, by simp only [binOp_and, binOp_or, binOp_xor, binOp_andNot, intBits_and, intBits_or, intBits_xor, intBits_andNot]; rfl, by simp only [VR]⟩)
        | (obtain rfl := Option.some.inj h; exact ⟨_, by simp [binOp, Op.intArith, Op.intCmp]; rfl, by simp only [VR]⟩)
        | (cases hb : (b == 0) with
            | true => rw [hb] at h; cases h
            | false => rw [hb] at h; obtain rfl := Option.some.inj h; exact ⟨_, by simp [binOp, Op.intDiv, show ¬ b = 0 by simpa using hb]; rfl, by simp only [VR]⟩)
        | cases h
    · simp [hk] at h
  · rename_i a b
    simp only [VR] at hx hy
    subst hx hy
    rw [eqGuard_at_string]
    split at h
    · cases hb : Nat.ble (a.size + b.size) 9223372036854775807 with
      | false => rw [hb] at h; cases h
      | true =>
        rw [hb] at h
        obtain rfl := Option.some.inj h
        have := Nat.le_of_ble_eq_true hb
        refine ⟨.string (a ++ b), ?_, by simp only [VR]⟩
        have hn : ¬ ((a.size + b.size : Nat) : Int) > IntKind.i64.max := by rw [IntKind.max_i64]; omega
        simp only [binOp, Op.stringOp, Sem.run_bind, Sem.run_pure, Result.andThen, if_neg hn]
    all_goals first
      | (obtain rfl := Option.some.inj h; exact ⟨_, by simp only [binOp, Op.stringOp, Sem.run_bind, Sem.run_pure, Result.andThen]; rfl, by simp only [VR]⟩)
      | cases h
  · cases h
theorem andThen_pure {α : Type} (s : Sem α) (w : World) (x : α) (h : s.run P w = .ok x w) {β : Type} (f : α → Sem β) : (s >>= f).run P w = (f x).run P w := by
  rw [Sem.run_bind, h]; rfl
theorem aun_ok {op : UnOp} {a r : AV} {x : Value} (h : aun op a = some r) (hx : VR X a x) : ∃ z, (Op.unary op x).run P X.w = .ok z X.w ∧ VR X r z := by
  unfold aun at h
  split at h
  · simp only [VR] at hx; subst hx; obtain rfl := Option.some.inj h; exact ⟨_, by simp only [Op.unary, Op.intArith]; rfl, by simp only [VR]⟩
  · simp only [VR] at hx; subst hx; obtain rfl := Option.some.inj h; exact ⟨_, by simp only [Op.unary, intBits_xor]; rfl, by simp only [VR]⟩
  · simp only [VR] at hx; subst hx; obtain rfl := Option.some.inj h; exact ⟨_, by simp [Op.unary]; rfl, by simp only [VR]⟩
  · cases h
theorem apick_ok {c a b r : AV} {x y z : Value} (h : apick c a b = some r) (hx : VR X c x) (hy : VR X a y) (hz : VR X b z) :
    ∃ u, ((do pure (.value (if ← asBool x then y else z)) : Sem Next)).run P X.w = .ok (.value u) X.w ∧ VR X r u := by
  unfold apick at h
  split at h
  · rename_i c
    simp only [VR] at hx
    subst hx
    obtain rfl := Option.some.inj h
    refine ⟨if c then y else z, by simp [asBool], ?_⟩
    cases c <;> simpa
  · cases h
theorem aconv_ok {T : Tab} (hT : TabOk P T) {s d : TypeId} {a r : AV} {x : Value} (h : aconv T s d a = some r) (hx : VR X a x) : ∃ z, (convert s d x).run P X.w = .ok z X.w ∧ VR X r z := by
  unfold aconv at h
  split at h
  · rename_i te _ _ k _ _ n h1 h2
    simp only [VR] at hx
    subst hx
    obtain rfl := Option.some.inj h
    obtain ⟨_, d1, _, _, hd1, _⟩ := hT.get h1
    obtain ⟨_, d2, _, _, hd2, _, _, _, hk, _⟩ := hT.get h2
    obtain rfl := mkTK_int hk
    refine ⟨.int k (k.wrap n), ?_, by simp only [VR]⟩
    simp only [convert, Sem.run_bind, run_underlying hd1, run_underlying hd2, Result.andThen]
    cases d1 <;> simp [Conv.intToInt]
  · rename_i _ _ _ _ _ _ s h1 h2
    simp only [VR] at hx
    subst hx
    obtain rfl := Option.some.inj h
    obtain ⟨_, d1, _, _, hd1, _, _, _, hk1, _⟩ := hT.get h1
    obtain ⟨_, d2, _, _, hd2, _, _, _, hk, _⟩ := hT.get h2
    obtain rfl := mkTK_str hk
    obtain rfl := mkTK_str hk1
    exact ⟨_, by simp [convert, run_underlying hd1, run_underlying hd2]; rfl, by simp only [VR]⟩
  · cases h
theorem afieldA_ok {T : Tab} (hT : TabOk P T) {t : TypeId} {a r : AV} {f : Nat} {x : Value} (h : afieldA T X.M t a f = some r) (hx : VR X a x) : ∃ z, (Instr.fieldAt t x f).run P X.w = .ok z X.w ∧ VR X r z := by
  unfold afieldA at h
  split at h
  · rename_i fs _ _ hte
    obtain ⟨_, d, _, _, hd, _, _, _, hk, _⟩ := hT.get hte
    obtain ⟨gs, rfl, hgs, _⟩ := mkTK_struct hk
    split at h
    · rename_i off ft fsz hf
      rw [← hgs, List.getElem?_map, Option.map_eq_some_iff] at hf
      obtain ⟨fld, hfl, hff⟩ := hf
      simp only [Prod.mk.injEq] at hff
      obtain ⟨rfl, rfl, hsz⟩ := hff
      cases hb : Nat.beq fsz 0 with
      | true => rw [hb] at h; cases h
      | false =>
        rw [hb] at h
        simp only [cond_false] at h
        have hne : fsz ≠ 0 := fun e => by subst e; cases hb
        obtain ⟨i, hi, hs⟩ : ∃ i, P.info? fld.type = some i ∧ i.size = fsz := by
          cases hi : P.info? fld.type with
          | none => rw [hi] at hsz; exact absurd hsz.symm hne
          | some i => rw [hi] at hsz; exact ⟨i, rfl, hsz⟩
        have hfl' : gs[f]? = some fld := by simpa using hfl
        have hrun : ∀ b o, (Instr.fieldAt t (.pointer (some ⟨b, o, none⟩)) f).run P X.w = .ok (.pointer (some ⟨b, o + fld.offset, none⟩)) X.w := fun b o => by
          simp [Instr.fieldAt, run_underlying hd, hfl', Instr.sureAddr, fieldPlace, sizeOf, typeInfo, hi, hs, hne, Addr.add_lit]
        split at h
        · rename_i i g o
          cases hl : X.M.live i g with
          | false => rw [hl] at h; cases h
          | true =>
            rw [hl] at h
            obtain rfl := Option.some.inj h
            obtain ⟨b, hb, rfl⟩ := hx.ptr_live hl
            obtain ⟨e, sz, fz, cs, hg, hlen⟩ := live_get hl
            refine ⟨_, hrun _ _, ?_⟩
            simp only [VR]
            exact .inr ⟨by rw [Mem.len_of hg, hlen], b, hb, rfl⟩
        · rename_i cs
          obtain rfl := Option.some.inj h
          simp only [VR] at hx ⊢
          obtain ⟨b, o, cur, e, fz, rfl, hF, h1, h2⟩ := hx
          refine ⟨_, hrun _ _, b, _, cur, e, fz, rfl, hF, h1, ?_⟩
          have := h2.drop fld.offset
          rw [List.drop_take, List.drop_drop] at this
          simpa using this
        · cases h
    · cases h
  · cases h
theorem alo_part {T : Tab} (hT : TabOk P T) {t : TypeId} {cs : List AV} {l : Array Value} {off : Nat} {r : AV} (h : alo T t (cs.drop off) = some r) (hv : VRs X cs l.toList) :
    ∃ z, (part t l off).run P X.w = .ok z X.w ∧ VR X r z := by
  unfold alo at h
  cases hte : T t with
  | none => rw [hte] at h; cases h
  | some te =>
    rw [hte] at h
    simp only at h
    obtain ⟨i, d, z, hi, hd, hz, hs, hby, hk, hzz⟩ := hT.get hte
    cases ha : te.isAgg with
    | true =>
      rw [ha] at h
      simp only [cond_true] at h
      cases hle : Nat.ble te.sz (cs.drop off).length with
      | false => rw [hle] at h; cases h
      | true =>
        rw [hle] at h
        obtain rfl := Option.some.inj h
        have hst : ∃ fs, d = .struct fs := by
          unfold TE.isAgg at ha
          split at ha
          · rename_i fs hfs; rw [hfs] at hk; obtain ⟨gs, rfl, _⟩ := mkTK_struct hk; exact ⟨gs, rfl⟩
          · cases ha
        obtain ⟨fs, rfl⟩ := hst
        refine ⟨.agg (l.extract off (off + te.sz)), by simp [part, isAgg, run_underlying hd, sizeOf, typeInfo, hi, hs], ?_⟩
        simp only [VR]
        refine ⟨_, rfl, ?_⟩
        have := (hv.drop off).take te.sz
        simpa [Array.toList_extract, List.extract, Nat.add_sub_cancel_left] using this
    | false =>
      rw [ha] at h
      simp only [cond_false] at h
      cases hsc : te.scalar with
      | false => rw [hsc] at h; cases h
      | true =>
        rw [hsc] at h
        simp only [cond_true] at h
        have hg : cs[off]? = some r := by
          rw [List.head?_eq_getElem?, List.getElem?_drop] at h; simpa using h
        obtain ⟨x, hx, hvr⟩ := hv.get hg
        obtain ⟨hns, hna⟩ := notAgg hk ha hsc
        have hag : (isAgg t).run P X.w = .ok false X.w := by
          unfold isAgg
          simp only [Sem.run_bind, run_underlying hd, Result.andThen]
          cases d <;> first | rfl | exact absurd rfl (hns _) | exact absurd rfl (hna _ _)
        have hx' : l[off]? = some x := by simpa using hx
        exact ⟨x, by simp [part, hag, hx'], hvr⟩
theorem afield_ok {T : Tab} (hT : TabOk P T) {t : TypeId} {a r : AV} {f : Nat} {x : Value} (h : afield T t a f = some r) (hx : VR X a x) : ∃ z, (Instr.field t x f).run P X.w = .ok z X.w ∧ VR X r z := by
  unfold afield at h
  split at h
  · rename_i fs _ _ cs hte
    obtain ⟨_, d, _, _, hd, _, _, _, hk, _⟩ := hT.get hte
    obtain ⟨gs, rfl, hgs, _⟩ := mkTK_struct hk
    simp only [VR] at hx
    obtain ⟨l, rfl, hl⟩ := hx
    split at h
    · rename_i off ft _ hf
      rw [← hgs, List.getElem?_map, Option.map_eq_some_iff] at hf
      obtain ⟨fld, hfl, hff⟩ := hf
      simp only [Prod.mk.injEq] at hff
      obtain ⟨rfl, rfl, _⟩ := hff
      have hfl' : gs[f]? = some fld := by simpa using hfl
      obtain ⟨z, hz, hv⟩ := alo_part hT h hl
      exact ⟨z, by simp [Instr.field, run_underlying hd, hfl', asAgg, hz], hv⟩
    · cases h
  · cases h
theorem aindexA_ok {T : Tab} (hT : TabOk P T) {t : TypeId} {a i r : AV} {x y : Value} (h : aindexA T X.M t a i = some r) (hx : VR X a x) (hy : VR X i y) : ∃ z, (Instr.indexAt t x y).run P X.w = .ok z X.w ∧ VR X r z := by
  unfold aindexA at h
  split at h
  · rename_i e _ _ k n hte
    obtain ⟨_, d, _, _, hd, _, _, _, hk, _⟩ := hT.get hte
    obtain rfl := mkTK_slice hk
    simp only [VR] at hy
    subst hy
    split at h
    · rename_i te hee
      obtain ⟨ie, _, _, hie, _, _, hs, _⟩ := hT.get hee
      have hrun : ∀ (b o len cap : Nat), 0 ≤ n → n < (len : Int) → (Instr.indexAt t (.slice (some ⟨b, o, none⟩) len cap) (.int k n)).run P X.w = .ok (.pointer (some ⟨b, o + n.toNat * te.sz, none⟩)) X.w := fun b o len cap h1 h2 => by
        simp [Instr.indexAt, run_underlying hd, asIntOf, h1, h2, sizeOf, typeInfo, hie, hs, Addr.add_lit]
      split at h
      · rename_i j g off len
        cases hc : (X.M.live j g && decide (0 ≤ n) && decide (n < (len : Int))) with
        | false => rw [hc] at h; cases h
        | true =>
          rw [hc] at h
          obtain rfl := Option.some.inj h
          simp only [Bool.and_eq_true, decide_eq_true_eq] at hc
          obtain ⟨e', sz, fz, cs, b, cap, cur, f, h1, h2, h3, rfl, _, _⟩ := hx.ref_live hc.1.1
          refine ⟨_, hrun _ _ _ _ hc.1.2 hc.2, ?_⟩
          simp only [VR]
          exact .inr ⟨by rw [Mem.len_of h1, h2], b, h3, rfl⟩
      · rename_i cs len
        cases hc : (decide (0 ≤ n) && decide (n < (len : Int))) with
        | false => rw [hc] at h; cases h
        | true =>
          rw [hc] at h
          obtain rfl := Option.some.inj h
          simp only [Bool.and_eq_true, decide_eq_true_eq] at hc
          simp only [VR] at hx ⊢
          rcases hx with ⟨_, rfl, _⟩ | ⟨b, off, cap, cur, e', fz, rfl, hF, h1, h2, _⟩
          · omega
          · refine ⟨_, hrun _ _ _ _ hc.1 hc.2, b, _, cur, e', fz, rfl, hF, h1, ?_⟩
            have := h2.drop (n.toNat * te.sz)
            rw [List.drop_take, List.drop_drop] at this
            simpa using this
      · cases h
    · cases h
  · cases h
theorem aindex_ok {T : Tab} (hT : TabOk P T) {t : TypeId} {a i r : AV} {x y : Value} (h : aindex T t a i = some r) (hx : VR X a x) (hy : VR X i y) : ∃ z, (Instr.index t x y).run P X.w = .ok z X.w ∧ VR X r z := by
  unfold aindex at h
  split at h
  · rename_i _ _ _ s k n hte
    obtain ⟨_, d, _, _, hd, _, _, _, hk, _⟩ := hT.get hte
    obtain rfl := mkTK_str hk
    simp only [VR] at hx hy
    subst hx hy
    cases hn : decide (0 ≤ n) with
    | false => rw [hn] at h; cases h
    | true =>
      rw [hn] at h
      obtain ⟨b, hb, rfl⟩ := Option.map_eq_some_iff.1 h
      have := of_decide_eq_true hn
      exact ⟨.int .u8 b.toNat, by simp [Instr.index, run_underlying hd, asIntOf, this, hb], by simp only [VR]⟩
  · cases h
theorem aextract_ok {a r : AV} {i : Nat} {x : Value} (h : aextract a i = some r) (hx : VR X a x) : ∃ z, (Instr.extract x i).run P X.w = .ok z X.w ∧ VR X r z := by
  unfold aextract at h
  split at h
  · simp only [VR] at hx
    obtain ⟨l, rfl, hl⟩ := hx
    obtain ⟨z, hz, hv⟩ := hl.get h
    have hz' : l[i]? = some z := by simpa using hz
    exact ⟨z, by simp [Instr.extract, hz'], hv⟩
  · cases h
end
end Go.Abs
