/- Code: the abstract machine's runs, and that they hold. -/
import Derived.Test.YtbpnjpacioibnaaAbs8b
import Derived.Deep.LoopGhost
import Derived.Defers
import Derived.Tactics
set_option linter.unusedVariables false
set_option linter.unusedSimpArgs false
namespace Go.Abs
open Go Go.RowKit

inductive Ex where
  | normal | exit (id : Nat) | ret

inductive OK where
  | read | alloc | eff | call (c : Call) | defer (c : Call) | none
def opk : Op → OK
  | .move _ | .assign _ | .pick .. | .build .. | .load .. | .nilCheck _ | .binOp .. | .unOp .. | .convert .. | .makeInterface .. | .makeFunc .. | .slice .. | .fieldAddr .. | .field .. | .indexAddr .. | .index .. | .extract .. | .lookup .. => .read
  | .alloc _ | .box .. | .buildSlice .. | .makeSlice .. => .alloc
  | .store .. | .makeMap .. | .mapUpdate .. | .insert .. | .mapEntry .. | .entryStore .. => .eff
  | .defer c => .defer c
  | .call c => match c.callee with | .builtin .len | .builtin .max | .builtin .min => .read | .builtin .append | .builtin .delete => .eff | .builtin _ => .none | _ => .call c
  | _ => .none

abbrev Post := AV → Mem → Prop
abbrev Caller := FuncId → List AV → Mem → Post → Prop
abbrev KK := Ex → List AV → Mem → Prop
structure Env where
  T : Tab
  C : Caller
  H : FuncId → Bool
  L : ((KK → List AV → Mem → Prop)) → KK → List AV → Mem → Prop

def aput (s : List AV) : Option Tmp → AV → List AV
  | some d, v => s.set d v
  | none, _ => s
def agd (ops : Array Oper) (s : List AV) (g : Option (Nat × Bool)) : Option Bool :=
  match g with
  | none => some true
  | some (j, want) =>
    match (ops[j]?).bind (·.dst) with
    | none => some false
    | some d =>
      match s[d]? with
      | some (.bool b) => some (bif want then b else !b)
      | some (.tup _) => some false
      | _ => none
def acall (E : Env) (ρ : Operand → AV) (c : Call) (M : Mem) (K : Post) : Prop :=
  match c.callee with
  | .value f =>
    match ρ f with
    | .func g first cap => E.C g (first ++ c.args.toList.map ρ ++ cap) M K
    | _ => False
  | _ => False
/-- a call that is put off: only of functions that do nothing where nothing has gone wrong -/
def adefer (E : Env) (ρ : Operand → AV) (c : Call) (M : Mem) (K : Post) : Prop :=
  match c.callee with
  | .value f =>
    match ρ f with
    | .func g _ _ => bif E.H g then K nothing M else False
    | _ => False
  | _ => False
def bindP {α : Type} (x : Option α) (A : α → Prop) : Prop :=
  match x with
  | some v => A v
  | none => False
theorem bindP_some {α : Type} {x : Option α} {A : α → Prop} (h : bindP x A) : ∃ v, x = some v ∧ A v := by
  cases x with
  | none => exact h.elim
  | some v => exact ⟨v, rfl, h⟩
theorem bindP_i {α : Type} {x : Option α} {A : α → Prop} {v : α} (h : x = some v) (k : A v) : bindP x A := by subst h; exact k
def aoper (E : Env) (ρ : Operand → AV) (o : Op) (M : Mem) (K : Post) : Prop :=
  match opk o with
  | .read => bindP (aread E.T ρ M o) fun v => K v M
  | .alloc => bindP (aalloc E.T ρ o) fun l => bif l.cs.all AV.cell then K (l.val M.next) (M.add l.obj) else False
  | .eff => bindP (aeff E.T ρ M o) fun p => match p with | (v, M') => K v M'
  | .call c => acall E ρ c M K
  | .defer c => adefer E ρ c M K
  | .none => False
def aops (E : Env) (ops : Array Oper) : List Oper → (List AV → Mem → Prop) → List AV → Mem → Prop
  | [], K, s, M => K s M
  | o :: r, K, s, M =>
    match agd ops s o.guard with
    | some b => bif b then (aoper E (ev s) o.op M fun v M' => aops E ops r K (aput s o.dst v) M') else aops E ops r K (aput s o.dst nothing) M
    | none => False
theorem agd_split {o : Option Bool} {A B : Prop} (h : match o with | some b => bif b then A else B | none => False) : (o = some true ∧ A) ∨ (o = some false ∧ B) := by
  cases o with
  | none => exact h.elim
  | some b => cases b <;> simp_all

/-! regions whose order is drawn -/
def preds (o : Oper) : List Nat := (o.after.toList.filter (Region.binds .any)).map (·.on)
def maskStep (acc : List Nat) (o : Oper) : List Nat := acc ++ [(preds o).foldl (fun s p => s ||| 2 ^ p ||| acc.getD p 0) 0]
def masks (l : List Oper) : List Nat := l.foldl maskStep []
def isEff (o : Op) : Bool := match opk o with | .read | .alloc => false | _ => true
inductive PStep where
  | op (i : Nat)
  | eff (i : Nat) (re : List Nat)
def effAt (ops : Array Oper) (i : Nat) : Bool := match ops[i]? with | some o => isEff o.op | none => true
def predsAt (ops : Array Oper) (i : Nat) : List Nat := match ops[i]? with | some o => preds o | none => []
def mkPlan (ops : Array Oper) (ms : List Nat) : Nat → List Nat → List PStep
  | 0, _ => []
  | n + 1, done =>
    let rdy := (List.range ops.size).filter fun i => !done.contains i && (predsAt ops i).all done.contains
    match rdy.find? (fun i => !effAt ops i) with
    | some i => .op i :: mkPlan ops ms n (i :: done)
    | none =>
      match rdy with
      | i :: _ => .eff i (done.filter fun j => !effAt ops j && !(ms.getD i 0).testBit j) :: mkPlan ops ms n (i :: done)
      | [] => []
/-- does a plan serve? -/
def planOk (ops : Array Oper) (ms : List Nat) : List Nat → List PStep → Bool
  | done, [] => (List.range ops.size).all done.contains
  | done, .op i :: r => !done.contains i && decide (i < ops.size) && (predsAt ops i).all done.contains && !effAt ops i && planOk ops ms (i :: done) r
  | done, .eff i re :: r => !done.contains i && decide (i < ops.size) && (predsAt ops i).all done.contains && effAt ops i &&
      ((List.range ops.size).all fun j => done.contains j || j == i || (predsAt ops j).any fun p => !done.contains p) &&
      (done.all fun j => effAt ops j || (ms.getD i 0).testBit j || re.contains j) && planOk ops ms (i :: done) r
def slotsOk (ops : Array Oper) (ms : List Nat) : Bool :=
  (List.range ops.size).all fun i => (List.range ops.size).all fun j =>
    match ops[i]?, ops[j]? with
    | some oi, some oj =>
      match oj.dst with
      | some t => i == j || (oi.dst != some t && (!(oi.looksAt ops).contains t || (ms.getD i 0).testBit j || (ms.getD j 0).testBit i))
      | none => true
    | _, _ => false
def planOf (ops : Array Oper) : Option (List PStep) :=
  let ms := masks ops.toList
  let p := mkPlan ops ms ops.size []
  bif slotsOk ops ms && planOk ops ms [] p then some p else none
mutual
def beqA : AV → AV → Bool
  | .undef, .undef | .nilS, .nilS | .nilP, .nilP | .nilF, .nilF | .nilM, .nilM | .nilI, .nilI => true
  | .bool a, .bool b => a == b
  | .int k a, .int j b => decide (k = j) && decide (a = b)
  | .str a, .str b => decide (a = b)
  | .row a m, .row b n => beqAs a b && Nat.beq m n
  | .ref a b c d, .ref e f g h => Nat.beq a e && Nat.beq b f && Nat.beq c g && Nat.beq d h
  | .ptr a b c, .ptr e f g => Nat.beq a e && Nat.beq b f && Nat.beq c g
  | .rptr a, .rptr b => beqAs a b
  | .agg a, .agg b => beqAs a b
  | .tup a, .tup b => beqAs a b
  | .func f a b, .func g c d => Nat.beq f g && beqAs a c && beqAs b d
  | .map a, .map b => Nat.beq a b
  | .iter a, .iter b => Nat.beq a b
  | .iface t a, .iface u b => Nat.beq t u && beqA a b
  | _, _ => false
def beqAs : List AV → List AV → Bool
  | [], [] => true
  | a :: l, b :: m => beqA a b && beqAs l m
  | _, _ => false
end
abbrev RS := List (Nat × AV)
def sig (ops : Array Oper) (s0 : List AV) : RS → List AV
  | [] => s0
  | (i, v) :: r => aput (sig ops s0 r) ((ops[i]?).bind (·.dst)) v
def olderOf (j : Nat) : RS → Option (AV × RS)
  | [] => none
  | (i, v) :: r => bif Nat.beq i j then some (v, r) else olderOf j r
def rechk (T : Tab) (ops : Array Oper) (s0 : List AV) (M : Mem) (rs : RS) (j : Nat) : Bool :=
  match olderOf j rs, ops[j]? with
  | some (v, older), some o =>
    match agd ops (sig ops s0 older) o.guard with
    | some true =>
      match opk o.op with
      | .read => match aread T (ev (sig ops s0 older)) M o.op with | some v' => beqA v v' | none => false
      | _ => true
    | some false => true
    | none => false
  | _, _ => false
def adraw (E : Env) (ops : Array Oper) (s0 : List AV) : List PStep → RS → (List AV → Mem → Prop) → Mem → Prop
  | [], rs, K, M => K (sig ops s0 rs) M
  | .op i :: r, rs, K, M =>
    match ops[i]? with
    | none => False
    | some o =>
      match agd ops (sig ops s0 rs) o.guard with
      | some b => bif b then
          (match opk o.op with
          | .read => bindP (aread E.T (ev (sig ops s0 rs)) M o.op) fun v => adraw E ops s0 r ((i, v) :: rs) K M
          | .alloc => bindP (aalloc E.T (ev (sig ops s0 rs)) o.op) fun l => bif l.cs.all AV.cell then adraw E ops s0 r ((i, l.val M.next) :: rs) K (M.add l.obj) else False
          | _ => False)
        else adraw E ops s0 r ((i, nothing) :: rs) K M
      | none => False
  | .eff i re :: r, rs, K, M =>
    match ops[i]? with
    | none => False
    | some o =>
      match agd ops (sig ops s0 rs) o.guard with
      | some b => bif b then (aoper E (ev (sig ops s0 rs)) o.op M fun v M' => bif re.all (rechk E.T ops s0 M' rs) then adraw E ops s0 r ((i, v) :: rs) K M' else False) else adraw E ops s0 r ((i, nothing) :: rs) K M
      | none => False
/-- fuelled rounds -/
def rounds (B : KK → List AV → Mem → Prop) (K : KK) : Nat → List AV → Mem → Prop
  | 0, _, _ => False
  | n + 1, s, M => B (fun e s' M' => match e with | .normal => rounds B K n s' M' | e => K e s' M') s M
def acode (E : Env) : Code → KK → List AV → Mem → Prop
  | .skip, K, s, M => K .normal s M
  | .seq a b, K, s, M => acode E a (fun e s' M' => match e with | .normal => acode E b K s' M' | e => K e s' M') s M
  | .cond c a b, K, s, M => match ev s c with | .bool t => bif t then acode E a K s M else acode E b K s M | _ => False
  | .block id c, K, s, M => acode E c (fun e s' M' => match e with | .exit j => bif Nat.beq j id then K .normal s' M' else K (.exit j) s' M' | e => K e s' M') s M
  | .exit id, K, s, M => K (.exit id) s M
  | .ret, K, s, M => K .ret s M
  | .loop c, K, s, M => E.L (fun K' s' M' => acode E c K' s' M') K s M
  | .region _ ops draw, K, s, M => bif draw then (match planOf ops with | some p => adraw E ops s p [] (fun s' M' => K .normal s' M') M | none => False) else aops E ops ops.toList (fun s' M' => K .normal s' M') s M
  | _, _, _, _ => False

/-- what a call comes to -/
def Sem (P : Program) (f : FuncId) (args : List AV) (M : Mem) (K : Post) : Prop :=
  (∃ fn, P.funcs[f]? = some fn ∧ fn.body.isSome = true ∧ (fn.name == "runtime.NumGoroutine") = false) ∧
  ∀ (X : Cx) (xs : Array Value), X.M = M → Rl X → VRs X args xs.toList → Calls P f xs X.w fun e w' => ∃ Y r x, e = .returned x ∧ Y.w = w' ∧ K r Y.M ∧ Rl Y ∧ Ev X Y ∧ VR Y r x

/-- a deferred call that does nothing where nothing has gone wrong -/
def Harm (P : Program) (d : Deferred) : Prop := ∃ fv cap f args, d.target = .fn fv cap ∧ (∀ w, (invoke d.target d.args).run P w = .ok (.enter f args) w) ∧
  ∀ w, CallsD P f args .returning w fun e u' w' => (∃ v, e = .returned v) ∧ u' = .returning ∧ Below w.heap.size w w'
structure SR (P : Program) (X : Cx) (s : List AV) (a : Act) : Prop where
  defers : ∀ d ∈ a.defers, Harm P d
  size : s.length = a.tmps.size
  get : ∀ (t : Nat) (v : AV), s[t]? = some v → ∃ x, a.tmps[t]? = some x ∧ VR X v x
theorem SR.ev {P : Program} {X : Cx} {s : List AV} {a : Act} (h : SR P X s a) : ∀ o : Operand, VR X (ev s o) (a.eval o)
  | .const v => avOf_ok X v
  | .global _ => by simp only [Abs.ev, VR]
  | .func f => by simp only [Abs.ev, VR, Act.eval]; exact ⟨#[], #[], rfl, rfl, rfl⟩
  | .tmp t => by
    simp only [Abs.ev, Act.eval]
    cases hs : s[t]? with
    | none => rw [List.getD_eq_getElem?_getD, hs]; simp only [Option.getD_none, VR]
    | some v =>
      obtain ⟨x, hx, hv⟩ := h.get t v hs
      rw [List.getD_eq_getElem?_getD, hs, Array.getD_eq_getD_getElem?, hx]
      exact hv
theorem SR.mono {P : Program} {X Y : Cx} {s : List AV} {a : Act} (h : SR P X s a) (E : Ev0 X Y) (R : Rl X) : SR P Y s a :=
  ⟨h.defers, h.size, fun t v hv => let ⟨x, hx, hr⟩ := h.get t v hv; ⟨x, hx, E.vr R hr⟩⟩
theorem SR.act {P : Program} {X : Cx} {s : List AV} {a a' : Act} (h : SR P X s a) (ht : a'.tmps = a.tmps) (hd : ∀ d ∈ a'.defers, d ∈ a.defers ∨ Harm P d) : SR P X s a' :=
  ⟨fun d hm => (hd d hm).elim (h.defers d) id, by rw [ht]; exact h.size, fun t v hv => by rw [ht]; exact h.get t v hv⟩
theorem SR.put {P : Program} {X : Cx} {s : List AV} {a : Act} (h : SR P X s a) {v : AV} {x : Value} (hv : VR X v x) (d : Option Tmp) : SR P X (aput s d v) (a.put d x) := by
  cases d with
  | none => exact h
  | some d =>
    refine ⟨h.defers, by simp [aput, Act.put, h.size], fun t u hu => ?_⟩
    simp only [aput, List.getElem?_set] at hu
    simp only [Act.put, Array.getElem?_setIfInBounds]
    split at hu
    · rename_i hdt
      subst hdt
      split at hu
      · rename_i hlt
        cases hu
        rw [if_pos rfl, if_pos (by rw [← h.size]; exact hlt)]
        exact ⟨x, rfl, hv⟩
      · cases hu
    · rename_i hne
      rw [if_neg hne]
      exact h.get t u hu
theorem agd_ok {P : Program} {X : Cx} {ops : Array Oper} {s : List AV} {a : Act} (h : SR P X s a) {o : Oper} {b : Bool} (hg : agd ops s o.guard = some b) : Region.wanted o (yielded ops a.tmps) = b := by
  unfold agd at hg
  unfold Region.wanted
  cases ho : o.guard with
  | none => rw [ho] at hg; cases hg; rfl
  | some jw =>
    obtain ⟨j, want⟩ := jw
    rw [ho] at hg
    simp only at hg ⊢
    unfold yielded
    cases hd : (ops[j]?).bind (·.dst) with
    | none => rw [hd] at hg; cases hg; simp
    | some d =>
      rw [hd] at hg
      simp only [Option.bind_some] at hg ⊢
      split at hg
      · rename_i c hc
        cases hg
        obtain ⟨x, hx, hv⟩ := h.get d _ hc
        simp only [VR] at hv
        subst hv
        rw [hx]
        cases c <;> cases want <;> rfl
      · rename_i vs hc
        cases hg
        obtain ⟨x, hx, hv⟩ := h.get d _ hc
        simp only [VR] at hv
        obtain ⟨l, rfl, _⟩ := hv
        rw [hx]
        rfl
      · cases hg
theorem nothing_ok (X : Cx) : VR X nothing Go.undef := by simp only [VR]; exact ⟨#[], rfl, rfl⟩

def ExR : Ex → Exit → Prop
  | .normal, .normal => True
  | .exit i, .exit j => i = j
  | .ret, .ret => True
  | _, _ => False
/-- where code ends -/
def CS (P : Program) (X0 : Cx) (K : KK) (e : Exit) (a : Act) (w : World) : Prop := ∃ ex Y s, ExR ex e ∧ K ex s Y.M ∧ Rl Y ∧ Ev X0 Y ∧ Y.w = w ∧ SR P Y s a

structure EnvOk (P : Program) (E : Env) : Prop where
  H : ∀ g, E.H g = true → ∀ first args cap : Array Value, Harm P { target := .fn (.func g) cap, args := first ++ args }
  T : TabOk P E.T
  C : ∀ f args M K, E.C f args M K → Sem P f args M K
  L : ∀ B K s M, E.L B K s M → ∃ n, rounds B K n s M
section
variable {P : Program} {E : Env} {X0 : Cx}
theorem eff_ok {P : Program} {T : Tab} (hT : TabOk P T) {X : Cx} (R : Rl X) {ρ : Operand → AV} {ρ' : Operand → Value} {o : Oper} {r : AV} {M' : Mem} (h : aeff T ρ X.M o.op = some (r, M')) (hρ : ∀ x ∈ o.op.operands.toList, VR X (ρ x) (ρ' x)) :
    ∃ Y x, Y.M = M' ∧ Rl Y ∧ Ev X Y ∧ VR Y r x ∧ ((execOp ρ' o).run P X.w = .ok (.value x) Y.w ∨ ((execOp ρ' o).run P X.w = .ok .skip Y.w ∧ x = Go.undef)) := by
  obtain ⟨dst, op, ty, pos, after, guard⟩ := o
  dsimp only at h hρ
  unfold aeff at h
  split at h
  case h_1 t ad vl =>
    obtain ⟨M2, hm, hv⟩ := Option.map_eq_some_iff.1 h
    cases hv
    obtain ⟨Y, rfl, R1, E1, h1⟩ := store_ok hT R hm (hρ ad (by simp [Op.operands])) (hρ vl (by simp [Op.operands]))
    exact ⟨Y, Go.undef, rfl, R1, E1, by simp only [VR], .inr ⟨by simp [execOp, h1], rfl⟩⟩
  case h_2 args ts =>
    obtain ⟨args⟩ := args
    try simp only at h
    split at h
    · rename_i _ sx xx
      obtain ⟨Y, v2, rfl, R1, E1, hvr, h1⟩ := append_ok (ty := ty) hT R h (hρ sx (by simp [Op.operands, Call.operands])) (hρ xx (by simp [Op.operands, Call.operands]))
      have hr : ts.toList.toArray = ts := by simp
      rw [hr] at h1
      exact ⟨Y, v2, rfl, R1, E1, hvr, .inl (by simp [execOp, resolve, invoke, builtin, h1])⟩
    · cases h
  case h_3 args ts =>
    obtain ⟨args⟩ := args
    obtain ⟨ts⟩ := ts
    try simp only at h
    split at h
    · rename_i _ _ m k t u
      obtain ⟨M2, hm, hv⟩ := Option.map_eq_some_iff.1 h
      cases hv
      obtain ⟨Y, rfl, R1, E1, h1⟩ := delete_ok (ty := ty) (u := u) hT R hm (hρ m (by simp [Op.operands, Call.operands])) (hρ k (by simp [Op.operands, Call.operands]))
      exact ⟨Y, _, rfl, R1, E1, nothing_ok Y, .inl (by simp [execOp, resolve, invoke, builtin, h1]; rfl)⟩
    · cases h
  case h_4 t =>
    cases h
    obtain ⟨R1, E1⟩ := X.allocM_ok R
    refine ⟨_, .map (some X.w.heap.size), rfl, R1, E1, ?_, .inl (by simp [execOp, Instr.makeMap]; rfl)⟩
    simp only [VR]
    exact ⟨_, rfl, .inr ⟨X.w.heap.size, [], 0, get_add_eq, by simp [Cx.born, Cx.plus], rfl⟩⟩
  case h_5 t m k v =>
    obtain ⟨M2, hm, hv⟩ := Option.map_eq_some_iff.1 h
    cases hv
    obtain ⟨Y, rfl, R1, E1, h1⟩ := mapUpd_ok hT R hm (hρ m (by simp [Op.operands])) (hρ k (by simp [Op.operands])) (hρ v (by simp [Op.operands]))
    exact ⟨Y, Go.undef, rfl, R1, E1, nothing_ok Y, .inr ⟨by simp [execOp, h1], rfl⟩⟩
  case h_6 t m k v =>
    obtain ⟨M2, hm, hv⟩ := Option.map_eq_some_iff.1 h
    cases hv
    obtain ⟨Y, rfl, R1, E1, h1⟩ := mapUpd_ok hT R hm (hρ m (by simp [Op.operands])) (hρ k (by simp [Op.operands])) (hρ v (by simp [Op.operands]))
    exact ⟨Y, Go.undef, rfl, R1, E1, nothing_ok Y, .inr ⟨by simp [execOp, h1], rfl⟩⟩
  case h_7 t m k =>
    obtain ⟨Y, v2, rfl, R1, E1, hvr, h1⟩ := mapEntry_ok hT R h (hρ m (by simp [Op.operands])) (hρ k (by simp [Op.operands]))
    exact ⟨Y, v2, rfl, R1, E1, hvr, .inl (by simp [execOp, h1])⟩
  case h_8 t m b v =>
    obtain ⟨M2, hm, hv⟩ := Option.map_eq_some_iff.1 h
    cases hv
    obtain ⟨Y, rfl, R1, E1, h1⟩ := entryStore_ok (P := P) (t := t) R hm (hρ m (by simp [Op.operands])) (hρ b (by simp [Op.operands])) (hρ v (by simp [Op.operands]))
    exact ⟨Y, Go.undef, rfl, R1, E1, nothing_ok Y, .inr ⟨by simp [execOp, h1], rfl⟩⟩
  case h_9 => cases h
theorem oper_ok' (hE : EnvOk P E) {X : Cx} {ρ : Operand → AV} {a : Act} {o : Oper} {K : Post} {next : Act → World → Prop} {Q : Exit → Act → World → Prop} (h : aoper E ρ o.op X.M K) (R : Rl X) (hρ : ∀ x ∈ o.op.operands.toList, VR X (ρ x) (a.eval x))
    (hn : ∀ (Y : Cx) (v : AV) (x : Value) (a' : Act), a'.tmps = a.tmps → (∀ d ∈ a'.defers, d ∈ a.defers ∨ Harm P d) → K v Y.M → Rl Y → Ev X Y → VR Y v x → next (a'.put o.dst x) Y.w) : o.wp P a X.w next Q := by
  have hn' := hn
  have hn := fun (Y : Cx) v x => hn Y v x a rfl fun d hd => .inl hd
  unfold aoper at h
  unfold Oper.wp
  split at h
  · obtain ⟨v, hv, h⟩ := bindP_some h
    obtain ⟨x, h1, h2⟩ := read_ok hE.T R hv hρ
    rw [h1]
    exact hn X v x h R (Ev.refl X) h2
  · obtain ⟨l, hl, h⟩ := bindP_some h
    · cases hc : l.cs.all AV.cell with
      | false => rw [hc] at h; exact h.elim
      | true =>
        rw [hc] at h
        simp only [cond_true] at h
        obtain ⟨cur, x, h1, h2, h3, h4⟩ := alloc_ok hE.T hl hc hρ
        obtain ⟨R1, E1⟩ := X.alloc_ok R (e := l.e) (sz := l.sz) h3 h4 hc
        rw [h1]
        have hvr : VR ((X.plus (.cells l.e l.sz false l.cs)).born X.M.next (.cells cur l.e)) (l.val X.M.next) x := by
          unfold AL.val
          unfold AL.real at h2
          cases hs : l.sl with
          | true =>
            rw [hs] at h2
            obtain ⟨cap, rfl, h5, h6⟩ := h2
            simp only [cond_true, VR]
            exact .inr ⟨l.e, l.sz, false, l.cs, X.w.heap.size, cap, cur, (0, 0), get_add_eq, rfl, by simp [Cx.born, Cx.plus], rfl, heap_alloc_new' _ _, by omega, h6⟩
          | false =>
            rw [hs] at h2
            simp only [Bool.false_eq_true, if_false] at h2
            subst h2
            simp only [cond_false, VR]
            exact .inr ⟨Mem.len_of get_add_eq, X.w.heap.size, by simp [Cx.born, Cx.plus], rfl⟩
        exact hn _ _ x h R1 E1 hvr
  · obtain ⟨⟨v, M'⟩, hv, h⟩ := bindP_some h
    · obtain ⟨Y, x, rfl, R1, E1, hvr, h1⟩ := eff_ok hE.T R hv hρ
      rcases h1 with h1 | ⟨h1, rfl⟩
      · rw [h1]; exact hn Y v x h R1 E1 hvr
      · rw [h1]; exact hn Y v _ h R1 E1 hvr
  · rename_i c hk
    have hop : o.op = .call c := by
      unfold opk at hk
      split at hk <;> first | (cases hk; done) | skip
      rename_i c' hc'
      split at hk <;> first | (cases hk; done) | (cases hk; exact hc')
    unfold acall at h
    split at h
    · rename_i f hf
      split at h
      · rename_i g first cap hev
        obtain ⟨⟨fn, hfn, hbody, hname⟩, hsem⟩ := hE.C _ _ _ _ h
        have hfv := hρ f (by simp [hop, Op.operands, Call.operands, hf])
        rw [hev] at hfv
        simp only [VR] at hfv
        obtain ⟨p', q', hfe, hp, hq⟩ := hfv
        have hargs : VRs X (first ++ c.args.toList.map ρ ++ cap) (p' ++ c.args.map a.eval ++ q').toList := by
          simp only [Array.toList_append, Array.toList_map]
          exact (hp.append (VRs_map fun x hx => hρ x (by simp [hop, Op.operands, Call.operands]; exact .inr (by simpa using hx)))).append hq
        have hr : (execOp a.eval o).run P X.w = .ok (.enter g (p' ++ c.args.map a.eval ++ q')) X.w := by
          have hb : ¬ fn.body = none := fun e => by rw [e] at hbody; cases hbody
          have hname' : ¬ fn.name = "runtime.NumGoroutine" := by simpa using hname
          simp [execOp, hop, resolve, hf, hfe, Deferred.ofValue, invoke, callFunc, hfn, hname', hb]
        rw [hr]
        refine (hsem X _ rfl R hargs).mono fun e w' ⟨Y, r, x, he, hw, hK, R1, E1, hv⟩ => ?_
        subst he hw
        exact hn Y r x hK R1 E1 hv
      · exact h.elim
    · exact h.elim
  · rename_i c hk
    have hop : o.op = .defer c := by
      unfold opk at hk
      split at hk <;> first | (cases hk; done) | skip
      · rename_i c' hc'; cases hk; exact hc'
      · split at hk <;> cases hk
    unfold adefer at h
    split at h
    · rename_i f hf
      split at h
      · rename_i g first cap hev
        cases hH : E.H g with
        | false => rw [hH] at h; exact h.elim
        | true =>
          rw [hH] at h
          have hfv := hρ f (by simp [hop, Op.operands, Call.operands, hf])
          rw [hev] at hfv
          simp only [VR] at hfv
          obtain ⟨p', q', hfe, hp, hq⟩ := hfv
          have hr : (execOp a.eval o).run P X.w = .ok (.defer { target := .fn (.func g) q', args := p' ++ c.args.map a.eval }) X.w := by
            simp [execOp, hop, resolve, hf, hfe, Deferred.ofValue]
          rw [hr]
          exact hn' X nothing Go.undef { a with defers := { target := .fn (.func g) q', args := p' ++ c.args.map a.eval } :: a.defers } rfl (fun d hd => by
            rcases List.mem_cons.1 hd with rfl | hd
            · exact .inr (hE.H g hH _ _ _)
            · exact .inl hd) h R (Ev.refl X) (nothing_ok X)
      · exact h.elim
    · exact h.elim
  · exact h.elim
theorem oper_ok (hE : EnvOk P E) (R0 : Rl X0) {X : Cx} {s : List AV} {a : Act} {o : Oper} {K : Post} {next : Act → World → Prop} {Q : Exit → Act → World → Prop} (h : aoper E (ev s) o.op X.M K) (R : Rl X) (E0 : Ev X0 X) (S : SR P X s a)
    (hn : ∀ (Y : Cx) (v : AV) (x : Value) (a' : Act), K v Y.M → Rl Y → Ev X0 Y → SR P Y (aput s o.dst v) (a'.put o.dst x) → next (a'.put o.dst x) Y.w) : o.wp P a X.w next Q :=
  oper_ok' hE h R (fun x _ => S.ev x) fun Y v x a' ht hd hK R1 E1 hv => hn Y v x a' hK R1 (E0.trans E1 R0) (((S.mono E1.toEv0 R).act ht hd).put hv _)
theorem aops_ok (hE : EnvOk P E) (R0 : Rl X0) {ops : Array Oper} {K : KK} : ∀ (l : List Oper) {X : Cx} {s : List AV} {a : Act}, aops E ops l (fun s' M' => K .normal s' M') s X.M → Rl X → Ev X0 X → SR P X s a → wpList P ops (CS P X0 K) l a X.w
  | [], X, s, a, h, R, E0, S => ⟨.normal, X, s, trivial, h, R, E0, rfl, S⟩
  | o :: r, X, s, a, h, R, E0, S => by
    simp only [aops] at h
    unfold wpList
    rcases agd_split h with ⟨hg, h⟩ | ⟨hg, h⟩
    · rw [if_pos (agd_ok S hg)]
      exact .inl (oper_ok hE R0 h R E0 S fun Y v x a' hK R1 E1 S1 => aops_ok hE R0 r hK R1 E1 S1)
    · rw [if_neg (by rw [agd_ok S hg]; decide)]
      exact aops_ok hE R0 r h R E0 (S.put (nothing_ok X) _)
theorem CS.mono {K K' : KK} {e : Exit} {a : Act} {w : World} (h : CS P X0 K e a w) (hk : ∀ e s M, K e s M → K' e s M) : CS P X0 K' e a w := by
  obtain ⟨ex, Y, s, h1, h2, h3⟩ := h
  exact ⟨ex, Y, s, h1, hk _ _ _ h2, h3⟩
end
end Go.Abs
