/- The abstract machine, with each value worked out before it is laid down: for proofs that step through code. -/
import Derived.Test.YtbpnjpacioibnaaAbsSym
set_option linter.unusedVariables false
set_option linter.unusedSimpArgs false
namespace Go.Abs
open Go Go.RowKit
def forceV (v : AV) (K : AV → Prop) : Prop :=
  match v with
  | .undef => K .undef
  | .bool b => K (.bool b)
  | .int k n => K (.int k n)
  | .str s => K (.str s)
  | .nilS => K .nilS
  | .row cs n => K (.row cs n)
  | .ref i g o n => K (.ref i g o n)
  | .own e z cs n => K (.own e z cs n)
  | .nilP => K .nilP
  | .ptr i g o => K (.ptr i g o)
  | .rptr cs => K (.rptr cs)
  | .agg cs => K (.agg cs)
  | .tup vs => K (.tup vs)
  | .func f p q => K (.func f p q)
  | .nilF => K .nilF
  | .nilM => K .nilM
  | .map i => K (.map i)
  | .nilI => K .nilI
  | .iface t v => K (.iface t v)
  | .iter i => K (.iter i)
theorem forceV_eq (v : AV) (K : AV → Prop) : forceV v K = K v := by cases v <;> rfl
def forceL : List AV → (List AV → Prop) → Prop
  | [], K => K []
  | x :: l, K => forceL l fun l' => K (x :: l')
theorem forceL_eq : ∀ (l : List AV) (K : List AV → Prop), forceL l K = K l
  | [], K => rfl
  | x :: l, K => by simp only [forceL, forceL_eq l]
def aopsS (E : Env) (ops : Array Oper) : List Oper → (List AV → Mem → Prop) → List AV → Mem → Prop
  | [], K, s, M => K s M
  | o :: r, K, s, M =>
    match agd ops s o.guard with
    | some b => bif b then (aoper E (ev s) o.op M fun v M' => forceV v fun v' => forceL (aput s o.dst v') fun s' => aopsS E ops r K s' M') else forceL (aput s o.dst nothing) fun s' => aopsS E ops r K s' M
    | none => False
def adrawS (E : Env) (ops : Array Oper) (s0 : List AV) : List PStep → RS → (List AV → Mem → Prop) → Mem → Prop
  | [], rs, K, M => forceL (sig ops s0 rs) fun s => K s M
  | .op i :: r, rs, K, M =>
    match ops[i]? with
    | none => False
    | some o =>
      match agd ops (sig ops s0 rs) o.guard with
      | some b => bif b then
          (match opk o.op with
          | .read => bindP (aread E.T (ev (sig ops s0 rs)) M o.op) fun v => forceV v fun v => adrawS E ops s0 r ((i, v) :: rs) K M
          | .alloc => bindP (aalloc E.T (ev (sig ops s0 rs)) o.op) fun l => bif l.cs.all AV.cell then forceV (l.val M.next) fun v => adrawS E ops s0 r ((i, v) :: rs) K (M.add l.obj) else False
          | _ => False)
        else adrawS E ops s0 r ((i, nothing) :: rs) K M
      | none => False
  | .eff i re :: r, rs, K, M =>
    match ops[i]? with
    | none => False
    | some o =>
      match agd ops (sig ops s0 rs) o.guard with
      | some b => bif b then (aoper E (ev (sig ops s0 rs)) o.op M fun v M' => bif re.all (rechk E.T ops s0 M' rs) then forceV v fun v => adrawS E ops s0 r ((i, v) :: rs) K M' else False) else adrawS E ops s0 r ((i, nothing) :: rs) K M
      | none => False
def acodeS (pl : Array Oper → Option (List PStep)) (E : Env) : Code → KK → List AV → Mem → Prop
  | .skip, K, s, M => K .normal s M
  | .seq a b, K, s, M => acodeS pl E a (fun e s' M' => match e with | .normal => acodeS pl E b K s' M' | e => K e s' M') s M
  | .cond c a b, K, s, M => match ev s c with | .bool t => bif t then acodeS pl E a K s M else acodeS pl E b K s M | _ => False
  | .block id c, K, s, M => acodeS pl E c (fun e s' M' => match e with | .exit j => bif Nat.beq j id then K .normal s' M' else K (.exit j) s' M' | e => K e s' M') s M
  | .exit id, K, s, M => K (.exit id) s M
  | .ret, K, s, M => K .ret s M
  | .loop c, K, s, M => E.L (fun K' s' M' => acode E c K' s' M') K s M
  | .region _ ops draw, K, s, M => bif draw then (bindP (pl ops) fun p => adrawS E ops s p [] (fun s' M' => K .normal s' M') M) else aopsS E ops ops.toList (fun s' M' => K .normal s' M') s M
  | _, _, _, _ => False
theorem aopsS_eq (E : Env) (ops : Array Oper) : ∀ (l : List Oper) (K : List AV → Mem → Prop) (s : List AV) (M : Mem), aopsS E ops l K s M = aops E ops l K s M
  | [], K, s, M => rfl
  | o :: r, K, s, M => by simp only [aopsS, aops, forceV_eq, forceL_eq, aopsS_eq E ops r]; rfl
theorem adrawS_eq (E : Env) (ops : Array Oper) (s0 : List AV) : ∀ (l : List PStep) (rs : RS) (K : List AV → Mem → Prop) (M : Mem), adrawS E ops s0 l rs K M = adraw E ops s0 l rs K M
  | [], rs, K, M => by simp only [adrawS, adraw, forceL_eq]
  | .op i :: r, rs, K, M => by simp only [adrawS, adraw, forceV_eq, adrawS_eq E ops s0 r]; rfl
  | .eff i re :: r, rs, K, M => by simp only [adrawS, adraw, forceV_eq, adrawS_eq E ops s0 r]; rfl
theorem acodeS_eq {pl : Array Oper → Option (List PStep)} (hp : ∀ ops, pl ops = planOf ops) (E : Env) (c : Code) : ∀ (K : KK) (s : List AV) (M : Mem), acodeS pl E c K s M = acode E c K s M := by
  induction c with
  | skip => intros; rfl
  | seq a b iha ihb => intro K s M; simp only [acodeS, acode, iha, ihb]; first | done | rfl
  | cond c a b iha ihb => intro K s M; simp only [acodeS, acode, iha, ihb]; first | done | rfl
  | block id c ih => intro K s M; simp only [acodeS, acode, ih]; first | done | rfl
  | exit id => intros; rfl
  | ret => intros; rfl
  | loop c ih => intros; rfl
  | region id ops draw => intro K s M; simp only [acodeS, acode, aopsS_eq, adrawS_eq, hp]; cases draw <;> simp only [cond_true, cond_false] <;> (cases planOf ops <;> rfl)
  | rangeFunc => intros; rfl
  | scope => intros; rfl
  | label => intros; rfl
  | goto => intros; rfl
  | refuse => intros; rfl
theorem bif_i {b : Bool} {A B : Prop} (h1 : b = true → A) (h2 : b = false → B) : bif b then A else B := by cases b; exact h2 rfl; exact h1 rfl
theorem bif_s {α : Type} {b : Bool} (h : b = true) (x : α) : (bif b then some x else none) = some x := by rw [h]; rfl
theorem bif_t {b : Bool} {A : Prop} (h : b = true) (k : A) : bif b then A else False := by rw [h]; exact k
theorem beqA_row {cs ds : List AV} {m n : Nat} : beqA (.row cs m) (.row ds n) = (beqAs cs ds && Nat.beq m n) := rfl
theorem beqA_agg {cs ds : List AV} : beqA (.agg cs) (.agg ds) = beqAs cs ds := rfl
theorem beqA_int {k j : IntKind} {a b : Int} : beqA (.int k a) (.int j b) = (decide (k = j) && decide (a = b)) := rfl
theorem beqA_bool {a b : Bool} : beqA (.bool a) (.bool b) = (a == b) := rfl
theorem beqAs_cons {a b : AV} {l m : List AV} : beqAs (a :: l) (b :: m) = (beqA a b && beqAs l m) := rfl
theorem beqAs_map {α : Type} {f : α → AV} (h : ∀ x, beqA (f x) (f x) = true) : ∀ l : List α, beqAs (l.map f) (l.map f) = true
  | [] => rfl
  | x :: l => by simp only [List.map_cons, beqAs_cons, h, beqAs_map h l, Bool.and_self]
/-- what a step through code may use: calls by what they come to, loops by an invariant, the plan of a region whose order is drawn -/
structure Stp (P : Program) (T : Tab) (H : FuncId → Bool) (C : Caller) (L : (KK → List AV → Mem → Prop) → KK → List AV → Mem → Prop) (pl : Array Oper → Option (List PStep)) : Prop where
  plan : ∀ ops, pl ops = planOf ops
  call : ∀ {f args M K}, Sem P f args M K → C f args M K
  loop : ∀ {c : Code} {K : KK} {ι : Type} (I : ι → List AV → Mem → Prop) (m : ι → Nat) {i : ι} {s : List AV} {M : Mem}, I i s M →
    (∀ i s M, I i s M → acodeS pl ⟨T, C, H, L⟩ c (fun e s' M' => match e with | .normal => ∃ j, m j < m i ∧ I j s' M' | e => K e s' M') s M) →
    L (fun K' s' M' => acode ⟨T, C, H, L⟩ c K' s' M') K s M
theorem stp_ok {P : Program} {T : Tab} {H : FuncId → Bool} : Stp P T H (Sem P) symL planOf :=
  ⟨fun _ => rfl, fun h => h, fun {c K ι} I m {i s M} h0 step => loop_inv I m h0 fun i s M h => by have := step i s M h; rw [acodeS_eq fun _ => rfl] at this; exact this⟩
/-- the start of a function's proof -/
theorem sem_start {P : Program} {T : Tab} {H : FuncId → Bool} (hT : TabOk P T) (hH : HarmOk P H) (hmix : P.follows .mixedOrders = true) {f : FuncId} {fn : Func} {c : Code} (hf : P.funcs[f]? = some fn) (hb : fn.body = some c) (hname : (fn.name == "runtime.NumGoroutine") = false) {args : List AV} {M : Mem} {K : Post}
    (h : ∀ C L pl, Stp P T H C L pl → forceL (args ++ List.replicate (fn.ntmps - args.length) nothing) fun s => acodeS pl ⟨T, C, H, L⟩ c (aend ⟨T, C, H, L⟩ keepAll fn.results.toList M.next K) s M) : Sem P f args M K := by
  have h' := h (Sem P) symL planOf stp_ok
  rw [forceL_eq, acodeS_eq fun _ => rfl] at h'
  exact sem_of (symE_ok hT hH) hmix keepAll_ok hf hb hname h'
end Go.Abs
