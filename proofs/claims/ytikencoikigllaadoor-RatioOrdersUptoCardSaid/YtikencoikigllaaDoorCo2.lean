/- Part 2 of what the card rests on. -/
import Derived.Deep.RegionWith
import Derived.Test.YtikencoikigllaaDoorCo1
set_option maxHeartbeats 8000000
set_option maxRecDepth 100000
set_option linter.unusedVariables false
set_option linter.unusedSimpArgs false
namespace Go.Proofs.YtikencoikigllaaDoor.PRa
open Go.RowKit Go.Proofs.YtikencoikigllaaDoorW.PrintWords Go.Proofs.YtikencoikigllaaDoorW.PrintLast Go.Proofs.YtikencoikigllaaDoorW.PrintMore
open Go.Proofs.YtikencoikigllaaDoor.Mine
attribute [local go_sem] max2_int min2_int max_two min_two max_three min_three max_four min_four
def ratio_number_times.f (k : Nat) (a0_0 : Bool) (l0_1 : List Int) (a1_0 : Bool) (l1_1 : List Int) : Option (Bool × List Int) := (whole_Mul.f k a0_0 l0_1 a1_0 l1_1).bind fun bt1009 => (some (bt1009.1, bt1009.2.1))
theorem ratio_number_times.mono : ∀ a0 a1 a2 a3 k, LeO (ratio_number_times.f k a0 a1 a2 a3) (ratio_number_times.f (k + 1) a0 a1 a2 a3) := by
 intro a0 a1 a2 a3 k
 unfold ratio_number_times.f
 repeat' first
   | (with_reducible exact whole_Mul.mono _ _ _ _ _)
   | (with_reducible exact LeO.refl _)
   | (with_reducible exact LeO.none _)
   | (with_reducible refine LeO.ite ?_ ?_)
   | (with_reducible refine LeO.bind ?_ (fun _ => ?_))
   | exact whole_Mul.mono _ _ _ _ _
   | exact LeO.none _
   | refine LeO.ite ?_ ?_
   | refine LeO.bind ?_ (fun _ => ?_)
theorem ratio_number_times.calls (k : Nat) (a0_0 : Bool) (A0_1 : Option Addr) (c0_1 : Nat) (l0_1 : List Int) (a1_0 : Bool) (A1_1 : Option Addr) (c1_1 : Nat) (l1_1 : List Int) (r1 : Bool) (r2 : List Int) (w : World) (hr0_1 : Kd.C (Kd.int .u64) w A0_1 l0_1.length l0_1) (hc0_1 : l0_1.length ≤ c0_1) (hr1_1 : Kd.C (Kd.int .u64) w A1_1 l1_1.length l1_1) (hc1_1 : l1_1.length ≤ c1_1) (h : ratio_number_times.f k a0_0 l0_1 a1_0 l1_1 = some (r1, r2)) :
  Calls Tryd.prog 53 #[.agg #[.bool a0_0, .slice A0_1 l0_1.length c0_1], .agg #[.bool a1_0, .slice A1_1 l1_1.length c1_1]] w fun e w' => ∃ v1_ : Value, e = .returned (.agg #[.bool r1, v1_]) ∧ Kd.R (Kd.int .u64) 36 w' w.heap.size (fun _ => True) v1_ r2 ∧ Below w.heap.size w w' := by
 have hu25 := Tryd.underlying25
 have hu87 := Tryd.underlying87
 have K := Kp.refl w
 replace K := K.parV (Kd.V_mono (ok' := fun _ => True) (Kd.V_mk (e := 36) (base := 0) hc0_1 (Kd.C_F (Kd.heap_int .u64) hr0_1)) (fun _ h => trivial))
 clear hr0_1 hc0_1
 replace K := K.parV (Kd.V_mono (ok' := fun _ => True) (Kd.V_mk (e := 36) (base := 0) hc1_1 (Kd.C_F (Kd.heap_int .u64) hr1_1)) (fun _ h => trivial))
 clear hr1_1 hc1_1
 try simp only [klv] at K
 rw [ratio_number_times.f] at h
 replace h := bindA h
 obtain ⟨⟨z7, x8, n9⟩, A10, h⟩ := h
 dsimp only at h
 simp only [Option.some.injEq, Prod.mk.injEq] at h
 obtain ⟨rfl, rfl⟩ := h
 go_enter Tryd.func53, Tryd.ntmps53
 go_wp2_with (first | (refine gd 2 rfl ?_; refine kbk 2 #[.bool a0_0, .slice A0_1 l0_1.length c0_1] 87 K.u ?_; clear K; intro g1 W2 K) | (refine gd 3 rfl ?_; refine kbk 3 #[.bool a1_0, .slice A1_1 l1_1.length c1_1] 87 K.u ?_; clear K; intro g3 W4 K) | (refine gd 4 rfl ?_; refine kbk 4 #[.bool false, .slice none 0 0] 87 K.u ?_; clear K; intro g5 W6 K; obtain ⟨ua0, ub0⟩ := K.cell2 0 rfl; obtain ⟨ua1, ub1⟩ := K.cell2 1 rfl) | (refine gd 12 rfl ?_; clear ua0 ub0 ua1 ub1; refine kgl (some 12) rfl rfl Tryd.func10 #[.agg #[.bool a0_0, .slice A0_1 l0_1.length c0_1], .agg #[.bool a1_0, .slice A1_1 l1_1.length c1_1]] rfl ?_; refine (whole_Mul.calls _ a0_0 _ _ l0_1 a1_0 _ _ l1_1 z7 x8 n9 _ (K.C 0 rfl) (K.le 0 rfl) (K.C 1 rfl) (K.le 1 rfl) A10.out).mono ?_; rintro e W13 ⟨v11, rfl, ho12, hb⟩; refine ⟨_, rfl, ?_⟩; replace K := K.u.addRE hb ho12; clear hb ho12; obtain ⟨P14, c15, e16⟩ := K.slice 2 rfl; subst e16) | (refine gd 5 rfl ?_; refine kbk 5 #[.bool false, .slice none 0 0] 25 K.u ?_; clear K; intro g17 W18 K) | (refine gs 25 5 13 rfl ?_; refine ks2 3 (.bool z7) (.slice P14 x8.length c15) K.u rfl ?_; clear K; intro W19 K; simp only [kls, klv] at K; obtain ⟨ua3, ub3⟩ := K.cell2 3 rfl) | (refine gs 87 4 16 rfl ?_; clear ua3 ub3; refine ks2 2 (.bool z7) (.slice P14 x8.length c15) K.u rfl ?_; clear K; intro W21 K; simp only [kls, klv] at K))
 refine bodyPost_ret (results_single rfl (.cell g5 87 #[.bool z7, .slice P14 x8.length c15] (0, 0) _ rfl (K.u.heap 2 rfl) Tryd.underlying87 rfl (by kernel_rfl) .nil)) rfl ?_
 exact ⟨_, rfl, K.u.R 0 rfl, K.u.below⟩
end Go.Proofs.YtikencoikigllaaDoor.PRa
namespace Go.Proofs.YtikencoikigllaaDoor.Mine
open Go Go.RowKit Go.Proofs.YtikencoikigllaaDoorW.PrintWords Go.Proofs.YtikencoikigllaaDoorW.PrintLast Go.Proofs.YtikencoikigllaaDoorW.PrintMore
def noneIf (c : Prop) [Decidable c] {α : Type} (x : Option α) : Option α := if c then none else x
theorem noneIf_some {c : Prop} [Decidable c] {α : Type} {x : Option α} {r : α} (h : noneIf c x = some r) : ¬ c ∧ x = some r := by
 unfold noneIf at h
 split at h
 ·cases h
 rename_i hc
 exact ⟨hc, h⟩
theorem noneIf_ok {c : Prop} [Decidable c] {α : Type} (x : Option α) (h : ¬ c) : noneIf c x = x := if_neg h
namespace Kp
variable {w W W' : World} {bs : List Bx} {vs vs' os os' l : List KV}
theorem moreIO {α : Type} {kd : Kd α} {e base : Nat} {v : Value} {xs : List α} {ok : Nat → Prop} (i : Nat) (okn : Nat → Prop) (K : Kp w bs vs' os' W) (K2 : Kp w bs (vs ++ l) os W') (ho : Kd.V kd e W' base (fun k => ok k ∨ W.heap.size ≤ k) v xs) (hok : ∀ k, ok k → KOk w.heap.size bs okn k) : Kp w bs (vs ++ l.insertIdx i ⟨kd, e, v, xs, okn⟩) os W' := by
 refine ⟨K2.below, K2.blk, K2.nod, fun x hx => ?_, K2.own, K2.sep⟩
 rcases mem_appI hx with rfl | hx
 ·exact Kd.V_lower (Kd.V_mono ho fun k hk => hk.elim (hok k) fun h => K.out h okn) (Nat.zero_le _)
 exact K2.val x hx
end Kp
end Go.Proofs.YtikencoikigllaaDoor.Mine
namespace Go.Proofs.YtikencoikigllaaDoor.PRa
open Go Go.RowKit Go.Proofs.YtikencoikigllaaDoorW.PrintWords Go.Proofs.YtikencoikigllaaDoorW.PrintLast Go.Proofs.YtikencoikigllaaDoorW.PrintMore Go.Proofs.YtikencoikigllaaDoor.Mine
inductive Cells25 (W : World) : List Value → List S25 → Prop
 | nil : Cells25 W [] []
 | cons {b : Bool} {A : Option Addr} {c : Nat} {l : List Int} {rest : List Value} {xs : List S25} (hl : l.length ≤ c) (hC : Kd.C (Kd.int .u64) W A l.length l) (h : Cells25 W rest xs) : Cells25 W (.bool b :: .slice A l.length c :: rest) (⟨b, l⟩ :: xs)
theorem Cells25.get {W : World} {l : List Value} {xs : List S25} (h : Cells25 W l xs) : ∀ (i : Nat) (x : S25), xs[i]? = some x → ∃ A c, l[i * 2]? = some (.bool x.f0) ∧ l[i * 2 + 1]? = some (.slice A x.f1.length c) ∧ x.f1.length ≤ c ∧ Kd.C (Kd.int .u64) W A x.f1.length x.f1 := by
 induction h with
 | nil => intro i x hx; simp at hx
 | @cons b A c m rest xs hl hC h ih =>
  intro i x hx
  cases i with
  | zero =>
   have : x = ⟨b, m⟩ := by simpa using hx.symm
   subst this
   exact ⟨A, c, rfl, rfl, hl, hC⟩
  | succ i =>
   obtain ⟨A', c', h1, h2, h3, h4⟩ := ih i x (by simpa using hx)
   refine ⟨A', c', ?_, ?_, h3, h4⟩
   ·rw [show (i + 1) * 2 = i * 2 + 1 + 1 from by omega]; simpa using h1
   rw [show (i + 1) * 2 + 1 = i * 2 + 1 + 1 + 1 from by omega]; simpa using h2
theorem C25 {W : World} {g : Nat} {t : TypeId} {cs : List Value} {xs : List S25} (h : W.heap[g]? = some (.cells cs.toArray t (0, 0))) (hx : Cells25 W cs xs) (hm : xs.length ≤ 9223372036854775807 := by exact Nat.le_of_ble_eq_true rfl) : Kd.C k25 W (some ⟨g, 0, none⟩) xs.length xs := by
 refine ⟨rfl, hm, fun _ => ⟨⟨g, 0, none⟩, rfl, fun j q hj => ?_⟩⟩
 obtain ⟨A, c, h1, h2, h3, h4⟩ := hx.get j q hj
 refine ⟨_, rfl, k25_mk W q h3 h4, fun i u hi => ?_⟩
 have hz : (Addr.add ⟨g, 0, none⟩ (j * k25.sz + i)) = ⟨g, j * 2 + i, none⟩ := by
  show (Addr.add ⟨g, 0, none⟩ (j * 2 + i)) = _
  unfold Addr.add
  split <;> simp_all
 rw [hz]
 refine (blk_cell h _).trans ?_
 match i, hi with
 | 0, hi =>
  have : Value.bool q.f0 = u := by simpa using hi
  subst this
  simpa using h1
 | 1, hi =>
  have : Value.slice A q.f1.length c = u := by simpa using hi
  subst this
  simpa using h2
end Go.Proofs.YtikencoikigllaaDoor.PRa
namespace Go.Proofs.YtikencoikigllaaDoor.PRa
open Go Go.RowKit Go.Proofs.YtikencoikigllaaDoorW.PrintWords Go.Proofs.YtikencoikigllaaDoorW.PrintLast Go.Proofs.YtikencoikigllaaDoorW.PrintMore Go.Proofs.YtikencoikigllaaDoor.Mine
section
variable {P : Program} {ops : Array Oper} {Q : Exit → Act → World → Prop}
theorem kbls {rest : List Oper} {o : Oper} {a : Act} {W : World} (cs : Array Value) (t : TypeId) (n : Nat)
  (h : ∀ g, g = W.heap.size → ∀ w1, w1.heap[g]? = some (.cells cs t (0, 0)) → Below W.heap.size W w1 → wpList P ops Q rest (a.put o.dst (.slice (some ⟨g, 0, none⟩) n n)) w1)
  (hgd : o.guard = none := by rfl) (hrun : (execOp a.eval o).run P W = .ok (.value (.slice (some ⟨W.heap.size, 0, none⟩) n n)) (W.alloc (.cells cs t (0, 0))) := by first | (go_simp; done) | (go_simp; rfl)) : wpList P ops Q (o :: rest) a W :=
 Kd.event_run hgd hrun (h _ rfl _ (blk_new W _) (below_alloc (Below.refl _ _) _))
end
end Go.Proofs.YtikencoikigllaaDoor.PRa
namespace Go.Proofs.YtikencoikigllaaDoor.PRa
open Go Go.RowKit Go.Proofs.YtikencoikigllaaDoorW.PrintWords Go.Proofs.YtikencoikigllaaDoorW.PrintLast Go.Proofs.YtikencoikigllaaDoorW.PrintMore Go.Proofs.YtikencoikigllaaDoor.Mine
theorem add0 (g i : Nat) : (Addr.add ⟨g, 0, none⟩ i) = ⟨g, i, none⟩ := by
 unfold Addr.add
 split <;> simp_all
theorem C41two {W : World} {g : Nat} {t : TypeId} {s u : Bool} {A B C D : Option Addr} {cA cB cC cD : Nat} {l p x y : List Int} (h : W.heap[g]? = some (.cells #[.bool s, .slice A l.length cA, .slice B p.length cB, .bool u, .slice C x.length cC, .slice D y.length cD] t (0, 0)))
  (lA : l.length ≤ cA) (hA : Kd.C (Kd.int .u64) W A l.length l) (lB : p.length ≤ cB) (hB : Kd.C (Kd.int .u64) W B p.length p) (lC : x.length ≤ cC) (hC : Kd.C (Kd.int .u64) W C x.length x) (lD : y.length ≤ cD) (hD : Kd.C (Kd.int .u64) W D y.length y) : Kd.C k41 W (some ⟨g, 0, none⟩) 2 [⟨⟨s, l⟩, p⟩, ⟨⟨u, x⟩, y⟩] := by
 refine ⟨rfl, by decide, fun _ => ⟨⟨g, 0, none⟩, rfl, fun j q hj => ?_⟩⟩
 match j, hj with
 | 0, hj =>
  obtain rfl : (⟨⟨s, l⟩, p⟩ : S41) = q := by simpa using hj
  refine ⟨_, rfl, k41_mk W _ lA hA lB hB, fun i z hi => ?_⟩
  rw [add0]
  refine (blk_cell h _).trans ?_
  show _ = some z
  match i, hi with
  | 0, hi => simpa using hi
  | 1, hi => simpa using hi
  | 2, hi => simpa using hi
  | i + 3, hi => simp at hi
 | 1, hj =>
  obtain rfl : (⟨⟨u, x⟩, y⟩ : S41) = q := by simpa using hj
  refine ⟨_, rfl, k41_mk W _ lC hC lD hD, fun i z hi => ?_⟩
  rw [add0]
  refine (blk_cell h _).trans ?_
  match i, hi with
  | 0, hi => exact hi
  | 1, hi => exact hi
  | 2, hi => exact hi
  | i + 3, hi => simp at hi
 | j + 2, hj => simp at hj
theorem Kd.F_to {α : Type} {d : Kd α} {W W' : World} {e base : Nat} {ok : Nat → Prop} {A : Option Addr} {c : Nat} {xs : List α} (h : Kd.V d e W base ok (.slice A xs.length c) xs) (hW : ∀ k, ok k → k < W.heap.size → W'.heap[k]? = W.heap[k]?) : Kd.C d W' A xs.length xs := (Kd.V_at h).2.2 W' hW
theorem argTwo {w W : World} {bs : List Bx} {vs os : List KV} (n : Nat) {g : Nat} {t : TypeId} {s u : Bool} {A B C D : Option Addr} {cA cB cC cD : Nat} {l p x y : List Int} {oA oB oC oD : Nat → Prop} {b1 b2 b3 b4 e1 e2 e3 e4 : Nat} (K : Kp w bs vs os W) (hn : bs[n]? = some (g, #[.bool s, .slice A l.length cA, .slice B p.length cB, .bool u, .slice C x.length cC, .slice D y.length cD], t))
  (hA : Kd.V (Kd.int .u64) e1 W b1 (KOk w.heap.size bs oA) (.slice A l.length cA) l) (hB : Kd.V (Kd.int .u64) e2 W b2 (KOk w.heap.size bs oB) (.slice B p.length cB) p) (hC : Kd.V (Kd.int .u64) e3 W b3 (KOk w.heap.size bs oC) (.slice C x.length cC) x) (hD : Kd.V (Kd.int .u64) e4 W b4 (KOk w.heap.size bs oD) (.slice D y.length cD) y) :
  Kd.V k41 41 W W.heap.size (fun k => KOk w.heap.size bs (fun _ => True) k ∨ k = g) (.slice (some ⟨g, 0, none⟩) ([⟨⟨s, l⟩, p⟩, ⟨⟨u, x⟩, y⟩] : List S41).length 2) [⟨⟨s, l⟩, p⟩, ⟨⟨u, x⟩, y⟩] :=
 Kd.V_mk (Nat.le_refl _) fun W' hW => C41two ((hW g (.inr rfl) (blk_lt (K.heap n hn))).trans (K.heap n hn)) (Kd.V_at hA).2.1 (Kd.F_to hA fun k hk hl => hW k (.inl hk.t) hl) (Kd.V_at hB).2.1 (Kd.F_to hB fun k hk hl => hW k (.inl hk.t) hl) (Kd.V_at hC).2.1 (Kd.F_to hC fun k hk hl => hW k (.inl hk.t) hl) (Kd.V_at hD).2.1 (Kd.F_to hD fun k hk hl => hW k (.inl hk.t) hl)
theorem len_two {α : Type} {l : List α} (h : l.length = 2) : ∃ x y, l = [x, y] := by
 match l, h with
 | [x, y], _ => exact ⟨x, y, rfl⟩
theorem rdF0 (x y : S89) : rd_T89 [x, y] 0 = x := rfl
theorem rdF1 (x y : S89) : rd_T89 [x, y] 1 = y := rfl
theorem boxG {w W W' : World} {bs : List Bx} {vs os : List KV} {g : Nat} {cs : Array Value} {t : TypeId} (K : Kp w bs vs os W) (hg : W.heap.size ≤ g) (hx : W'.heap[g]? = some (.cells cs t (0, 0))) (hb : Below W.heap.size W W') : Kp w (bs ++ [(g, cs, t)]) vs os W' := by
 have K' := K.up hb
 refine ⟨K'.below, fun b h => ?_, ?_, fun v h => ?_, fun v h => ?_, K.sep⟩
 ·rcases List.mem_append.1 h with h | h
  ·exact K'.blk b h
  obtain rfl := List.mem_singleton.1 h
  exact ⟨Nat.le_trans (below_size K.below) hg, hx⟩
 ·rw [List.map_append, List.nodup_append]
  refine ⟨K.nod, by simp, fun a ha b hb' => ?_⟩
  obtain rfl : b = g := by simpa using hb'
  obtain ⟨c, hc, rfl⟩ := List.mem_map.1 ha
  have := blk_lt (K.blk c hc).2
  omega
 ·refine Kd.V_mono (Kd.V_below (Kd.V_elderB (K.val v h) g hg) hb) fun k hk => ⟨hk.1.1, fun b hbm => ?_⟩
  rcases List.mem_append.1 hbm with hm | hm
  ·exact hk.1.2 b hm
  obtain rfl := List.mem_singleton.1 hm
  exact hk.2
 refine Kd.R_mono (Kd.R_below (Kd.R_elderB (K.own v h) g hg) hb) fun k hk b hbm => ?_
 rcases List.mem_append.1 hbm with hm | hm
 ·exact hk.1 b hm
 obtain rfl := List.mem_singleton.1 hm
 exact hk.2
theorem addKV {w W : World} {bs : List Bx} {vs os : List KV} {α : Type} {kd : Kd α} {e base : Nat} {v : Value} {xs : List α} {okn : Nat → Prop} (K : Kp w bs vs os W) (h : Kd.V kd e W base (KOk w.heap.size bs okn) v xs) : Kp w bs (vs ++ [⟨kd, e, v, xs, okn⟩]) os W :=
 ⟨K.below, K.blk, K.nod, fun x hx => by
  rcases List.mem_append.1 hx with hx | hx
  ·exact K.val x hx
  obtain rfl := List.mem_singleton.1 hx
  exact Kd.V_lower h (Nat.zero_le _), K.own, K.sep⟩
theorem drop_at {α : Type} {l : List α} {n : Nat} {a : α} (h : l[n]? = some a) : l.drop n = a :: l.drop (n + 1) := by
 obtain ⟨h1, rfl⟩ := List.getElem?_eq_some_iff.1 h
 exact List.drop_eq_getElem_cons h1
theorem addTwo {w W W' : World} {bs : List Bx} {vs os : List KV} {g : Nat} {cs : Array Value} {t : TypeId} {v : Value} {X Y : S89} (K : Kp w (bs ++ [(g, cs, t)]) vs os W) (hb : Below W.heap.size W W') (ho : Kd.N k89 89 W' W.heap.size (fun k => (KOk w.heap.size (bs ++ [(g, cs, t)]) (fun _ => True) k ∨ k = g) ∨ W.heap.size ≤ k) v [X, Y]) :
  ∃ (h c : Nat) (rest : List Value) (P1 : Option Addr) (c1 : Nat) (P2 : Option Addr) (c2 : Nat) (P3 : Option Addr) (c3 : Nat) (P4 : Option Addr) (c4 : Nat), v = .slice (some ⟨h, 0, none⟩) ([X, Y] : List S89).length c ∧
   Kp w (bs ++ [(h, ⟨.bool X.f0.f0.f0 :: .slice P1 X.f0.f0.f1.length c1 :: .bool X.f1.f0.f0 :: .slice P2 X.f1.f0.f1.length c2 :: .bool Y.f0.f0.f0 :: .slice P3 Y.f0.f0.f1.length c3 :: .bool Y.f1.f0.f0 :: .slice P4 Y.f1.f0.f1.length c4 :: rest⟩, 89)]) (vs ++ [⟨Kd.int .u64, 36, .slice P1 X.f0.f0.f1.length c1, X.f0.f0.f1, fun _ => True⟩, ⟨Kd.int .u64, 36, .slice P2 X.f1.f0.f1.length c2, X.f1.f0.f1, fun _ => True⟩, ⟨Kd.int .u64, 36, .slice P3 Y.f0.f0.f1.length c3, Y.f0.f0.f1, fun _ => True⟩, ⟨Kd.int .u64, 36, .slice P4 Y.f1.f0.f1.length c4, Y.f1.f0.f1, fun _ => True⟩]) os W' := by
 obtain ⟨h, c, rfl, hbase, _, cells, hcell⟩ := Kd.N_form ho (by simp)
 obtain ⟨d0, _, f0, e0, _⟩ := Kd.N_elem ho z89 0 (by decide) (by simp)
 obtain ⟨d1, _, f1, e1, _⟩ := Kd.N_elem ho z89 1 (by decide) (by simp)
 replace f0 : Kd.FK k89 W' _ X d0 := f0
 replace f1 : Kd.FK k89 W' _ Y d1 := f1
 obtain ⟨P1, c1, P2, c2, rfl, l1, g1, l2, g2⟩ := k89_openF f0
 obtain ⟨P3, c3, P4, c4, rfl, l3, g3, l4, g4⟩ := k89_openF f1
 have K0 : Kp w bs vs os W := by have := K.front bs.length; rwa [List.take_left' rfl] at this
 have hd : ∀ (i : Nat) (u : Value), W'.cell? ⟨h, i, none⟩ = some u → cells.toList[i]? = some u := fun i u hu => by
  rw [Array.getElem?_toList, ← blk_cell hcell i]; exact hu
 have hl : cells = ⟨.bool X.f0.f0.f0 :: .slice P1 X.f0.f0.f1.length c1 :: .bool X.f1.f0.f0 :: .slice P2 X.f1.f0.f1.length c2 :: .bool Y.f0.f0.f0 :: .slice P3 Y.f0.f0.f1.length c3 :: .bool Y.f1.f0.f0 :: .slice P4 Y.f1.f0.f1.length c4 :: cells.toList.drop 8⟩ := by
  refine congrArg Array.mk (?_ : cells.toList = _)
  have a0 := drop_at (hd 0 _ (e0 0 _ rfl))
  have a1 := drop_at (hd 1 _ (e0 1 _ rfl))
  have a2 := drop_at (hd 2 _ (e0 2 _ rfl))
  have a3 := drop_at (hd 3 _ (e0 3 _ rfl))
  have a4 := drop_at (hd 4 _ (e1 0 _ rfl))
  have a5 := drop_at (hd 5 _ (e1 1 _ rfl))
  have a6 := drop_at (hd 6 _ (e1 2 _ rfl))
  have a7 := drop_at (hd 7 _ (e1 3 _ rfl))
  rw [List.drop_zero] at a0
  rw [a0, a1, a2, a3, a4, a5, a6, a7]
  rfl
 have K1 := boxG K0 hbase (hl ▸ hcell) hb
 have hk : ∀ k, ((KOk w.heap.size (bs ++ [(g, cs, t)]) (fun _ => True) k ∨ k = g) ∨ W.heap.size ≤ k) ∧ k ≠ h → KOk w.heap.size (bs ++ [(h, (⟨.bool X.f0.f0.f0 :: .slice P1 X.f0.f0.f1.length c1 :: .bool X.f1.f0.f0 :: .slice P2 X.f1.f0.f1.length c2 :: .bool Y.f0.f0.f0 :: .slice P3 Y.f0.f0.f1.length c3 :: .bool Y.f1.f0.f0 :: .slice P4 Y.f1.f0.f1.length c4 :: cells.toList.drop 8⟩ : Array Value), 89)]) (fun _ => True) k := by
  rintro k ⟨hk, hne⟩
  refine ⟨.inl trivial, fun b hm => ?_⟩
  rcases List.mem_append.1 hm with hm | hm
  ·rcases hk with (hk | rfl) | hk
   ·exact hk.2 b (List.mem_append_left _ hm)
   ·have hn := K.nod
    rw [List.map_append, List.nodup_append] at hn
    exact fun e => hn.2.2 b.1 (List.mem_map.2 ⟨b, hm, rfl⟩) k (by simp) e.symm
   have := blk_lt (K0.blk b hm).2
   omega
  obtain rfl := List.mem_singleton.1 hm
  exact hne
 refine ⟨h, c, cells.toList.drop 8, P1, c1, P2, c2, P3, c3, P4, c4, rfl, ?_⟩
 have K2 := addKV (addKV (addKV (addKV K1 (Kd.V_mk (e := 36) (base := 0) l1 (Kd.F_mono g1 hk))) (Kd.V_mk (e := 36) (base := 0) l2 (Kd.F_mono g2 hk))) (Kd.V_mk (e := 36) (base := 0) l3 (Kd.F_mono g3 hk))) (Kd.V_mk (e := 36) (base := 0) l4 (Kd.F_mono g4 hk))
 simpa only [List.append_assoc, List.singleton_append, List.cons_append, List.nil_append] using K2
end Go.Proofs.YtikencoikigllaaDoor.PRa
namespace Go.Proofs.YtikencoikigllaaDoor.PRa
open Go.RowKit Go.Proofs.YtikencoikigllaaDoorW.PrintWords Go.Proofs.YtikencoikigllaaDoorW.PrintLast Go.Proofs.YtikencoikigllaaDoorW.PrintMore
open Go.Proofs.YtikencoikigllaaDoor.Mine
attribute [local go_sem] max2_int min2_int max_two min_two max_three min_three max_four min_four
def ratio_Cmp.f (k : Nat) (a0_0 : Bool) (l0_1 : List Int) (l0_2 : List Int) (a1_0 : Bool) (l1_1 : List Int) (l1_2 : List Int) : Option (Int × Int) := (ratio_all.f k (([(⟨(⟨a0_0, l0_1⟩ : S25), l0_2⟩ : S41), (⟨(⟨a1_0, l1_1⟩ : S25), l1_2⟩ : S41)] : List (S41)))).bind fun q => (if q.2 = 0 then (if q.1.length = 2 then ((ratio_number_times.f k ((rd_T89 q.1 0).f0.f0.f0) ((rd_T89 q.1 0).f0.f0.f1) ((rd_T89 q.1 1).f1.f0.f0) ((rd_T89 q.1 1).f1.f0.f1)).bind fun t1 => ((ratio_number_times.f k ((rd_T89 q.1 1).f0.f0.f0) ((rd_T89 q.1 1).f0.f0.f1) ((rd_T89 q.1 0).f1.f0.f0) ((rd_T89 q.1 0).f1.f0.f1)).bind fun t2 => ((whole_Cmp.f k t1.1 t1.2 t2.1 t2.2).bind fun t3 => (some (t3, 0))))) else (none)) else (some (0, q.2)))
def ratio_Cmp.T4 : Bool × List (List Nat × List Nat) := (true, [([], []), ([0], [0]), ([1], [1]), ([2], [2]), ([], []), ([4], [4]), ([5], [5]), ([6], [6]), ([3, 7], [3, 7]), ([8], [8]), ([], []), ([10], [10]), ([11], [11]), ([12], [12]), ([], []), ([14], [14]), ([15], [15]), ([16], [16]), ([13, 17, 8], [13, 17]), ([18], [18]), ([9, 19, 18], [9, 19]), ([20, 20, 0, 1, 2, 3, 4, 5, 6, 7, 8, 9, 10, 11, 12, 13, 14, 15, 16, 17, 18, 19, 20], [20]), ([21, 0, 1, 2, 3, 4, 5, 6, 7, 8, 9, 10, 11, 12, 13, 14, 15, 16, 17, 18, 19, 20, 21], [])])
def ratio_Cmp.B4 : List Nat := [0, 1, 3, 7, 0, 16, 48, 112, 255, 511, 0, 1024, 3072, 7168, 0, 16384, 49152, 114688, 261631, 523775, 1048575, 2097151, 4194303]
theorem ratio_Cmp.tab4 : rtab .any (opsOf Tryd.f19 4) = ratio_Cmp.T4 := by kernel_rfl
theorem ratio_Cmp.bits4 : waitsOk ratio_Cmp.T4.2 ratio_Cmp.B4 = true := by kernel_rfl
theorem ratio_Cmp.calls (k : Nat) (a0_0 : Bool) (P0_1_ : Nat → Prop) (A0_1 : Option Addr) (c0_1 : Nat) (l0_1 : List Int) (P0_2_ : Nat → Prop) (A0_2 : Option Addr) (c0_2 : Nat) (l0_2 : List Int) (a1_0 : Bool) (P1_1_ : Nat → Prop) (A1_1 : Option Addr) (c1_1 : Nat) (l1_1 : List Int) (P1_2_ : Nat → Prop) (A1_2 : Option Addr) (c1_2 : Nat) (l1_2 : List Int) (r1 : Int) (r2 : Int) (w : World) (hs0_1 : Kd.V (Kd.int .u64) 36 w w.heap.size (fun k_ => P0_1_ k_) (.slice A0_1 l0_1.length c0_1) l0_1) (hs0_2 : Kd.V (Kd.int .u64) 36 w w.heap.size (fun k_ => P0_2_ k_) (.slice A0_2 l0_2.length c0_2) l0_2) (hs1_1 : Kd.V (Kd.int .u64) 36 w w.heap.size (fun k_ => P1_1_ k_) (.slice A1_1 l1_1.length c1_1) l1_1) (hs1_2 : Kd.V (Kd.int .u64) 36 w w.heap.size (fun k_ => P1_2_ k_) (.slice A1_2 l1_2.length c1_2) l1_2) (h : ratio_Cmp.f k a0_0 l0_1 l0_2 a1_0 l1_1 l1_2 = some (r1, r2)) :
  Calls Tryd.prog 19 #[.agg #[.bool a0_0, .slice A0_1 l0_1.length c0_1, .slice A0_2 l0_2.length c0_2], .agg #[.bool a1_0, .slice A1_1 l1_1.length c1_1, .slice A1_2 l1_2.length c1_2]] w fun e w' => e = .returned (.tuple #[.int .i64 r1, .int .i64 r2]) ∧ Below w.heap.size w w' := by
 have hu41 := Tryd.underlying41
 have hu87 := Tryd.underlying87
 have hu89 := Tryd.underlying89
 have hfd87_0 : ∀ (v0_ v1_ : Value) (W_ : World), (Instr.field 87 (.agg #[v0_, v1_]) 0).run Tryd.prog W_ = .ok (.agg #[v0_, v1_]) W_ := fun _ _ _ => by kernel_rfl
 have K := Kp.refl w
 replace K := K.parV (Kd.V_mono (ok' := fun _ => True) hs0_1 (fun _ h => trivial))
 clear hs0_1
 replace K := K.parV (Kd.V_mono (ok' := fun _ => True) hs0_2 (fun _ h => trivial))
 clear hs0_2
 replace K := K.parV (Kd.V_mono (ok' := fun _ => True) hs1_1 (fun _ h => trivial))
 clear hs1_1
 replace K := K.parV (Kd.V_mono (ok' := fun _ => True) hs1_2 (fun _ h => trivial))
 clear hs1_2
 try simp only [klv] at K
 rw [ratio_Cmp.f] at h
 replace h := bindA h
 obtain ⟨⟨y7, n8⟩, A9, h⟩ := h
 dsimp only at h
 by_cases c_0 : n8 = 0
 ·rw [if_pos c_0] at h
  have c_0b0 : (n8 == 0) = true := beq_iff_eq.mpr c_0
  have c_0b1 : (n8 != 0) = false := bne_eq_false_iff_eq.mpr c_0
  clear c_0
  by_cases c_1 : y7.length = 2
  ·rw [if_pos c_1] at h
   obtain ⟨y7X, y7Y, rfl⟩ := len_two c_1
   simp only [rdF0, rdF1] at h
   go_enter Tryd.func19, Tryd.ntmps19
   go_wp2_with (first | (refine gd 2 rfl ?_; refine kbk 2 #[.bool a0_0, .slice A0_1 l0_1.length c0_1, .slice A0_2 l0_2.length c0_2] 41 K.u ?_; clear K; intro g1 W2 K) | (refine gd 3 rfl ?_; refine kbk 3 #[.bool a1_0, .slice A1_1 l1_1.length c1_1, .slice A1_2 l1_2.length c1_2] 41 K.u ?_; clear K; intro g3 W4 K; have ua0 := K.cell 0 rfl 0 rfl; have ub0 := K.cell 0 rfl 1 rfl; have uc0 := K.cell 0 rfl 2 rfl; have ua1 := K.cell 1 rfl 0 rfl; have ub1 := K.cell 1 rfl 1 rfl; have uc1 := K.cell 1 rfl 2 rfl) | (refine gd 11 rfl ?_; clear ua0 ub0 uc0 ua1 ub1 uc1; refine kbls #[.bool a0_0, .slice A0_1 l0_1.length c0_1, .slice A0_2 l0_2.length c0_2, .bool a1_0, .slice A1_1 l1_1.length c1_1, .slice A1_2 l1_2.length c1_2] 41 2 ?_; intro g5 hg W6 hx hb; replace K := K.u.box hg hx hb; clear hg hx hb) | (refine gd 12 rfl ?_; refine kgl (some 12) rfl rfl Tryd.func52 #[.slice (some ⟨g5, 0, none⟩) 2 2] rfl ?_; refine (ratio_all.calls _ _ _ _ ([⟨⟨a0_0, l0_1⟩, l0_2⟩, ⟨⟨a1_0, l1_1⟩, l1_2⟩] : List S41) [y7X, y7Y] n8 _ (argTwo 2 K rfl (K.V 0 rfl) (K.V 1 rfl) (K.V 2 rfl) (K.V 3 rfl)) A9.out).mono ?_; rintro e W10 ⟨v11, rfl, ho12, hb⟩; refine ⟨_, rfl, ?_⟩; obtain ⟨g13, c14, rs15, P16, c17, P18, c19, P20, c21, P22, c23, rfl, K1⟩ := addTwo (bs := [(g1, #[.bool a0_0, .slice A0_1 l0_1.length c0_1, .slice A0_2 l0_2.length c0_2], 41), (g3, #[.bool a1_0, .slice A1_1 l1_1.length c1_1, .slice A1_2 l1_2.length c1_2], 41)]) K.u hb ho12; replace K := K1; clear K1 hb ho12; simp only [kls, klv] at K))
   replace h := bindA h
   obtain ⟨⟨z24, x25⟩, A26, h⟩ := h
   dsimp only at h
   replace h := bindA h
   obtain ⟨⟨z27, x28⟩, A29, h⟩ := h
   dsimp only at h
   replace h := bindA h
   obtain ⟨n30, A31, h⟩ := h
   obtain ⟨Bs, Vs, Os, hBs, hVs, hOs, K⟩ := K.abs
   have HS : Aside0 (∀ l m o W, Kp w (Bs ++ l) m o W → W.cell? ⟨g13, 0, none⟩ = some (.bool y7X.f0.f0.f0) ∧ W.cell? ⟨g13, 1, none⟩ = some (.slice P16 y7X.f0.f0.f1.length c17) ∧ W.cell? ⟨g13, 2, none⟩ = some (.bool y7X.f1.f0.f0) ∧ W.cell? ⟨g13, 3, none⟩ = some (.slice P18 y7X.f1.f0.f1.length c19) ∧ W.cell? ⟨g13, 4, none⟩ = some (.bool y7Y.f0.f0.f0) ∧ W.cell? ⟨g13, 5, none⟩ = some (.slice P20 y7Y.f0.f0.f1.length c21) ∧ W.cell? ⟨g13, 6, none⟩ = some (.bool y7Y.f1.f0.f0) ∧ W.cell? ⟨g13, 7, none⟩ = some (.slice P22 y7Y.f1.f0.f1.length c23)) := ⟨fun l m o W K => by rw [hBs.out] at K; exact ⟨K.cell 2 rfl 0 rfl, K.cell 2 rfl 1 rfl, K.cell 2 rfl 2 rfl, K.cell 2 rfl 3 rfl, K.cell 2 rfl 4 rfl, K.cell 2 rfl 5 rfl, K.cell 2 rfl 6 rfl, K.cell 2 rfl 7 rfl⟩⟩
   refine kpstart (n := 23) (ds := []) (S := fun W => W.cell? ⟨g13, 0, none⟩ = some (.bool y7X.f0.f0.f0) ∧ W.cell? ⟨g13, 1, none⟩ = some (.slice P16 y7X.f0.f0.f1.length c17) ∧ W.cell? ⟨g13, 2, none⟩ = some (.bool y7X.f1.f0.f0) ∧ W.cell? ⟨g13, 3, none⟩ = some (.slice P18 y7X.f1.f0.f1.length c19) ∧ W.cell? ⟨g13, 4, none⟩ = some (.bool y7Y.f0.f0.f0) ∧ W.cell? ⟨g13, 5, none⟩ = some (.slice P20 y7Y.f0.f0.f1.length c21) ∧ W.cell? ⟨g13, 6, none⟩ = some (.bool y7Y.f1.f0.f0) ∧ W.cell? ⟨g13, 7, none⟩ = some (.slice P22 y7Y.f1.f0.f1.length c23)) (bm_ 23 0) (by kernel_rfl) rfl rfl K (HS.out [] _ _) (fun W34 K hH => ?_)
   refine with_tabW ratio_Cmp.tab4 ratio_Cmp.bits4 (fun HT_ HW_ => ?_)
   refine pu_ 0 18 ?_ (bm_ 23 1) rfl rfl (any_of HT_.out (by kernel_rfl)) (fun _ _ _ h => h) (by rfl) ?_ ?_ ?_ ?_
   rotate_left
   ·intro w'
    go_simp
    with_reducible rfl
   rotate_left
   ·simp only [Act.put, kss, i64_w, i32_w]
    rfl
   refine pu_ 1 19 ?_ (bm_ 23 3) rfl rfl (any_of HT_.out (by kernel_rfl)) (fun _ _ _ h => h) (by rfl) ?_ ?_ ?_ ?_
   rotate_left
   ·intro w'
    go_simp
    with_reducible rfl
   rotate_left
   ·simp only [Act.put, kss, i64_w, i32_w]
    rfl
   refine pu_ 2 20 ?_ (bm_ 23 7) rfl rfl (any_of HT_.out (by kernel_rfl)) (fun _ _ _ h => h) (by rfl) ?_ ?_ ?_ ?_
   rotate_left
   ·intro w'
    go_simp
    with_reducible rfl
   rotate_left
   ·simp only [Act.put, kss, i64_w, i32_w]
    rfl
   refine tk_ 3 21 ?_ (bm_ 23 15) rfl rfl (take_ofW HT_.out HW_.out (by kernel_rfl)) (fun _ _ _ h => h) (by rfl) ?_ hH ?_ ?_ ?_
   rotate_left
   ·rintro w' ⟨s0, s1, s2, s3, s4, s5, s6, s7⟩
    go_simp
    with_reducible rfl
   rotate_left
   ·simp only [Act.put, kss, i64_w, i32_w]
    rfl
   refine pu_ 4 22 ?_ (bm_ 23 31) rfl rfl (any_of HT_.out (by kernel_rfl)) (fun _ _ _ h => h) (by rfl) ?_ ?_ ?_ ?_
   rotate_left
   ·intro w'
    go_simp
    with_reducible rfl
   rotate_left
   ·simp only [Act.put, kss, i64_w, i32_w]
    rfl
   refine pu_ 5 23 ?_ (bm_ 23 63) rfl rfl (any_of HT_.out (by kernel_rfl)) (fun _ _ _ h => h) (by rfl) ?_ ?_ ?_ ?_
   rotate_left
   ·intro w'
    go_simp
    with_reducible rfl
   rotate_left
   ·simp only [Act.put, kss, i64_w, i32_w]
    rfl
   refine pu_ 6 24 ?_ (bm_ 23 127) rfl rfl (any_of HT_.out (by kernel_rfl)) (fun _ _ _ h => h) (by rfl) ?_ ?_ ?_ ?_
   rotate_left
   ·intro w'
    go_simp
    with_reducible rfl
   rotate_left
   ·simp only [Act.put, kss, i64_w, i32_w]
    rfl
   refine tk_ 7 25 ?_ (bm_ 23 255) rfl rfl (take_ofW HT_.out HW_.out (by kernel_rfl)) (fun _ _ _ h => h) (by rfl) ?_ hH ?_ ?_ ?_
   rotate_left
   ·rintro w' ⟨s0, s1, s2, s3, s4, s5, s6, s7⟩
    go_simp
    with_reducible rfl
   rotate_left
   ·simp only [Act.put, kss, i64_w, i32_w]
    rfl
   refine pu_ 10 28 ?_ (bm_ 23 1279) rfl rfl (any_of HT_.out (by kernel_rfl)) (fun _ _ _ h => h) (by rfl) ?_ ?_ ?_ ?_
   rotate_left
   ·intro w'
    go_simp
    with_reducible rfl
   rotate_left
   ·simp only [Act.put, kss, i64_w, i32_w]
    rfl
   refine pu_ 11 29 ?_ (bm_ 23 3327) rfl rfl (any_of HT_.out (by kernel_rfl)) (fun _ _ _ h => h) (by rfl) ?_ ?_ ?_ ?_
   rotate_left
   ·intro w'
    go_simp
    with_reducible rfl
   rotate_left
   ·simp only [Act.put, kss, i64_w, i32_w]
    rfl
   refine pu_ 12 30 ?_ (bm_ 23 7423) rfl rfl (any_of HT_.out (by kernel_rfl)) (fun _ _ _ h => h) (by rfl) ?_ ?_ ?_ ?_
   rotate_left
   ·intro w'
    go_simp
    with_reducible rfl
   rotate_left
   ·simp only [Act.put, kss, i64_w, i32_w]
    rfl
   refine tk_ 13 31 ?_ (bm_ 23 15615) rfl rfl (take_ofW HT_.out HW_.out (by kernel_rfl)) (fun _ _ _ h => h) (by rfl) ?_ hH ?_ ?_ ?_
   rotate_left
   ·rintro w' ⟨s0, s1, s2, s3, s4, s5, s6, s7⟩
    go_simp
    with_reducible rfl
   rotate_left
   ·simp only [Act.put, kss, i64_w, i32_w]
    rfl
   refine pu_ 14 32 ?_ (bm_ 23 31999) rfl rfl (any_of HT_.out (by kernel_rfl)) (fun _ _ _ h => h) (by rfl) ?_ ?_ ?_ ?_
   rotate_left
   ·intro w'
    go_simp
    with_reducible rfl
   rotate_left
   ·simp only [Act.put, kss, i64_w, i32_w]
    rfl
   refine pu_ 15 33 ?_ (bm_ 23 64767) rfl rfl (any_of HT_.out (by kernel_rfl)) (fun _ _ _ h => h) (by rfl) ?_ ?_ ?_ ?_
   rotate_left
   ·intro w'
    go_simp
    with_reducible rfl
   rotate_left
   ·simp only [Act.put, kss, i64_w, i32_w]
    rfl
   refine pu_ 16 34 ?_ (bm_ 23 130303) rfl rfl (any_of HT_.out (by kernel_rfl)) (fun _ _ _ h => h) (by rfl) ?_ ?_ ?_ ?_
   rotate_left
   ·intro w'
    go_simp
    with_reducible rfl
   rotate_left
   ·simp only [Act.put, kss, i64_w, i32_w]
    rfl
   refine tk_ 17 35 ?_ (bm_ 23 261375) rfl rfl (take_ofW HT_.out HW_.out (by kernel_rfl)) (fun _ _ _ h => h) (by rfl) ?_ hH ?_ ?_ ?_
   rotate_left
   ·rintro w' ⟨s0, s1, s2, s3, s4, s5, s6, s7⟩
    go_simp
    with_reducible rfl
   rotate_left
   ·simp only [Act.put, kss, i64_w, i32_w]
    rfl
   refine one_ (i := 8) (N := some 26) (bm_ 23 261631) rfl rfl (one_of HT_.out (by kernel_rfl)) (by decide) (fun Kc hK => ?_)
   refine kgo Tryd.func53 #[.agg #[.bool y7X.f0.f0.f0, .slice P16 y7X.f0.f0.f1.length c17], .agg #[.bool y7Y.f1.f0.f0, .slice P22 y7Y.f1.f0.f1.length c23]] (by rfl) rfl rfl ?_
   refine (ratio_number_times.calls _ (y7X.f0.f0.f0) _ _ (y7X.f0.f0.f1) (y7Y.f1.f0.f0) _ _ (y7Y.f1.f0.f1) z24 x25 _ (K.C 4 (hv hVs rfl)) (K.le 4 (hv hVs rfl)) (K.C 7 (hv hVs rfl)) (K.le 7 (hv hVs rfl)) A26.out).mono ?_
   rintro e W' ⟨v32, rfl, ho35, hb⟩
   replace K := K.addRI 0 0 hb ho35 (lb rfl)
   clear hb ho35
   refine ⟨_, rfl, hK.out _ _ (HS.out _ _ _ _ K) fun hH => ?_⟩
   obtain ⟨P36, c37, e38⟩ := K.slice 8 (hv hVs rfl)
   subst e38
   refine norm_ (a' := ?_) ?_ ?_
   rotate_left
   ·show Act.put _ (some 26) _ = _
    simp only [Act.put, kss, i64_w, i32_w]
    rfl
   refine pu_ 9 27 ?_ (bm_ 23 262143) rfl rfl (any_of HT_.out (by kernel_rfl)) (fun _ _ _ h => h) (by rfl) ?_ ?_ ?_ ?_
   rotate_left
   ·intro w'
    go_simp
    with_reducible rfl
   rotate_left
   ·simp only [Act.put, kss, i64_w, i32_w]
    rfl
   clear hK Kc
   refine one_ (i := 18) (N := some 36) (bm_ 23 524287) rfl rfl (one_of HT_.out (by kernel_rfl)) (by decide) (fun Kc hK => ?_)
   refine kgo Tryd.func53 #[.agg #[.bool y7Y.f0.f0.f0, .slice P20 y7Y.f0.f0.f1.length c21], .agg #[.bool y7X.f1.f0.f0, .slice P18 y7X.f1.f0.f1.length c19]] (by rfl) rfl rfl ?_
   refine (ratio_number_times.calls _ (y7Y.f0.f0.f0) _ _ (y7Y.f0.f0.f1) (y7X.f1.f0.f0) _ _ (y7X.f1.f0.f1) z27 x28 _ (K.C 6 (hv hVs rfl)) (K.le 6 (hv hVs rfl)) (K.C 5 (hv hVs rfl)) (K.le 5 (hv hVs rfl)) A29.out).mono ?_
   rintro e W' ⟨v33, rfl, ho39, hb⟩
   replace K := K.addRI 1 1 hb ho39 (lb rfl)
   clear hb ho39
   refine ⟨_, rfl, hK.out _ _ (HS.out _ _ _ _ K) fun hH => ?_⟩
   obtain ⟨P40, c41, e42⟩ := K.slice 9 (hv hVs rfl)
   subst e42
   refine norm_ (a' := ?_) ?_ ?_
   rotate_left
   ·show Act.put _ (some 36) _ = _
    simp only [Act.put, kss, i64_w, i32_w]
    rfl
   refine pu_ 19 37 ?_ (bm_ 23 1048575) rfl rfl (any_of HT_.out (by kernel_rfl)) (fun _ _ _ h => h) (by rfl) ?_ ?_ ?_ ?_
   rotate_left
   ·intro w'
    go_simp
    with_reducible rfl
   rotate_left
   ·simp only [Act.put, kss, i64_w, i32_w]
    rfl
   clear hK Kc
   refine one_ (i := 20) (N := some 38) (bm_ 23 2097151) rfl rfl (one_of HT_.out (by kernel_rfl)) (by decide) (fun Kc hK => ?_)
   refine kgo Tryd.func31 #[.agg #[.bool z24, .slice P36 x25.length c37], .agg #[.bool z27, .slice P40 x28.length c41]] (by rfl) rfl rfl ?_
   refine (whole_Cmp.calls _ z24 _ _ x25 z27 _ _ x28 n30 _ (K.C 8 (hv hVs rfl)) (K.le 8 (hv hVs rfl)) (K.C 9 (hv hVs rfl)) (K.le 9 (hv hVs rfl)) A31.out).mono ?_
   rintro e W' ⟨rfl, hb⟩
   replace K := K.up hb
   clear hb
   refine ⟨_, rfl, hK.out _ _ (HS.out _ _ _ _ K) fun hH => ?_⟩
   refine norm_ (a' := ?_) ?_ ?_
   rotate_left
   ·show Act.put _ (some 38) _ = _
    simp only [Act.put, kss, i64_w, i32_w]
    rfl
   refine pu_ 21 4 ?_ (bm_ 23 4194303) rfl rfl (any_of HT_.out (by kernel_rfl)) (fun _ _ _ h => h) (by rfl) ?_ ?_ ?_ ?_
   rotate_left
   ·intro w'
    go_simp
    with_reducible rfl
   rotate_left
   ·simp only [Act.put, kss, i64_w, i32_w]
    rfl
   refine pu_ 22 5 ?_ (bm_ 23 8388607) rfl rfl (any_of HT_.out (by kernel_rfl)) (fun _ _ _ h => h) (by rfl) ?_ ?_ ?_ ?_
   rotate_left
   ·intro w'
    go_simp
    with_reducible rfl
   rotate_left
   ·simp only [Act.put, kss, i64_w, i32_w]
    rfl
   clear hK Kc
   rw [hBs.out, hVs.out, hOs.out] at K
   simp only [kls, klv] at K
   clear hBs hVs hOs HS hH
   refine done_ (done_of HT_.out (by kernel_rfl)) ?_
   clear HT_ HW_
   simp only [Option.some.injEq, Prod.mk.injEq] at h
   obtain ⟨rfl, rfl⟩ := h
   go_wp2
   refine bodyPost_ret (results_list (rs := [.tmp 4, .tmp 5]) rfl (by simp) (.tmp (.tmp .nil))) rfl ?_
   exact ⟨rfl, K.u.below⟩
  rw [if_neg c_1] at h
  exact nomatch h
 rw [if_neg c_0] at h
 have c_0b0 : (n8 == 0) = false := beq_eq_false_iff_ne.mpr c_0
 have c_0b1 : (n8 != 0) = true := bne_iff_ne.mpr c_0
 clear c_0
 simp only [Option.some.injEq, Prod.mk.injEq] at h
 obtain ⟨rfl, rfl⟩ := h
 go_enter Tryd.func19, Tryd.ntmps19
 go_wp2_with (first | (refine gd 2 rfl ?_; refine kbk 2 #[.bool a0_0, .slice A0_1 l0_1.length c0_1, .slice A0_2 l0_2.length c0_2] 41 K.u ?_; clear K; intro g1 W2 K) | (refine gd 3 rfl ?_; refine kbk 3 #[.bool a1_0, .slice A1_1 l1_1.length c1_1, .slice A1_2 l1_2.length c1_2] 41 K.u ?_; clear K; intro g3 W4 K; have ua0 := K.cell 0 rfl 0 rfl; have ub0 := K.cell 0 rfl 1 rfl; have uc0 := K.cell 0 rfl 2 rfl; have ua1 := K.cell 1 rfl 0 rfl; have ub1 := K.cell 1 rfl 1 rfl; have uc1 := K.cell 1 rfl 2 rfl) | (refine gd 11 rfl ?_; clear ua0 ub0 uc0 ua1 ub1 uc1; refine kbls #[.bool a0_0, .slice A0_1 l0_1.length c0_1, .slice A0_2 l0_2.length c0_2, .bool a1_0, .slice A1_1 l1_1.length c1_1, .slice A1_2 l1_2.length c1_2] 41 2 ?_; intro g5 hg W6 hx hb; replace K := K.u.box hg hx hb; clear hg hx hb) | (refine gd 12 rfl ?_; refine kgl (some 12) rfl rfl Tryd.func52 #[.slice (some ⟨g5, 0, none⟩) 2 2] rfl ?_; refine (ratio_all.calls _ _ _ _ ([⟨⟨a0_0, l0_1⟩, l0_2⟩, ⟨⟨a1_0, l1_1⟩, l1_2⟩] : List S41) y7 n8 _ (argTwo 2 K rfl (K.V 0 rfl) (K.V 1 rfl) (K.V 2 rfl) (K.V 3 rfl)) A9.out).mono ?_; rintro e W10 ⟨v11, rfl, ho12, hb⟩; refine ⟨_, rfl, ?_⟩; replace K := K.u.up hb; clear hb ho12))
 refine bodyPost_ret (results_list (rs := [.tmp 4, .tmp 5]) rfl (by simp) (.tmp (.tmp .nil))) rfl ?_
 exact ⟨rfl, K.u.below⟩
end Go.Proofs.YtikencoikigllaaDoor.PRa
namespace Go.Proofs.YtikencoikigllaaDoor.PRa
open Go.RowKit Go.Proofs.YtikencoikigllaaDoorW.PrintWords Go.Proofs.YtikencoikigllaaDoorW.PrintLast Go.Proofs.YtikencoikigllaaDoorW.PrintMore
open Go.Proofs.YtikencoikigllaaDoor.Mine
attribute [local go_sem] max2_int min2_int max_two min_two max_three min_three max_four min_four
mutual
def whole_amount_plus.j0 : Nat → List Int → List Int → Option (List Int)
 | 0, _, _ => none
 | k + 1, x0, x1 => if 0 ≤ (wrap64 ((x0.length : Int) + 1)) then (if (wrap64 ((x0.length : Int) + 1) : Int).toNat ≤ 35184372088832 then (whole_amount_plus.l0 k x0 x1 (([] : List Int)) 0 (x0.length : Int) 0) else (none)) else (none)
def whole_amount_plus.l0 : Nat → List Int → List Int → List Int → Int → Int → Int → Option (List Int)
 | 0, _, _, _, _, _, _ => none
 | k + 1, x0, x1, x5, x6, x23, x24 => if x24 < x23 then (if x24 < (x1.length : Int) then (if 0 ≤ x24 then (if x24 < (x0.length : Int) then ((bits_Add64.f (rd x0 x24) (rd x1 x24) x6).bind fun bt173 => (if x5.length < 17592186044416 then (whole_amount_plus.l0 k x0 x1 (x5 ++ [bt173.1]) bt173.2 x23 (wrap64 (x24 + 1))) else (none))) else (none)) else (none)) else (if 0 ≤ x24 then (if x24 < (x0.length : Int) then ((bits_Add64.f (rd x0 x24) 0 x6).bind fun bt179 => (if x5.length < 17592186044416 then (whole_amount_plus.l0 k x0 x1 (x5 ++ [bt179.1]) bt179.2 x23 (wrap64 (x24 + 1))) else (none))) else (none)) else (none))) else (if x5.length < 17592186044416 then ((whole_trimmed.f k (x5 ++ [x6])).bind fun t187 => (some t187)) else (none))
end
def whole_amount_plus.f (k : Nat) (l0 : List Int) (l1 : List Int) : Option (List Int) := if (l0.length : Int) < (l1.length : Int) then (whole_amount_plus.j0 k l1 l0) else (whole_amount_plus.j0 k l0 l1)
theorem whole_amount_plus.mono_l : ∀ k, (∀ y0 y1, LeO (whole_amount_plus.j0 k y0 y1) (whole_amount_plus.j0 (k + 1) y0 y1)) ∧ (∀ y0 y1 y2 y3 y4 y5, LeO (whole_amount_plus.l0 k y0 y1 y2 y3 y4 y5) (whole_amount_plus.l0 (k + 1) y0 y1 y2 y3 y4 y5))
 | 0 => ⟨fun _ _ r h => by simp [whole_amount_plus.j0] at h, fun _ _ _ _ _ _ r h => by simp [whole_amount_plus.l0] at h⟩
 | k + 1 => by
  obtain ⟨ih0, ih1⟩ := whole_amount_plus.mono_l k
  refine ⟨?_, ?_⟩
  ·intro y0 y1
   unfold whole_amount_plus.j0
   repeat' first
   | (with_reducible exact ih0 _ _)
   | (with_reducible exact ih1 _ _ _ _ _ _)
   | (with_reducible exact whole_trimmed.mono _ _)
   | (with_reducible exact LeO.refl _)
   | (with_reducible exact LeO.none _)
   | (with_reducible refine LeO.ite ?_ ?_)
   | (with_reducible refine LeO.bind ?_ (fun _ => ?_))
   | exact ih0 _ _
   | exact ih1 _ _ _ _ _ _
   | exact whole_trimmed.mono _ _
   | exact LeO.none _
   | refine LeO.ite ?_ ?_
   | refine LeO.bind ?_ (fun _ => ?_)
  intro y0 y1 y2 y3 y4 y5
  unfold whole_amount_plus.l0
  repeat' first
  | (with_reducible exact ih0 _ _)
  | (with_reducible exact ih1 _ _ _ _ _ _)
  | (with_reducible exact whole_trimmed.mono _ _)
  | (with_reducible exact LeO.refl _)
  | (with_reducible exact LeO.none _)
  | (with_reducible refine LeO.ite ?_ ?_)
  | (with_reducible refine LeO.bind ?_ (fun _ => ?_))
  | exact ih0 _ _
  | exact ih1 _ _ _ _ _ _
  | exact whole_trimmed.mono _ _
  | exact LeO.none _
  | refine LeO.ite ?_ ?_
  | refine LeO.bind ?_ (fun _ => ?_)
theorem whole_amount_plus.mono : ∀ a0 a1 k, LeO (whole_amount_plus.f k a0 a1) (whole_amount_plus.f (k + 1) a0 a1) := by
 intro a0 a1 k
 obtain ⟨ih0, ih1⟩ := whole_amount_plus.mono_l k
 unfold whole_amount_plus.f
 repeat' first
   | (with_reducible exact ih0 _ _)
   | (with_reducible exact ih1 _ _ _ _ _ _)
   | (with_reducible exact whole_trimmed.mono _ _)
   | (with_reducible exact LeO.refl _)
   | (with_reducible exact LeO.none _)
   | (with_reducible refine LeO.ite ?_ ?_)
   | (with_reducible refine LeO.bind ?_ (fun _ => ?_))
   | exact ih0 _ _
   | exact ih1 _ _ _ _ _ _
   | exact whole_trimmed.mono _ _
   | exact LeO.none _
   | refine LeO.ite ?_ ?_
   | refine LeO.bind ?_ (fun _ => ?_)
theorem whole_amount_plus.calls (k : Nat) (P0_ : Nat → Prop) (A0 : Option Addr) (c0 : Nat) (l0 : List Int) (P1_ : Nat → Prop) (A1 : Option Addr) (c1 : Nat) (l1 : List Int) (r : List Int) (w : World) (hs0 : Kd.V (Kd.int .u64) 36 w w.heap.size (fun k_ => P0_ k_) (.slice A0 l0.length c0) l0) (hs1 : Kd.V (Kd.int .u64) 36 w w.heap.size (fun k_ => P1_ k_) (.slice A1 l1.length c1) l1) (h : whole_amount_plus.f k l0 l1 = some r) :
  Calls Tryd.prog 74 #[.slice A0 l0.length c0, .slice A1 l1.length c1] w fun e w' => ∃ v0_ : Value, e = .returned (v0_) ∧ Kd.V (Kd.int .u64) 36 w' w.heap.size (fun k_ => ((P0_ k_ ∨ P1_ k_) ∨ w.heap.size ≤ k_)) v0_ r ∧ Below w.heap.size w w' := by
 have HO0 := Aside0.mk (show Kd.V (Kd.int .u64) 36 w w.heap.size (fun k_ => ((P0_ k_ ∨ P1_ k_) ∨ w.heap.size ≤ k_)) (.slice A0 l0.length c0) l0 from Kd.V_mono hs0 (fun k_ hk => .inl (.inl hk)))
 have HO1 := Aside0.mk (show Kd.V (Kd.int .u64) 36 w w.heap.size (fun k_ => ((P0_ k_ ∨ P1_ k_) ∨ w.heap.size ≤ k_)) (.slice A1 l1.length c1) l1 from Kd.V_mono hs1 (fun k_ hk => .inl (.inr hk)))
 have HB := Aside0.mk (Below.refl w.heap.size w)
 have H : (if (l0.length : Int) < (l1.length : Int) then (whole_amount_plus.j0 k l1 l0) else (whole_amount_plus.j0 k l0 l1)) = some r := h
 clear h
 have HC3 := Aside0.mk H
 clear H
 go_enter Tryd.func74, Tryd.ntmps74
 go_upto_if 15 with (fail)
 go_cut [0, 1] (fun v0 v1 wc => ∃ (kq : Nat) (x0_2 : List Int) (x1_2 : List Int), Aside0 (whole_amount_plus.j0 kq x0_2 x1_2 = some r) ∧ Aside0 (kq ≤ k) ∧ Aside0 (Kd.V (Kd.int .u64) 36 wc w.heap.size (fun k_ => ((P0_ k_ ∨ P1_ k_) ∨ w.heap.size ≤ k_)) v0 x0_2) ∧ Aside0 (Kd.V (Kd.int .u64) 36 wc w.heap.size (fun k_ => ((P0_ k_ ∨ P1_ k_) ∨ w.heap.size ≤ k_)) v1 x1_2) ∧ Aside0 (Below w.heap.size w wc))
 case first =>
  have H := HC3.out
  clear HC3
  by_cases c4 : (l0.length : Int) < (l1.length : Int)
  ·rw [if_pos c4] at H
   have c4b0 : decide ((l0.length : Int) < (l1.length : Int)) = true := decide_eq_true c4
   have c4b1 : decide (l0.length < l1.length) = true := decide_eq_true (Int.ofNat_lt.mp c4)
   clear c4
   (first | rw [c4b0] | rw [c4b1] | (simp only [i64_w, i32_w]; rw [c4b0]) | skip)
   have H' := Aside0.mk H
   clear H
   go_wp2
   go_meet
   case rel => exact ⟨_, (l1), (l0), H', ⟨by first | omega | exact Nat.le_refl _⟩, ⟨kvu HO1.out⟩, ⟨kvu HO0.out⟩, ⟨khu HB.out⟩⟩
  rw [if_neg c4] at H
  have c4b0 : decide ((l0.length : Int) < (l1.length : Int)) = false := decide_eq_false c4
  have c4b1 : decide (l0.length < l1.length) = false := decide_eq_false (fun h => c4 (Int.ofNat_lt.mpr h))
  clear c4
  (first | rw [c4b0] | rw [c4b1] | (simp only [i64_w, i32_w]; rw [c4b0]) | skip)
  have H' := Aside0.mk H
  clear H
  go_wp2
  go_meet
  case rel => exact ⟨_, (l0), (l1), H', ⟨by first | omega | exact Nat.le_refl _⟩, ⟨kvu HO0.out⟩, ⟨kvu HO1.out⟩, ⟨khu HB.out⟩⟩
 case rest =>
  clear HC3
  try clear c1
  try clear p2
  try clear c4
  try clear c4b0
  try clear c4b1
  obtain ⟨kq, x0_2, x1_2, HA, HJ2, HO_0, HO_1, HB⟩ := hcut
  cases kq with
  | zero => exact absurd HA.out (by simp [whole_amount_plus.j0])
  | succ kj2 =>
   have H := HA.out
   clear HA
   simp only [whole_amount_plus.j0] at H
   obtain ⟨ji5, hji5⟩ : ∃ j_ : Int, (wrap64 ((x0_2.length : Int) + 1)) = j_ := ⟨_, rfl⟩
   replace H : (if 0 ≤ (ji5) then (if (ji5 : Int).toNat ≤ 35184372088832 then (whole_amount_plus.l0 kj2 x0_2 x1_2 (([] : List Int)) 0 (x0_2.length : Int) 0) else (none)) else (none)) = some r := by first | (rw [hji5] at H; exact H) | (simp only [hji5] at H ⊢; exact H)
   have hji5w : (IntKind.i64.wrap ((x0_2.length : Int) + 1)) = ji5 := (i64_w _).trans hji5
   by_cases c6 : 0 ≤ (ji5)
   ·rw [if_pos c6] at H
    have c6b0 := eq_true c6
    have c6b1 : decide (0 ≤ (ji5)) = true := decide_eq_true c6
    clear c6
    by_cases c7 : (ji5 : Int).toNat ≤ 35184372088832
    ·rw [if_pos c7] at H
     have c7b0 := eq_true c7
     have c7b1 : decide ((ji5 : Int).toNat ≤ 35184372088832) = true := decide_eq_true c7
     clear c7
     obtain ⟨y168, hy168⟩ : ∃ y_ : List Int, y_ = (([] : List Int)) := ⟨_, rfl⟩
     replace H : (whole_amount_plus.l0 kj2 x0_2 x1_2 y168 0 (x0_2.length : Int) 0) = some r := by first | (rw [hy168]; with_reducible exact H) | (have H2_ := (Option.bind_some _ _).symm.trans H; rw [hy168]; with_reducible exact H2_) | (have H2_ := (Option.bind_some _ _).symm.trans H; with_reducible exact H2_) | with_reducible exact H | (rw [hy168]; exact H) | exact H
     have Ny168 := Aside0.mk hy168
     clear hy168
     have H' := Aside0.mk H
     clear H
     obtain ⟨Ao8, co8, eo8⟩ := Kd.V_slice HO_0.out
     subst eo8
     go_wp2_with (first | (refine gd 21 rfl ?_; refine Kd.R_make0 (Kd.int .u64) _ 36 rfl (N := 21) rfl 22 _ _ rfl ji5 rfl rfl Tryd.underlying22 (.int .u64 0) 8 info36 rfl (by decide) (by omega) 0 (ok := fun _ => True) (okp := fun _ => True) rfl (fun _ hk => hk) trivial (of_decide_eq_true ‹_›) (Nat.le_trans (Nat.mul_le_mul_right _ (of_decide_eq_true ‹_› : ji5.toNat ≤ 35184372088832)) (by omega)) (Below.refl _ _) (Nat.le_refl _) ?_; intro v169 w9 ho10 hb hg_ hnew_; clear hg_ hnew_; (first | rw [← Ny168.out] at ho10 | (simp only [Int.reduceToNat] at ho10; rw [← Ny168.out] at ho10)); replace HO_0 := Aside0.mk (Kd.V_elder' (kvu HO_0.out) (Kd.R_base ho10) hb); replace HO_1 := Aside0.mk (Kd.V_elder' (kvu HO_1.out) (Kd.R_base ho10) hb); have HO170 := Aside0.mk (Kd.R_lower (Kd.R_newM (M := fun k_ => (w.heap.size ≤ k_)) ho10 (below_size (khu HB.out)) (fun k_ h_ => h_)) (below_size (khu HB.out))); replace HB := kbs HB hb; clear hb ho10))
     go_loopg [5, 6, 24] kj2 (fun kq v5 v6 v24 w' => ∃ (x5_2 : List Int) (x6_2 : Int) (x24_2 : Int), v6 = .int .u64 x6_2 ∧ v24 = .int .i64 x24_2 ∧ Aside0 (whole_amount_plus.l0 kq x0_2 x1_2 x5_2 x6_2 (x0_2.length : Int) x24_2 = some r) ∧ Aside0 (kq ≤ kj2) ∧ Aside0 (Kd.V (Kd.int .u64) 36 w' w.heap.size (fun k_ => ((P0_ k_ ∨ P1_ k_) ∨ w.heap.size ≤ k_) ∧ some k_ ≠ (v5 : Value).ownBlock) (.slice Ao8 x0_2.length co8) x0_2) ∧ Aside0 (Kd.V (Kd.int .u64) 36 w' w.heap.size (fun k_ => ((P0_ k_ ∨ P1_ k_) ∨ w.heap.size ≤ k_) ∧ some k_ ≠ (v5 : Value).ownBlock) u1 x1_2) ∧ Aside0 (Kd.R (Kd.int .u64) 36 w' w.heap.size (fun k_ => (w.heap.size ≤ k_)) v5 x5_2) ∧ Aside0 (Below w.heap.size w w'))
     case atStart => exact ⟨(y168), (0), (0), (by first | rfl | (simp; done) | (simp [*]; done)), (by first | rfl | (simp; done) | (simp [*]; done)), H', ⟨Nat.le_refl _⟩, ⟨kvu HO_0.out⟩, ⟨kvu HO_1.out⟩, ⟨by (with_reducible repeat (first | apply Kd.R_alloc | apply Kd.R_drewN | apply Kd.R_drew)); exact Kd.R_mono HO170.out (fun _ hk => hk.1)⟩, ⟨khu HB.out⟩⟩
     case round =>
      clear H'
      try clear c1
      try clear p2
      try clear c4
      try clear c4b0
      try clear c4b1
      try clear c6
      try clear c6b0
      try clear c6b1
      try clear p6
      try clear c7
      try clear c7b0
      try clear c7b1
      try clear p2
      obtain ⟨x5_2, x6_2, x24_2, rfl, rfl, HA, HK2, HO_0, HO_1, HO_5, HB⟩ := hrel
      cases gk with
      | zero => exact absurd HA.out (by simp [whole_amount_plus.l0])
      | succ k2 =>
       have H := HA.out
       clear HA
       simp only [whole_amount_plus.l0] at H
       by_cases c11 : x24_2 < (x0_2.length : Int)
       ·rw [if_pos c11] at H
        have c11b0 : decide (x24_2 < (x0_2.length : Int)) = true := decide_eq_true c11
        clear c11
        by_cases c12 : x24_2 < (x1_2.length : Int)
        ·rw [if_pos c12] at H
         have c12b0 : decide (x24_2 < (x1_2.length : Int)) = true := decide_eq_true c12
         clear c12
         by_cases c13 : 0 ≤ x24_2
         ·rw [if_pos c13] at H
          have c13b0 : decide (0 ≤ x24_2) = true := decide_eq_true c13
          clear c13
          by_cases c14 : x24_2 < (x0_2.length : Int)
          ·rw [if_pos c14] at H
           have c14b0 : decide (x24_2 < (x0_2.length : Int)) = true := decide_eq_true c14
           clear c14
           replace H := Option.bind_eq_some_iff.mp H
           obtain ⟨⟨t173, t174⟩, A150, H⟩ := H
           replace H : (if x5_2.length < 17592186044416 then (whole_amount_plus.l0 k2 x0_2 x1_2 (x5_2 ++ [t173]) t174 (x0_2.length : Int) (wrap64 (x24_2 + 1))) else (none)) = some r := H
           have A15 := Aside0.mk A150
           clear A150
           by_cases c16 : x5_2.length < 17592186044416
           ·rw [if_pos c16] at H
            have LMc16 := Aside0.mk c16
            clear c16
            obtain ⟨y175, hy175⟩ : ∃ y_ : List Int, y_ = (x5_2 ++ [t173]) := ⟨_, rfl⟩
            replace H : (whole_amount_plus.l0 k2 x0_2 x1_2 y175 t174 (x0_2.length : Int) (wrap64 (x24_2 + 1))) = some r := by first | (rw [hy175]; with_reducible exact H) | (have H2_ := (Option.bind_some _ _).symm.trans H; rw [hy175]; with_reducible exact H2_) | (have H2_ := (Option.bind_some _ _).symm.trans H; with_reducible exact H2_) | with_reducible exact H | (rw [hy175]; exact H) | exact H
            have Ny175 := Aside0.mk hy175
            clear hy175
            have H' := Aside0.mk H
            clear H
            obtain ⟨Ao17, co17, eo17⟩ := Kd.V_slice HO_1.out
            subst eo17
            have p171 : 0 ≤ (x24_2 : Int) := of_decide_eq_true ‹_›
            have q171 : x24_2 < (x1_2.length : Int) := of_decide_eq_true ‹_›
            obtain ⟨ad171, e171, hx171_0⟩ := Kd.at_int (Kd.V_reads' HO_1.out).2.2 x24_2 p171 q171
            cases e171
            replace p171 := eq_true p171
            replace q171 := eq_true q171
            have p172 : 0 ≤ (x24_2 : Int) := of_decide_eq_true ‹_›
            have q172 : x24_2 < (x0_2.length : Int) := of_decide_eq_true ‹_›
            obtain ⟨ad172, e172, hx172_0⟩ := Kd.at_int (Kd.V_reads' HO_0.out).2.2 x24_2 p172 q172
            cases e172
            replace p172 := eq_true p172
            replace q172 := eq_true q172
            have hx18 := bits_Add64.run A15.out
            go_wp2_with (first | ((with_reducible refine gate_builtin (b := .append) (xs := #[.tmp 45, .tmp 47]) rfl ?_); at_builtin; refine Kd.R_append (Kd.int .u64) (w0 := w) w.heap.size rfl (.tmp 45) (.tmp 47) 22 36 (.int .u64 0) 8 rfl Tryd.underlying22 info36 rfl (by decide) (by omega) u5 x5_2 t173 [.int .u64 t173] (fun k_ => (w.heap.size ≤ k_)) (fun _ => False) rfl rfl ?aP (fun _ hk => hk.elim) ?aF ?aO ?aB ?aS ?aL ?_; (case aP => exact rfl); (case aB => exact (khu HB.out)); (case aF => exact (fun k_ hk => (Nat.le_trans (below_size (khu HB.out)) hk))); (case aO => exact (kru HO_5.out)); (case aS => exact (below_size (khu HB.out))); (case aL => have := LMc16.out; omega); intro v176 w19 ho hb hg hat; rw [← Ny175.out] at ho; replace HO_0 := Aside0.mk (Kd.V_afterv (ok := (fun k_ => ((P0_ k_ ∨ P1_ k_) ∨ w.heap.size ≤ k_))) (kvu HO_0.out) hg hat); replace HO_1 := Aside0.mk (Kd.V_afterv (ok := (fun k_ => ((P0_ k_ ∨ P1_ k_) ∨ w.heap.size ≤ k_))) (kvu HO_1.out) hg hat); replace HB := Aside0.mk (hb); have HO177 := Aside0.mk (ho); clear HO_5; clear ho hb hg hat))
            go_roundg k2
            case measure => have := HJ2.out; have := HK2.out; omega
            case rel => exact ⟨(y175), (t174), (wrap64 (x24_2 + 1)), (by first | rfl | (simp; done) | (simp [*]; done)), (by first | rfl | (simp; done) | (simp [*]; done)), H', ⟨by have := HJ2.out; have := HK2.out; omega⟩, ⟨kvu HO_0.out⟩, ⟨kvu HO_1.out⟩, ⟨kru HO177.out⟩, ⟨khu HB.out⟩⟩
           rw [if_neg c16] at H
           exact absurd H (by simp)
          rw [if_neg c14] at H
          exact absurd H (by simp)
         rw [if_neg c13] at H
         exact absurd H (by simp)
        rw [if_neg c12] at H
        have c12b0 : decide (x24_2 < (x1_2.length : Int)) = false := decide_eq_false c12
        clear c12
        by_cases c20 : 0 ≤ x24_2
        ·rw [if_pos c20] at H
         have c20b0 : decide (0 ≤ x24_2) = true := decide_eq_true c20
         clear c20
         by_cases c21 : x24_2 < (x0_2.length : Int)
         ·rw [if_pos c21] at H
          have c21b0 : decide (x24_2 < (x0_2.length : Int)) = true := decide_eq_true c21
          clear c21
          replace H := Option.bind_eq_some_iff.mp H
          obtain ⟨⟨t179, t180⟩, A220, H⟩ := H
          replace H : (if x5_2.length < 17592186044416 then (whole_amount_plus.l0 k2 x0_2 x1_2 (x5_2 ++ [t179]) t180 (x0_2.length : Int) (wrap64 (x24_2 + 1))) else (none)) = some r := H
          have A22 := Aside0.mk A220
          clear A220
          by_cases c23 : x5_2.length < 17592186044416
          ·rw [if_pos c23] at H
           have LMc23 := Aside0.mk c23
           clear c23
           obtain ⟨y181, hy181⟩ : ∃ y_ : List Int, y_ = (x5_2 ++ [t179]) := ⟨_, rfl⟩
           replace H : (whole_amount_plus.l0 k2 x0_2 x1_2 y181 t180 (x0_2.length : Int) (wrap64 (x24_2 + 1))) = some r := by first | (rw [hy181]; with_reducible exact H) | (have H2_ := (Option.bind_some _ _).symm.trans H; rw [hy181]; with_reducible exact H2_) | (have H2_ := (Option.bind_some _ _).symm.trans H; with_reducible exact H2_) | with_reducible exact H | (rw [hy181]; exact H) | exact H
           have Ny181 := Aside0.mk hy181
           clear hy181
           have H' := Aside0.mk H
           clear H
           obtain ⟨Ao24, co24, eo24⟩ := Kd.V_slice HO_1.out
           subst eo24
           have p178 : 0 ≤ (x24_2 : Int) := of_decide_eq_true ‹_›
           have q178 : x24_2 < (x0_2.length : Int) := of_decide_eq_true ‹_›
           obtain ⟨ad178, e178, hx178_0⟩ := Kd.at_int (Kd.V_reads' HO_0.out).2.2 x24_2 p178 q178
           cases e178
           replace p178 := eq_true p178
           replace q178 := eq_true q178
           have hx25 := bits_Add64.run A22.out
           go_wp2_with (first | ((with_reducible refine gate_builtin (b := .append) (xs := #[.tmp 45, .tmp 47]) rfl ?_); at_builtin; refine Kd.R_append (Kd.int .u64) (w0 := w) w.heap.size rfl (.tmp 45) (.tmp 47) 22 36 (.int .u64 0) 8 rfl Tryd.underlying22 info36 rfl (by decide) (by omega) u5 x5_2 t179 [.int .u64 t179] (fun k_ => (w.heap.size ≤ k_)) (fun _ => False) rfl rfl ?aP (fun _ hk => hk.elim) ?aF ?aO ?aB ?aS ?aL ?_; (case aP => exact rfl); (case aB => exact (khu HB.out)); (case aF => exact (fun k_ hk => (Nat.le_trans (below_size (khu HB.out)) hk))); (case aO => exact (kru HO_5.out)); (case aS => exact (below_size (khu HB.out))); (case aL => have := LMc23.out; omega); intro v182 w26 ho hb hg hat; rw [← Ny181.out] at ho; replace HO_0 := Aside0.mk (Kd.V_afterv (ok := (fun k_ => ((P0_ k_ ∨ P1_ k_) ∨ w.heap.size ≤ k_))) (kvu HO_0.out) hg hat); replace HO_1 := Aside0.mk (Kd.V_afterv (ok := (fun k_ => ((P0_ k_ ∨ P1_ k_) ∨ w.heap.size ≤ k_))) (kvu HO_1.out) hg hat); replace HB := Aside0.mk (hb); have HO183 := Aside0.mk (ho); clear HO_5; clear ho hb hg hat))
           go_roundg k2
           case measure => have := HJ2.out; have := HK2.out; omega
           case rel => exact ⟨(y181), (t180), (wrap64 (x24_2 + 1)), (by first | rfl | (simp; done) | (simp [*]; done)), (by first | rfl | (simp; done) | (simp [*]; done)), H', ⟨by have := HJ2.out; have := HK2.out; omega⟩, ⟨kvu HO_0.out⟩, ⟨kvu HO_1.out⟩, ⟨kru HO183.out⟩, ⟨khu HB.out⟩⟩
          rw [if_neg c23] at H
          exact absurd H (by simp)
         rw [if_neg c21] at H
         exact absurd H (by simp)
        rw [if_neg c20] at H
        exact absurd H (by simp)
       rw [if_neg c11] at H
       have c11b0 : decide (x24_2 < (x0_2.length : Int)) = false := decide_eq_false c11
       clear c11
       by_cases c27 : x5_2.length < 17592186044416
       ·rw [if_pos c27] at H
        have LMc27 := Aside0.mk c27
        clear c27
        obtain ⟨y184, hy184⟩ : ∃ y_ : List Int, y_ = (x5_2 ++ [x6_2]) := ⟨_, rfl⟩
        replace H : ((whole_trimmed.f k2 y184).bind fun t187 => (some t187)) = some r := by first | (rw [hy184]; with_reducible exact H) | (have H2_ := (Option.bind_some _ _).symm.trans H; rw [hy184]; with_reducible exact H2_) | (have H2_ := (Option.bind_some _ _).symm.trans H; with_reducible exact H2_) | with_reducible exact H | (rw [hy184]; exact H) | exact H
        have Ny184 := Aside0.mk hy184
        clear hy184
        replace H := Option.bind_eq_some_iff.mp H
        obtain ⟨t187, A280, H⟩ := H
        replace H : (some t187) = some r := H
        have A28 := Aside0.mk A280
        clear A280
        obtain rfl := Option.some.inj H
        go_wp2_with (first | ((with_reducible refine gate_builtin (b := .append) (xs := #[.tmp 51, .tmp 53]) rfl ?_); at_builtin; refine Kd.R_append (Kd.int .u64) (w0 := w) w.heap.size rfl (.tmp 51) (.tmp 53) 22 36 (.int .u64 0) 8 rfl Tryd.underlying22 info36 rfl (by decide) (by omega) u5 x5_2 x6_2 [.int .u64 x6_2] (fun k_ => (w.heap.size ≤ k_)) (fun _ => False) rfl rfl ?aP (fun _ hk => hk.elim) ?aF ?aO ?aB ?aS ?aL ?_; (case aP => exact rfl); (case aB => exact (khu HB.out)); (case aF => exact (fun k_ hk => (Nat.le_trans (below_size (khu HB.out)) hk))); (case aO => exact (kru HO_5.out)); (case aS => exact (below_size (khu HB.out))); (case aL => have := LMc27.out; omega); intro v185 w29 ho hb hg hat; rw [← Ny184.out] at ho; replace HO_0 := Aside0.mk (Kd.V_afterv (ok := (fun k_ => ((P0_ k_ ∨ P1_ k_) ∨ w.heap.size ≤ k_))) (kvu HO_0.out) hg hat); replace HO_1 := Aside0.mk (Kd.V_afterv (ok := (fun k_ => ((P0_ k_ ∨ P1_ k_) ∨ w.heap.size ≤ k_))) (kvu HO_1.out) hg hat); replace HB := Aside0.mk (hb); have HO186 := Aside0.mk (ho); clear HO_5; clear ho hb hg hat; obtain ⟨Ao30, co30, eo30⟩ := Kd.R_slice HO186.out; subst eo30) | ((with_reducible refine gate_callee (f := 35) rfl ?_); refine kgl (some 55) rfl rfl Tryd.func35 #[.slice Ao30 y184.length co30] rfl ?_; (with_reducible refine (whole_trimmed.calls k2 (fun k_ => some k_ = (.slice Ao30 y184.length co30 : Value).ownBlock) _ _ y184 t187 _ ?side1 A28.out).mono ?_); (case side1 => exact Kd.R_V (Kd.R_tight rfl (HO186.out))); rintro e w31 ⟨v188, rfl, ho0, hb⟩; refine ⟨_, rfl, ?_⟩; replace HO_0 := kvb HO_0 hb; replace HO_1 := kvb HO_1 hb; have HO189 := Aside0.mk (Kd.V_lower (Kd.V_mono (ok' := fun k_ => ((P0_ k_ ∨ P1_ k_) ∨ w.heap.size ≤ k_)) ho0 (fun k_ hk_ => Or.elim hk_ (fun hs_ => (.inr (((HO186.out).1 k_ hs_.symm)))) (fun hn_ => (.inr (Nat.le_trans (below_size (khu HB.out)) hn_))))) (below_size (khu HB.out))); replace HO186 := krb HO186 hb; replace HB := kbs HB hb; (try clear hb); (try clear hb2); (try clear hk); (try clear hi); (try clear ho0)))
        go_ret
        exact ⟨_, by first | rfl | (simp [errW_none, errW_some] <;> rfl) | (simp only [← hji5]; first | rfl | (simp [errW_none, errW_some] <;> rfl)) | (simp [*, errW_none, errW_some] <;> rfl), kvu HO189.out, khu HB.out⟩
       rw [if_neg c27] at H
       exact absurd H (by simp)
    rw [if_neg c7] at H
    exact absurd H (by simp)
   rw [if_neg c6] at H
   exact absurd H (by simp)
end Go.Proofs.YtikencoikigllaaDoor.PRa
namespace Go.Proofs.YtikencoikigllaaDoor.PRa
open Go.RowKit Go.Proofs.YtikencoikigllaaDoorW.PrintWords Go.Proofs.YtikencoikigllaaDoorW.PrintLast Go.Proofs.YtikencoikigllaaDoorW.PrintMore
open Go.Proofs.YtikencoikigllaaDoor.Mine
attribute [local go_sem] max2_int min2_int max_two min_two max_three min_three max_four min_four
def whole_amount_minus.l0 : Nat → List Int → List Int → List Int → Int → Int → Int → Option (List Int)
 | 0, _, _, _, _, _, _ => none
 | k + 1, x0, x1, x5, x6, x15, x16 => if x16 < x15 then (if x16 < (x1.length : Int) then (if 0 ≤ x16 then (if x16 < (x0.length : Int) then ((bits_Sub64.f (rd x0 x16) (rd x1 x16) x6).bind fun bt195 => (if x5.length < 17592186044416 then (whole_amount_minus.l0 k x0 x1 (x5 ++ [bt195.1]) bt195.2 x15 (wrap64 (x16 + 1))) else (none))) else (none)) else (none)) else (if 0 ≤ x16 then (if x16 < (x0.length : Int) then ((bits_Sub64.f (rd x0 x16) 0 x6).bind fun bt201 => (if x5.length < 17592186044416 then (whole_amount_minus.l0 k x0 x1 (x5 ++ [bt201.1]) bt201.2 x15 (wrap64 (x16 + 1))) else (none))) else (none)) else (none))) else ((whole_trimmed.f k x5).bind fun t206 => (some t206))
def whole_amount_minus.f (k : Nat) (l0 : List Int) (l1 : List Int) : Option (List Int) := if 0 ≤ (l0.length : Int) then (if ((l0.length : Int) : Int).toNat ≤ 35184372088832 then (whole_amount_minus.l0 k l0 l1 (([] : List Int)) 0 (l0.length : Int) 0) else (none)) else (none)
theorem whole_amount_minus.mono_l : ∀ k, (∀ y0 y1 y2 y3 y4 y5, LeO (whole_amount_minus.l0 k y0 y1 y2 y3 y4 y5) (whole_amount_minus.l0 (k + 1) y0 y1 y2 y3 y4 y5))
 | 0 => fun _ _ _ _ _ _ r h => by simp [whole_amount_minus.l0] at h
 | k + 1 => by
  have ih0 := whole_amount_minus.mono_l k
  intro y0 y1 y2 y3 y4 y5
  unfold whole_amount_minus.l0
  repeat' first
  | (with_reducible exact ih0 _ _ _ _ _ _)
  | (with_reducible exact whole_trimmed.mono _ _)
  | (with_reducible exact LeO.refl _)
  | (with_reducible exact LeO.none _)
  | (with_reducible refine LeO.ite ?_ ?_)
  | (with_reducible refine LeO.bind ?_ (fun _ => ?_))
  | exact ih0 _ _ _ _ _ _
  | exact whole_trimmed.mono _ _
  | exact LeO.none _
  | refine LeO.ite ?_ ?_
  | refine LeO.bind ?_ (fun _ => ?_)
theorem whole_amount_minus.mono : ∀ a0 a1 k, LeO (whole_amount_minus.f k a0 a1) (whole_amount_minus.f (k + 1) a0 a1) := by
 intro a0 a1 k
 have ih0 := whole_amount_minus.mono_l k
 unfold whole_amount_minus.f
 repeat' first
   | (with_reducible exact ih0 _ _ _ _ _ _)
   | (with_reducible exact whole_trimmed.mono _ _)
   | (with_reducible exact LeO.refl _)
   | (with_reducible exact LeO.none _)
   | (with_reducible refine LeO.ite ?_ ?_)
   | (with_reducible refine LeO.bind ?_ (fun _ => ?_))
   | exact ih0 _ _ _ _ _ _
   | exact whole_trimmed.mono _ _
   | exact LeO.none _
   | refine LeO.ite ?_ ?_
   | refine LeO.bind ?_ (fun _ => ?_)
theorem whole_amount_minus.calls (k : Nat) (A0 : Option Addr) (c0 : Nat) (l0 : List Int) (A1 : Option Addr) (c1 : Nat) (l1 : List Int) (r : List Int) (w : World) (hr0 : Kd.C (Kd.int .u64) w A0 l0.length l0) (hc0 : l0.length ≤ c0) (hr1 : Kd.C (Kd.int .u64) w A1 l1.length l1) (hc1 : l1.length ≤ c1) (h : whole_amount_minus.f k l0 l1 = some r) :
  Calls Tryd.prog 76 #[.slice A0 l0.length c0, .slice A1 l1.length c1] w fun e w' => ∃ v0_ : Value, e = .returned (v0_) ∧ Kd.V (Kd.int .u64) 36 w' w.heap.size (fun k_ => (w.heap.size ≤ k_)) v0_ r ∧ Below w.heap.size w w' := by
 have HR0 := Aside0.mk hr0
 have HC0 := Aside0.mk hc0
 clear hr0 hc0
 have HR1 := Aside0.mk hr1
 have HC1 := Aside0.mk hc1
 clear hr1 hc1
 have HB := Aside0.mk (Below.refl w.heap.size w)
 have H : (if 0 ≤ (l0.length : Int) then (if ((l0.length : Int) : Int).toNat ≤ 35184372088832 then (whole_amount_minus.l0 k l0 l1 (([] : List Int)) 0 (l0.length : Int) 0) else (none)) else (none)) = some r := h
 clear h
 by_cases c3 : 0 ≤ (l0.length : Int)
 ·rw [if_pos c3] at H
  have c3b0 := eq_true c3
  have c3b1 : decide (0 ≤ (l0.length : Int)) = true := decide_eq_true c3
  clear c3
  by_cases c4 : ((l0.length : Int) : Int).toNat ≤ 35184372088832
  ·rw [if_pos c4] at H
   have c4b0 := eq_true c4
   have c4b1 : decide (((l0.length : Int) : Int).toNat ≤ 35184372088832) = true := decide_eq_true c4
   clear c4
   obtain ⟨y190, hy190⟩ : ∃ y_ : List Int, y_ = (([] : List Int)) := ⟨_, rfl⟩
   replace H : (whole_amount_minus.l0 k l0 l1 y190 0 (l0.length : Int) 0) = some r := by first | (rw [hy190]; with_reducible exact H) | (have H2_ := (Option.bind_some _ _).symm.trans H; rw [hy190]; with_reducible exact H2_) | (have H2_ := (Option.bind_some _ _).symm.trans H; with_reducible exact H2_) | with_reducible exact H | (rw [hy190]; exact H) | exact H
   have Ny190 := Aside0.mk hy190
   clear hy190
   have H' := Aside0.mk H
   clear H
   go_enter Tryd.func76, Tryd.ntmps76
   go_wp2_with (first | (refine gd 13 rfl ?_; refine Kd.R_make0 (Kd.int .u64) _ 36 rfl (N := 13) rfl 22 _ _ rfl (l0.length : Int) rfl rfl Tryd.underlying22 (.int .u64 0) 8 info36 rfl (by decide) (by omega) 0 (ok := fun _ => True) (okp := fun _ => True) rfl (fun _ hk => hk) trivial (of_decide_eq_true ‹_›) (Nat.le_trans (Nat.mul_le_mul_right _ (of_decide_eq_true ‹_› : (l0.length : Int).toNat ≤ 35184372088832)) (by omega)) (Below.refl _ _) (Nat.le_refl _) ?_; intro v191 w5 ho6 hb hg_ hnew_; clear hg_ hnew_; (first | rw [← Ny190.out] at ho6 | (simp only [Int.reduceToNat] at ho6; rw [← Ny190.out] at ho6)); have HO192 := Aside0.mk (Kd.R_lower (Kd.R_newM (M := fun k_ => (w.heap.size ≤ k_)) ho6 (below_size (khu HB.out)) (fun k_ h_ => h_)) (below_size (khu HB.out))); replace HB := kbs HB hb; clear hb ho6))
   go_loopg [5, 6, 16] k (fun kq v5 v6 v16 w' => ∃ (x5_1 : List Int) (x6_1 : Int) (x16_1 : Int), v6 = .int .u64 x6_1 ∧ v16 = .int .i64 x16_1 ∧ Aside0 (whole_amount_minus.l0 kq l0 l1 x5_1 x6_1 (l0.length : Int) x16_1 = some r) ∧ Aside0 (kq ≤ k) ∧ Aside0 (Kd.R (Kd.int .u64) 36 w' w.heap.size (fun k_ => (w.heap.size ≤ k_)) v5 x5_1) ∧ Aside0 (Below w.heap.size w w'))
   case atStart => exact ⟨(y190), (0), (0), (by first | rfl | (simp; done) | (simp [*]; done)), (by first | rfl | (simp; done) | (simp [*]; done)), H', ⟨Nat.le_refl _⟩, ⟨by (with_reducible repeat (first | apply Kd.R_alloc | apply Kd.R_drewN | apply Kd.R_drew)); exact Kd.R_mono HO192.out (fun _ hk => hk.1)⟩, ⟨khu HB.out⟩⟩
   case round =>
    clear H'
    try clear c1
    try clear p2
    try clear c3
    try clear c3b0
    try clear c3b1
    try clear c4
    try clear c4b0
    try clear c4b1
    obtain ⟨x5_1, x6_1, x16_1, rfl, rfl, HA, HK1, HO_5, HB⟩ := hrel
    cases gk with
    | zero => exact absurd HA.out (by simp [whole_amount_minus.l0])
    | succ k1 =>
     have H := HA.out
     clear HA
     simp only [whole_amount_minus.l0] at H
     by_cases c7 : x16_1 < (l0.length : Int)
     ·rw [if_pos c7] at H
      have c7b0 : decide (x16_1 < (l0.length : Int)) = true := decide_eq_true c7
      clear c7
      by_cases c8 : x16_1 < (l1.length : Int)
      ·rw [if_pos c8] at H
       have c8b0 : decide (x16_1 < (l1.length : Int)) = true := decide_eq_true c8
       clear c8
       by_cases c9 : 0 ≤ x16_1
       ·rw [if_pos c9] at H
        have c9b0 : decide (0 ≤ x16_1) = true := decide_eq_true c9
        clear c9
        by_cases c10 : x16_1 < (l0.length : Int)
        ·rw [if_pos c10] at H
         have c10b0 : decide (x16_1 < (l0.length : Int)) = true := decide_eq_true c10
         clear c10
         replace H := Option.bind_eq_some_iff.mp H
         obtain ⟨⟨t195, t196⟩, A110, H⟩ := H
         replace H : (if x5_1.length < 17592186044416 then (whole_amount_minus.l0 k1 l0 l1 (x5_1 ++ [t195]) t196 (l0.length : Int) (wrap64 (x16_1 + 1))) else (none)) = some r := H
         have A11 := Aside0.mk A110
         clear A110
         by_cases c12 : x5_1.length < 17592186044416
         ·rw [if_pos c12] at H
          have LMc12 := Aside0.mk c12
          clear c12
          obtain ⟨y197, hy197⟩ : ∃ y_ : List Int, y_ = (x5_1 ++ [t195]) := ⟨_, rfl⟩
          replace H : (whole_amount_minus.l0 k1 l0 l1 y197 t196 (l0.length : Int) (wrap64 (x16_1 + 1))) = some r := by first | (rw [hy197]; with_reducible exact H) | (have H2_ := (Option.bind_some _ _).symm.trans H; rw [hy197]; with_reducible exact H2_) | (have H2_ := (Option.bind_some _ _).symm.trans H; with_reducible exact H2_) | with_reducible exact H | (rw [hy197]; exact H) | exact H
          have Ny197 := Aside0.mk hy197
          clear hy197
          have H' := Aside0.mk H
          clear H
          have p193 : 0 ≤ (x16_1 : Int) := of_decide_eq_true ‹_›
          have q193 : x16_1 < (l1.length : Int) := of_decide_eq_true ‹_›
          obtain ⟨ad193, e193, hx193_0⟩ := Kd.at_int HR1.out x16_1 p193 q193
          cases e193
          replace hx193_0 := (HB.out.cell (World.block_lt_of_cell? w _ hx193_0)).trans hx193_0
          replace p193 := eq_true p193
          replace q193 := eq_true q193
          have p194 : 0 ≤ (x16_1 : Int) := of_decide_eq_true ‹_›
          have q194 : x16_1 < (l0.length : Int) := of_decide_eq_true ‹_›
          obtain ⟨ad194, e194, hx194_0⟩ := Kd.at_int HR0.out x16_1 p194 q194
          cases e194
          replace hx194_0 := (HB.out.cell (World.block_lt_of_cell? w _ hx194_0)).trans hx194_0
          replace p194 := eq_true p194
          replace q194 := eq_true q194
          have hx13 := bits_Sub64.run A11.out
          go_wp2_with (first | ((with_reducible refine gate_builtin (b := .append) (xs := #[.tmp 37, .tmp 39]) rfl ?_); at_builtin; refine Kd.R_append (Kd.int .u64) (w0 := w) w.heap.size rfl (.tmp 37) (.tmp 39) 22 36 (.int .u64 0) 8 rfl Tryd.underlying22 info36 rfl (by decide) (by omega) u5 x5_1 t195 [.int .u64 t195] (fun k_ => (w.heap.size ≤ k_)) (fun _ => False) rfl rfl ?aP (fun _ hk => hk.elim) ?aF ?aO ?aB ?aS ?aL ?_; (case aP => exact rfl); (case aB => exact (khu HB.out)); (case aF => exact (fun k_ hk => (Nat.le_trans (below_size (khu HB.out)) hk))); (case aO => exact (kru HO_5.out)); (case aS => exact (below_size (khu HB.out))); (case aL => have := LMc12.out; omega); intro v198 w14 ho hb hg hat; rw [← Ny197.out] at ho; replace HB := Aside0.mk (hb); have HO199 := Aside0.mk (ho); clear HO_5; clear ho hb hg hat))
          go_roundg k1
          case measure => have := HK1.out; omega
          case rel => exact ⟨(y197), (t196), (wrap64 (x16_1 + 1)), (by first | rfl | (simp; done) | (simp [*]; done)), (by first | rfl | (simp; done) | (simp [*]; done)), H', ⟨by have := HK1.out; omega⟩, ⟨kru HO199.out⟩, ⟨khu HB.out⟩⟩
         rw [if_neg c12] at H
         exact absurd H (by simp)
        rw [if_neg c10] at H
        exact absurd H (by simp)
       rw [if_neg c9] at H
       exact absurd H (by simp)
      rw [if_neg c8] at H
      have c8b0 : decide (x16_1 < (l1.length : Int)) = false := decide_eq_false c8
      clear c8
      by_cases c15 : 0 ≤ x16_1
      ·rw [if_pos c15] at H
       have c15b0 : decide (0 ≤ x16_1) = true := decide_eq_true c15
       clear c15
       by_cases c16 : x16_1 < (l0.length : Int)
       ·rw [if_pos c16] at H
        have c16b0 : decide (x16_1 < (l0.length : Int)) = true := decide_eq_true c16
        clear c16
        replace H := Option.bind_eq_some_iff.mp H
        obtain ⟨⟨t201, t202⟩, A170, H⟩ := H
        replace H : (if x5_1.length < 17592186044416 then (whole_amount_minus.l0 k1 l0 l1 (x5_1 ++ [t201]) t202 (l0.length : Int) (wrap64 (x16_1 + 1))) else (none)) = some r := H
        have A17 := Aside0.mk A170
        clear A170
        by_cases c18 : x5_1.length < 17592186044416
        ·rw [if_pos c18] at H
         have LMc18 := Aside0.mk c18
         clear c18
         obtain ⟨y203, hy203⟩ : ∃ y_ : List Int, y_ = (x5_1 ++ [t201]) := ⟨_, rfl⟩
         replace H : (whole_amount_minus.l0 k1 l0 l1 y203 t202 (l0.length : Int) (wrap64 (x16_1 + 1))) = some r := by first | (rw [hy203]; with_reducible exact H) | (have H2_ := (Option.bind_some _ _).symm.trans H; rw [hy203]; with_reducible exact H2_) | (have H2_ := (Option.bind_some _ _).symm.trans H; with_reducible exact H2_) | with_reducible exact H | (rw [hy203]; exact H) | exact H
         have Ny203 := Aside0.mk hy203
         clear hy203
         have H' := Aside0.mk H
         clear H
         have p200 : 0 ≤ (x16_1 : Int) := of_decide_eq_true ‹_›
         have q200 : x16_1 < (l0.length : Int) := of_decide_eq_true ‹_›
         obtain ⟨ad200, e200, hx200_0⟩ := Kd.at_int HR0.out x16_1 p200 q200
         cases e200
         replace hx200_0 := (HB.out.cell (World.block_lt_of_cell? w _ hx200_0)).trans hx200_0
         replace p200 := eq_true p200
         replace q200 := eq_true q200
         have hx19 := bits_Sub64.run A17.out
         go_wp2_with (first | ((with_reducible refine gate_builtin (b := .append) (xs := #[.tmp 37, .tmp 39]) rfl ?_); at_builtin; refine Kd.R_append (Kd.int .u64) (w0 := w) w.heap.size rfl (.tmp 37) (.tmp 39) 22 36 (.int .u64 0) 8 rfl Tryd.underlying22 info36 rfl (by decide) (by omega) u5 x5_1 t201 [.int .u64 t201] (fun k_ => (w.heap.size ≤ k_)) (fun _ => False) rfl rfl ?aP (fun _ hk => hk.elim) ?aF ?aO ?aB ?aS ?aL ?_; (case aP => exact rfl); (case aB => exact (khu HB.out)); (case aF => exact (fun k_ hk => (Nat.le_trans (below_size (khu HB.out)) hk))); (case aO => exact (kru HO_5.out)); (case aS => exact (below_size (khu HB.out))); (case aL => have := LMc18.out; omega); intro v204 w20 ho hb hg hat; rw [← Ny203.out] at ho; replace HB := Aside0.mk (hb); have HO205 := Aside0.mk (ho); clear HO_5; clear ho hb hg hat))
         go_roundg k1
         case measure => have := HK1.out; omega
         case rel => exact ⟨(y203), (t202), (wrap64 (x16_1 + 1)), (by first | rfl | (simp; done) | (simp [*]; done)), (by first | rfl | (simp; done) | (simp [*]; done)), H', ⟨by have := HK1.out; omega⟩, ⟨kru HO205.out⟩, ⟨khu HB.out⟩⟩
        rw [if_neg c18] at H
        exact absurd H (by simp)
       rw [if_neg c16] at H
       exact absurd H (by simp)
      rw [if_neg c15] at H
      exact absurd H (by simp)
     rw [if_neg c7] at H
     have c7b0 : decide (x16_1 < (l0.length : Int)) = false := decide_eq_false c7
     clear c7
     replace H := Option.bind_eq_some_iff.mp H
     obtain ⟨t206, A210, H⟩ := H
     replace H : (some t206) = some r := H
     have A21 := Aside0.mk A210
     clear A210
     obtain rfl := Option.some.inj H
     obtain ⟨Ao22, co22, eo22⟩ := Kd.R_slice HO_5.out
     subst eo22
     go_wp2_with (first | ((with_reducible refine gate_callee (f := 35) rfl ?_); refine kgl (some 44) rfl rfl Tryd.func35 #[.slice Ao22 x5_1.length co22] rfl ?_; (with_reducible refine (whole_trimmed.calls k1 (fun k_ => some k_ = (.slice Ao22 x5_1.length co22 : Value).ownBlock) _ _ x5_1 t206 _ ?side1 A21.out).mono ?_); (case side1 => exact Kd.R_V (Kd.R_tight rfl (HO_5.out))); rintro e w23 ⟨v207, rfl, ho0, hb⟩; refine ⟨_, rfl, ?_⟩; have HO208 := Aside0.mk (Kd.V_lower (Kd.V_mono (ok' := fun k_ => (w.heap.size ≤ k_)) ho0 (fun k_ hk_ => Or.elim hk_ (fun hs_ => ((HO_5.out).1 k_ hs_.symm)) (fun hn_ => (Nat.le_trans (below_size (khu HB.out)) hn_)))) (below_size (khu HB.out))); replace HO_5 := krb HO_5 hb; replace HB := kbs HB hb; (try clear hb); (try clear hb2); (try clear hk); (try clear hi); (try clear ho0)))
     go_ret
     exact ⟨_, by first | rfl | (simp [*, errW_none, errW_some] <;> rfl), kvu HO208.out, khu HB.out⟩
  rw [if_neg c4] at H
  exact absurd H (by simp)
 rw [if_neg c3] at H
 exact absurd H (by simp)
def whole_number_plus.f (k : Nat) (l0_0 : List Int) (a0_1 : Bool) (l1_0 : List Int) (a1_1 : Bool) : Option (List Int × Bool) := if (a0_1 == a1_1) = true then ((whole_amount_plus.f k l0_0 l1_0).bind fun t212 => ((whole_signed.f t212 a0_1).bind fun bt215 => (some (bt215.1, bt215.2)))) else ((whole_amount_cmp.f k l0_0 l1_0).bind fun t219 => (if t219 ≥ 0 then ((whole_amount_minus.f k l0_0 l1_0).bind fun t220 => ((whole_signed.f t220 a0_1).bind fun bt223 => (some (bt223.1, bt223.2)))) else ((whole_amount_minus.f k l1_0 l0_0).bind fun t227 => ((whole_signed.f t227 a1_1).bind fun bt230 => (some (bt230.1, bt230.2))))))
theorem whole_number_plus.mono : ∀ a0 a1 a2 a3 k, LeO (whole_number_plus.f k a0 a1 a2 a3) (whole_number_plus.f (k + 1) a0 a1 a2 a3) := by
 intro a0 a1 a2 a3 k
 unfold whole_number_plus.f
 repeat' first
   | (with_reducible exact whole_amount_cmp.mono _ _ _)
   | (with_reducible exact whole_amount_minus.mono _ _ _)
   | (with_reducible exact whole_amount_plus.mono _ _ _)
   | (with_reducible exact LeO.refl _)
   | (with_reducible exact LeO.none _)
   | (with_reducible refine LeO.ite ?_ ?_)
   | (with_reducible refine LeO.bind ?_ (fun _ => ?_))
   | exact whole_amount_cmp.mono _ _ _
   | exact whole_amount_minus.mono _ _ _
   | exact whole_amount_plus.mono _ _ _
   | exact LeO.none _
   | refine LeO.ite ?_ ?_
   | refine LeO.bind ?_ (fun _ => ?_)
def whole_number_plus.T2 : Bool × List (List Nat × List Nat) := (true, [([], []), ([0], [0]), ([], []), ([2], [2]), ([1, 3], [1, 3]), ([], []), ([5], [5]), ([4, 6, 4], [4, 6]), ([7, 7, 0, 1, 2, 3, 4, 5, 6, 7], [7])])
def whole_number_plus.B2 : List Nat := [0, 1, 0, 4, 15, 0, 32, 127, 255]
theorem whole_number_plus.tab2 : rtab .any (opsOf Tryd.f38 2) = whole_number_plus.T2 := by kernel_rfl
theorem whole_number_plus.bits2 : waitsOk whole_number_plus.T2.2 whole_number_plus.B2 = true := by kernel_rfl
def whole_number_plus.T4 : Bool × List (List Nat × List Nat) := (true, [([], []), ([0], [0]), ([], []), ([2], [2]), ([1, 3], [1, 3]), ([], []), ([5], [5]), ([4, 6, 4], [4, 6]), ([7, 7, 0, 1, 2, 3, 4, 5, 6, 7], [7])])
def whole_number_plus.B4 : List Nat := [0, 1, 0, 4, 15, 0, 32, 127, 255]
theorem whole_number_plus.tab4 : rtab .any (opsOf Tryd.f38 4) = whole_number_plus.T4 := by kernel_rfl
theorem whole_number_plus.bits4 : waitsOk whole_number_plus.T4.2 whole_number_plus.B4 = true := by kernel_rfl
def whole_number_plus.T5 : Bool × List (List Nat × List Nat) := (true, [([], []), ([0], [0]), ([], []), ([2], [2]), ([1, 3], [1, 3]), ([], []), ([5], [5]), ([4, 6, 4], [4, 6]), ([7, 7, 0, 1, 2, 3, 4, 5, 6, 7], [7])])
def whole_number_plus.B5 : List Nat := [0, 1, 0, 4, 15, 0, 32, 127, 255]
theorem whole_number_plus.tab5 : rtab .any (opsOf Tryd.f38 5) = whole_number_plus.T5 := by kernel_rfl
theorem whole_number_plus.bits5 : waitsOk whole_number_plus.T5.2 whole_number_plus.B5 = true := by kernel_rfl
theorem whole_number_plus.calls (k : Nat) (P0_0_ : Nat → Prop) (A0_0 : Option Addr) (c0_0 : Nat) (l0_0 : List Int) (a0_1 : Bool) (P1_0_ : Nat → Prop) (A1_0 : Option Addr) (c1_0 : Nat) (l1_0 : List Int) (a1_1 : Bool) (r1 : List Int) (r2 : Bool) (w : World) (hs0_0 : Kd.V (Kd.int .u64) 36 w w.heap.size (fun k_ => P0_0_ k_) (.slice A0_0 l0_0.length c0_0) l0_0) (hs1_0 : Kd.V (Kd.int .u64) 36 w w.heap.size (fun k_ => P1_0_ k_) (.slice A1_0 l1_0.length c1_0) l1_0) (h : whole_number_plus.f k l0_0 a0_1 l1_0 a1_1 = some (r1, r2)) :
  Calls Tryd.prog 38 #[.agg #[.slice A0_0 l0_0.length c0_0, .bool a0_1], .agg #[.slice A1_0 l1_0.length c1_0, .bool a1_1]] w fun e w' => ∃ v0_ : Value, e = .returned (.agg #[v0_, .bool r2]) ∧ Kd.V (Kd.int .u64) 36 w' w.heap.size (fun k_ => ((P0_0_ k_ ∨ P1_0_ k_) ∨ w.heap.size ≤ k_)) v0_ r1 ∧ Below w.heap.size w w' := by
 have hu62 := Tryd.underlying62
 have K := Kp.refl w
 replace K := K.parV (Kd.V_mono (ok' := fun k => P0_0_ k) hs0_0 (fun _ h => h))
 clear hs0_0
 replace K := K.parV (Kd.V_mono (ok' := fun k => P1_0_ k) hs1_0 (fun _ h => h))
 clear hs1_0
 try simp only [klv] at K
 rw [whole_number_plus.f] at h
 by_cases c_0 : (a0_1 == a1_1) = true
 ·rw [if_pos c_0] at h
  have c_0b : decide (a0_1 = a1_1) = true := by simpa using c_0
  go_enter Tryd.func38, Tryd.ntmps38
  go_wp2_with (first | (refine gd 2 rfl ?_; refine kbk 2 #[.slice A0_0 l0_0.length c0_0, .bool a0_1] 62 K.u ?_; clear K; intro g1 W2 K) | (refine gd 3 rfl ?_; refine kbk 3 #[.slice A1_0 l1_0.length c1_0, .bool a1_1] 62 K.u ?_; clear K; intro g3 W4 K) | (refine gd 4 rfl ?_; refine kbk 4 #[.slice none 0 0, .bool false] 62 K.u ?_; clear K; intro g5 W6 K; obtain ⟨ua0, ub0⟩ := K.cell2 0 rfl; obtain ⟨ua1, ub1⟩ := K.cell2 1 rfl))
  clear ua0 ub0 ua1 ub1
  replace h := bindA h
  obtain ⟨x7, A8, h⟩ := h
  replace h := bindA h
  obtain ⟨⟨x9, z10⟩, A11, h⟩ := h
  dsimp only at h
  obtain ⟨Bs, Vs, Os, hBs, hVs, hOs, K⟩ := K.abs
  have HS : Aside0 (∀ l m o W, Kp w (Bs ++ l) m o W → W.cell? ⟨g1, 0, none⟩ = some (.slice A0_0 l0_0.length c0_0) ∧ W.cell? ⟨g1, 1, none⟩ = some (.bool a0_1) ∧ W.cell? ⟨g3, 0, none⟩ = some (.slice A1_0 l1_0.length c1_0) ∧ W.cell? ⟨g3, 1, none⟩ = some (.bool a1_1)) := ⟨fun l m o W K => by rw [hBs.out] at K; exact ⟨K.cell 0 rfl 0 rfl, K.cell 0 rfl 1 rfl, K.cell 1 rfl 0 rfl, K.cell 1 rfl 1 rfl⟩⟩
  refine kpstart (n := 9) (ds := []) (S := fun W => W.cell? ⟨g1, 0, none⟩ = some (.slice A0_0 l0_0.length c0_0) ∧ W.cell? ⟨g1, 1, none⟩ = some (.bool a0_1) ∧ W.cell? ⟨g3, 0, none⟩ = some (.slice A1_0 l1_0.length c1_0) ∧ W.cell? ⟨g3, 1, none⟩ = some (.bool a1_1)) (bm_ 9 0) (by kernel_rfl) rfl rfl K (HS.out [] _ _) (fun W14 K hH => ?_)
  refine with_tabW whole_number_plus.tab2 whole_number_plus.bits2 (fun HT_ HW_ => ?_)
  refine pu_ 0 10 ?_ (bm_ 9 1) rfl rfl (any_of HT_.out (by kernel_rfl)) (fun _ _ _ h => h) (by rfl) ?_ ?_ ?_ ?_
  rotate_left
  ·intro w'
   go_simp
   with_reducible rfl
  rotate_left
  ·simp only [Act.put, kss, i64_w, i32_w]
   rfl
  refine tk_ 1 11 ?_ (bm_ 9 3) rfl rfl (take_ofW HT_.out HW_.out (by kernel_rfl)) (fun _ _ _ h => h) (by rfl) ?_ hH ?_ ?_ ?_
  rotate_left
  ·rintro w' ⟨s0, s1, s2, s3⟩
   go_simp
   with_reducible rfl
  rotate_left
  ·simp only [Act.put, kss, i64_w, i32_w]
   rfl
  refine pu_ 2 12 ?_ (bm_ 9 7) rfl rfl (any_of HT_.out (by kernel_rfl)) (fun _ _ _ h => h) (by rfl) ?_ ?_ ?_ ?_
  rotate_left
  ·intro w'
   go_simp
   with_reducible rfl
  rotate_left
  ·simp only [Act.put, kss, i64_w, i32_w]
   rfl
  refine tk_ 3 13 ?_ (bm_ 9 15) rfl rfl (take_ofW HT_.out HW_.out (by kernel_rfl)) (fun _ _ _ h => h) (by rfl) ?_ hH ?_ ?_ ?_
  rotate_left
  ·rintro w' ⟨s0, s1, s2, s3⟩
   go_simp
   with_reducible rfl
  rotate_left
  ·simp only [Act.put, kss, i64_w, i32_w]
   rfl
  refine pu_ 5 15 ?_ (bm_ 9 47) rfl rfl (any_of HT_.out (by kernel_rfl)) (fun _ _ _ h => h) (by rfl) ?_ ?_ ?_ ?_
  rotate_left
  ·intro w'
   go_simp
   with_reducible rfl
  rotate_left
  ·simp only [Act.put, kss, i64_w, i32_w]
   rfl
  refine tk_ 6 16 ?_ (bm_ 9 111) rfl rfl (take_ofW HT_.out HW_.out (by kernel_rfl)) (fun _ _ _ h => h) (by rfl) ?_ hH ?_ ?_ ?_
  rotate_left
  ·rintro w' ⟨s0, s1, s2, s3⟩
   go_simp
   with_reducible rfl
  rotate_left
  ·simp only [Act.put, kss, i64_w, i32_w]
   rfl
  refine one_ (i := 4) (N := some 14) (bm_ 9 127) rfl rfl (one_of HT_.out (by kernel_rfl)) (by decide) (fun Kc hK => ?_)
  refine kgo Tryd.func74 #[.slice A0_0 l0_0.length c0_0, .slice A1_0 l1_0.length c1_0] (by rfl) rfl rfl ?_
  refine (whole_amount_plus.calls _ _ _ _ l0_0 _ _ _ l1_0 x7 _ (K.V 0 (hv hVs rfl)) (K.V 1 (hv hVs rfl)) A8.out).mono ?_
  rintro e W' ⟨v12, rfl, ho15, hb⟩
  replace K := K.addI 0 (fun k => (fun k => P0_0_ k) k ∨ (fun k => P1_0_ k) k) hb ho15 (fun _ h => h.elim (fun h => (h).l) fun h => (h).r)
  clear hb ho15
  refine ⟨_, rfl, hK.out _ _ (HS.out _ _ _ _ K) fun hH => ?_⟩
  clear hK Kc
  refine norm_ (a' := ?_) ?_ ?_
  rotate_left
  ·show Act.put _ (some 14) _ = _
   simp only [Act.put, kss, i64_w, i32_w]
   rfl
  refine one_ (i := 7) (N := some 17) (bm_ 9 255) rfl rfl (one_of HT_.out (by kernel_rfl)) (by decide) (fun Kc hK => ?_)
  obtain ⟨P16, c17, e18⟩ := K.slice 2 (hv hVs rfl)
  subst e18
  refine kgo Tryd.func34 #[.slice P16 x7.length c17, .bool a0_1] (by rfl) rfl rfl ?_
  refine (whole_signed.calls _ _ _ x7 a0_1 x9 z10 _ (K.V 2 (hv hVs rfl)) A11.out).mono ?_
  rintro e W' ⟨v13, rfl, ho19, hb⟩
  replace K := K.addI 1 (fun k => (fun k => P0_0_ k) k ∨ (fun k => P1_0_ k) k) hb ho19 (fun _ h => h)
  clear hb ho19
  refine ⟨_, rfl, hK.out _ _ (HS.out _ _ _ _ K) fun hH => ?_⟩
  clear hK Kc
  refine norm_ (a' := ?_) ?_ ?_
  rotate_left
  ·show Act.put _ (some 17) _ = _
   simp only [Act.put, kss, i64_w, i32_w]
   rfl
  obtain ⟨P20, c21, e22⟩ := K.slice 3 (hv hVs rfl)
  subst e22
  rw [hBs.out, hVs.out, hOs.out] at K
  simp only [kls, klv] at K
  clear hBs hVs hOs HS hH
  refine ko2 (i := 8) (bm_ 9 511) 2 (.slice P20 x9.length c21) (.bool z10) K rfl rfl rfl (one_of HT_.out (by kernel_rfl)) (by decide) (by rfl) (fun W K => ⟨K.cell 0 rfl 0 rfl, K.cell 0 rfl 1 rfl, K.cell 1 rfl 0 rfl, K.cell 1 rfl 1 rfl⟩) ?_
  clear K
  intro W23 K
  simp only [kls, klv] at K
  refine done_ (done_of HT_.out (by kernel_rfl)) ?_
  clear HT_ HW_
  simp only [Option.some.injEq, Prod.mk.injEq] at h
  obtain ⟨rfl, rfl⟩ := h
  go_wp2
  refine bodyPost_ret (results_single rfl (.cell g5 62 #[.slice P20 x9.length c21, .bool z10] (0, 0) _ rfl (K.u.heap 2 rfl) Tryd.underlying62 rfl (by kernel_rfl) .nil)) rfl ?_
  exact ⟨_, rfl, K.u.hand 3 rfl (fun k_ h => by first | exact h | exact .inr (h.resolve_left id) | (simp only [or_false, false_or, or_self] at h ⊢; first | exact h | (rcases h with h | h <;> simp_all) | simp_all)), K.u.below⟩
 rw [if_neg c_0] at h
 replace c_0 := Bool.eq_false_iff.mpr c_0
 have c_0b : decide (a0_1 = a1_1) = false := by simpa using c_0
 replace h := bindA h
 obtain ⟨n7, A8, h⟩ := h
 by_cases c_1 : n7 ≥ 0
 ·rw [if_pos c_1] at h
  have c_1b : decide (n7 ≥ 0) = true := decide_eq_true c_1
  go_enter Tryd.func38, Tryd.ntmps38
  go_wp2_with (first | (refine gd 2 rfl ?_; refine kbk 2 #[.slice A0_0 l0_0.length c0_0, .bool a0_1] 62 K.u ?_; clear K; intro g1 W2 K) | (refine gd 3 rfl ?_; refine kbk 3 #[.slice A1_0 l1_0.length c1_0, .bool a1_1] 62 K.u ?_; clear K; intro g3 W4 K) | (refine gd 4 rfl ?_; refine kbk 4 #[.slice none 0 0, .bool false] 62 K.u ?_; clear K; intro g5 W6 K; obtain ⟨ua0, ub0⟩ := K.cell2 0 rfl; obtain ⟨ua1, ub1⟩ := K.cell2 1 rfl) | (refine gd 22 rfl ?_; clear ua0 ub0 ua1 ub1; refine kgl (some 22) rfl rfl Tryd.func75 #[.slice A0_0 l0_0.length c0_0, .slice A1_0 l1_0.length c1_0] rfl ?_; refine (whole_amount_cmp.calls _ _ _ l0_0 _ _ l1_0 n7 _ (K.C 0 rfl) (K.le 0 rfl) (K.C 1 rfl) (K.le 1 rfl) A8.out).mono ?_; rintro e W9 ⟨rfl, hb⟩; refine ⟨_, rfl, ?_⟩; replace K := K.u.up hb.below; clear hb))
  replace h := bindA h
  obtain ⟨x10, A11, h⟩ := h
  replace h := bindA h
  obtain ⟨⟨x12, z13⟩, A14, h⟩ := h
  dsimp only at h
  obtain ⟨Bs, Vs, Os, hBs, hVs, hOs, K⟩ := K.abs
  have HS : Aside0 (∀ l m o W, Kp w (Bs ++ l) m o W → W.cell? ⟨g1, 0, none⟩ = some (.slice A0_0 l0_0.length c0_0) ∧ W.cell? ⟨g1, 1, none⟩ = some (.bool a0_1) ∧ W.cell? ⟨g3, 0, none⟩ = some (.slice A1_0 l1_0.length c1_0) ∧ W.cell? ⟨g3, 1, none⟩ = some (.bool a1_1)) := ⟨fun l m o W K => by rw [hBs.out] at K; exact ⟨K.cell 0 rfl 0 rfl, K.cell 0 rfl 1 rfl, K.cell 1 rfl 0 rfl, K.cell 1 rfl 1 rfl⟩⟩
  refine kpstart (n := 9) (ds := []) (S := fun W => W.cell? ⟨g1, 0, none⟩ = some (.slice A0_0 l0_0.length c0_0) ∧ W.cell? ⟨g1, 1, none⟩ = some (.bool a0_1) ∧ W.cell? ⟨g3, 0, none⟩ = some (.slice A1_0 l1_0.length c1_0) ∧ W.cell? ⟨g3, 1, none⟩ = some (.bool a1_1)) (bm_ 9 0) (by kernel_rfl) rfl rfl K (HS.out [] _ _) (fun W17 K hH => ?_)
  refine with_tabW whole_number_plus.tab4 whole_number_plus.bits4 (fun HT_ HW_ => ?_)
  refine pu_ 0 24 ?_ (bm_ 9 1) rfl rfl (any_of HT_.out (by kernel_rfl)) (fun _ _ _ h => h) (by rfl) ?_ ?_ ?_ ?_
  rotate_left
  ·intro w'
   go_simp
   with_reducible rfl
  rotate_left
  ·simp only [Act.put, kss, i64_w, i32_w]
   rfl
  refine tk_ 1 25 ?_ (bm_ 9 3) rfl rfl (take_ofW HT_.out HW_.out (by kernel_rfl)) (fun _ _ _ h => h) (by rfl) ?_ hH ?_ ?_ ?_
  rotate_left
  ·rintro w' ⟨s0, s1, s2, s3⟩
   go_simp
   with_reducible rfl
  rotate_left
  ·simp only [Act.put, kss, i64_w, i32_w]
   rfl
  refine pu_ 2 26 ?_ (bm_ 9 7) rfl rfl (any_of HT_.out (by kernel_rfl)) (fun _ _ _ h => h) (by rfl) ?_ ?_ ?_ ?_
  rotate_left
  ·intro w'
   go_simp
   with_reducible rfl
  rotate_left
  ·simp only [Act.put, kss, i64_w, i32_w]
   rfl
  refine tk_ 3 27 ?_ (bm_ 9 15) rfl rfl (take_ofW HT_.out HW_.out (by kernel_rfl)) (fun _ _ _ h => h) (by rfl) ?_ hH ?_ ?_ ?_
  rotate_left
  ·rintro w' ⟨s0, s1, s2, s3⟩
   go_simp
   with_reducible rfl
  rotate_left
  ·simp only [Act.put, kss, i64_w, i32_w]
   rfl
  refine pu_ 5 29 ?_ (bm_ 9 47) rfl rfl (any_of HT_.out (by kernel_rfl)) (fun _ _ _ h => h) (by rfl) ?_ ?_ ?_ ?_
  rotate_left
  ·intro w'
   go_simp
   with_reducible rfl
  rotate_left
  ·simp only [Act.put, kss, i64_w, i32_w]
   rfl
  refine tk_ 6 30 ?_ (bm_ 9 111) rfl rfl (take_ofW HT_.out HW_.out (by kernel_rfl)) (fun _ _ _ h => h) (by rfl) ?_ hH ?_ ?_ ?_
  rotate_left
  ·rintro w' ⟨s0, s1, s2, s3⟩
   go_simp
   with_reducible rfl
  rotate_left
  ·simp only [Act.put, kss, i64_w, i32_w]
   rfl
  refine one_ (i := 4) (N := some 28) (bm_ 9 127) rfl rfl (one_of HT_.out (by kernel_rfl)) (by decide) (fun Kc hK => ?_)
  refine kgo Tryd.func76 #[.slice A0_0 l0_0.length c0_0, .slice A1_0 l1_0.length c1_0] (by rfl) rfl rfl ?_
  refine (whole_amount_minus.calls _ _ _ l0_0 _ _ l1_0 x10 _ (K.C 0 (hv hVs rfl)) (K.le 0 (hv hVs rfl)) (K.C 1 (hv hVs rfl)) (K.le 1 (hv hVs rfl)) A11.out).mono ?_
  rintro e W' ⟨v15, rfl, ho18, hb⟩
  replace K := K.addFI 0 (fun _ => False) hb ho18
  clear hb ho18
  refine ⟨_, rfl, hK.out _ _ (HS.out _ _ _ _ K) fun hH => ?_⟩
  clear hK Kc
  refine norm_ (a' := ?_) ?_ ?_
  rotate_left
  ·show Act.put _ (some 28) _ = _
   simp only [Act.put, kss, i64_w, i32_w]
   rfl
  refine one_ (i := 7) (N := some 31) (bm_ 9 255) rfl rfl (one_of HT_.out (by kernel_rfl)) (by decide) (fun Kc hK => ?_)
  obtain ⟨P19, c20, e21⟩ := K.slice 2 (hv hVs rfl)
  subst e21
  refine kgo Tryd.func34 #[.slice P19 x10.length c20, .bool a0_1] (by rfl) rfl rfl ?_
  refine (whole_signed.calls _ _ _ x10 a0_1 x12 z13 _ (K.V 2 (hv hVs rfl)) A14.out).mono ?_
  rintro e W' ⟨v16, rfl, ho22, hb⟩
  replace K := K.addI 1 (fun _ => False) hb ho22 (fun _ h => h)
  clear hb ho22
  refine ⟨_, rfl, hK.out _ _ (HS.out _ _ _ _ K) fun hH => ?_⟩
  clear hK Kc
  refine norm_ (a' := ?_) ?_ ?_
  rotate_left
  ·show Act.put _ (some 31) _ = _
   simp only [Act.put, kss, i64_w, i32_w]
   rfl
  obtain ⟨P23, c24, e25⟩ := K.slice 3 (hv hVs rfl)
  subst e25
  rw [hBs.out, hVs.out, hOs.out] at K
  simp only [kls, klv] at K
  clear hBs hVs hOs HS hH
  refine ko2 (i := 8) (bm_ 9 511) 2 (.slice P23 x12.length c24) (.bool z13) K rfl rfl rfl (one_of HT_.out (by kernel_rfl)) (by decide) (by rfl) (fun W K => ⟨K.cell 0 rfl 0 rfl, K.cell 0 rfl 1 rfl, K.cell 1 rfl 0 rfl, K.cell 1 rfl 1 rfl⟩) ?_
  clear K
  intro W26 K
  simp only [kls, klv] at K
  refine done_ (done_of HT_.out (by kernel_rfl)) ?_
  clear HT_ HW_
  simp only [Option.some.injEq, Prod.mk.injEq] at h
  obtain ⟨rfl, rfl⟩ := h
  go_wp2
  refine bodyPost_ret (results_single rfl (.cell g5 62 #[.slice P23 x12.length c24, .bool z13] (0, 0) _ rfl (K.u.heap 2 rfl) Tryd.underlying62 rfl (by kernel_rfl) .nil)) rfl ?_
  exact ⟨_, rfl, K.u.hand 3 rfl (fun k_ h => h.elim (fun h => h.elim) .inr), K.u.below⟩
 rw [if_neg c_1] at h
 have c_1b : decide (n7 ≥ 0) = false := decide_eq_false c_1
 go_enter Tryd.func38, Tryd.ntmps38
 go_wp2_with (first | (refine gd 2 rfl ?_; refine kbk 2 #[.slice A0_0 l0_0.length c0_0, .bool a0_1] 62 K.u ?_; clear K; intro g1 W2 K) | (refine gd 3 rfl ?_; refine kbk 3 #[.slice A1_0 l1_0.length c1_0, .bool a1_1] 62 K.u ?_; clear K; intro g3 W4 K) | (refine gd 4 rfl ?_; refine kbk 4 #[.slice none 0 0, .bool false] 62 K.u ?_; clear K; intro g5 W6 K; obtain ⟨ua0, ub0⟩ := K.cell2 0 rfl; obtain ⟨ua1, ub1⟩ := K.cell2 1 rfl) | (refine gd 22 rfl ?_; clear ua0 ub0 ua1 ub1; refine kgl (some 22) rfl rfl Tryd.func75 #[.slice A0_0 l0_0.length c0_0, .slice A1_0 l1_0.length c1_0] rfl ?_; refine (whole_amount_cmp.calls _ _ _ l0_0 _ _ l1_0 n7 _ (K.C 0 rfl) (K.le 0 rfl) (K.C 1 rfl) (K.le 1 rfl) A8.out).mono ?_; rintro e W9 ⟨rfl, hb⟩; refine ⟨_, rfl, ?_⟩; replace K := K.u.up hb.below; clear hb))
 replace h := bindA h
 obtain ⟨x10, A11, h⟩ := h
 replace h := bindA h
 obtain ⟨⟨x12, z13⟩, A14, h⟩ := h
 dsimp only at h
 obtain ⟨Bs, Vs, Os, hBs, hVs, hOs, K⟩ := K.abs
 have HS : Aside0 (∀ l m o W, Kp w (Bs ++ l) m o W → W.cell? ⟨g3, 0, none⟩ = some (.slice A1_0 l1_0.length c1_0) ∧ W.cell? ⟨g3, 1, none⟩ = some (.bool a1_1) ∧ W.cell? ⟨g1, 0, none⟩ = some (.slice A0_0 l0_0.length c0_0) ∧ W.cell? ⟨g1, 1, none⟩ = some (.bool a0_1)) := ⟨fun l m o W K => by rw [hBs.out] at K; exact ⟨K.cell 1 rfl 0 rfl, K.cell 1 rfl 1 rfl, K.cell 0 rfl 0 rfl, K.cell 0 rfl 1 rfl⟩⟩
 refine kpstart (n := 9) (ds := []) (S := fun W => W.cell? ⟨g3, 0, none⟩ = some (.slice A1_0 l1_0.length c1_0) ∧ W.cell? ⟨g3, 1, none⟩ = some (.bool a1_1) ∧ W.cell? ⟨g1, 0, none⟩ = some (.slice A0_0 l0_0.length c0_0) ∧ W.cell? ⟨g1, 1, none⟩ = some (.bool a0_1)) (bm_ 9 0) (by kernel_rfl) rfl rfl K (HS.out [] _ _) (fun W17 K hH => ?_)
 refine with_tabW whole_number_plus.tab5 whole_number_plus.bits5 (fun HT_ HW_ => ?_)
 refine pu_ 0 32 ?_ (bm_ 9 1) rfl rfl (any_of HT_.out (by kernel_rfl)) (fun _ _ _ h => h) (by rfl) ?_ ?_ ?_ ?_
 rotate_left
 ·intro w'
  go_simp
  with_reducible rfl
 rotate_left
 ·simp only [Act.put, kss, i64_w, i32_w]
  rfl
 refine tk_ 1 33 ?_ (bm_ 9 3) rfl rfl (take_ofW HT_.out HW_.out (by kernel_rfl)) (fun _ _ _ h => h) (by rfl) ?_ hH ?_ ?_ ?_
 rotate_left
 ·rintro w' ⟨s0, s1, s2, s3⟩
  go_simp
  with_reducible rfl
 rotate_left
 ·simp only [Act.put, kss, i64_w, i32_w]
  rfl
 refine pu_ 2 34 ?_ (bm_ 9 7) rfl rfl (any_of HT_.out (by kernel_rfl)) (fun _ _ _ h => h) (by rfl) ?_ ?_ ?_ ?_
 rotate_left
 ·intro w'
  go_simp
  with_reducible rfl
 rotate_left
 ·simp only [Act.put, kss, i64_w, i32_w]
  rfl
 refine tk_ 3 35 ?_ (bm_ 9 15) rfl rfl (take_ofW HT_.out HW_.out (by kernel_rfl)) (fun _ _ _ h => h) (by rfl) ?_ hH ?_ ?_ ?_
 rotate_left
 ·rintro w' ⟨s0, s1, s2, s3⟩
  go_simp
  with_reducible rfl
 rotate_left
 ·simp only [Act.put, kss, i64_w, i32_w]
  rfl
 refine pu_ 5 37 ?_ (bm_ 9 47) rfl rfl (any_of HT_.out (by kernel_rfl)) (fun _ _ _ h => h) (by rfl) ?_ ?_ ?_ ?_
 rotate_left
 ·intro w'
  go_simp
  with_reducible rfl
 rotate_left
 ·simp only [Act.put, kss, i64_w, i32_w]
  rfl
 refine tk_ 6 38 ?_ (bm_ 9 111) rfl rfl (take_ofW HT_.out HW_.out (by kernel_rfl)) (fun _ _ _ h => h) (by rfl) ?_ hH ?_ ?_ ?_
 rotate_left
 ·rintro w' ⟨s0, s1, s2, s3⟩
  go_simp
  with_reducible rfl
 rotate_left
 ·simp only [Act.put, kss, i64_w, i32_w]
  rfl
 refine one_ (i := 4) (N := some 36) (bm_ 9 127) rfl rfl (one_of HT_.out (by kernel_rfl)) (by decide) (fun Kc hK => ?_)
 refine kgo Tryd.func76 #[.slice A1_0 l1_0.length c1_0, .slice A0_0 l0_0.length c0_0] (by rfl) rfl rfl ?_
 refine (whole_amount_minus.calls _ _ _ l1_0 _ _ l0_0 x10 _ (K.C 1 (hv hVs rfl)) (K.le 1 (hv hVs rfl)) (K.C 0 (hv hVs rfl)) (K.le 0 (hv hVs rfl)) A11.out).mono ?_
 rintro e W' ⟨v15, rfl, ho18, hb⟩
 replace K := K.addFI 0 (fun _ => False) hb ho18
 clear hb ho18
 refine ⟨_, rfl, hK.out _ _ (HS.out _ _ _ _ K) fun hH => ?_⟩
 clear hK Kc
 refine norm_ (a' := ?_) ?_ ?_
 rotate_left
 ·show Act.put _ (some 36) _ = _
  simp only [Act.put, kss, i64_w, i32_w]
  rfl
 refine one_ (i := 7) (N := some 39) (bm_ 9 255) rfl rfl (one_of HT_.out (by kernel_rfl)) (by decide) (fun Kc hK => ?_)
 obtain ⟨P19, c20, e21⟩ := K.slice 2 (hv hVs rfl)
 subst e21
 refine kgo Tryd.func34 #[.slice P19 x10.length c20, .bool a1_1] (by rfl) rfl rfl ?_
 refine (whole_signed.calls _ _ _ x10 a1_1 x12 z13 _ (K.V 2 (hv hVs rfl)) A14.out).mono ?_
 rintro e W' ⟨v16, rfl, ho22, hb⟩
 replace K := K.addI 1 (fun _ => False) hb ho22 (fun _ h => h)
 clear hb ho22
 refine ⟨_, rfl, hK.out _ _ (HS.out _ _ _ _ K) fun hH => ?_⟩
 clear hK Kc
 refine norm_ (a' := ?_) ?_ ?_
 rotate_left
 ·show Act.put _ (some 39) _ = _
  simp only [Act.put, kss, i64_w, i32_w]
  rfl
 obtain ⟨P23, c24, e25⟩ := K.slice 3 (hv hVs rfl)
 subst e25
 rw [hBs.out, hVs.out, hOs.out] at K
 simp only [kls, klv] at K
 clear hBs hVs hOs HS hH
 refine ko2 (i := 8) (bm_ 9 511) 2 (.slice P23 x12.length c24) (.bool z13) K rfl rfl rfl (one_of HT_.out (by kernel_rfl)) (by decide) (by rfl) (fun W K => ⟨K.cell 1 rfl 0 rfl, K.cell 1 rfl 1 rfl, K.cell 0 rfl 0 rfl, K.cell 0 rfl 1 rfl⟩) ?_
 clear K
 intro W26 K
 simp only [kls, klv] at K
 refine done_ (done_of HT_.out (by kernel_rfl)) ?_
 clear HT_ HW_
 simp only [Option.some.injEq, Prod.mk.injEq] at h
 obtain ⟨rfl, rfl⟩ := h
 go_wp2
 refine bodyPost_ret (results_single rfl (.cell g5 62 #[.slice P23 x12.length c24, .bool z13] (0, 0) _ rfl (K.u.heap 2 rfl) Tryd.underlying62 rfl (by kernel_rfl) .nil)) rfl ?_
 exact ⟨_, rfl, K.u.hand 3 rfl (fun k_ h => h.elim (fun h => h.elim) .inr), K.u.below⟩
def whole_Add.f (k : Nat) (a0_0 : Bool) (l0_1 : List Int) (a1_0 : Bool) (l1_1 : List Int) : Option (Bool × List Int × Int) := (whole_of.f k a0_0 l0_1).bind fun bt496 => ((whole_of.f k a1_0 l1_1).bind fun bt500 => ((whole_number_plus.f k bt496.1 bt496.2 bt500.1 bt500.2).bind fun bt504 => ((whole_number_told.f bt504.1 bt504.2).bind fun bt508 => (some (bt508.1, bt508.2.1, bt508.2.2)))))
theorem whole_Add.mono : ∀ a0 a1 a2 a3 k, LeO (whole_Add.f k a0 a1 a2 a3) (whole_Add.f (k + 1) a0 a1 a2 a3) := by
 intro a0 a1 a2 a3 k
 unfold whole_Add.f
 repeat' first
   | (with_reducible exact whole_number_plus.mono _ _ _ _ _)
   | (with_reducible exact whole_of.mono _ _ _)
   | (with_reducible exact LeO.refl _)
   | (with_reducible exact LeO.none _)
   | (with_reducible refine LeO.ite ?_ ?_)
   | (with_reducible refine LeO.bind ?_ (fun _ => ?_))
   | exact whole_number_plus.mono _ _ _ _ _
   | exact whole_of.mono _ _ _
   | exact LeO.none _
   | refine LeO.ite ?_ ?_
   | refine LeO.bind ?_ (fun _ => ?_)
def whole_Add.T1 : Bool × List (List Nat × List Nat) := (true, [([], []), ([0], [0]), ([], []), ([2, 1], [2]), ([1, 3, 3], [1, 3]), ([4, 4], [4]), ([5], [5]), ([5], [5]), ([6, 5, 0, 1, 2, 3, 4, 5, 6, 7], [6]), ([7, 8, 0, 1, 2, 3, 4, 5, 6, 7, 8], [7])])
def whole_Add.B1 : List Nat := [0, 1, 0, 7, 15, 31, 63, 63, 255, 511]
theorem whole_Add.tab1 : rtab .any (opsOf Tryd.f9 1) = whole_Add.T1 := by kernel_rfl
theorem whole_Add.bits1 : waitsOk whole_Add.T1.2 whole_Add.B1 = true := by kernel_rfl
theorem whole_Add.calls (k : Nat) (a0_0 : Bool) (A0_1 : Option Addr) (c0_1 : Nat) (l0_1 : List Int) (a1_0 : Bool) (A1_1 : Option Addr) (c1_1 : Nat) (l1_1 : List Int) (r1 : Bool) (r2 : List Int) (r3 : Int) (w : World) (hr0_1 : Kd.C (Kd.int .u64) w A0_1 l0_1.length l0_1) (hc0_1 : l0_1.length ≤ c0_1) (hr1_1 : Kd.C (Kd.int .u64) w A1_1 l1_1.length l1_1) (hc1_1 : l1_1.length ≤ c1_1) (h : whole_Add.f k a0_0 l0_1 a1_0 l1_1 = some (r1, r2, r3)) :
  Calls Tryd.prog 9 #[.agg #[.bool a0_0, .slice A0_1 l0_1.length c0_1], .agg #[.bool a1_0, .slice A1_1 l1_1.length c1_1]] w fun e w' => ∃ v1_ : Value, e = .returned (.tuple #[.agg #[.bool r1, v1_], .int .i64 r3]) ∧ Kd.R (Kd.int .u64) 36 w' w.heap.size (fun _ => True) v1_ r2 ∧ Below w.heap.size w w' := by
 have hu25 := Tryd.underlying25
 have K := Kp.refl w
 replace K := K.parV (Kd.V_mono (ok' := fun _ => True) (Kd.V_mk (e := 36) (base := 0) hc0_1 (Kd.C_F (Kd.heap_int .u64) hr0_1)) (fun _ h => trivial))
 clear hr0_1 hc0_1
 replace K := K.parV (Kd.V_mono (ok' := fun _ => True) (Kd.V_mk (e := 36) (base := 0) hc1_1 (Kd.C_F (Kd.heap_int .u64) hr1_1)) (fun _ h => trivial))
 clear hr1_1 hc1_1
 try simp only [klv] at K
 rw [whole_Add.f] at h
 go_enter Tryd.func9, Tryd.ntmps9
 go_wp2_with (first | (refine gd 2 rfl ?_; refine kbk 2 #[.bool a0_0, .slice A0_1 l0_1.length c0_1] 25 K.u ?_; clear K; intro g1 W2 K) | (refine gd 3 rfl ?_; refine kbk 3 #[.bool a1_0, .slice A1_1 l1_1.length c1_1] 25 K.u ?_; clear K; intro g3 W4 K) | (refine gd 4 rfl ?_; refine kbk 4 #[.bool false, .slice none 0 0] 25 K.u ?_; clear K; intro g5 W6 K))
 replace h := bindA h
 obtain ⟨⟨x7, z8⟩, A9, h⟩ := h
 dsimp only at h
 replace h := bindA h
 obtain ⟨⟨x10, z11⟩, A12, h⟩ := h
 dsimp only at h
 replace h := bindA h
 obtain ⟨⟨x13, z14⟩, A15, h⟩ := h
 dsimp only at h
 replace h := bindA h
 obtain ⟨⟨z16, x17, n18⟩, A19, h⟩ := h
 dsimp only at h
 obtain ⟨Bs, Vs, Os, hBs, hVs, hOs, K⟩ := K.abs
 have HS : Aside0 (∀ l m o W, Kp w (Bs ++ l) m o W → W.cell? ⟨g1, 0, none⟩ = some (.bool a0_0) ∧ W.cell? ⟨g1, 1, none⟩ = some (.slice A0_1 l0_1.length c0_1) ∧ W.cell? ⟨g3, 0, none⟩ = some (.bool a1_0) ∧ W.cell? ⟨g3, 1, none⟩ = some (.slice A1_1 l1_1.length c1_1)) := ⟨fun l m o W K => by rw [hBs.out] at K; exact ⟨K.cell 0 rfl 0 rfl, K.cell 0 rfl 1 rfl, K.cell 1 rfl 0 rfl, K.cell 1 rfl 1 rfl⟩⟩
 refine kpstart (n := 10) (ds := []) (S := fun W => W.cell? ⟨g1, 0, none⟩ = some (.bool a0_0) ∧ W.cell? ⟨g1, 1, none⟩ = some (.slice A0_1 l0_1.length c0_1) ∧ W.cell? ⟨g3, 0, none⟩ = some (.bool a1_0) ∧ W.cell? ⟨g3, 1, none⟩ = some (.slice A1_1 l1_1.length c1_1)) (bm_ 10 0) (by kernel_rfl) rfl rfl K (HS.out [] _ _) (fun W24 K hH => ?_)
 refine with_tabW whole_Add.tab1 whole_Add.bits1 (fun HT_ HW_ => ?_)
 refine tk_ 0 6 ?_ (bm_ 10 1) rfl rfl (take_ofW HT_.out HW_.out (by kernel_rfl)) (fun _ _ _ h => h) (by rfl) ?_ hH ?_ ?_ ?_
 rotate_left
 ·rintro w' ⟨s0, s1, s2, s3⟩
  go_simp
  with_reducible rfl
 rotate_left
 ·simp only [Act.put, kss, i64_w, i32_w]
  rfl
 refine tk_ 2 8 ?_ (bm_ 10 5) rfl rfl (take_ofW HT_.out HW_.out (by kernel_rfl)) (fun _ _ _ h => h) (by rfl) ?_ hH ?_ ?_ ?_
 rotate_left
 ·rintro w' ⟨s0, s1, s2, s3⟩
  go_simp
  with_reducible rfl
 rotate_left
 ·simp only [Act.put, kss, i64_w, i32_w]
  rfl
 refine one_ (i := 1) (N := some 7) (bm_ 10 7) rfl rfl (one_of HT_.out (by kernel_rfl)) (by decide) (fun Kc hK => ?_)
 refine kgo Tryd.func37 #[.agg #[.bool a0_0, .slice A0_1 l0_1.length c0_1]] (by rfl) rfl rfl ?_
 refine (whole_of.calls _ a0_0 _ _ _ l0_1 x7 z8 _ (K.V 0 (hv hVs rfl)) A9.out).mono ?_
 rintro e W' ⟨v20, rfl, ho25, hb⟩
 replace K := K.addI 0 (fun _ => True) hb ho25 (fun _ h => h.t)
 clear hb ho25
 refine ⟨_, rfl, hK.out _ _ (HS.out _ _ _ _ K) fun hH => ?_⟩
 clear hK Kc
 refine norm_ (a' := ?_) ?_ ?_
 rotate_left
 ·show Act.put _ (some 7) _ = _
  simp only [Act.put, kss, i64_w, i32_w]
  rfl
 refine one_ (i := 3) (N := some 9) (bm_ 10 15) rfl rfl (one_of HT_.out (by kernel_rfl)) (by decide) (fun Kc hK => ?_)
 refine kgo Tryd.func37 #[.agg #[.bool a1_0, .slice A1_1 l1_1.length c1_1]] (by rfl) rfl rfl ?_
 refine (whole_of.calls _ a1_0 _ _ _ l1_1 x10 z11 _ (K.V 1 (hv hVs rfl)) A12.out).mono ?_
 rintro e W' ⟨v21, rfl, ho26, hb⟩
 replace K := K.addI 1 (fun _ => True) hb ho26 (fun _ h => h.t)
 clear hb ho26
 refine ⟨_, rfl, hK.out _ _ (HS.out _ _ _ _ K) fun hH => ?_⟩
 clear hK Kc
 refine norm_ (a' := ?_) ?_ ?_
 rotate_left
 ·show Act.put _ (some 9) _ = _
  simp only [Act.put, kss, i64_w, i32_w]
  rfl
 refine one_ (i := 4) (N := some 10) (bm_ 10 31) rfl rfl (one_of HT_.out (by kernel_rfl)) (by decide) (fun Kc hK => ?_)
 obtain ⟨P27, c28, e29⟩ := K.slice 2 (hv hVs rfl)
 subst e29
 obtain ⟨P30, c31, e32⟩ := K.slice 3 (hv hVs rfl)
 subst e32
 refine kgo Tryd.func38 #[.agg #[.slice P27 x7.length c28, .bool z8], .agg #[.slice P30 x10.length c31, .bool z11]] (by rfl) rfl rfl ?_
 refine (whole_number_plus.calls _ _ _ _ x7 z8 _ _ _ x10 z11 x13 z14 _ (K.V 2 (hv hVs rfl)) (K.V 3 (hv hVs rfl)) A15.out).mono ?_
 rintro e W' ⟨v22, rfl, ho33, hb⟩
 replace K := K.addI 2 (fun _ => True) hb ho33 (fun _ h => h.elim (fun h => h.t) fun h => h.t)
 clear hb ho33
 refine ⟨_, rfl, hK.out _ _ (HS.out _ _ _ _ K) fun hH => ?_⟩
 clear hK Kc
 refine norm_ (a' := ?_) ?_ ?_
 rotate_left
 ·show Act.put _ (some 10) _ = _
  simp only [Act.put, kss, i64_w, i32_w]
  rfl
 refine one_ (i := 5) (N := some 11) (bm_ 10 63) rfl rfl (one_of HT_.out (by kernel_rfl)) (by decide) (fun Kc hK => ?_)
 obtain ⟨P34, c35, e36⟩ := K.slice 4 (hv hVs rfl)
 subst e36
 refine kgo Tryd.func39 #[.agg #[.slice P34 x13.length c35, .bool z14]] (by rfl) rfl rfl ?_
 refine (whole_number_told.calls _ _ x13 z14 z16 x17 n18 _ (K.C 4 (hv hVs rfl)) (K.le 4 (hv hVs rfl)) A19.out).mono ?_
 rintro e W' ⟨v23, rfl, ho37, hb⟩
 replace K := K.addRI 3 0 hb ho37 (lb rfl)
 clear hb ho37
 refine ⟨_, rfl, hK.out _ _ (HS.out _ _ _ _ K) fun hH => ?_⟩
 refine norm_ (a' := ?_) ?_ ?_
 rotate_left
 ·show Act.put _ (some 11) _ = _
  simp only [Act.put, kss, i64_w, i32_w]
  rfl
 refine pu_ 6 12 ?_ (bm_ 10 127) rfl rfl (any_of HT_.out (by kernel_rfl)) (fun _ _ _ h => h) (by rfl) ?_ ?_ ?_ ?_
 rotate_left
 ·intro w'
  go_simp
  with_reducible rfl
 rotate_left
 ·simp only [Act.put, kss, i64_w, i32_w]
  rfl
 refine pu_ 7 13 ?_ (bm_ 10 255) rfl rfl (any_of HT_.out (by kernel_rfl)) (fun _ _ _ h => h) (by rfl) ?_ ?_ ?_ ?_
 rotate_left
 ·intro w'
  go_simp
  with_reducible rfl
 rotate_left
 ·simp only [Act.put, kss, i64_w, i32_w]
  rfl
 clear hK Kc
 obtain ⟨P38, c39, e40⟩ := K.slice 5 (hv hVs rfl)
 subst e40
 rw [hBs.out, hVs.out, hOs.out] at K
 simp only [kls, klv] at K
 clear hBs hVs hOs HS hH
 refine ko2 (i := 8) (bm_ 10 511) 2 (.bool z16) (.slice P38 x17.length c39) K rfl rfl rfl (one_of HT_.out (by kernel_rfl)) (by decide) (by rfl) (fun W K => ⟨K.cell 0 rfl 0 rfl, K.cell 0 rfl 1 rfl, K.cell 1 rfl 0 rfl, K.cell 1 rfl 1 rfl⟩) ?_
 clear K
 intro W41 K
 simp only [kls, klv] at K
 refine pu_ 9 5 ?_ (bm_ 10 1023) rfl rfl (any_of HT_.out (by kernel_rfl)) (fun _ _ _ h => h) (by rfl) ?_ ?_ ?_ ?_
 rotate_left
 ·intro w'
  go_simp
  with_reducible rfl
 rotate_left
 ·simp only [Act.put, kss, i64_w, i32_w]
  rfl
 refine done_ (done_of HT_.out (by kernel_rfl)) ?_
 clear HT_ HW_
 simp only [Option.some.injEq, Prod.mk.injEq] at h
 obtain ⟨rfl, rfl, rfl⟩ := h
 go_wp2
 refine bodyPost_ret (results_list (rs := [.cell 4 25, .tmp 5]) rfl (by simp) (.cell g5 25 #[.bool z16, .slice P38 x17.length c39] (0, 0) _ rfl (K.u.heap 2 rfl) Tryd.underlying25 rfl (by kernel_rfl) (.tmp .nil))) rfl ?_
 exact ⟨_, rfl, K.u.R 0 rfl, K.u.below⟩
end Go.Proofs.YtikencoikigllaaDoor.PRa
namespace Go.Proofs.YtikencoikigllaaDoor.PRa
open Go.RowKit Go.Proofs.YtikencoikigllaaDoorW.PrintWords Go.Proofs.YtikencoikigllaaDoorW.PrintLast Go.Proofs.YtikencoikigllaaDoorW.PrintMore
open Go.Proofs.YtikencoikigllaaDoor.Mine
attribute [local go_sem] max2_int min2_int max_two min_two max_three min_three max_four min_four
mutual
def bits_Div64.j2 : Nat → Int → Int → Int → Int → Int → Int → Int → Int → Option (Int × Int)
 | 0, _, _, _, _, _, _, _, _ => none
 | k + 1, x2, x8, x9, x10, x11, x13, x14, x15 => if x9 = 0 then (none) else (bits_Div64.l1 k x2 x8 x9 x10 x14 x15 (IntKind.u64.wrap ((IntKind.u64.wrap ((IntKind.u64.wrap ((IntKind.u64.wrap (x11 * 4294967296)) + x13)) - (IntKind.u64.wrap (x15 * x2)))) - (IntKind.u64.wrap ((IntKind.u64.wrap (Int.tdiv (IntKind.u64.wrap ((IntKind.u64.wrap ((IntKind.u64.wrap (x11 * 4294967296)) + x13)) - (IntKind.u64.wrap (x15 * x2)))) x9)) * x9)))) (IntKind.u64.wrap ((IntKind.u64.wrap ((IntKind.u64.wrap (x11 * 4294967296)) + x13)) - (IntKind.u64.wrap (x15 * x2)))) (IntKind.u64.wrap (Int.tdiv (IntKind.u64.wrap ((IntKind.u64.wrap ((IntKind.u64.wrap (x11 * 4294967296)) + x13)) - (IntKind.u64.wrap (x15 * x2)))) x9)))
def bits_Div64.l1 : Nat → Int → Int → Int → Int → Int → Int → Int → Int → Int → Option (Int × Int)
 | 0, _, _, _, _, _, _, _, _, _ => none
 | k + 1, x2, x8, x9, x10, x14, x15, x16, x17, x18 => if x18 ≥ 4294967296 then (bits_Div64.j4 k x2 x8 x9 x10 x14 x15 x16 x17 x18 true) else (bits_Div64.j4 k x2 x8 x9 x10 x14 x15 x16 x17 x18 (decide ((IntKind.u64.wrap (x18 * x10)) > (IntKind.u64.wrap ((IntKind.u64.wrap (4294967296 * x16)) + x14)))))
def bits_Div64.j4 : Nat → Int → Int → Int → Int → Int → Int → Int → Int → Int → Bool → Option (Int × Int)
 | 0, _, _, _, _, _, _, _, _, _, _ => none
 | k + 1, x2, x8, x9, x10, x14, x15, x16, x17, x18, x113 => if x113 = true then (if (IntKind.u64.wrap (x16 + x9)) ≥ 4294967296 then (if 0 ≤ x8 then (some (IntKind.u64.wrap ((IntKind.u64.wrap (x15 * 4294967296)) + (IntKind.u64.wrap (x18 - 1))), shr .u64 (IntKind.u64.wrap ((IntKind.u64.wrap ((IntKind.u64.wrap (x17 * 4294967296)) + x14)) - (IntKind.u64.wrap ((IntKind.u64.wrap (x18 - 1)) * x2)))) x8)) else (none)) else (bits_Div64.l1 k x2 x8 x9 x10 x14 x15 (IntKind.u64.wrap (x16 + x9)) x17 (IntKind.u64.wrap (x18 - 1)))) else (if 0 ≤ x8 then (some (IntKind.u64.wrap ((IntKind.u64.wrap (x15 * 4294967296)) + x18), shr .u64 (IntKind.u64.wrap ((IntKind.u64.wrap ((IntKind.u64.wrap (x17 * 4294967296)) + x14)) - (IntKind.u64.wrap (x18 * x2)))) x8)) else (none))
def bits_Div64.l0 : Nat → Int → Int → Int → Int → Int → Int → Int → Int → Int → Option (Int × Int)
 | 0, _, _, _, _, _, _, _, _, _ => none
 | k + 1, x2, x8, x9, x10, x11, x13, x14, x15, x16 => if x15 ≥ 4294967296 then (bits_Div64.j1 k x2 x8 x9 x10 x11 x13 x14 x15 x16 true) else (bits_Div64.j1 k x2 x8 x9 x10 x11 x13 x14 x15 x16 (decide ((IntKind.u64.wrap (x15 * x10)) > (IntKind.u64.wrap ((IntKind.u64.wrap (4294967296 * x16)) + x13)))))
def bits_Div64.j1 : Nat → Int → Int → Int → Int → Int → Int → Int → Int → Int → Bool → Option (Int × Int)
 | 0, _, _, _, _, _, _, _, _, _, _ => none
 | k + 1, x2, x8, x9, x10, x11, x13, x14, x15, x16, x78 => if x78 = true then (if (IntKind.u64.wrap (x16 + x9)) ≥ 4294967296 then (bits_Div64.j2 k x2 x8 x9 x10 x11 x13 x14 (IntKind.u64.wrap (x15 - 1))) else (bits_Div64.l0 k x2 x8 x9 x10 x11 x13 x14 (IntKind.u64.wrap (x15 - 1)) (IntKind.u64.wrap (x16 + x9)))) else (bits_Div64.j2 k x2 x8 x9 x10 x11 x13 x14 x15)
end
def bits_Div64.f (k : Nat) (a0 : Int) (a1 : Int) (a2 : Int) : Option (Int × Int) := if a2 = 0 then (none) else (if a2 ≤ a0 then (none) else (if a0 = 0 then (some (IntKind.u64.wrap (Int.tdiv a1 a2), Int.tmod a1 a2)) else ((bits_LeadingZeros64.f a2).bind fun t238 => (if 0 ≤ (IntKind.u64.wrap (t238)) then (if 0 ≤ (IntKind.u64.wrap (64 - (IntKind.u64.wrap (t238)))) then (if ((shl .u64 a2 (IntKind.u64.wrap (t238))) / 4294967296) = 0 then (none) else (bits_Div64.l0 k (shl .u64 a2 (IntKind.u64.wrap (t238))) (IntKind.u64.wrap (t238)) ((shl .u64 a2 (IntKind.u64.wrap (t238))) / 4294967296) (Go.bits .and .u64 (shl .u64 a2 (IntKind.u64.wrap (t238))) 4294967295) (Go.bits .or .u64 (shl .u64 a0 (IntKind.u64.wrap (t238))) (shr .u64 a1 (IntKind.u64.wrap (64 - (IntKind.u64.wrap (t238)))))) ((shl .u64 a1 (IntKind.u64.wrap (t238))) / 4294967296) (Go.bits .and .u64 (shl .u64 a1 (IntKind.u64.wrap (t238))) 4294967295) (IntKind.u64.wrap (Int.tdiv (Go.bits .or .u64 (shl .u64 a0 (IntKind.u64.wrap (t238))) (shr .u64 a1 (IntKind.u64.wrap (64 - (IntKind.u64.wrap (t238)))))) ((shl .u64 a2 (IntKind.u64.wrap (t238))) / 4294967296))) (IntKind.u64.wrap ((Go.bits .or .u64 (shl .u64 a0 (IntKind.u64.wrap (t238))) (shr .u64 a1 (IntKind.u64.wrap (64 - (IntKind.u64.wrap (t238)))))) - (IntKind.u64.wrap ((IntKind.u64.wrap (Int.tdiv (Go.bits .or .u64 (shl .u64 a0 (IntKind.u64.wrap (t238))) (shr .u64 a1 (IntKind.u64.wrap (64 - (IntKind.u64.wrap (t238)))))) ((shl .u64 a2 (IntKind.u64.wrap (t238))) / 4294967296))) * ((shl .u64 a2 (IntKind.u64.wrap (t238))) / 4294967296))))))) else (none)) else (none)))))
theorem bits_Div64.mono_l : ∀ k, (∀ y0 y1 y2 y3 y4 y5 y6 y7, LeO (bits_Div64.j2 k y0 y1 y2 y3 y4 y5 y6 y7) (bits_Div64.j2 (k + 1) y0 y1 y2 y3 y4 y5 y6 y7)) ∧ (∀ y0 y1 y2 y3 y4 y5 y6 y7 y8, LeO (bits_Div64.l1 k y0 y1 y2 y3 y4 y5 y6 y7 y8) (bits_Div64.l1 (k + 1) y0 y1 y2 y3 y4 y5 y6 y7 y8)) ∧ (∀ y0 y1 y2 y3 y4 y5 y6 y7 y8 y9, LeO (bits_Div64.j4 k y0 y1 y2 y3 y4 y5 y6 y7 y8 y9) (bits_Div64.j4 (k + 1) y0 y1 y2 y3 y4 y5 y6 y7 y8 y9)) ∧ (∀ y0 y1 y2 y3 y4 y5 y6 y7 y8, LeO (bits_Div64.l0 k y0 y1 y2 y3 y4 y5 y6 y7 y8) (bits_Div64.l0 (k + 1) y0 y1 y2 y3 y4 y5 y6 y7 y8)) ∧ (∀ y0 y1 y2 y3 y4 y5 y6 y7 y8 y9, LeO (bits_Div64.j1 k y0 y1 y2 y3 y4 y5 y6 y7 y8 y9) (bits_Div64.j1 (k + 1) y0 y1 y2 y3 y4 y5 y6 y7 y8 y9))
 | 0 => ⟨fun _ _ _ _ _ _ _ _ r h => by simp [bits_Div64.j2] at h, fun _ _ _ _ _ _ _ _ _ r h => by simp [bits_Div64.l1] at h, fun _ _ _ _ _ _ _ _ _ _ r h => by simp [bits_Div64.j4] at h, fun _ _ _ _ _ _ _ _ _ r h => by simp [bits_Div64.l0] at h, fun _ _ _ _ _ _ _ _ _ _ r h => by simp [bits_Div64.j1] at h⟩
 | k + 1 => by
  obtain ⟨ih0, ih1, ih2, ih3, ih4⟩ := bits_Div64.mono_l k
  refine ⟨?_, ?_, ?_, ?_, ?_⟩
  ·intro y0 y1 y2 y3 y4 y5 y6 y7
   unfold bits_Div64.j2
   repeat' first
   | (with_reducible exact ih0 _ _ _ _ _ _ _ _)
   | (with_reducible exact ih1 _ _ _ _ _ _ _ _ _)
   | (with_reducible exact ih2 _ _ _ _ _ _ _ _ _ _)
   | (with_reducible exact ih3 _ _ _ _ _ _ _ _ _)
   | (with_reducible exact ih4 _ _ _ _ _ _ _ _ _ _)
   | (with_reducible exact LeO.refl _)
   | (with_reducible exact LeO.none _)
   | (with_reducible refine LeO.ite ?_ ?_)
   | (with_reducible refine LeO.bind ?_ (fun _ => ?_))
   | exact ih0 _ _ _ _ _ _ _ _
   | exact ih1 _ _ _ _ _ _ _ _ _
   | exact ih2 _ _ _ _ _ _ _ _ _ _
   | exact ih3 _ _ _ _ _ _ _ _ _
   | exact ih4 _ _ _ _ _ _ _ _ _ _
   | exact LeO.none _
   | refine LeO.ite ?_ ?_
   | refine LeO.bind ?_ (fun _ => ?_)
  ·intro y0 y1 y2 y3 y4 y5 y6 y7 y8
   unfold bits_Div64.l1
   repeat' first
   | (with_reducible exact ih0 _ _ _ _ _ _ _ _)
   | (with_reducible exact ih1 _ _ _ _ _ _ _ _ _)
   | (with_reducible exact ih2 _ _ _ _ _ _ _ _ _ _)
   | (with_reducible exact ih3 _ _ _ _ _ _ _ _ _)
   | (with_reducible exact ih4 _ _ _ _ _ _ _ _ _ _)
   | (with_reducible exact LeO.refl _)
   | (with_reducible exact LeO.none _)
   | (with_reducible refine LeO.ite ?_ ?_)
   | (with_reducible refine LeO.bind ?_ (fun _ => ?_))
   | exact ih0 _ _ _ _ _ _ _ _
   | exact ih1 _ _ _ _ _ _ _ _ _
   | exact ih2 _ _ _ _ _ _ _ _ _ _
   | exact ih3 _ _ _ _ _ _ _ _ _
   | exact ih4 _ _ _ _ _ _ _ _ _ _
   | exact LeO.none _
   | refine LeO.ite ?_ ?_
   | refine LeO.bind ?_ (fun _ => ?_)
  ·intro y0 y1 y2 y3 y4 y5 y6 y7 y8 y9
   unfold bits_Div64.j4
   repeat' first
   | (with_reducible exact ih0 _ _ _ _ _ _ _ _)
   | (with_reducible exact ih1 _ _ _ _ _ _ _ _ _)
   | (with_reducible exact ih2 _ _ _ _ _ _ _ _ _ _)
   | (with_reducible exact ih3 _ _ _ _ _ _ _ _ _)
   | (with_reducible exact ih4 _ _ _ _ _ _ _ _ _ _)
   | (with_reducible exact LeO.refl _)
   | (with_reducible exact LeO.none _)
   | (with_reducible refine LeO.ite ?_ ?_)
   | (with_reducible refine LeO.bind ?_ (fun _ => ?_))
   | exact ih0 _ _ _ _ _ _ _ _
   | exact ih1 _ _ _ _ _ _ _ _ _
   | exact ih2 _ _ _ _ _ _ _ _ _ _
   | exact ih3 _ _ _ _ _ _ _ _ _
   | exact ih4 _ _ _ _ _ _ _ _ _ _
   | exact LeO.none _
   | refine LeO.ite ?_ ?_
   | refine LeO.bind ?_ (fun _ => ?_)
  ·intro y0 y1 y2 y3 y4 y5 y6 y7 y8
   unfold bits_Div64.l0
   repeat' first
   | (with_reducible exact ih0 _ _ _ _ _ _ _ _)
   | (with_reducible exact ih1 _ _ _ _ _ _ _ _ _)
   | (with_reducible exact ih2 _ _ _ _ _ _ _ _ _ _)
   | (with_reducible exact ih3 _ _ _ _ _ _ _ _ _)
   | (with_reducible exact ih4 _ _ _ _ _ _ _ _ _ _)
   | (with_reducible exact LeO.refl _)
   | (with_reducible exact LeO.none _)
   | (with_reducible refine LeO.ite ?_ ?_)
   | (with_reducible refine LeO.bind ?_ (fun _ => ?_))
   | exact ih0 _ _ _ _ _ _ _ _
   | exact ih1 _ _ _ _ _ _ _ _ _
   | exact ih2 _ _ _ _ _ _ _ _ _ _
   | exact ih3 _ _ _ _ _ _ _ _ _
   | exact ih4 _ _ _ _ _ _ _ _ _ _
   | exact LeO.none _
   | refine LeO.ite ?_ ?_
   | refine LeO.bind ?_ (fun _ => ?_)
  intro y0 y1 y2 y3 y4 y5 y6 y7 y8 y9
  unfold bits_Div64.j1
  repeat' first
  | (with_reducible exact ih0 _ _ _ _ _ _ _ _)
  | (with_reducible exact ih1 _ _ _ _ _ _ _ _ _)
  | (with_reducible exact ih2 _ _ _ _ _ _ _ _ _ _)
  | (with_reducible exact ih3 _ _ _ _ _ _ _ _ _)
  | (with_reducible exact ih4 _ _ _ _ _ _ _ _ _ _)
  | (with_reducible exact LeO.refl _)
  | (with_reducible exact LeO.none _)
  | (with_reducible refine LeO.ite ?_ ?_)
  | (with_reducible refine LeO.bind ?_ (fun _ => ?_))
  | exact ih0 _ _ _ _ _ _ _ _
  | exact ih1 _ _ _ _ _ _ _ _ _
  | exact ih2 _ _ _ _ _ _ _ _ _ _
  | exact ih3 _ _ _ _ _ _ _ _ _
  | exact ih4 _ _ _ _ _ _ _ _ _ _
  | exact LeO.none _
  | refine LeO.ite ?_ ?_
  | refine LeO.bind ?_ (fun _ => ?_)
theorem bits_Div64.mono : ∀ a0 a1 a2 k, LeO (bits_Div64.f k a0 a1 a2) (bits_Div64.f (k + 1) a0 a1 a2) := by
 intro a0 a1 a2 k
 obtain ⟨ih0, ih1, ih2, ih3, ih4⟩ := bits_Div64.mono_l k
 unfold bits_Div64.f
 repeat' first
   | (with_reducible exact ih0 _ _ _ _ _ _ _ _)
   | (with_reducible exact ih1 _ _ _ _ _ _ _ _ _)
   | (with_reducible exact ih2 _ _ _ _ _ _ _ _ _ _)
   | (with_reducible exact ih3 _ _ _ _ _ _ _ _ _)
   | (with_reducible exact ih4 _ _ _ _ _ _ _ _ _ _)
   | (with_reducible exact LeO.refl _)
   | (with_reducible exact LeO.none _)
   | (with_reducible refine LeO.ite ?_ ?_)
   | (with_reducible refine LeO.bind ?_ (fun _ => ?_))
   | exact ih0 _ _ _ _ _ _ _ _
   | exact ih1 _ _ _ _ _ _ _ _ _
   | exact ih2 _ _ _ _ _ _ _ _ _ _
   | exact ih3 _ _ _ _ _ _ _ _ _
   | exact ih4 _ _ _ _ _ _ _ _ _ _
   | exact LeO.none _
   | refine LeO.ite ?_ ?_
   | refine LeO.bind ?_ (fun _ => ?_)
theorem bits_Div64.calls (k : Nat) (a0 : Int) (a1 : Int) (a2 : Int) (r1 : Int) (r2 : Int) (w : World) (h : bits_Div64.f k a0 a1 a2 = some (r1, r2)) :
  Calls Tryd.prog 80 #[.int .u64 a0, .int .u64 a1, .int .u64 a2] w fun e w' => e = .returned (.tuple #[.int .u64 r1, .int .u64 r2]) ∧ Drawn0 w w' := by
 have H : (if a2 = 0 then (none) else (if a2 ≤ a0 then (none) else (if a0 = 0 then (some (IntKind.u64.wrap (Int.tdiv a1 a2), Int.tmod a1 a2)) else ((bits_LeadingZeros64.f a2).bind fun t238 => (if 0 ≤ (IntKind.u64.wrap (t238)) then (if 0 ≤ (IntKind.u64.wrap (64 - (IntKind.u64.wrap (t238)))) then (if ((shl .u64 a2 (IntKind.u64.wrap (t238))) / 4294967296) = 0 then (none) else (bits_Div64.l0 k (shl .u64 a2 (IntKind.u64.wrap (t238))) (IntKind.u64.wrap (t238)) ((shl .u64 a2 (IntKind.u64.wrap (t238))) / 4294967296) (Go.bits .and .u64 (shl .u64 a2 (IntKind.u64.wrap (t238))) 4294967295) (Go.bits .or .u64 (shl .u64 a0 (IntKind.u64.wrap (t238))) (shr .u64 a1 (IntKind.u64.wrap (64 - (IntKind.u64.wrap (t238)))))) ((shl .u64 a1 (IntKind.u64.wrap (t238))) / 4294967296) (Go.bits .and .u64 (shl .u64 a1 (IntKind.u64.wrap (t238))) 4294967295) (IntKind.u64.wrap (Int.tdiv (Go.bits .or .u64 (shl .u64 a0 (IntKind.u64.wrap (t238))) (shr .u64 a1 (IntKind.u64.wrap (64 - (IntKind.u64.wrap (t238)))))) ((shl .u64 a2 (IntKind.u64.wrap (t238))) / 4294967296))) (IntKind.u64.wrap ((Go.bits .or .u64 (shl .u64 a0 (IntKind.u64.wrap (t238))) (shr .u64 a1 (IntKind.u64.wrap (64 - (IntKind.u64.wrap (t238)))))) - (IntKind.u64.wrap ((IntKind.u64.wrap (Int.tdiv (Go.bits .or .u64 (shl .u64 a0 (IntKind.u64.wrap (t238))) (shr .u64 a1 (IntKind.u64.wrap (64 - (IntKind.u64.wrap (t238)))))) ((shl .u64 a2 (IntKind.u64.wrap (t238))) / 4294967296))) * ((shl .u64 a2 (IntKind.u64.wrap (t238))) / 4294967296))))))) else (none)) else (none)))))) = some (r1, r2) := h
 clear h
 by_cases c4 : a2 = 0
 ·rw [if_pos c4] at H
  exact absurd H (by simp)
 rw [if_neg c4] at H
 have c4b0 : (a2 == 0) = false := beq_eq_false_iff_ne.mpr c4
 have c4b1 : (a2 != 0) = true := bne_iff_ne.mpr c4
 by_cases c5 : a2 ≤ a0
 ·rw [if_pos c5] at H
  exact absurd H (by simp)
 rw [if_neg c5] at H
 have c5b0 : decide (a2 ≤ a0) = false := decide_eq_false c5
 clear c5
 by_cases c6 : a0 = 0
 ·rw [if_pos c6] at H
  have c6b0 : (a0 == 0) = true := beq_iff_eq.mpr c6
  have c6b1 : (a0 != 0) = false := bne_eq_false_iff_eq.mpr c6
  clear c6
  simp only [Option.some.injEq, Prod.mk.injEq] at H
  obtain ⟨rfl, rfl⟩ := H
  go_enter Tryd.func80, Tryd.ntmps80
  go_wp2
  repeat (go_quiet (fail); try go_wp2)
  go_ret2
  exact ⟨by first | rfl | (simp; done) | (simp [*]; done), by repeat (first | exact Drawn0.refl _ | apply Drawn0.step)⟩
 rw [if_neg c6] at H
 have c6b0 : (a0 == 0) = false := beq_eq_false_iff_ne.mpr c6
 have c6b1 : (a0 != 0) = true := bne_iff_ne.mpr c6
 replace H := Option.bind_eq_some_iff.mp H
 obtain ⟨t238, A70, H⟩ := H
 replace H : (if 0 ≤ (IntKind.u64.wrap (t238)) then (if 0 ≤ (IntKind.u64.wrap (64 - (IntKind.u64.wrap (t238)))) then (if ((shl .u64 a2 (IntKind.u64.wrap (t238))) / 4294967296) = 0 then (none) else (bits_Div64.l0 k (shl .u64 a2 (IntKind.u64.wrap (t238))) (IntKind.u64.wrap (t238)) ((shl .u64 a2 (IntKind.u64.wrap (t238))) / 4294967296) (Go.bits .and .u64 (shl .u64 a2 (IntKind.u64.wrap (t238))) 4294967295) (Go.bits .or .u64 (shl .u64 a0 (IntKind.u64.wrap (t238))) (shr .u64 a1 (IntKind.u64.wrap (64 - (IntKind.u64.wrap (t238)))))) ((shl .u64 a1 (IntKind.u64.wrap (t238))) / 4294967296) (Go.bits .and .u64 (shl .u64 a1 (IntKind.u64.wrap (t238))) 4294967295) (IntKind.u64.wrap (Int.tdiv (Go.bits .or .u64 (shl .u64 a0 (IntKind.u64.wrap (t238))) (shr .u64 a1 (IntKind.u64.wrap (64 - (IntKind.u64.wrap (t238)))))) ((shl .u64 a2 (IntKind.u64.wrap (t238))) / 4294967296))) (IntKind.u64.wrap ((Go.bits .or .u64 (shl .u64 a0 (IntKind.u64.wrap (t238))) (shr .u64 a1 (IntKind.u64.wrap (64 - (IntKind.u64.wrap (t238)))))) - (IntKind.u64.wrap ((IntKind.u64.wrap (Int.tdiv (Go.bits .or .u64 (shl .u64 a0 (IntKind.u64.wrap (t238))) (shr .u64 a1 (IntKind.u64.wrap (64 - (IntKind.u64.wrap (t238)))))) ((shl .u64 a2 (IntKind.u64.wrap (t238))) / 4294967296))) * ((shl .u64 a2 (IntKind.u64.wrap (t238))) / 4294967296))))))) else (none)) else (none)) = some (r1, r2) := H
 have A7 := Aside0.mk A70
 clear A70
 obtain ⟨ji8, hji8⟩ : ∃ j_ : Int, (IntKind.u64.wrap (t238)) = j_ := ⟨_, rfl⟩
 replace H : (if 0 ≤ (ji8) then (if 0 ≤ (IntKind.u64.wrap (64 - (ji8))) then (if ((shl .u64 a2 (ji8)) / 4294967296) = 0 then (none) else (bits_Div64.l0 k (shl .u64 a2 (ji8)) ji8 ((shl .u64 a2 (ji8)) / 4294967296) (Go.bits .and .u64 (shl .u64 a2 (ji8)) 4294967295) (Go.bits .or .u64 (shl .u64 a0 (ji8)) (shr .u64 a1 (IntKind.u64.wrap (64 - (ji8))))) ((shl .u64 a1 (ji8)) / 4294967296) (Go.bits .and .u64 (shl .u64 a1 (ji8)) 4294967295) (IntKind.u64.wrap (Int.tdiv (Go.bits .or .u64 (shl .u64 a0 (ji8)) (shr .u64 a1 (IntKind.u64.wrap (64 - (ji8))))) ((shl .u64 a2 (ji8)) / 4294967296))) (IntKind.u64.wrap ((Go.bits .or .u64 (shl .u64 a0 (ji8)) (shr .u64 a1 (IntKind.u64.wrap (64 - (ji8))))) - (IntKind.u64.wrap ((IntKind.u64.wrap (Int.tdiv (Go.bits .or .u64 (shl .u64 a0 (ji8)) (shr .u64 a1 (IntKind.u64.wrap (64 - (ji8))))) ((shl .u64 a2 (ji8)) / 4294967296))) * ((shl .u64 a2 (ji8)) / 4294967296))))))) else (none)) else (none)) = some (r1, r2) := by first | (rw [hji8] at H; exact H) | (simp only [hji8] at H ⊢; exact H)
 (try rw [hji8] at A7)
 by_cases c9 : 0 ≤ (ji8)
 ·rw [if_pos c9] at H
  have c9b0 := eq_true c9
  have c9b1 : decide (0 ≤ (ji8)) = true := decide_eq_true c9
  clear c9
  obtain ⟨ji10, hji10⟩ : ∃ j_ : Int, (shl .u64 a2 (ji8)) = j_ := ⟨_, rfl⟩
  replace H : (if 0 ≤ (IntKind.u64.wrap (64 - (ji8))) then (if ((ji10) / 4294967296) = 0 then (none) else (bits_Div64.l0 k ji10 ji8 ((ji10) / 4294967296) (Go.bits .and .u64 (ji10) 4294967295) (Go.bits .or .u64 (shl .u64 a0 (ji8)) (shr .u64 a1 (IntKind.u64.wrap (64 - (ji8))))) ((shl .u64 a1 (ji8)) / 4294967296) (Go.bits .and .u64 (shl .u64 a1 (ji8)) 4294967295) (IntKind.u64.wrap (Int.tdiv (Go.bits .or .u64 (shl .u64 a0 (ji8)) (shr .u64 a1 (IntKind.u64.wrap (64 - (ji8))))) ((ji10) / 4294967296))) (IntKind.u64.wrap ((Go.bits .or .u64 (shl .u64 a0 (ji8)) (shr .u64 a1 (IntKind.u64.wrap (64 - (ji8))))) - (IntKind.u64.wrap ((IntKind.u64.wrap (Int.tdiv (Go.bits .or .u64 (shl .u64 a0 (ji8)) (shr .u64 a1 (IntKind.u64.wrap (64 - (ji8))))) ((ji10) / 4294967296))) * ((ji10) / 4294967296))))))) else (none)) = some (r1, r2) := by first | (rw [hji10] at H; exact H) | (simp only [hji10] at H ⊢; exact H)
  (try rw [hji10] at A7)
  have hji10_ : (IntKind.u64.wrap (a2 * 2 ^ min (ji8).toNat 64)) = ji10 := hji10
  have hji10z : (ji8) ≤ 64 → (IntKind.u64.wrap (a2 * 2 ^ (ji8).toNat)) = ji10 := shl_small hji10
  have c11b0 := eq_true (of_decide_eq_true ‹_› : 0 ≤ (ji8))
  obtain ⟨ji12, hji12⟩ : ∃ j_ : Int, (shl .u64 a0 (ji8)) = j_ := ⟨_, rfl⟩
  replace H : (if 0 ≤ (IntKind.u64.wrap (64 - (ji8))) then (if ((ji10) / 4294967296) = 0 then (none) else (bits_Div64.l0 k ji10 ji8 ((ji10) / 4294967296) (Go.bits .and .u64 (ji10) 4294967295) (Go.bits .or .u64 (ji12) (shr .u64 a1 (IntKind.u64.wrap (64 - (ji8))))) ((shl .u64 a1 (ji8)) / 4294967296) (Go.bits .and .u64 (shl .u64 a1 (ji8)) 4294967295) (IntKind.u64.wrap (Int.tdiv (Go.bits .or .u64 (ji12) (shr .u64 a1 (IntKind.u64.wrap (64 - (ji8))))) ((ji10) / 4294967296))) (IntKind.u64.wrap ((Go.bits .or .u64 (ji12) (shr .u64 a1 (IntKind.u64.wrap (64 - (ji8))))) - (IntKind.u64.wrap ((IntKind.u64.wrap (Int.tdiv (Go.bits .or .u64 (ji12) (shr .u64 a1 (IntKind.u64.wrap (64 - (ji8))))) ((ji10) / 4294967296))) * ((ji10) / 4294967296))))))) else (none)) = some (r1, r2) := by first | (rw [hji12] at H; exact H) | (simp only [hji12] at H ⊢; exact H)
  (try rw [hji12] at A7)
  have hji12_ : (IntKind.u64.wrap (a0 * 2 ^ min (ji8).toNat 64)) = ji12 := hji12
  have hji12z : (ji8) ≤ 64 → (IntKind.u64.wrap (a0 * 2 ^ (ji8).toNat)) = ji12 := shl_small hji12
  obtain ⟨ji13, hji13⟩ : ∃ j_ : Int, (IntKind.u64.wrap (64 - (ji8))) = j_ := ⟨_, rfl⟩
  replace H : (if 0 ≤ (ji13) then (if ((ji10) / 4294967296) = 0 then (none) else (bits_Div64.l0 k ji10 ji8 ((ji10) / 4294967296) (Go.bits .and .u64 (ji10) 4294967295) (Go.bits .or .u64 (ji12) (shr .u64 a1 (ji13))) ((shl .u64 a1 (ji8)) / 4294967296) (Go.bits .and .u64 (shl .u64 a1 (ji8)) 4294967295) (IntKind.u64.wrap (Int.tdiv (Go.bits .or .u64 (ji12) (shr .u64 a1 (ji13))) ((ji10) / 4294967296))) (IntKind.u64.wrap ((Go.bits .or .u64 (ji12) (shr .u64 a1 (ji13))) - (IntKind.u64.wrap ((IntKind.u64.wrap (Int.tdiv (Go.bits .or .u64 (ji12) (shr .u64 a1 (ji13))) ((ji10) / 4294967296))) * ((ji10) / 4294967296))))))) else (none)) = some (r1, r2) := by first | (rw [hji13] at H; exact H) | (simp only [hji13] at H ⊢; exact H)
  (try rw [hji13] at A7)
  by_cases c14 : 0 ≤ (ji13)
  ·rw [if_pos c14] at H
   have c14b0 := eq_true c14
   have c14b1 : decide (0 ≤ (ji13)) = true := decide_eq_true c14
   clear c14
   obtain ⟨ji15, hji15⟩ : ∃ j_ : Int, (shr .u64 a1 (ji13)) = j_ := ⟨_, rfl⟩
   replace H : (if ((ji10) / 4294967296) = 0 then (none) else (bits_Div64.l0 k ji10 ji8 ((ji10) / 4294967296) (Go.bits .and .u64 (ji10) 4294967295) (Go.bits .or .u64 (ji12) (ji15)) ((shl .u64 a1 (ji8)) / 4294967296) (Go.bits .and .u64 (shl .u64 a1 (ji8)) 4294967295) (IntKind.u64.wrap (Int.tdiv (Go.bits .or .u64 (ji12) (ji15)) ((ji10) / 4294967296))) (IntKind.u64.wrap ((Go.bits .or .u64 (ji12) (ji15)) - (IntKind.u64.wrap ((IntKind.u64.wrap (Int.tdiv (Go.bits .or .u64 (ji12) (ji15)) ((ji10) / 4294967296))) * ((ji10) / 4294967296))))))) = some (r1, r2) := by first | (rw [hji15] at H; exact H) | (simp only [hji15] at H ⊢; exact H)
   (try rw [hji15] at A7)
   have hji15_ : (a1 / 2 ^ min (ji13).toNat 64) = ji15 := hji15
   have hji15z : (ji13) ≤ 64 → (a1 / 2 ^ (ji13).toNat) = ji15 := shr_small hji15
   have c16b0 := eq_true (of_decide_eq_true ‹_› : 0 ≤ (ji8))
   obtain ⟨ji17, hji17⟩ : ∃ j_ : Int, (shl .u64 a1 (ji8)) = j_ := ⟨_, rfl⟩
   replace H : (if ((ji10) / 4294967296) = 0 then (none) else (bits_Div64.l0 k ji10 ji8 ((ji10) / 4294967296) (Go.bits .and .u64 (ji10) 4294967295) (Go.bits .or .u64 (ji12) (ji15)) ((ji17) / 4294967296) (Go.bits .and .u64 (ji17) 4294967295) (IntKind.u64.wrap (Int.tdiv (Go.bits .or .u64 (ji12) (ji15)) ((ji10) / 4294967296))) (IntKind.u64.wrap ((Go.bits .or .u64 (ji12) (ji15)) - (IntKind.u64.wrap ((IntKind.u64.wrap (Int.tdiv (Go.bits .or .u64 (ji12) (ji15)) ((ji10) / 4294967296))) * ((ji10) / 4294967296))))))) = some (r1, r2) := by first | (rw [hji17] at H; exact H) | (simp only [hji17] at H ⊢; exact H)
   (try rw [hji17] at A7)
   have hji17_ : (IntKind.u64.wrap (a1 * 2 ^ min (ji8).toNat 64)) = ji17 := hji17
   have hji17z : (ji8) ≤ 64 → (IntKind.u64.wrap (a1 * 2 ^ (ji8).toNat)) = ji17 := shl_small hji17
   by_cases c18 : ((ji10) / 4294967296) = 0
   ·rw [if_pos c18] at H
    exact absurd H (by simp)
   rw [if_neg c18] at H
   have c18b0 : (((ji10) / 4294967296) == 0) = false := beq_eq_false_iff_ne.mpr c18
   have c18b1 : (((ji10) / 4294967296) != 0) = true := bne_iff_ne.mpr c18
   have HC19 := Aside0.mk H
   clear H
   go_enter Tryd.func80, Tryd.ntmps80
   go_upto_block 0 with (first | (go_at_call 78; (with_reducible refine (bits_LeadingZeros64.calls a2 t238 _ A7.out).mono ?_); rintro e w' ⟨rfl, ⟨nd, rfl⟩⟩; (try first | exact ⟨rfl, _, World.drewN_drewN _ _ _⟩ | exact ⟨rfl, _, Eq.trans (World.drewN_drewN _ _ _) (congrArg (World.drewN _) (Nat.add_assoc _ _ _))⟩)))
   repeat (go_quiet (first | (go_at_call 78; (with_reducible refine (bits_LeadingZeros64.calls a2 t238 _ A7.out).mono ?_); rintro e w' ⟨rfl, ⟨nd, rfl⟩⟩; (try first | exact ⟨rfl, _, World.drewN_drewN _ _ _⟩ | exact ⟨rfl, _, Eq.trans (World.drewN_drewN _ _ _) (congrArg (World.drewN _) (Nat.add_assoc _ _ _))⟩))); go_upto_block 0 with (first | (go_at_call 78; (with_reducible refine (bits_LeadingZeros64.calls a2 t238 _ A7.out).mono ?_); rintro e w' ⟨rfl, ⟨nd, rfl⟩⟩; (try first | exact ⟨rfl, _, World.drewN_drewN _ _ _⟩ | exact ⟨rfl, _, Eq.trans (World.drewN_drewN _ _ _) (congrArg (World.drewN _) (Nat.add_assoc _ _ _))⟩))))
   (try simp only [Act.put, kss])
   go_cut [15] (fun v15 wc => ∃ (kq : Nat) (x15_18 : Int), v15 = .int .u64 x15_18 ∧ Aside0 (bits_Div64.j2 kq ji10 ji8 ((ji10) / 4294967296) (Go.bits .and .u64 (ji10) 4294967295) (Go.bits .or .u64 (ji12) (ji15)) ((ji17) / 4294967296) (Go.bits .and .u64 (ji17) 4294967295) x15_18 = some (r1, r2)) ∧ Aside0 (kq ≤ k) ∧ Drawn0 w wc)
   case first =>
    have H := HC19.out
    clear HC19
    have H' := Aside0.mk H
    clear H
    go_wp2
    repeat (go_quiet (fail); try go_wp2)
    go_loopg [15, 16] k (fun kq v15 v16 w' => ∃ (x15_1 : Int) (x16_1 : Int), v15 = .int .u64 x15_1 ∧ v16 = .int .u64 x16_1 ∧ Aside0 (bits_Div64.l0 kq ji10 ji8 ((ji10) / 4294967296) (Go.bits .and .u64 (ji10) 4294967295) (Go.bits .or .u64 (ji12) (ji15)) ((ji17) / 4294967296) (Go.bits .and .u64 (ji17) 4294967295) x15_1 x16_1 = some (r1, r2)) ∧ Aside0 (kq ≤ k) ∧ Drawn0 w w')
    case atStart => exact ⟨(IntKind.u64.wrap (Int.tdiv (Go.bits .or .u64 (ji12) (ji15)) ((ji10) / 4294967296))), (IntKind.u64.wrap ((Go.bits .or .u64 (ji12) (ji15)) - (IntKind.u64.wrap ((IntKind.u64.wrap (Int.tdiv (Go.bits .or .u64 (ji12) (ji15)) ((ji10) / 4294967296))) * ((ji10) / 4294967296))))), (by first | rfl | (simp; done) | (simp only [← hji10, ← hji12, ← hji15] <;> (first | rfl | simp)) | (simp [*]; done)), (by first | rfl | (simp; done) | (simp only [← hji10, ← hji12, ← hji15] <;> (first | rfl | simp)) | (simp [*]; done)), H', ⟨Nat.le_refl _⟩, by repeat (first | exact Drawn0.refl _ | apply Drawn0.step)⟩
    case round =>
     clear H'
     try clear c1
     try clear p2
     try clear c4
     try clear c4b0
     try clear c4b1
     try clear c5
     try clear c5b0
     try clear c6
     try clear c6b0
     try clear c6b1
     try clear c8
     try clear c9
     try clear c9b0
     try clear c9b1
     try clear c11
     try clear c11b0
     try clear c14
     try clear c14b0
     try clear c14b1
     try clear c16
     try clear c16b0
     try clear c18
     try clear c18b0
     try clear c18b1
     obtain ⟨x15_1, x16_1, rfl, rfl, HA, HK1, ⟨m1, rfl⟩⟩ := hrel
     cases gk with
     | zero => exact absurd HA.out (by simp [bits_Div64.l0])
     | succ k1 =>
      have H := HA.out
      clear HA
      simp only [bits_Div64.l0] at H
      have HC20 := Aside0.mk H
      clear H
      go_upto_region 17 with (fail)
      repeat (go_quiet (fail); go_upto_region 17 with (fail))
      go_cut [78] (fun v78 wc => ∃ (kq : Nat) (x78_19 : Bool), v78 = .bool x78_19 ∧ Aside0 (bits_Div64.j1 kq ji10 ji8 ((ji10) / 4294967296) (Go.bits .and .u64 (ji10) 4294967295) (Go.bits .or .u64 (ji12) (ji15)) ((ji17) / 4294967296) (Go.bits .and .u64 (ji17) 4294967295) x15_1 x16_1 x78_19 = some (r1, r2)) ∧ Aside0 (kq ≤ k1) ∧ Drawn0 w wc)
      case first =>
       have H := HC20.out
       clear HC20
       by_cases c21 : x15_1 ≥ 4294967296
       ·rw [if_pos c21] at H
        have c21b0 : decide (4294967296 ≤ x15_1) = true := decide_eq_true c21
        clear c21
        (first | rw [c21b0] | rw [c21b1] | (simp only [i64_w, i32_w]; rw [c21b0]) | skip)
        have H' := Aside0.mk H
        clear H
        go_wp2
        repeat (go_quiet (fail); try go_wp2)
        go_meet
        case rel => exact ⟨_, (true), (by first | rfl | (simp; done) | (simp [*]; done)), H', ⟨by have := HK1.out; first | omega | exact Nat.le_refl _⟩, by repeat (first | exact Drawn0.refl _ | apply Drawn0.step)⟩
       rw [if_neg c21] at H
       have c21b0 : decide (4294967296 ≤ x15_1) = false := decide_eq_false c21
       clear c21
       (first | rw [c21b0] | rw [c21b1] | (simp only [i64_w, i32_w]; rw [c21b0]) | skip)
       have H' := Aside0.mk H
       clear H
       go_wp2
       repeat (go_quiet (fail); try go_wp2)
       go_meet
       case rel => exact ⟨_, (decide ((IntKind.u64.wrap (x15_1 * (Go.bits .and .u64 (ji10) 4294967295))) > (IntKind.u64.wrap ((IntKind.u64.wrap (4294967296 * x16_1)) + ((ji17) / 4294967296))))), (by first | rfl | (simp; done) | (simp only [← hji10, ← hji17] <;> (first | rfl | simp)) | (simp [*]; done)), H', ⟨by have := HK1.out; first | omega | exact Nat.le_refl _⟩, by repeat (first | exact Drawn0.refl _ | apply Drawn0.step)⟩
      case rest =>
       clear HC20
       try clear c1
       try clear c2
       try clear p2
       try clear c4
       try clear c4b0
       try clear c4b1
       try clear c5
       try clear c5b0
       try clear c6
       try clear c6b0
       try clear c6b1
       try clear c8
       try clear c9
       try clear c9b0
       try clear c9b1
       try clear c11
       try clear c11b0
       try clear c14
       try clear c14b0
       try clear c14b1
       try clear c16
       try clear c16b0
       try clear c18
       try clear c18b0
       try clear c18b1
       try clear c21
       try clear c21b0
       try clear c21b1
       try clear p2
       obtain ⟨kq, x78_19, rfl, HA, HJ19, ⟨mc19, rfl⟩⟩ := hcut
       cases kq with
       | zero => exact absurd HA.out (by simp [bits_Div64.j1])
       | succ kj19 =>
        have H := HA.out
        clear HA
        simp only [bits_Div64.j1] at H
        by_cases c22 : x78_19 = true
        ·subst c22
         have H1 : (if (IntKind.u64.wrap (x16_1 + ((ji10) / 4294967296))) ≥ 4294967296 then (bits_Div64.j2 kj19 ji10 ji8 ((ji10) / 4294967296) (Go.bits .and .u64 (ji10) 4294967295) (Go.bits .or .u64 (ji12) (ji15)) ((ji17) / 4294967296) (Go.bits .and .u64 (ji17) 4294967295) (IntKind.u64.wrap (x15_1 - 1))) else (bits_Div64.l0 kj19 ji10 ji8 ((ji10) / 4294967296) (Go.bits .and .u64 (ji10) 4294967295) (Go.bits .or .u64 (ji12) (ji15)) ((ji17) / 4294967296) (Go.bits .and .u64 (ji17) 4294967295) (IntKind.u64.wrap (x15_1 - 1)) (IntKind.u64.wrap (x16_1 + ((ji10) / 4294967296))))) = some (r1, r2) := by rw [if_pos rfl] at H; exact H
         clear H
         have H := H1
         clear H1
         by_cases c23 : (IntKind.u64.wrap (x16_1 + ((ji10) / 4294967296))) ≥ 4294967296
         ·rw [if_pos c23] at H
          have c23b0 : decide (4294967296 ≤ (IntKind.u64.wrap (x16_1 + ((ji10) / 4294967296)))) = true := decide_eq_true c23
          clear c23
          have H' := Aside0.mk H
          clear H
          go_wp2
          repeat (go_quiet (fail); try go_wp2)
          go_meet
          case rel => exact ⟨_, (IntKind.u64.wrap (x15_1 - 1)), (by first | rfl | (simp; done) | (simp [*]; done)), H', ⟨by have := HK1.out; have := HJ19.out; first | omega | exact Nat.le_refl _⟩, by repeat (first | exact Drawn0.refl _ | apply Drawn0.step)⟩
         rw [if_neg c23] at H
         have c23b0 : decide (4294967296 ≤ (IntKind.u64.wrap (x16_1 + ((ji10) / 4294967296)))) = false := decide_eq_false c23
         clear c23
         have H' := Aside0.mk H
         clear H
         go_wp2
         repeat (go_quiet (fail); try go_wp2)
         go_roundg kj19
         case measure => have := HK1.out; have := HJ19.out; omega
         case rel => exact ⟨(IntKind.u64.wrap (x15_1 - 1)), (IntKind.u64.wrap (x16_1 + ((ji10) / 4294967296))), (by first | rfl | (simp; done) | (simp [*]; done)), (by first | rfl | (simp; done) | (simp only [← hji10] <;> (first | rfl | simp)) | (simp [*]; done)), H', ⟨by have := HK1.out; have := HJ19.out; omega⟩, by repeat (first | exact Drawn0.refl _ | apply Drawn0.step)⟩
        replace c22 := Bool.eq_false_iff.mpr c22
        subst c22
        have H1 : (bits_Div64.j2 kj19 ji10 ji8 ((ji10) / 4294967296) (Go.bits .and .u64 (ji10) 4294967295) (Go.bits .or .u64 (ji12) (ji15)) ((ji17) / 4294967296) (Go.bits .and .u64 (ji17) 4294967295) x15_1) = some (r1, r2) := by rw [if_neg (show ¬ (false = true) by decide)] at H; exact H
        clear H
        have H := H1
        clear H1
        have H' := Aside0.mk H
        clear H
        go_wp2
        repeat (go_quiet (fail); try go_wp2)
        go_meet
        case rel => exact ⟨_, (x15_1), (by first | rfl | (simp; done) | (simp [*]; done)), H', ⟨by have := HK1.out; have := HJ19.out; first | omega | exact Nat.le_refl _⟩, by repeat (first | exact Drawn0.refl _ | apply Drawn0.step)⟩
   case rest =>
    clear HC19
    try clear c1
    try clear c2
    try clear p2
    try clear c4
    try clear c4b0
    try clear c4b1
    try clear c5
    try clear c5b0
    try clear c6
    try clear c6b0
    try clear c6b1
    try clear c8
    try clear c9
    try clear c9b0
    try clear c9b1
    try clear c11
    try clear c11b0
    try clear c14
    try clear c14b0
    try clear c14b1
    try clear c16
    try clear c16b0
    try clear c18
    try clear c18b0
    try clear c18b1
    try clear c19
    try clear c21
    try clear c21b0
    try clear c21b1
    try clear c22
    try clear c23
    try clear c23b0
    try clear p2
    obtain ⟨kq, x15_18, rfl, HA, HJ18, ⟨mc18, rfl⟩⟩ := hcut
    cases kq with
    | zero => exact absurd HA.out (by simp [bits_Div64.j2])
    | succ kj18 =>
     have H := HA.out
     clear HA
     simp only [bits_Div64.j2] at H
     by_cases c24 : ((ji10) / 4294967296) = 0
     ·rw [if_pos c24] at H
      exact absurd H (by simp)
     rw [if_neg c24] at H
     have c24b0 : (((ji10) / 4294967296) == 0) = false := beq_eq_false_iff_ne.mpr c24
     have c24b1 : (((ji10) / 4294967296) != 0) = true := bne_iff_ne.mpr c24
     have H' := Aside0.mk H
     clear H
     go_wp2
     repeat (go_quiet (fail); try go_wp2)
     go_loopg [16, 18] kj18 (fun kq v16 v18 w' => ∃ (x16_2 : Int) (x18_2 : Int), v16 = .int .u64 x16_2 ∧ v18 = .int .u64 x18_2 ∧ Aside0 (bits_Div64.l1 kq ji10 ji8 ((ji10) / 4294967296) (Go.bits .and .u64 (ji10) 4294967295) (Go.bits .and .u64 (ji17) 4294967295) x15_18 x16_2 (IntKind.u64.wrap ((IntKind.u64.wrap ((IntKind.u64.wrap ((Go.bits .or .u64 (ji12) (ji15)) * 4294967296)) + ((ji17) / 4294967296))) - (IntKind.u64.wrap (x15_18 * ji10)))) x18_2 = some (r1, r2)) ∧ Aside0 (kq ≤ kj18) ∧ Drawn0 w w')
     case atStart => exact ⟨(IntKind.u64.wrap ((IntKind.u64.wrap ((IntKind.u64.wrap ((IntKind.u64.wrap ((Go.bits .or .u64 (ji12) (ji15)) * 4294967296)) + ((ji17) / 4294967296))) - (IntKind.u64.wrap (x15_18 * ji10)))) - (IntKind.u64.wrap ((IntKind.u64.wrap (Int.tdiv (IntKind.u64.wrap ((IntKind.u64.wrap ((IntKind.u64.wrap ((Go.bits .or .u64 (ji12) (ji15)) * 4294967296)) + ((ji17) / 4294967296))) - (IntKind.u64.wrap (x15_18 * ji10)))) ((ji10) / 4294967296))) * ((ji10) / 4294967296))))), (IntKind.u64.wrap (Int.tdiv (IntKind.u64.wrap ((IntKind.u64.wrap ((IntKind.u64.wrap ((Go.bits .or .u64 (ji12) (ji15)) * 4294967296)) + ((ji17) / 4294967296))) - (IntKind.u64.wrap (x15_18 * ji10)))) ((ji10) / 4294967296))), (by first | rfl | (simp; done) | (simp only [← hji10, ← hji12, ← hji15, ← hji17] <;> (first | rfl | simp)) | (simp [*]; done)), (by first | rfl | (simp; done) | (simp only [← hji10, ← hji12, ← hji15, ← hji17] <;> (first | rfl | simp)) | (simp [*]; done)), H', ⟨Nat.le_refl _⟩, by repeat (first | exact Drawn0.refl _ | apply Drawn0.step)⟩
     case round =>
      clear H'
      try clear c1
      try clear c2
      try clear p2
      try clear c4
      try clear c4b0
      try clear c4b1
      try clear c5
      try clear c5b0
      try clear c6
      try clear c6b0
      try clear c6b1
      try clear c8
      try clear c9
      try clear c9b0
      try clear c9b1
      try clear c11
      try clear c11b0
      try clear c14
      try clear c14b0
      try clear c14b1
      try clear c16
      try clear c16b0
      try clear c18
      try clear c18b0
      try clear c18b1
      try clear c19
      try clear c21
      try clear c21b0
      try clear c21b1
      try clear c22
      try clear c23
      try clear c23b0
      try clear c24
      try clear c24b0
      try clear c24b1
      try clear p2
      obtain ⟨x16_2, x18_2, rfl, rfl, HA, HK2, ⟨m2, rfl⟩⟩ := hrel
      cases gk with
      | zero => exact absurd HA.out (by simp [bits_Div64.l1])
      | succ k2 =>
       have H := HA.out
       clear HA
       simp only [bits_Div64.l1] at H
       have HC25 := Aside0.mk H
       clear H
       go_upto_region 24 with (fail)
       repeat (go_quiet (fail); go_upto_region 24 with (fail))
       go_cut [113] (fun v113 wc => ∃ (kq : Nat) (x113_24 : Bool), v113 = .bool x113_24 ∧ Aside0 (bits_Div64.j4 kq ji10 ji8 ((ji10) / 4294967296) (Go.bits .and .u64 (ji10) 4294967295) (Go.bits .and .u64 (ji17) 4294967295) x15_18 x16_2 (IntKind.u64.wrap ((IntKind.u64.wrap ((IntKind.u64.wrap ((Go.bits .or .u64 (ji12) (ji15)) * 4294967296)) + ((ji17) / 4294967296))) - (IntKind.u64.wrap (x15_18 * ji10)))) x18_2 x113_24 = some (r1, r2)) ∧ Aside0 (kq ≤ k2) ∧ Drawn0 w wc)
       case first =>
        have H := HC25.out
        clear HC25
        by_cases c26 : x18_2 ≥ 4294967296
        ·rw [if_pos c26] at H
         have c26b0 : decide (4294967296 ≤ x18_2) = true := decide_eq_true c26
         clear c26
         (first | rw [c26b0] | rw [c26b1] | (simp only [i64_w, i32_w]; rw [c26b0]) | skip)
         have H' := Aside0.mk H
         clear H
         go_wp2
         repeat (go_quiet (fail); try go_wp2)
         go_meet
         case rel => exact ⟨_, (true), (by first | rfl | (simp; done) | (simp [*]; done)), H', ⟨by have := HJ18.out; have := HK2.out; first | omega | exact Nat.le_refl _⟩, by repeat (first | exact Drawn0.refl _ | apply Drawn0.step)⟩
        rw [if_neg c26] at H
        have c26b0 : decide (4294967296 ≤ x18_2) = false := decide_eq_false c26
        clear c26
        (first | rw [c26b0] | rw [c26b1] | (simp only [i64_w, i32_w]; rw [c26b0]) | skip)
        have H' := Aside0.mk H
        clear H
        go_wp2
        repeat (go_quiet (fail); try go_wp2)
        go_meet
        case rel => exact ⟨_, (decide ((IntKind.u64.wrap (x18_2 * (Go.bits .and .u64 (ji10) 4294967295))) > (IntKind.u64.wrap ((IntKind.u64.wrap (4294967296 * x16_2)) + (Go.bits .and .u64 (ji17) 4294967295))))), (by first | rfl | (simp; done) | (simp only [← hji10, ← hji17] <;> (first | rfl | simp)) | (simp [*]; done)), H', ⟨by have := HJ18.out; have := HK2.out; first | omega | exact Nat.le_refl _⟩, by repeat (first | exact Drawn0.refl _ | apply Drawn0.step)⟩
       case rest =>
        clear HC25
        try clear c1
        try clear c2
        try clear p2
        try clear c4
        try clear c4b0
        try clear c4b1
        try clear c5
        try clear c5b0
        try clear c6
        try clear c6b0
        try clear c6b1
        try clear c8
        try clear c9
        try clear c9b0
        try clear c9b1
        try clear c11
        try clear c11b0
        try clear c14
        try clear c14b0
        try clear c14b1
        try clear c16
        try clear c16b0
        try clear c18
        try clear c18b0
        try clear c18b1
        try clear c19
        try clear c21
        try clear c21b0
        try clear c21b1
        try clear c22
        try clear c23
        try clear c23b0
        try clear c24
        try clear c24b0
        try clear c24b1
        try clear c26
        try clear c26b0
        try clear c26b1
        try clear p2
        obtain ⟨kq, x113_24, rfl, HA, HJ24, ⟨mc24, rfl⟩⟩ := hcut
        cases kq with
        | zero => exact absurd HA.out (by simp [bits_Div64.j4])
        | succ kj24 =>
         have H := HA.out
         clear HA
         simp only [bits_Div64.j4] at H
         by_cases c27 : x113_24 = true
         ·subst c27
          have H1 : (if (IntKind.u64.wrap (x16_2 + ((ji10) / 4294967296))) ≥ 4294967296 then (if 0 ≤ ji8 then (some (IntKind.u64.wrap ((IntKind.u64.wrap (x15_18 * 4294967296)) + (IntKind.u64.wrap (x18_2 - 1))), shr .u64 (IntKind.u64.wrap ((IntKind.u64.wrap ((IntKind.u64.wrap ((IntKind.u64.wrap ((IntKind.u64.wrap ((IntKind.u64.wrap ((Go.bits .or .u64 (ji12) (ji15)) * 4294967296)) + ((ji17) / 4294967296))) - (IntKind.u64.wrap (x15_18 * ji10)))) * 4294967296)) + (Go.bits .and .u64 (ji17) 4294967295))) - (IntKind.u64.wrap ((IntKind.u64.wrap (x18_2 - 1)) * ji10)))) ji8)) else (none)) else (bits_Div64.l1 kj24 ji10 ji8 ((ji10) / 4294967296) (Go.bits .and .u64 (ji10) 4294967295) (Go.bits .and .u64 (ji17) 4294967295) x15_18 (IntKind.u64.wrap (x16_2 + ((ji10) / 4294967296))) (IntKind.u64.wrap ((IntKind.u64.wrap ((IntKind.u64.wrap ((Go.bits .or .u64 (ji12) (ji15)) * 4294967296)) + ((ji17) / 4294967296))) - (IntKind.u64.wrap (x15_18 * ji10)))) (IntKind.u64.wrap (x18_2 - 1)))) = some (r1, r2) := by rw [if_pos rfl] at H; exact H
          clear H
          have H := H1
          clear H1
          by_cases c28 : (IntKind.u64.wrap (x16_2 + ((ji10) / 4294967296))) ≥ 4294967296
          ·rw [if_pos c28] at H
           have c28b0 : decide (4294967296 ≤ (IntKind.u64.wrap (x16_2 + ((ji10) / 4294967296)))) = true := decide_eq_true c28
           clear c28
           by_cases c29 : 0 ≤ ji8
           ·rw [if_pos c29] at H
            have c29b0 := eq_true c29
            have c29b1 : decide (0 ≤ ji8) = true := decide_eq_true c29
            clear c29
            obtain ⟨ji30, hji30⟩ : ∃ j_ : Int, (shr .u64 (IntKind.u64.wrap ((IntKind.u64.wrap ((IntKind.u64.wrap ((IntKind.u64.wrap ((IntKind.u64.wrap ((IntKind.u64.wrap ((Go.bits .or .u64 (ji12) (ji15)) * 4294967296)) + ((ji17) / 4294967296))) - (IntKind.u64.wrap (x15_18 * ji10)))) * 4294967296)) + (Go.bits .and .u64 (ji17) 4294967295))) - (IntKind.u64.wrap ((IntKind.u64.wrap (x18_2 - 1)) * ji10)))) ji8) = j_ := ⟨_, rfl⟩
            replace H : (some (IntKind.u64.wrap ((IntKind.u64.wrap (x15_18 * 4294967296)) + (IntKind.u64.wrap (x18_2 - 1))), ji30)) = some (r1, r2) := by first | (rw [hji30] at H; exact H) | (simp only [hji30] at H ⊢; exact H)
            have hji30_ : ((IntKind.u64.wrap ((IntKind.u64.wrap ((IntKind.u64.wrap ((IntKind.u64.wrap ((IntKind.u64.wrap ((IntKind.u64.wrap ((Go.bits .or .u64 (ji12) (ji15)) * 4294967296)) + ((ji17) / 4294967296))) - (IntKind.u64.wrap (x15_18 * ji10)))) * 4294967296)) + (Go.bits .and .u64 (ji17) 4294967295))) - (IntKind.u64.wrap ((IntKind.u64.wrap (x18_2 - 1)) * ji10)))) / 2 ^ min ji8.toNat 64) = ji30 := hji30
            have hji30z : ji8 ≤ 64 → ((IntKind.u64.wrap ((IntKind.u64.wrap ((IntKind.u64.wrap ((IntKind.u64.wrap ((IntKind.u64.wrap ((IntKind.u64.wrap ((Go.bits .or .u64 (ji12) (ji15)) * 4294967296)) + ((ji17) / 4294967296))) - (IntKind.u64.wrap (x15_18 * ji10)))) * 4294967296)) + (Go.bits .and .u64 (ji17) 4294967295))) - (IntKind.u64.wrap ((IntKind.u64.wrap (x18_2 - 1)) * ji10)))) / 2 ^ ji8.toNat) = ji30 := shr_small hji30
            simp only [Option.some.injEq, Prod.mk.injEq] at H
            obtain ⟨rfl, rfl⟩ := H
            go_wp2
            repeat (go_quiet (fail); try go_wp2)
            go_ret2
            exact ⟨by first | rfl | (simp; done) | (simp only [← hji8, ← hji10, ← hji12, ← hji13, ← hji15, ← hji17, ← hji30] <;> (first | rfl | simp)) | (simp [*]; done), by repeat (first | exact Drawn0.refl _ | apply Drawn0.step)⟩
           rw [if_neg c29] at H
           exact absurd H (by simp)
          rw [if_neg c28] at H
          have c28b0 : decide (4294967296 ≤ (IntKind.u64.wrap (x16_2 + ((ji10) / 4294967296)))) = false := decide_eq_false c28
          clear c28
          have H' := Aside0.mk H
          clear H
          go_wp2
          repeat (go_quiet (fail); try go_wp2)
          go_roundg kj24
          case measure => have := HJ18.out; have := HK2.out; have := HJ24.out; omega
          case rel => exact ⟨(IntKind.u64.wrap (x16_2 + ((ji10) / 4294967296))), (IntKind.u64.wrap (x18_2 - 1)), (by first | rfl | (simp; done) | (simp only [← hji10] <;> (first | rfl | simp)) | (simp [*]; done)), (by first | rfl | (simp; done) | (simp [*]; done)), H', ⟨by have := HJ18.out; have := HK2.out; have := HJ24.out; omega⟩, by repeat (first | exact Drawn0.refl _ | apply Drawn0.step)⟩
         replace c27 := Bool.eq_false_iff.mpr c27
         subst c27
         have H1 : (if 0 ≤ ji8 then (some (IntKind.u64.wrap ((IntKind.u64.wrap (x15_18 * 4294967296)) + x18_2), shr .u64 (IntKind.u64.wrap ((IntKind.u64.wrap ((IntKind.u64.wrap ((IntKind.u64.wrap ((IntKind.u64.wrap ((IntKind.u64.wrap ((Go.bits .or .u64 (ji12) (ji15)) * 4294967296)) + ((ji17) / 4294967296))) - (IntKind.u64.wrap (x15_18 * ji10)))) * 4294967296)) + (Go.bits .and .u64 (ji17) 4294967295))) - (IntKind.u64.wrap (x18_2 * ji10)))) ji8)) else (none)) = some (r1, r2) := by rw [if_neg (show ¬ (false = true) by decide)] at H; exact H
         clear H
         have H := H1
         clear H1
         by_cases c31 : 0 ≤ ji8
         ·rw [if_pos c31] at H
          have c31b0 := eq_true c31
          have c31b1 : decide (0 ≤ ji8) = true := decide_eq_true c31
          clear c31
          obtain ⟨ji32, hji32⟩ : ∃ j_ : Int, (shr .u64 (IntKind.u64.wrap ((IntKind.u64.wrap ((IntKind.u64.wrap ((IntKind.u64.wrap ((IntKind.u64.wrap ((IntKind.u64.wrap ((Go.bits .or .u64 (ji12) (ji15)) * 4294967296)) + ((ji17) / 4294967296))) - (IntKind.u64.wrap (x15_18 * ji10)))) * 4294967296)) + (Go.bits .and .u64 (ji17) 4294967295))) - (IntKind.u64.wrap (x18_2 * ji10)))) ji8) = j_ := ⟨_, rfl⟩
          replace H : (some (IntKind.u64.wrap ((IntKind.u64.wrap (x15_18 * 4294967296)) + x18_2), ji32)) = some (r1, r2) := by first | (rw [hji32] at H; exact H) | (simp only [hji32] at H ⊢; exact H)
          have hji32_ : ((IntKind.u64.wrap ((IntKind.u64.wrap ((IntKind.u64.wrap ((IntKind.u64.wrap ((IntKind.u64.wrap ((IntKind.u64.wrap ((Go.bits .or .u64 (ji12) (ji15)) * 4294967296)) + ((ji17) / 4294967296))) - (IntKind.u64.wrap (x15_18 * ji10)))) * 4294967296)) + (Go.bits .and .u64 (ji17) 4294967295))) - (IntKind.u64.wrap (x18_2 * ji10)))) / 2 ^ min ji8.toNat 64) = ji32 := hji32
          have hji32z : ji8 ≤ 64 → ((IntKind.u64.wrap ((IntKind.u64.wrap ((IntKind.u64.wrap ((IntKind.u64.wrap ((IntKind.u64.wrap ((IntKind.u64.wrap ((Go.bits .or .u64 (ji12) (ji15)) * 4294967296)) + ((ji17) / 4294967296))) - (IntKind.u64.wrap (x15_18 * ji10)))) * 4294967296)) + (Go.bits .and .u64 (ji17) 4294967295))) - (IntKind.u64.wrap (x18_2 * ji10)))) / 2 ^ ji8.toNat) = ji32 := shr_small hji32
          simp only [Option.some.injEq, Prod.mk.injEq] at H
          obtain ⟨rfl, rfl⟩ := H
          go_wp2
          repeat (go_quiet (fail); try go_wp2)
          go_ret2
          exact ⟨by first | rfl | (simp; done) | (simp only [← hji8, ← hji10, ← hji12, ← hji13, ← hji15, ← hji17, ← hji32] <;> (first | rfl | simp)) | (simp [*]; done), by repeat (first | exact Drawn0.refl _ | apply Drawn0.step)⟩
         rw [if_neg c31] at H
         exact absurd H (by simp)
  rw [if_neg c14] at H
  exact absurd H (by simp)
 rw [if_neg c9] at H
 exact absurd H (by simp)
end Go.Proofs.YtikencoikigllaaDoor.PRa
namespace Go.Proofs.YtikencoikigllaaDoor.PRa
open Go.RowKit Go.Proofs.YtikencoikigllaaDoorW.PrintWords Go.Proofs.YtikencoikigllaaDoorW.PrintLast Go.Proofs.YtikencoikigllaaDoorW.PrintMore
open Go.Proofs.YtikencoikigllaaDoor.Mine
attribute [local go_sem] max2_int min2_int max_two min_two max_three min_three max_four min_four
def whole_amount_byLimb.l0 : Nat → List Int → Int → List Int → Int → Int → Option (List Int × Int)
 | 0, _, _, _, _, _ => none
 | k + 1, x0, x1, x6, x7, x8 => if x8 ≥ 0 then (if 0 ≤ x8 then (if x8 < (x0.length : Int) then ((bits_Div64.f k x7 (rd x0 x8) x1).bind fun bt243 => (if x8 < (x6.length : Int) then (whole_amount_byLimb.l0 k x0 x1 (x6.set (x8 : Int).toNat bt243.1) bt243.2 (wrap64 (x8 - 1))) else (none))) else (none)) else (none)) else ((whole_trimmed.f k x6).bind fun t246 => (some (t246, x7)))
def whole_amount_byLimb.f (k : Nat) (l0 : List Int) (a1 : Int) : Option (List Int × Int) := if 0 ≤ (l0.length : Int) then (if ((l0.length : Int) : Int).toNat ≤ 35184372088832 then (whole_amount_byLimb.l0 k l0 a1 (List.replicate ((l0.length : Int) : Int).toNat 0) 0 (wrap64 ((l0.length : Int) - 1))) else (none)) else (none)
theorem whole_amount_byLimb.mono_l : ∀ k, (∀ y0 y1 y2 y3 y4, LeO (whole_amount_byLimb.l0 k y0 y1 y2 y3 y4) (whole_amount_byLimb.l0 (k + 1) y0 y1 y2 y3 y4))
 | 0 => fun _ _ _ _ _ r h => by simp [whole_amount_byLimb.l0] at h
 | k + 1 => by
  have ih0 := whole_amount_byLimb.mono_l k
  intro y0 y1 y2 y3 y4
  unfold whole_amount_byLimb.l0
  repeat' first
  | (with_reducible exact ih0 _ _ _ _ _)
  | (with_reducible exact bits_Div64.mono _ _ _ _)
  | (with_reducible exact whole_trimmed.mono _ _)
  | (with_reducible exact LeO.refl _)
  | (with_reducible exact LeO.none _)
  | (with_reducible refine LeO.ite ?_ ?_)
  | (with_reducible refine LeO.bind ?_ (fun _ => ?_))
  | exact ih0 _ _ _ _ _
  | exact bits_Div64.mono _ _ _ _
  | exact whole_trimmed.mono _ _
  | exact LeO.none _
  | refine LeO.ite ?_ ?_
  | refine LeO.bind ?_ (fun _ => ?_)
theorem whole_amount_byLimb.mono : ∀ a0 a1 k, LeO (whole_amount_byLimb.f k a0 a1) (whole_amount_byLimb.f (k + 1) a0 a1) := by
 intro a0 a1 k
 have ih0 := whole_amount_byLimb.mono_l k
 unfold whole_amount_byLimb.f
 repeat' first
   | (with_reducible exact ih0 _ _ _ _ _)
   | (with_reducible exact bits_Div64.mono _ _ _ _)
   | (with_reducible exact whole_trimmed.mono _ _)
   | (with_reducible exact LeO.refl _)
   | (with_reducible exact LeO.none _)
   | (with_reducible refine LeO.ite ?_ ?_)
   | (with_reducible refine LeO.bind ?_ (fun _ => ?_))
   | exact ih0 _ _ _ _ _
   | exact bits_Div64.mono _ _ _ _
   | exact whole_trimmed.mono _ _
   | exact LeO.none _
   | refine LeO.ite ?_ ?_
   | refine LeO.bind ?_ (fun _ => ?_)
theorem whole_amount_byLimb.calls (k : Nat) (A0 : Option Addr) (c0 : Nat) (l0 : List Int) (a1 : Int) (r1 : List Int) (r2 : Int) (w : World) (hr0 : Kd.C (Kd.int .u64) w A0 l0.length l0) (hc0 : l0.length ≤ c0) (h : whole_amount_byLimb.f k l0 a1 = some (r1, r2)) :
  Calls Tryd.prog 68 #[.slice A0 l0.length c0, .int .u64 a1] w fun e w' => ∃ v0_ : Value, e = .returned (.tuple #[v0_, .int .u64 r2]) ∧ Kd.V (Kd.int .u64) 36 w' w.heap.size (fun k_ => (w.heap.size ≤ k_)) v0_ r1 ∧ Below w.heap.size w w' := by
 have HR0 := Aside0.mk hr0
 have HC0 := Aside0.mk hc0
 clear hr0 hc0
 have HB := Aside0.mk (Below.refl w.heap.size w)
 have H : (if 0 ≤ (l0.length : Int) then (if ((l0.length : Int) : Int).toNat ≤ 35184372088832 then (whole_amount_byLimb.l0 k l0 a1 (List.replicate ((l0.length : Int) : Int).toNat 0) 0 (wrap64 ((l0.length : Int) - 1))) else (none)) else (none)) = some (r1, r2) := h
 clear h
 by_cases c3 : 0 ≤ (l0.length : Int)
 ·rw [if_pos c3] at H
  have c3b0 := eq_true c3
  have c3b1 : decide (0 ≤ (l0.length : Int)) = true := decide_eq_true c3
  clear c3
  by_cases c4 : ((l0.length : Int) : Int).toNat ≤ 35184372088832
  ·rw [if_pos c4] at H
   have c4b0 := eq_true c4
   have c4b1 : decide (((l0.length : Int) : Int).toNat ≤ 35184372088832) = true := decide_eq_true c4
   clear c4
   obtain ⟨y239, hy239⟩ : ∃ y_ : List Int, y_ = (List.replicate ((l0.length : Int) : Int).toNat 0) := ⟨_, rfl⟩
   replace H : (whole_amount_byLimb.l0 k l0 a1 y239 0 (wrap64 ((l0.length : Int) - 1))) = some (r1, r2) := by first | (rw [hy239]; with_reducible exact H) | (have H2_ := (Option.bind_some _ _).symm.trans H; rw [hy239]; with_reducible exact H2_) | (have H2_ := (Option.bind_some _ _).symm.trans H; with_reducible exact H2_) | with_reducible exact H | (rw [hy239]; exact H) | exact H
   have Ny239 := Aside0.mk hy239
   clear hy239
   have H' := Aside0.mk H
   clear H
   go_enter Tryd.func68, Tryd.ntmps68
   go_wp2_with (first | (refine gd 11 rfl ?_; refine Kd.R_make (Kd.int .u64) _ 36 rfl (N := 11) rfl 22 _ _ rfl (l0.length : Int) rfl rfl Tryd.underlying22 (.int .u64 0) 8 info36 rfl (by decide) (by omega) 0 (ok := fun _ => True) (okp := fun _ => True) rfl (fun _ hk => hk) trivial (of_decide_eq_true ‹_›) (Nat.le_trans (Nat.mul_le_mul_right _ (of_decide_eq_true ‹_› : (l0.length : Int).toNat ≤ 35184372088832)) (by omega)) (Below.refl _ _) (Nat.le_refl _) ?_; intro v240 w5 ho6 hb hg_ hnew_; clear hg_ hnew_; (first | rw [← Ny239.out] at ho6 | (simp only [Int.reduceToNat] at ho6; rw [← Ny239.out] at ho6)); have HO241 := Aside0.mk (Kd.R_lower (Kd.R_newM (M := fun k_ => (w.heap.size ≤ k_)) ho6 (below_size (khu HB.out)) (fun k_ h_ => h_)) (below_size (khu HB.out))); replace HB := kbs HB hb; clear hb ho6))
   go_loopg [7, 8] k (fun kq v7 v8 w' => ∃ (x6_1 : List Int) (x7_1 : Int) (x8_1 : Int), v7 = .int .u64 x7_1 ∧ v8 = .int .i64 x8_1 ∧ Aside0 (whole_amount_byLimb.l0 kq l0 a1 x6_1 x7_1 x8_1 = some (r1, r2)) ∧ Aside0 (kq ≤ k) ∧ Aside0 (Kd.R (Kd.int .u64) 36 w' w.heap.size (fun k_ => (w.heap.size ≤ k_)) v240 x6_1) ∧ Aside0 (Below w.heap.size w w'))
   case atStart => exact ⟨(y239), (0), (wrap64 ((l0.length : Int) - 1)), (by first | rfl | (simp; done) | (simp [*]; done)), (by first | rfl | (simp; done) | (simp [*]; done)), H', ⟨Nat.le_refl _⟩, ⟨by (with_reducible repeat (first | apply Kd.R_alloc | apply Kd.R_drewN | apply Kd.R_drew)); exact Kd.R_mono HO241.out (fun _ hk => hk.1)⟩, ⟨khu HB.out⟩⟩
   case round =>
    clear H'
    try clear p2
    try clear c3
    try clear c3b0
    try clear c3b1
    try clear c4
    try clear c4b0
    try clear c4b1
    try clear c6
    try clear p6
    obtain ⟨x6_1, x7_1, x8_1, rfl, rfl, HA, HK1, HO_6, HB⟩ := hrel
    cases gk with
    | zero => exact absurd HA.out (by simp [whole_amount_byLimb.l0])
    | succ k1 =>
     have H := HA.out
     clear HA
     simp only [whole_amount_byLimb.l0] at H
     by_cases c7 : x8_1 ≥ 0
     ·rw [if_pos c7] at H
      have c7b0 : decide (0 ≤ x8_1) = true := decide_eq_true c7
      clear c7
      by_cases c8 : 0 ≤ x8_1
      ·rw [if_pos c8] at H
       have c8b0 : decide (0 ≤ x8_1) = true := decide_eq_true c8
       clear c8
       by_cases c9 : x8_1 < (l0.length : Int)
       ·rw [if_pos c9] at H
        have c9b0 : decide (x8_1 < (l0.length : Int)) = true := decide_eq_true c9
        clear c9
        replace H := Option.bind_eq_some_iff.mp H
        obtain ⟨⟨t243, t244⟩, A100, H⟩ := H
        replace H : (if x8_1 < (x6_1.length : Int) then (whole_amount_byLimb.l0 k1 l0 a1 (x6_1.set (x8_1 : Int).toNat t243) t244 (wrap64 (x8_1 - 1))) else (none)) = some (r1, r2) := H
        have A10 := Aside0.mk A100
        clear A100
        by_cases c11 : x8_1 < (x6_1.length : Int)
        ·rw [if_pos c11] at H
         have c11b0 : decide (x8_1 < (x6_1.length : Int)) = true := decide_eq_true c11
         clear c11
         obtain ⟨y245, hy245⟩ : ∃ y_ : List Int, y_ = (x6_1.set (x8_1 : Int).toNat t243) := ⟨_, rfl⟩
         replace H : (whole_amount_byLimb.l0 k1 l0 a1 y245 t244 (wrap64 (x8_1 - 1))) = some (r1, r2) := by first | (rw [hy245]; with_reducible exact H) | (have H2_ := (Option.bind_some _ _).symm.trans H; rw [hy245]; with_reducible exact H2_) | (have H2_ := (Option.bind_some _ _).symm.trans H; with_reducible exact H2_) | with_reducible exact H | (rw [hy245]; exact H) | exact H
         have Ny245 := Aside0.mk hy245
         clear hy245
         have H' := Aside0.mk H
         clear H
         have p242 : 0 ≤ (x8_1 : Int) := of_decide_eq_true ‹_›
         have q242 : x8_1 < (l0.length : Int) := of_decide_eq_true ‹_›
         obtain ⟨ad242, e242, hx242_0⟩ := Kd.at_int HR0.out x8_1 p242 q242
         cases e242
         replace hx242_0 := (HB.out.cell (World.block_lt_of_cell? w _ hx242_0)).trans hx242_0
         replace p242 := eq_true p242
         replace q242 := eq_true q242
         go_wp2_with (first | ((with_reducible refine gate_callee (f := 80) rfl ?_); refine kgl (some 28) rfl rfl Tryd.func80 #[.int .u64 x7_1, .int .u64 (rd l0 x8_1), .int .u64 a1] rfl ?_; (with_reducible refine (bits_Div64.calls k1 x7_1 (rd l0 x8_1) a1 t243 t244 _ A10.out).mono ?_); rintro e w' ⟨rfl, ⟨nd, rfl⟩⟩; refine ⟨_, rfl, ?_⟩; (try (rw [drewN_self wr]; generalize hq_ : World.drewN wr _ = wr; have n0_ : Aside0 (Kd.R (Kd.int .u64) 36 wr w.heap.size (fun k_ => (w.heap.size ≤ k_)) v240 x6_1) := ⟨by rw [← hq_]; exact (kru HO_6.out)⟩; have n1_ : Aside0 (Below w.heap.size w wr) := ⟨by rw [← hq_]; exact (khu HB.out)⟩; clear HO_6 HB hq_; have HO_6 := n0_; have HB := n1_; clear n0_ n1_)); have p12 : 0 ≤ (x8_1 : Int) := of_decide_eq_true ‹_›; have q12 : (x8_1 : Int) < ((x6_1.length : Int) : Int) := of_decide_eq_true ‹_›; obtain ⟨go12, co12, eo12, gb12, gl12, cl12, HG12⟩ := Kd.R_form HO_6.out (by omega); (first | cases eo12 | (injection eo12 with ea_ en_ ec_; (first | subst ea_ | (injection ea_ with ea_; subst ea_)); subst ec_; clear en_)); have GB12 := Aside0.mk gb12; have GG12 := Aside0.mk HG12; clear gb12 gl12 HG12; obtain ⟨hx12_0, hf12_0⟩ := Kd.R_celln 0 HO_6.out (x8_1 : Int) p12 q12; replace p12 := eq_true p12; replace q12 := eq_true q12; obtain ⟨hy13_, hz13_⟩ := Kd.R_celln 0 HO_6.out (x8_1 : Int) (of_decide_eq_true ‹_›) (of_decide_eq_true ‹_›); have HP13 := Kd.R_putg HO_6.out (x8_1 : Int) t243) | ((with_reducible refine gate_store (t := 36) (p := 31) rfl ?_); refine store_event (t := 36) (p := 31) (v := ?vo_w14) (w1 := (wr.setCell ⟨go12, (x8_1 : Int).toNat, none⟩ (.int .u64 t243))) ?hg ?ho ?hn ?hr ?_; (case ho => rfl); (case hg => rfl); (case hn => rfl); (case hr => first | (go_simp; done) | (go_simp; rfl)); intro w14 hw; have hg : wr.grownBy w14 (some go12) := (by rw [hw]; exact HP13.2); have hp_ : Kd.R (Kd.int .u64) 36 w14 w.heap.size (fun k_ => (w.heap.size ≤ k_)) (.slice (some ⟨go12, 0, none⟩) x6_1.length co12) y245 := (by rw [hw, Ny245.out]; exact HP13.1); clear HP13; replace HO_6 := Aside0.mk (hp_); replace HB := Aside0.mk ((by rw [hw]; exact below_set (HB.out) GB12.out : Below w.heap.size w w14)); clear hg hw hp_))
         go_roundg k1
         case measure => have := HK1.out; omega
         case rel => exact ⟨(y245), (t244), (wrap64 (x8_1 - 1)), (by first | rfl | (simp; done) | (simp [*]; done)), (by first | rfl | (simp; done) | (simp [*]; done)), H', ⟨by have := HK1.out; omega⟩, ⟨kru HO_6.out⟩, ⟨khu HB.out⟩⟩
        rw [if_neg c11] at H
        exact absurd H (by simp)
       rw [if_neg c9] at H
       exact absurd H (by simp)
      rw [if_neg c8] at H
      exact absurd H (by simp)
     rw [if_neg c7] at H
     have c7b0 : decide (0 ≤ x8_1) = false := decide_eq_false c7
     clear c7
     replace H := Option.bind_eq_some_iff.mp H
     obtain ⟨t246, A150, H⟩ := H
     replace H : (some (t246, x7_1)) = some (r1, r2) := H
     have A15 := Aside0.mk A150
     clear A150
     simp only [Option.some.injEq, Prod.mk.injEq] at H
     obtain ⟨rfl, rfl⟩ := H
     obtain ⟨Ao16, co16, eo16⟩ := Kd.R_slice HO_6.out
     subst eo16
     go_wp2_with (first | ((with_reducible refine gate_callee (f := 35) rfl ?_); refine kgl (some 33) rfl rfl Tryd.func35 #[.slice Ao16 x6_1.length co16] rfl ?_; (with_reducible refine (whole_trimmed.calls k1 (fun k_ => some k_ = (.slice Ao16 x6_1.length co16 : Value).ownBlock) _ _ x6_1 t246 _ ?side1 A15.out).mono ?_); (case side1 => exact Kd.R_V (Kd.R_tight rfl (HO_6.out))); rintro e w17 ⟨v247, rfl, ho0, hb⟩; refine ⟨_, rfl, ?_⟩; have HO248 := Aside0.mk (Kd.V_lower (Kd.V_mono (ok' := fun k_ => (w.heap.size ≤ k_)) ho0 (fun k_ hk_ => Or.elim hk_ (fun hs_ => ((HO_6.out).1 k_ hs_.symm)) (fun hn_ => (Nat.le_trans (below_size (khu HB.out)) hn_)))) (below_size (khu HB.out))); replace HO_6 := krb HO_6 hb; replace HB := kbs HB hb; (try clear hb); (try clear hb2); (try clear hk); (try clear hi); (try clear ho0)))
     go_ret2
     exact ⟨_, by first | rfl | (simp [*, errW_none, errW_some] <;> rfl), kvu HO248.out, khu HB.out⟩
  rw [if_neg c4] at H
  exact absurd H (by simp)
 rw [if_neg c3] at H
 exact absurd H (by simp)
def whole_amount_up.l0 : Nat → Int → List Int → List Int → Int → Int → Option (List Int)
 | 0, _, _, _, _, _ => none
 | k + 1, x1, x5, x12, x13, x14 => if x14 < x13 then (if 0 ≤ x14 then (if x14 < (x12.length : Int) then (if x14 < (x5.length : Int) then (if 0 ≤ x1 then ((some (x5.set (x14 : Int).toNat (Go.bits .or .u64 (rd x5 x14) (shl .u64 (rd x12 x14) x1)) : List Int)).bind fun y254 => (if x1 > 0 then (if 0 ≤ (IntKind.u64.wrap (64 - x1)) then (if 0 ≤ (wrap64 (x14 + 1)) then (if (wrap64 (x14 + 1)) < (x5.length : Int) then (whole_amount_up.l0 k x1 (y254.set ((wrap64 (x14 + 1)) : Int).toNat (shr .u64 (rd x12 x14) (IntKind.u64.wrap (64 - x1)))) x12 x13 (wrap64 (x14 + 1))) else (none)) else (none)) else (none)) else (whole_amount_up.l0 k x1 y254 x12 x13 (wrap64 (x14 + 1))))) else (none)) else (none)) else (none)) else (none)) else (some x5)
def whole_amount_up.f (k : Nat) (l0 : List Int) (a1 : Int) : Option (List Int) := if 0 ≤ (wrap64 ((l0.length : Int) + 1)) then (if (wrap64 ((l0.length : Int) + 1) : Int).toNat ≤ 35184372088832 then (whole_amount_up.l0 k a1 (List.replicate (wrap64 ((l0.length : Int) + 1) : Int).toNat 0) l0 (l0.length : Int) 0) else (none)) else (none)
theorem whole_amount_up.mono_l : ∀ k, (∀ y0 y1 y2 y3 y4, LeO (whole_amount_up.l0 k y0 y1 y2 y3 y4) (whole_amount_up.l0 (k + 1) y0 y1 y2 y3 y4))
 | 0 => fun _ _ _ _ _ r h => by simp [whole_amount_up.l0] at h
 | k + 1 => by
  have ih0 := whole_amount_up.mono_l k
  intro y0 y1 y2 y3 y4
  unfold whole_amount_up.l0
  repeat' first
  | (with_reducible exact ih0 _ _ _ _ _)
  | (with_reducible exact LeO.refl _)
  | (with_reducible exact LeO.none _)
  | (with_reducible refine LeO.ite ?_ ?_)
  | (with_reducible refine LeO.bind ?_ (fun _ => ?_))
  | exact ih0 _ _ _ _ _
  | exact LeO.none _
  | refine LeO.ite ?_ ?_
  | refine LeO.bind ?_ (fun _ => ?_)
theorem whole_amount_up.mono : ∀ a0 a1 k, LeO (whole_amount_up.f k a0 a1) (whole_amount_up.f (k + 1) a0 a1) := by
 intro a0 a1 k
 have ih0 := whole_amount_up.mono_l k
 unfold whole_amount_up.f
 repeat' first
   | (with_reducible exact ih0 _ _ _ _ _)
   | (with_reducible exact LeO.refl _)
   | (with_reducible exact LeO.none _)
   | (with_reducible refine LeO.ite ?_ ?_)
   | (with_reducible refine LeO.bind ?_ (fun _ => ?_))
   | exact ih0 _ _ _ _ _
   | exact LeO.none _
   | refine LeO.ite ?_ ?_
   | refine LeO.bind ?_ (fun _ => ?_)
theorem whole_amount_up.calls (k : Nat) (A0 : Option Addr) (c0 : Nat) (l0 : List Int) (a1 : Int) (r : List Int) (w : World) (hr0 : Kd.C (Kd.int .u64) w A0 l0.length l0) (hc0 : l0.length ≤ c0) (h : whole_amount_up.f k l0 a1 = some r) :
  Calls Tryd.prog 79 #[.slice A0 l0.length c0, .int .u64 a1] w fun e w' => ∃ v0_ : Value, e = .returned (v0_) ∧ Kd.R (Kd.int .u64) 36 w' w.heap.size (fun _ => True) v0_ r ∧ Below w.heap.size w w' := by
 have HR0 := Aside0.mk hr0
 have HC0 := Aside0.mk hc0
 clear hr0 hc0
 have HB := Aside0.mk (Below.refl w.heap.size w)
 have H : (if 0 ≤ (wrap64 ((l0.length : Int) + 1)) then (if (wrap64 ((l0.length : Int) + 1) : Int).toNat ≤ 35184372088832 then (whole_amount_up.l0 k a1 (List.replicate (wrap64 ((l0.length : Int) + 1) : Int).toNat 0) l0 (l0.length : Int) 0) else (none)) else (none)) = some r := h
 clear h
 obtain ⟨ji3, hji3⟩ : ∃ j_ : Int, (wrap64 ((l0.length : Int) + 1)) = j_ := ⟨_, rfl⟩
 replace H : (if 0 ≤ (ji3) then (if (ji3 : Int).toNat ≤ 35184372088832 then (whole_amount_up.l0 k a1 (List.replicate (ji3 : Int).toNat 0) l0 (l0.length : Int) 0) else (none)) else (none)) = some r := by first | (rw [hji3] at H; exact H) | (simp only [hji3] at H ⊢; exact H)
 have hji3w : (IntKind.i64.wrap ((l0.length : Int) + 1)) = ji3 := (i64_w _).trans hji3
 by_cases c4 : 0 ≤ (ji3)
 ·rw [if_pos c4] at H
  have c4b0 := eq_true c4
  have c4b1 : decide (0 ≤ (ji3)) = true := decide_eq_true c4
  clear c4
  by_cases c5 : (ji3 : Int).toNat ≤ 35184372088832
  ·rw [if_pos c5] at H
   have c5b0 := eq_true c5
   have c5b1 : decide ((ji3 : Int).toNat ≤ 35184372088832) = true := decide_eq_true c5
   clear c5
   obtain ⟨y249, hy249⟩ : ∃ y_ : List Int, y_ = (List.replicate (ji3 : Int).toNat 0) := ⟨_, rfl⟩
   replace H : (whole_amount_up.l0 k a1 y249 l0 (l0.length : Int) 0) = some r := by first | (rw [hy249]; with_reducible exact H) | (have H2_ := (Option.bind_some _ _).symm.trans H; rw [hy249]; with_reducible exact H2_) | (have H2_ := (Option.bind_some _ _).symm.trans H; with_reducible exact H2_) | with_reducible exact H | (rw [hy249]; exact H) | exact H
   have Ny249 := Aside0.mk hy249
   clear hy249
   have H' := Aside0.mk H
   clear H
   go_enter Tryd.func79, Tryd.ntmps79
   go_wp2_with (first | (refine gd 11 rfl ?_; refine Kd.R_make (Kd.int .u64) _ 36 rfl (N := 11) rfl 22 _ _ rfl ji3 rfl rfl Tryd.underlying22 (.int .u64 0) 8 info36 rfl (by decide) (by omega) 0 (ok := fun _ => True) (okp := fun _ => True) rfl (fun _ hk => hk) trivial (of_decide_eq_true ‹_›) (Nat.le_trans (Nat.mul_le_mul_right _ (of_decide_eq_true ‹_› : ji3.toNat ≤ 35184372088832)) (by omega)) (Below.refl _ _) (Nat.le_refl _) ?_; intro v250 w6 ho7 hb hg_ hnew_; clear hg_ hnew_; (first | rw [← Ny249.out] at ho7 | (simp only [Int.reduceToNat] at ho7; rw [← Ny249.out] at ho7)); have HO251 := Aside0.mk (Kd.R_lower ho7 (below_size (khu HB.out))); replace HB := kbs HB hb; clear hb ho7))
   go_loopg [14] k (fun kq v14 w' => ∃ (x5_1 : List Int) (x14_1 : Int), v14 = .int .i64 x14_1 ∧ Aside0 (whole_amount_up.l0 kq a1 x5_1 l0 (l0.length : Int) x14_1 = some r) ∧ Aside0 (kq ≤ k) ∧ Aside0 (Kd.R (Kd.int .u64) 36 w' w.heap.size (fun _ => True) v250 x5_1) ∧ Aside0 (Below w.heap.size w w'))
   case atStart => exact ⟨(y249), (0), (by first | rfl | (simp; done) | (simp [*]; done)), H', ⟨Nat.le_refl _⟩, ⟨kru HO251.out⟩, ⟨khu HB.out⟩⟩
   case round =>
    clear H'
    try clear p2
    try clear c4
    try clear c4b0
    try clear c4b1
    try clear c5
    try clear c5b0
    try clear c5b1
    try clear p6
    try clear c7
    obtain ⟨x5_1, x14_1, rfl, HA, HK1, HO_5, HB⟩ := hrel
    cases gk with
    | zero => exact absurd HA.out (by simp [whole_amount_up.l0])
    | succ k1 =>
     have H := HA.out
     clear HA
     simp only [whole_amount_up.l0] at H
     by_cases c8 : x14_1 < (l0.length : Int)
     ·rw [if_pos c8] at H
      have c8b0 : decide (x14_1 < (l0.length : Int)) = true := decide_eq_true c8
      clear c8
      by_cases c9 : 0 ≤ x14_1
      ·rw [if_pos c9] at H
       have c9b0 : decide (0 ≤ x14_1) = true := decide_eq_true c9
       clear c9
       by_cases c10 : x14_1 < (l0.length : Int)
       ·rw [if_pos c10] at H
        have c10b0 : decide (x14_1 < (l0.length : Int)) = true := decide_eq_true c10
        clear c10
        by_cases c11 : x14_1 < (x5_1.length : Int)
        ·rw [if_pos c11] at H
         have c11b0 : decide (x14_1 < (x5_1.length : Int)) = true := decide_eq_true c11
         clear c11
         by_cases c12 : 0 ≤ a1
         ·rw [if_pos c12] at H
          have c12b0 := eq_true c12
          have c12b1 : decide (0 ≤ a1) = true := decide_eq_true c12
          clear c12
          obtain ⟨ji13, hji13⟩ : ∃ j_ : Int, (shl .u64 (rd l0 x14_1) a1) = j_ := ⟨_, rfl⟩
          replace H : ((some (x5_1.set (x14_1 : Int).toNat (Go.bits .or .u64 (rd x5_1 x14_1) (ji13)) : List Int)).bind fun y254 => (if a1 > 0 then (if 0 ≤ (IntKind.u64.wrap (64 - a1)) then (if 0 ≤ (wrap64 (x14_1 + 1)) then (if (wrap64 (x14_1 + 1)) < (x5_1.length : Int) then (whole_amount_up.l0 k1 a1 (y254.set ((wrap64 (x14_1 + 1)) : Int).toNat (shr .u64 (rd l0 x14_1) (IntKind.u64.wrap (64 - a1)))) l0 (l0.length : Int) (wrap64 (x14_1 + 1))) else (none)) else (none)) else (none)) else (whole_amount_up.l0 k1 a1 y254 l0 (l0.length : Int) (wrap64 (x14_1 + 1))))) = some r := by first | (rw [hji13] at H; exact H) | (simp only [hji13] at H ⊢; exact H)
          have hji13_ : (IntKind.u64.wrap ((rd l0 x14_1) * 2 ^ min a1.toNat 64)) = ji13 := hji13
          have hji13z : a1 ≤ 64 → (IntKind.u64.wrap ((rd l0 x14_1) * 2 ^ a1.toNat)) = ji13 := shl_small hji13
          obtain ⟨y254, hy254⟩ : ∃ y_ : List Int, y_ = (x5_1.set (x14_1 : Int).toNat (Go.bits .or .u64 (rd x5_1 x14_1) (ji13))) := ⟨_, rfl⟩
          replace H : (if a1 > 0 then (if 0 ≤ (IntKind.u64.wrap (64 - a1)) then (if 0 ≤ (wrap64 (x14_1 + 1)) then (if (wrap64 (x14_1 + 1)) < (x5_1.length : Int) then (whole_amount_up.l0 k1 a1 (y254.set ((wrap64 (x14_1 + 1)) : Int).toNat (shr .u64 (rd l0 x14_1) (IntKind.u64.wrap (64 - a1)))) l0 (l0.length : Int) (wrap64 (x14_1 + 1))) else (none)) else (none)) else (none)) else (whole_amount_up.l0 k1 a1 y254 l0 (l0.length : Int) (wrap64 (x14_1 + 1)))) = some r := by first | (rw [hy254]; with_reducible exact H) | (have H2_ := (Option.bind_some _ _).symm.trans H; rw [hy254]; with_reducible exact H2_) | (have H2_ := (Option.bind_some _ _).symm.trans H; with_reducible exact H2_) | with_reducible exact H | (rw [hy254]; exact H) | exact H
          have Ny254 := Aside0.mk hy254
          clear hy254
          by_cases c15 : a1 > 0
          ·rw [if_pos c15] at H
           have c15b0 : decide (0 < a1) = true := decide_eq_true c15
           clear c15
           obtain ⟨ji16, hji16⟩ : ∃ j_ : Int, (IntKind.u64.wrap (64 - a1)) = j_ := ⟨_, rfl⟩
           replace H : (if 0 ≤ (ji16) then (if 0 ≤ (wrap64 (x14_1 + 1)) then (if (wrap64 (x14_1 + 1)) < (x5_1.length : Int) then (whole_amount_up.l0 k1 a1 (y254.set ((wrap64 (x14_1 + 1)) : Int).toNat (shr .u64 (rd l0 x14_1) (ji16))) l0 (l0.length : Int) (wrap64 (x14_1 + 1))) else (none)) else (none)) else (none)) = some r := by first | (rw [hji16] at H; exact H) | (simp only [hji16] at H ⊢; exact H)
           by_cases c17 : 0 ≤ (ji16)
           ·rw [if_pos c17] at H
            have c17b0 := eq_true c17
            have c17b1 : decide (0 ≤ (ji16)) = true := decide_eq_true c17
            clear c17
            obtain ⟨ji18, hji18⟩ : ∃ j_ : Int, (shr .u64 (rd l0 x14_1) (ji16)) = j_ := ⟨_, rfl⟩
            replace H : (if 0 ≤ (wrap64 (x14_1 + 1)) then (if (wrap64 (x14_1 + 1)) < (x5_1.length : Int) then (whole_amount_up.l0 k1 a1 (y254.set ((wrap64 (x14_1 + 1)) : Int).toNat (ji18)) l0 (l0.length : Int) (wrap64 (x14_1 + 1))) else (none)) else (none)) = some r := by first | (rw [hji18] at H; exact H) | (simp only [hji18] at H ⊢; exact H)
            have hji18_ : ((rd l0 x14_1) / 2 ^ min (ji16).toNat 64) = ji18 := hji18
            have hji18z : (ji16) ≤ 64 → ((rd l0 x14_1) / 2 ^ (ji16).toNat) = ji18 := shr_small hji18
            obtain ⟨ji19, hji19⟩ : ∃ j_ : Int, (wrap64 (x14_1 + 1)) = j_ := ⟨_, rfl⟩
            replace H : (if 0 ≤ (ji19) then (if (ji19) < (x5_1.length : Int) then (whole_amount_up.l0 k1 a1 (y254.set ((ji19) : Int).toNat (ji18)) l0 (l0.length : Int) ji19) else (none)) else (none)) = some r := by first | (rw [hji19] at H; exact H) | (simp only [hji19] at H ⊢; exact H)
            have hji19w : (IntKind.i64.wrap (x14_1 + 1)) = ji19 := (i64_w _).trans hji19
            by_cases c20 : 0 ≤ (ji19)
            ·rw [if_pos c20] at H
             have c20b0 : decide (0 ≤ (ji19)) = true := decide_eq_true c20
             clear c20
             by_cases c21 : (ji19) < (x5_1.length : Int)
             ·rw [if_pos c21] at H
              have c21b0 : decide ((ji19) < (x5_1.length : Int)) = true := decide_eq_true c21
              clear c21
              obtain ⟨y255, hy255⟩ : ∃ y_ : List Int, y_ = (y254.set ((ji19) : Int).toNat (ji18)) := ⟨_, rfl⟩
              replace H : (whole_amount_up.l0 k1 a1 y255 l0 (l0.length : Int) ji19) = some r := by first | (rw [hy255]; with_reducible exact H) | (have H2_ := (Option.bind_some _ _).symm.trans H; rw [hy255]; with_reducible exact H2_) | (have H2_ := (Option.bind_some _ _).symm.trans H; with_reducible exact H2_) | with_reducible exact H | (rw [hy255]; exact H) | exact H
              have Ny255 := Aside0.mk hy255
              clear hy255
              have H' := Aside0.mk H
              clear H
              have p252 : 0 ≤ (x14_1 : Int) := of_decide_eq_true ‹_›
              have q252 : x14_1 < (l0.length : Int) := of_decide_eq_true ‹_›
              obtain ⟨ad252, e252, hx252_0⟩ := Kd.at_int HR0.out x14_1 p252 q252
              cases e252
              replace hx252_0 := (HB.out.cell (World.block_lt_of_cell? w _ hx252_0)).trans hx252_0
              replace p252 := eq_true p252
              replace q252 := eq_true q252
              obtain ⟨Ao23, co23, eo23⟩ := Kd.R_slice HO_5.out
              subst eo23
              have p253 : 0 ≤ (x14_1 : Int) := of_decide_eq_true ‹_›
              have q253 : x14_1 < (x5_1.length : Int) := of_decide_eq_true ‹_›
              obtain ⟨ad253, e253, hx253_0⟩ := Kd.at_int (Kd.R_reads' HO_5.out).2.2 x14_1 p253 q253
              cases e253
              replace p253 := eq_true p253
              replace q253 := eq_true q253
              have p14 : 0 ≤ (x14_1 : Int) := of_decide_eq_true ‹_›
              have q14 : (x14_1 : Int) < ((x5_1.length : Int) : Int) := of_decide_eq_true ‹_›
              obtain ⟨go14, co14, eo14, gb14, gl14, cl14, HG14⟩ := Kd.R_form HO_5.out (by omega)
              (first | cases eo14 | (injection eo14 with ea_ en_ ec_; (first | subst ea_ | (injection ea_ with ea_; subst ea_)); subst ec_; clear en_))
              have GB14 := Aside0.mk gb14
              have GG14 := Aside0.mk HG14
              clear gb14 gl14 HG14
              (first | simp only [add_plain] at hx253_0 | skip)
              obtain ⟨hx14_0, hf14_0⟩ := Kd.R_celln 0 HO_5.out (x14_1 : Int) p14 q14
              replace p14 := eq_true p14
              replace q14 := eq_true q14
              have HP24 := Kd.R_putg HO_5.out (x14_1 : Int) (Go.bits .or .u64 (rd x5_1 x14_1) (ji13))
              go_wp2_with (first | ((with_reducible refine gate_store (t := 36) (p := 27) rfl ?_); refine store_event (t := 36) (p := 27) (v := ?vo_w25) (w1 := (wr.setCell ⟨go14, (x14_1 : Int).toNat, none⟩ (.int .u64 (Go.bits .or .u64 (rd x5_1 x14_1) (ji13))))) ?hg ?ho ?hn ?hr ?_; (case ho => rfl); (case hg => rfl); (case hn => rfl); (case hr => first | (go_simp; done) | (go_simp; rfl)); intro w25 hw; have hg : wr.grownBy w25 (some go14) := (by rw [hw]; exact HP24.2); have hp_ : Kd.R (Kd.int .u64) 36 w25 w.heap.size (fun _ => True) (.slice (some ⟨go14, 0, none⟩) x5_1.length co23) y254 := (by rw [hw, Ny254.out]; exact HP24.1); clear HP24; replace HO_5 := Aside0.mk (hp_); replace HB := Aside0.mk ((by rw [hw]; exact below_set (HB.out) GB14.out : Below w.heap.size w w25)); clear hg hw hp_; have p22 : 0 ≤ ((ji19) : Int) := of_decide_eq_true ‹_›; have q22 : ((ji19) : Int) < ((x5_1.length : Int) : Int) := of_decide_eq_true ‹_›; obtain ⟨hx22_0, hf22_0⟩ := Kd.R_celln 0 HO_5.out ((ji19) : Int) p22 q22; replace p22 := eq_true p22; replace q22 := eq_true q22; obtain ⟨hy26_, hz26_⟩ := Kd.R_celln 0 HO_5.out ((ji19) : Int) (of_decide_eq_true ‹_›) (of_decide_eq_true ‹_›); have HP26 := Kd.R_putg HO_5.out ((ji19) : Int) ji18) | ((with_reducible refine gate_store (t := 36) (p := 37) rfl ?_); refine store_event (t := 36) (p := 37) (v := ?vo_w27) (w1 := (w25.setCell ⟨go14, ((ji19) : Int).toNat, none⟩ (.int .u64 ji18))) ?hg ?ho ?hn ?hr ?_; (case ho => rfl); (case hg => rfl); (case hn => rfl); (case hr => first | (go_simp; done) | (go_simp; rfl)); intro w27 hw; have hg : w25.grownBy w27 (some go14) := (by rw [hw]; exact HP26.2); have hp_ : Kd.R (Kd.int .u64) 36 w27 w.heap.size (fun _ => True) (.slice (some ⟨go14, 0, none⟩) x5_1.length co23) y255 := (by rw [hw, Ny255.out]; exact HP26.1); clear HP26; replace HO_5 := Aside0.mk (hp_); replace HB := Aside0.mk ((by rw [hw]; exact below_set (HB.out) GB14.out : Below w.heap.size w w27)); clear hg hw hp_))
              go_roundg k1
              case measure => have := HK1.out; omega
              case rel => exact ⟨(y255), (ji19), (by first | rfl | (simp; done) | (simp only [← hji19] <;> (first | rfl | simp)) | (simp [*]; done)), H', ⟨by have := HK1.out; omega⟩, ⟨kru HO_5.out⟩, ⟨khu HB.out⟩⟩
             rw [if_neg c21] at H
             exact absurd H (by simp)
            rw [if_neg c20] at H
            exact absurd H (by simp)
           rw [if_neg c17] at H
           exact absurd H (by simp)
          rw [if_neg c15] at H
          have c15b0 : decide (0 < a1) = false := decide_eq_false c15
          clear c15
          have H' := Aside0.mk H
          clear H
          have p252 : 0 ≤ (x14_1 : Int) := of_decide_eq_true ‹_›
          have q252 : x14_1 < (l0.length : Int) := of_decide_eq_true ‹_›
          obtain ⟨ad252, e252, hx252_0⟩ := Kd.at_int HR0.out x14_1 p252 q252
          cases e252
          replace hx252_0 := (HB.out.cell (World.block_lt_of_cell? w _ hx252_0)).trans hx252_0
          replace p252 := eq_true p252
          replace q252 := eq_true q252
          obtain ⟨Ao28, co28, eo28⟩ := Kd.R_slice HO_5.out
          subst eo28
          have p253 : 0 ≤ (x14_1 : Int) := of_decide_eq_true ‹_›
          have q253 : x14_1 < (x5_1.length : Int) := of_decide_eq_true ‹_›
          obtain ⟨ad253, e253, hx253_0⟩ := Kd.at_int (Kd.R_reads' HO_5.out).2.2 x14_1 p253 q253
          cases e253
          replace p253 := eq_true p253
          replace q253 := eq_true q253
          have p14 : 0 ≤ (x14_1 : Int) := of_decide_eq_true ‹_›
          have q14 : (x14_1 : Int) < ((x5_1.length : Int) : Int) := of_decide_eq_true ‹_›
          obtain ⟨go14, co14, eo14, gb14, gl14, cl14, HG14⟩ := Kd.R_form HO_5.out (by omega)
          (first | cases eo14 | (injection eo14 with ea_ en_ ec_; (first | subst ea_ | (injection ea_ with ea_; subst ea_)); subst ec_; clear en_))
          have GB14 := Aside0.mk gb14
          have GG14 := Aside0.mk HG14
          clear gb14 gl14 HG14
          (first | simp only [add_plain] at hx253_0 | skip)
          obtain ⟨hx14_0, hf14_0⟩ := Kd.R_celln 0 HO_5.out (x14_1 : Int) p14 q14
          replace p14 := eq_true p14
          replace q14 := eq_true q14
          have HP29 := Kd.R_putg HO_5.out (x14_1 : Int) (Go.bits .or .u64 (rd x5_1 x14_1) (ji13))
          go_wp2_with (first | ((with_reducible refine gate_store (t := 36) (p := 27) rfl ?_); refine store_event (t := 36) (p := 27) (v := ?vo_w30) (w1 := (wr.setCell ⟨go14, (x14_1 : Int).toNat, none⟩ (.int .u64 (Go.bits .or .u64 (rd x5_1 x14_1) (ji13))))) ?hg ?ho ?hn ?hr ?_; (case ho => rfl); (case hg => rfl); (case hn => rfl); (case hr => first | (go_simp; done) | (go_simp; rfl)); intro w30 hw; have hg : wr.grownBy w30 (some go14) := (by rw [hw]; exact HP29.2); have hp_ : Kd.R (Kd.int .u64) 36 w30 w.heap.size (fun _ => True) (.slice (some ⟨go14, 0, none⟩) x5_1.length co28) y254 := (by rw [hw, Ny254.out]; exact HP29.1); clear HP29; replace HO_5 := Aside0.mk (hp_); replace HB := Aside0.mk ((by rw [hw]; exact below_set (HB.out) GB14.out : Below w.heap.size w w30)); clear hg hw hp_))
          go_roundg k1
          case measure => have := HK1.out; omega
          case rel => exact ⟨(y254), (wrap64 (x14_1 + 1)), (by first | rfl | (simp; done) | (simp [*]; done)), H', ⟨by have := HK1.out; omega⟩, ⟨kru HO_5.out⟩, ⟨khu HB.out⟩⟩
         rw [if_neg c12] at H
         exact absurd H (by simp)
        rw [if_neg c11] at H
        exact absurd H (by simp)
       rw [if_neg c10] at H
       exact absurd H (by simp)
      rw [if_neg c9] at H
      exact absurd H (by simp)
     rw [if_neg c8] at H
     have c8b0 : decide (x14_1 < (l0.length : Int)) = false := decide_eq_false c8
     clear c8
     obtain rfl := Option.some.inj H
     go_wp2
     go_ret
     exact ⟨_, by first | rfl | (simp [errW_none, errW_some] <;> rfl) | (simp only [← hji3]; first | rfl | (simp [errW_none, errW_some] <;> rfl)) | (simp [*, errW_none, errW_some] <;> rfl), kru HO_5.out, khu HB.out⟩
  rw [if_neg c5] at H
  exact absurd H (by simp)
 rw [if_neg c4] at H
 exact absurd H (by simp)
def whole_subtract.l0 : Nat → List Int → List Int → Int → Int → Int → List Int → Int → Int → Option (Bool × List Int)
 | 0, _, _, _, _, _, _, _, _ => none
 | k + 1, x0, x1, x2, x7, x8, x14, x15, x16 => if x16 < x15 then (if 0 ≤ x16 then (if x16 < (x14.length : Int) then ((bits_Mul64.f x2 (rd x14 x16)).bind fun bt257 => ((bits_Add64.f bt257.2 x7 0).bind fun bt259 => (if x16 < (x0.length : Int) then ((bits_Sub64.f (rd x0 x16) bt259.1 x8).bind fun bt262 => (whole_subtract.l0 k (x0.set (x16 : Int).toNat bt262.1) x1 x2 (IntKind.u64.wrap (bt257.1 + bt259.2)) bt262.2 x14 x15 (wrap64 (x16 + 1)))) else (none)))) else (none)) else (none)) else (if 0 ≤ (x1.length : Int) then (if (x1.length : Int) < (x0.length : Int) then ((bits_Sub64.f (rd x0 (x1.length : Int)) x7 x8).bind fun bt266 => (some ((bt266.2 == 1), (x0.set ((x1.length : Int) : Int).toNat bt266.1)))) else (none)) else (none))
def whole_subtract.f (k : Nat) (l0 : List Int) (l1 : List Int) (a2 : Int) : Option (Bool × List Int) := whole_subtract.l0 k l0 l1 a2 0 0 l1 (l1.length : Int) 0
theorem whole_subtract.mono_l : ∀ k, (∀ y0 y1 y2 y3 y4 y5 y6 y7, LeO (whole_subtract.l0 k y0 y1 y2 y3 y4 y5 y6 y7) (whole_subtract.l0 (k + 1) y0 y1 y2 y3 y4 y5 y6 y7))
 | 0 => fun _ _ _ _ _ _ _ _ r h => by simp [whole_subtract.l0] at h
 | k + 1 => by
  have ih0 := whole_subtract.mono_l k
  intro y0 y1 y2 y3 y4 y5 y6 y7
  unfold whole_subtract.l0
  repeat' first
  | (with_reducible exact ih0 _ _ _ _ _ _ _ _)
  | (with_reducible exact LeO.refl _)
  | (with_reducible exact LeO.none _)
  | (with_reducible refine LeO.ite ?_ ?_)
  | (with_reducible refine LeO.bind ?_ (fun _ => ?_))
  | exact ih0 _ _ _ _ _ _ _ _
  | exact LeO.none _
  | refine LeO.ite ?_ ?_
  | refine LeO.bind ?_ (fun _ => ?_)
theorem whole_subtract.mono : ∀ a0 a1 a2 k, LeO (whole_subtract.f k a0 a1 a2) (whole_subtract.f (k + 1) a0 a1 a2) := by
 intro a0 a1 a2 k
 have ih0 := whole_subtract.mono_l k
 unfold whole_subtract.f
 repeat' first
   | (with_reducible exact ih0 _ _ _ _ _ _ _ _)
   | (with_reducible exact LeO.refl _)
   | (with_reducible exact LeO.none _)
   | (with_reducible refine LeO.ite ?_ ?_)
   | (with_reducible refine LeO.bind ?_ (fun _ => ?_))
   | exact ih0 _ _ _ _ _ _ _ _
   | exact LeO.none _
   | refine LeO.ite ?_ ?_
   | refine LeO.bind ?_ (fun _ => ?_)
def whole_add.l0 : Nat → List Int → List Int → Int → List Int → Int → Int → Option (List Int)
 | 0, _, _, _, _, _, _ => none
 | k + 1, x0, x1, x4, x7, x8, x9 => if x9 < x8 then (if 0 ≤ x9 then (if x9 < (x7.length : Int) then (if x9 < (x0.length : Int) then ((bits_Add64.f (rd x0 x9) (rd x7 x9) x4).bind fun bt271 => (whole_add.l0 k (x0.set (x9 : Int).toNat bt271.1) x1 bt271.2 x7 x8 (wrap64 (x9 + 1)))) else (none)) else (none)) else (none)) else (if 0 ≤ (x1.length : Int) then (if (x1.length : Int) < (x0.length : Int) then (some (x0.set ((x1.length : Int) : Int).toNat (IntKind.u64.wrap ((rd x0 (x1.length : Int)) + x4)))) else (none)) else (none))
def whole_add.f (k : Nat) (l0 : List Int) (l1 : List Int) : Option (List Int) := whole_add.l0 k l0 l1 0 l1 (l1.length : Int) 0
theorem whole_add.mono_l : ∀ k, (∀ y0 y1 y2 y3 y4 y5, LeO (whole_add.l0 k y0 y1 y2 y3 y4 y5) (whole_add.l0 (k + 1) y0 y1 y2 y3 y4 y5))
 | 0 => fun _ _ _ _ _ _ r h => by simp [whole_add.l0] at h
 | k + 1 => by
  have ih0 := whole_add.mono_l k
  intro y0 y1 y2 y3 y4 y5
  unfold whole_add.l0
  repeat' first
  | (with_reducible exact ih0 _ _ _ _ _ _)
  | (with_reducible exact LeO.refl _)
  | (with_reducible exact LeO.none _)
  | (with_reducible refine LeO.ite ?_ ?_)
  | (with_reducible refine LeO.bind ?_ (fun _ => ?_))
  | exact ih0 _ _ _ _ _ _
  | exact LeO.none _
  | refine LeO.ite ?_ ?_
  | refine LeO.bind ?_ (fun _ => ?_)
theorem whole_add.mono : ∀ a0 a1 k, LeO (whole_add.f k a0 a1) (whole_add.f (k + 1) a0 a1) := by
 intro a0 a1 k
 have ih0 := whole_add.mono_l k
 unfold whole_add.f
 repeat' first
   | (with_reducible exact ih0 _ _ _ _ _ _)
   | (with_reducible exact LeO.refl _)
   | (with_reducible exact LeO.none _)
   | (with_reducible refine LeO.ite ?_ ?_)
   | (with_reducible refine LeO.bind ?_ (fun _ => ?_))
   | exact ih0 _ _ _ _ _ _
   | exact LeO.none _
   | refine LeO.ite ?_ ?_
   | refine LeO.bind ?_ (fun _ => ?_)
def whole_amount_down.l0 : Nat → Int → List Int → List Int → Int → Int → Option (List Int)
 | 0, _, _, _, _, _ => none
 | k + 1, x1, x5, x11, x12, x13 => if x13 < x12 then (if 0 ≤ x13 then (if x13 < (x11.length : Int) then (if x13 < (x5.length : Int) then (if 0 ≤ x1 then ((some (x5.set (x13 : Int).toNat (Go.bits .or .u64 (rd x5 x13) (shr .u64 (rd x11 x13) x1)) : List Int)).bind fun y281 => (if x1 > 0 then (if x13 > 0 then (if 0 ≤ (wrap64 (x13 - 1)) then (if (wrap64 (x13 - 1)) < (x5.length : Int) then (if 0 ≤ (IntKind.u64.wrap (64 - x1)) then (whole_amount_down.l0 k x1 (y281.set ((wrap64 (x13 - 1)) : Int).toNat (Go.bits .or .u64 (rd y281 (wrap64 (x13 - 1))) (shl .u64 (rd x11 x13) (IntKind.u64.wrap (64 - x1))))) x11 x12 (wrap64 (x13 + 1))) else (none)) else (none)) else (none)) else (whole_amount_down.l0 k x1 y281 x11 x12 (wrap64 (x13 + 1)))) else (whole_amount_down.l0 k x1 y281 x11 x12 (wrap64 (x13 + 1))))) else (none)) else (none)) else (none)) else (none)) else ((whole_trimmed.f k x5).bind fun t284 => (some t284))
def whole_amount_down.f (k : Nat) (l0 : List Int) (a1 : Int) : Option (List Int) := if 0 ≤ (l0.length : Int) then (if ((l0.length : Int) : Int).toNat ≤ 35184372088832 then (whole_amount_down.l0 k a1 (List.replicate ((l0.length : Int) : Int).toNat 0) l0 (l0.length : Int) 0) else (none)) else (none)
theorem whole_amount_down.mono_l : ∀ k, (∀ y0 y1 y2 y3 y4, LeO (whole_amount_down.l0 k y0 y1 y2 y3 y4) (whole_amount_down.l0 (k + 1) y0 y1 y2 y3 y4))
 | 0 => fun _ _ _ _ _ r h => by simp [whole_amount_down.l0] at h
 | k + 1 => by
  have ih0 := whole_amount_down.mono_l k
  intro y0 y1 y2 y3 y4
  unfold whole_amount_down.l0
  repeat' first
  | (with_reducible exact ih0 _ _ _ _ _)
  | (with_reducible exact whole_trimmed.mono _ _)
  | (with_reducible exact LeO.refl _)
  | (with_reducible exact LeO.none _)
  | (with_reducible refine LeO.ite ?_ ?_)
  | (with_reducible refine LeO.bind ?_ (fun _ => ?_))
  | exact ih0 _ _ _ _ _
  | exact whole_trimmed.mono _ _
  | exact LeO.none _
  | refine LeO.ite ?_ ?_
  | refine LeO.bind ?_ (fun _ => ?_)
theorem whole_amount_down.mono : ∀ a0 a1 k, LeO (whole_amount_down.f k a0 a1) (whole_amount_down.f (k + 1) a0 a1) := by
 intro a0 a1 k
 have ih0 := whole_amount_down.mono_l k
 unfold whole_amount_down.f
 repeat' first
   | (with_reducible exact ih0 _ _ _ _ _)
   | (with_reducible exact whole_trimmed.mono _ _)
   | (with_reducible exact LeO.refl _)
   | (with_reducible exact LeO.none _)
   | (with_reducible refine LeO.ite ?_ ?_)
   | (with_reducible refine LeO.bind ?_ (fun _ => ?_))
   | exact ih0 _ _ _ _ _
   | exact whole_trimmed.mono _ _
   | exact LeO.none _
   | refine LeO.ite ?_ ?_
   | refine LeO.bind ?_ (fun _ => ?_)
theorem whole_amount_down.calls (k : Nat) (A0 : Option Addr) (c0 : Nat) (l0 : List Int) (a1 : Int) (r : List Int) (w : World) (hr0 : Kd.C (Kd.int .u64) w A0 l0.length l0) (hc0 : l0.length ≤ c0) (h : whole_amount_down.f k l0 a1 = some r) :
  Calls Tryd.prog 84 #[.slice A0 l0.length c0, .int .u64 a1] w fun e w' => ∃ v0_ : Value, e = .returned (v0_) ∧ Kd.V (Kd.int .u64) 36 w' w.heap.size (fun k_ => (w.heap.size ≤ k_)) v0_ r ∧ Below w.heap.size w w' := by
 have HR0 := Aside0.mk hr0
 have HC0 := Aside0.mk hc0
 clear hr0 hc0
 have HB := Aside0.mk (Below.refl w.heap.size w)
 have H : (if 0 ≤ (l0.length : Int) then (if ((l0.length : Int) : Int).toNat ≤ 35184372088832 then (whole_amount_down.l0 k a1 (List.replicate ((l0.length : Int) : Int).toNat 0) l0 (l0.length : Int) 0) else (none)) else (none)) = some r := h
 clear h
 by_cases c3 : 0 ≤ (l0.length : Int)
 ·rw [if_pos c3] at H
  have c3b0 := eq_true c3
  have c3b1 : decide (0 ≤ (l0.length : Int)) = true := decide_eq_true c3
  clear c3
  by_cases c4 : ((l0.length : Int) : Int).toNat ≤ 35184372088832
  ·rw [if_pos c4] at H
   have c4b0 := eq_true c4
   have c4b1 : decide (((l0.length : Int) : Int).toNat ≤ 35184372088832) = true := decide_eq_true c4
   clear c4
   obtain ⟨y276, hy276⟩ : ∃ y_ : List Int, y_ = (List.replicate ((l0.length : Int) : Int).toNat 0) := ⟨_, rfl⟩
   replace H : (whole_amount_down.l0 k a1 y276 l0 (l0.length : Int) 0) = some r := by first | (rw [hy276]; with_reducible exact H) | (have H2_ := (Option.bind_some _ _).symm.trans H; rw [hy276]; with_reducible exact H2_) | (have H2_ := (Option.bind_some _ _).symm.trans H; with_reducible exact H2_) | with_reducible exact H | (rw [hy276]; exact H) | exact H
   have Ny276 := Aside0.mk hy276
   clear hy276
   have H' := Aside0.mk H
   clear H
   go_enter Tryd.func84, Tryd.ntmps84
   go_wp2_with (first | (refine gd 10 rfl ?_; refine Kd.R_make (Kd.int .u64) _ 36 rfl (N := 10) rfl 22 _ _ rfl (l0.length : Int) rfl rfl Tryd.underlying22 (.int .u64 0) 8 info36 rfl (by decide) (by omega) 0 (ok := fun _ => True) (okp := fun _ => True) rfl (fun _ hk => hk) trivial (of_decide_eq_true ‹_›) (Nat.le_trans (Nat.mul_le_mul_right _ (of_decide_eq_true ‹_› : (l0.length : Int).toNat ≤ 35184372088832)) (by omega)) (Below.refl _ _) (Nat.le_refl _) ?_; intro v277 w5 ho6 hb hg_ hnew_; clear hg_ hnew_; (first | rw [← Ny276.out] at ho6 | (simp only [Int.reduceToNat] at ho6; rw [← Ny276.out] at ho6)); have HO278 := Aside0.mk (Kd.R_lower (Kd.R_newM (M := fun k_ => (w.heap.size ≤ k_)) ho6 (below_size (khu HB.out)) (fun k_ h_ => h_)) (below_size (khu HB.out))); replace HB := kbs HB hb; clear hb ho6))
   go_loopg [13] k (fun kq v13 w' => ∃ (x5_1 : List Int) (x13_1 : Int), v13 = .int .i64 x13_1 ∧ Aside0 (whole_amount_down.l0 kq a1 x5_1 l0 (l0.length : Int) x13_1 = some r) ∧ Aside0 (kq ≤ k) ∧ Aside0 (Kd.R (Kd.int .u64) 36 w' w.heap.size (fun k_ => (w.heap.size ≤ k_)) v277 x5_1) ∧ Aside0 (Below w.heap.size w w'))
   case atStart => exact ⟨(y276), (0), (by first | rfl | (simp; done) | (simp [*]; done)), H', ⟨Nat.le_refl _⟩, ⟨by (with_reducible repeat (first | apply Kd.R_alloc | apply Kd.R_drewN | apply Kd.R_drew)); exact Kd.R_mono HO278.out (fun _ hk => hk.1)⟩, ⟨khu HB.out⟩⟩
   case round =>
    clear H'
    try clear p2
    try clear c3
    try clear c3b0
    try clear c3b1
    try clear c4
    try clear c4b0
    try clear c4b1
    obtain ⟨x5_1, x13_1, rfl, HA, HK1, HO_5, HB⟩ := hrel
    cases gk with
    | zero => exact absurd HA.out (by simp [whole_amount_down.l0])
    | succ k1 =>
     have H := HA.out
     clear HA
     simp only [whole_amount_down.l0] at H
     by_cases c7 : x13_1 < (l0.length : Int)
     ·rw [if_pos c7] at H
      have c7b0 : decide (x13_1 < (l0.length : Int)) = true := decide_eq_true c7
      clear c7
      by_cases c8 : 0 ≤ x13_1
      ·rw [if_pos c8] at H
       have c8b0 : decide (0 ≤ x13_1) = true := decide_eq_true c8
       clear c8
       by_cases c9 : x13_1 < (l0.length : Int)
       ·rw [if_pos c9] at H
        have c9b0 : decide (x13_1 < (l0.length : Int)) = true := decide_eq_true c9
        clear c9
        by_cases c10 : x13_1 < (x5_1.length : Int)
        ·rw [if_pos c10] at H
         have c10b0 : decide (x13_1 < (x5_1.length : Int)) = true := decide_eq_true c10
         clear c10
         by_cases c11 : 0 ≤ a1
         ·rw [if_pos c11] at H
          have c11b0 := eq_true c11
          have c11b1 : decide (0 ≤ a1) = true := decide_eq_true c11
          clear c11
          obtain ⟨ji12, hji12⟩ : ∃ j_ : Int, (shr .u64 (rd l0 x13_1) a1) = j_ := ⟨_, rfl⟩
          replace H : ((some (x5_1.set (x13_1 : Int).toNat (Go.bits .or .u64 (rd x5_1 x13_1) (ji12)) : List Int)).bind fun y281 => (if a1 > 0 then (if x13_1 > 0 then (if 0 ≤ (wrap64 (x13_1 - 1)) then (if (wrap64 (x13_1 - 1)) < (x5_1.length : Int) then (if 0 ≤ (IntKind.u64.wrap (64 - a1)) then (whole_amount_down.l0 k1 a1 (y281.set ((wrap64 (x13_1 - 1)) : Int).toNat (Go.bits .or .u64 (rd y281 (wrap64 (x13_1 - 1))) (shl .u64 (rd l0 x13_1) (IntKind.u64.wrap (64 - a1))))) l0 (l0.length : Int) (wrap64 (x13_1 + 1))) else (none)) else (none)) else (none)) else (whole_amount_down.l0 k1 a1 y281 l0 (l0.length : Int) (wrap64 (x13_1 + 1)))) else (whole_amount_down.l0 k1 a1 y281 l0 (l0.length : Int) (wrap64 (x13_1 + 1))))) = some r := by first | (rw [hji12] at H; exact H) | (simp only [hji12] at H ⊢; exact H)
          have hji12_ : ((rd l0 x13_1) / 2 ^ min a1.toNat 64) = ji12 := hji12
          have hji12z : a1 ≤ 64 → ((rd l0 x13_1) / 2 ^ a1.toNat) = ji12 := shr_small hji12
          obtain ⟨y281, hy281⟩ : ∃ y_ : List Int, y_ = (x5_1.set (x13_1 : Int).toNat (Go.bits .or .u64 (rd x5_1 x13_1) (ji12))) := ⟨_, rfl⟩
          replace H : (if a1 > 0 then (if x13_1 > 0 then (if 0 ≤ (wrap64 (x13_1 - 1)) then (if (wrap64 (x13_1 - 1)) < (x5_1.length : Int) then (if 0 ≤ (IntKind.u64.wrap (64 - a1)) then (whole_amount_down.l0 k1 a1 (y281.set ((wrap64 (x13_1 - 1)) : Int).toNat (Go.bits .or .u64 (rd y281 (wrap64 (x13_1 - 1))) (shl .u64 (rd l0 x13_1) (IntKind.u64.wrap (64 - a1))))) l0 (l0.length : Int) (wrap64 (x13_1 + 1))) else (none)) else (none)) else (none)) else (whole_amount_down.l0 k1 a1 y281 l0 (l0.length : Int) (wrap64 (x13_1 + 1)))) else (whole_amount_down.l0 k1 a1 y281 l0 (l0.length : Int) (wrap64 (x13_1 + 1)))) = some r := by first | (rw [hy281]; with_reducible exact H) | (have H2_ := (Option.bind_some _ _).symm.trans H; rw [hy281]; with_reducible exact H2_) | (have H2_ := (Option.bind_some _ _).symm.trans H; with_reducible exact H2_) | with_reducible exact H | (rw [hy281]; exact H) | exact H
          have Ny281 := Aside0.mk hy281
          clear hy281
          by_cases c14 : a1 > 0
          ·rw [if_pos c14] at H
           have c14b0 : decide (0 < a1) = true := decide_eq_true c14
           clear c14
           by_cases c15 : x13_1 > 0
           ·rw [if_pos c15] at H
            have c15b0 : decide (0 < x13_1) = true := decide_eq_true c15
            clear c15
            obtain ⟨ji16, hji16⟩ : ∃ j_ : Int, (wrap64 (x13_1 - 1)) = j_ := ⟨_, rfl⟩
            replace H : (if 0 ≤ (ji16) then (if (ji16) < (x5_1.length : Int) then (if 0 ≤ (IntKind.u64.wrap (64 - a1)) then (whole_amount_down.l0 k1 a1 (y281.set ((ji16) : Int).toNat (Go.bits .or .u64 (rd y281 (ji16)) (shl .u64 (rd l0 x13_1) (IntKind.u64.wrap (64 - a1))))) l0 (l0.length : Int) (wrap64 (x13_1 + 1))) else (none)) else (none)) else (none)) = some r := by first | (rw [hji16] at H; exact H) | (simp only [hji16] at H ⊢; exact H)
            have hji16w : (IntKind.i64.wrap (x13_1 - 1)) = ji16 := (i64_w _).trans hji16
            by_cases c17 : 0 ≤ (ji16)
            ·rw [if_pos c17] at H
             have c17b0 : decide (0 ≤ (ji16)) = true := decide_eq_true c17
             clear c17
             by_cases c18 : (ji16) < (x5_1.length : Int)
             ·rw [if_pos c18] at H
              have c18b0 : decide ((ji16) < (x5_1.length : Int)) = true := decide_eq_true c18
              clear c18
              obtain ⟨ji19, hji19⟩ : ∃ j_ : Int, (IntKind.u64.wrap (64 - a1)) = j_ := ⟨_, rfl⟩
              replace H : (if 0 ≤ (ji19) then (whole_amount_down.l0 k1 a1 (y281.set ((ji16) : Int).toNat (Go.bits .or .u64 (rd y281 (ji16)) (shl .u64 (rd l0 x13_1) (ji19)))) l0 (l0.length : Int) (wrap64 (x13_1 + 1))) else (none)) = some r := by first | (rw [hji19] at H; exact H) | (simp only [hji19] at H ⊢; exact H)
              by_cases c20 : 0 ≤ (ji19)
              ·rw [if_pos c20] at H
               have c20b0 := eq_true c20
               have c20b1 : decide (0 ≤ (ji19)) = true := decide_eq_true c20
               clear c20
               obtain ⟨ji21, hji21⟩ : ∃ j_ : Int, (shl .u64 (rd l0 x13_1) (ji19)) = j_ := ⟨_, rfl⟩
               replace H : (whole_amount_down.l0 k1 a1 (y281.set ((ji16) : Int).toNat (Go.bits .or .u64 (rd y281 (ji16)) (ji21))) l0 (l0.length : Int) (wrap64 (x13_1 + 1))) = some r := by first | (rw [hji21] at H; exact H) | (simp only [hji21] at H ⊢; exact H)
               have hji21_ : (IntKind.u64.wrap ((rd l0 x13_1) * 2 ^ min (ji19).toNat 64)) = ji21 := hji21
               have hji21z : (ji19) ≤ 64 → (IntKind.u64.wrap ((rd l0 x13_1) * 2 ^ (ji19).toNat)) = ji21 := shl_small hji21
               obtain ⟨y283, hy283⟩ : ∃ y_ : List Int, y_ = (y281.set ((ji16) : Int).toNat (Go.bits .or .u64 (rd y281 (ji16)) (ji21))) := ⟨_, rfl⟩
               replace H : (whole_amount_down.l0 k1 a1 y283 l0 (l0.length : Int) (wrap64 (x13_1 + 1))) = some r := by first | (rw [hy283]; with_reducible exact H) | (have H2_ := (Option.bind_some _ _).symm.trans H; rw [hy283]; with_reducible exact H2_) | (have H2_ := (Option.bind_some _ _).symm.trans H; with_reducible exact H2_) | with_reducible exact H | (rw [hy283]; exact H) | exact H
               have Ny283 := Aside0.mk hy283
               clear hy283
               have H' := Aside0.mk H
               clear H
               have p279 : 0 ≤ (x13_1 : Int) := of_decide_eq_true ‹_›
               have q279 : x13_1 < (l0.length : Int) := of_decide_eq_true ‹_›
               obtain ⟨ad279, e279, hx279_0⟩ := Kd.at_int HR0.out x13_1 p279 q279
               cases e279
               replace hx279_0 := (HB.out.cell (World.block_lt_of_cell? w _ hx279_0)).trans hx279_0
               replace p279 := eq_true p279
               replace q279 := eq_true q279
               obtain ⟨Ao23, co23, eo23⟩ := Kd.R_slice HO_5.out
               subst eo23
               have p280 : 0 ≤ (x13_1 : Int) := of_decide_eq_true ‹_›
               have q280 : x13_1 < (x5_1.length : Int) := of_decide_eq_true ‹_›
               obtain ⟨ad280, e280, hx280_0⟩ := Kd.at_int (Kd.R_reads' HO_5.out).2.2 x13_1 p280 q280
               cases e280
               replace p280 := eq_true p280
               replace q280 := eq_true q280
               have p13 : 0 ≤ (x13_1 : Int) := of_decide_eq_true ‹_›
               have q13 : (x13_1 : Int) < ((x5_1.length : Int) : Int) := of_decide_eq_true ‹_›
               obtain ⟨go13, co13, eo13, gb13, gl13, cl13, HG13⟩ := Kd.R_form HO_5.out (by omega)
               (first | cases eo13 | (injection eo13 with ea_ en_ ec_; (first | subst ea_ | (injection ea_ with ea_; subst ea_)); subst ec_; clear en_))
               have GB13 := Aside0.mk gb13
               have GG13 := Aside0.mk HG13
               clear gb13 gl13 HG13
               (first | simp only [add_plain] at hx280_0 | skip)
               obtain ⟨hx13_0, hf13_0⟩ := Kd.R_celln 0 HO_5.out (x13_1 : Int) p13 q13
               replace p13 := eq_true p13
               replace q13 := eq_true q13
               have HP24 := Kd.R_putg HO_5.out (x13_1 : Int) (Go.bits .or .u64 (rd x5_1 x13_1) (ji12))
               go_wp2_with (first | ((with_reducible refine gate_store (t := 36) (p := 26) rfl ?_); refine store_event (t := 36) (p := 26) (v := ?vo_w25) (w1 := (wr.setCell ⟨go13, (x13_1 : Int).toNat, none⟩ (.int .u64 (Go.bits .or .u64 (rd x5_1 x13_1) (ji12))))) ?hg ?ho ?hn ?hr ?_; (case ho => rfl); (case hg => rfl); (case hn => rfl); (case hr => first | (go_simp; done) | (go_simp; rfl)); intro w25 hw; have hg : wr.grownBy w25 (some go13) := (by rw [hw]; exact HP24.2); have hp_ : Kd.R (Kd.int .u64) 36 w25 w.heap.size (fun k_ => (w.heap.size ≤ k_)) (.slice (some ⟨go13, 0, none⟩) x5_1.length co23) y281 := (by rw [hw, Ny281.out]; exact HP24.1); clear HP24; replace HO_5 := Aside0.mk (hp_); replace HB := Aside0.mk ((by rw [hw]; exact below_set (HB.out) GB13.out : Below w.heap.size w w25)); clear hg hw hp_; have p282 : 0 ≤ ((ji16) : Int) := of_decide_eq_true ‹_›; have q282 : (ji16) < (y281.length : Int) := (by have h_ : ((ji16) : Int) < ((x5_1.length : Int) : Int) := of_decide_eq_true ‹_›; first | (have e_ := (Kd.R_reads' HO_5.out).1; omega) | simpa only [Ny281.out, List.length_set] using h_); have ql282 : (((ji16) : Int) < ((x5_1.length : Int) : Int)) = True := eq_true (of_decide_eq_true ‹_›); obtain ⟨ad282, e282, hx282_0⟩ := Kd.at_int (Kd.R_reads' HO_5.out).2.2 (ji16) p282 q282; obtain rfl : (⟨go13, 0, none⟩ : Addr) = ad282 := (by injection e282); (first | simp only [add_plain] at hx282_0 | simp only [add_at] at hx282_0 | simp only [Addr.add, Nat.zero_add] at hx282_0 | skip); replace p282 := eq_true p282; replace q282 := eq_true q282; have p22 : 0 ≤ ((ji16) : Int) := of_decide_eq_true ‹_›; have q22 : ((ji16) : Int) < ((x5_1.length : Int) : Int) := of_decide_eq_true ‹_›; obtain ⟨hx22_0, hf22_0⟩ := Kd.R_celln 0 HO_5.out ((ji16) : Int) p22 q22; replace p22 := eq_true p22; replace q22 := eq_true q22; obtain ⟨hy26_, hz26_⟩ := Kd.R_celln 0 HO_5.out ((ji16) : Int) (of_decide_eq_true ‹_›) (of_decide_eq_true ‹_›); have HP26 := Kd.R_putg HO_5.out ((ji16) : Int) (Go.bits .or .u64 (rd y281 (ji16)) (ji21))) | ((with_reducible refine gate_store (t := 36) (p := 43) rfl ?_); refine store_event (t := 36) (p := 43) (v := ?vo_w27) (w1 := (w25.setCell ⟨go13, ((ji16) : Int).toNat, none⟩ (.int .u64 (Go.bits .or .u64 (rd y281 (ji16)) (ji21))))) ?hg ?ho ?hn ?hr ?_; (case ho => rfl); (case hg => rfl); (case hn => rfl); (case hr => first | (go_simp; done) | (go_simp; rfl)); intro w27 hw; have hg : w25.grownBy w27 (some go13) := (by rw [hw]; exact HP26.2); have hp_ : Kd.R (Kd.int .u64) 36 w27 w.heap.size (fun k_ => (w.heap.size ≤ k_)) (.slice (some ⟨go13, 0, none⟩) x5_1.length co23) y283 := (by rw [hw, Ny283.out]; exact HP26.1); clear HP26; replace HO_5 := Aside0.mk (hp_); replace HB := Aside0.mk ((by rw [hw]; exact below_set (HB.out) GB13.out : Below w.heap.size w w27)); clear hg hw hp_))
               go_roundg k1
               case measure => have := HK1.out; omega
               case rel => exact ⟨(y283), (wrap64 (x13_1 + 1)), (by first | rfl | (simp; done) | (simp [*]; done)), H', ⟨by have := HK1.out; omega⟩, ⟨kru HO_5.out⟩, ⟨khu HB.out⟩⟩
              rw [if_neg c20] at H
              exact absurd H (by simp)
             rw [if_neg c18] at H
             exact absurd H (by simp)
            rw [if_neg c17] at H
            exact absurd H (by simp)
           rw [if_neg c15] at H
           have c15b0 : decide (0 < x13_1) = false := decide_eq_false c15
           clear c15
           have H' := Aside0.mk H
           clear H
           have p279 : 0 ≤ (x13_1 : Int) := of_decide_eq_true ‹_›
           have q279 : x13_1 < (l0.length : Int) := of_decide_eq_true ‹_›
           obtain ⟨ad279, e279, hx279_0⟩ := Kd.at_int HR0.out x13_1 p279 q279
           cases e279
           replace hx279_0 := (HB.out.cell (World.block_lt_of_cell? w _ hx279_0)).trans hx279_0
           replace p279 := eq_true p279
           replace q279 := eq_true q279
           obtain ⟨Ao28, co28, eo28⟩ := Kd.R_slice HO_5.out
           subst eo28
           have p280 : 0 ≤ (x13_1 : Int) := of_decide_eq_true ‹_›
           have q280 : x13_1 < (x5_1.length : Int) := of_decide_eq_true ‹_›
           obtain ⟨ad280, e280, hx280_0⟩ := Kd.at_int (Kd.R_reads' HO_5.out).2.2 x13_1 p280 q280
           cases e280
           replace p280 := eq_true p280
           replace q280 := eq_true q280
           have p13 : 0 ≤ (x13_1 : Int) := of_decide_eq_true ‹_›
           have q13 : (x13_1 : Int) < ((x5_1.length : Int) : Int) := of_decide_eq_true ‹_›
           obtain ⟨go13, co13, eo13, gb13, gl13, cl13, HG13⟩ := Kd.R_form HO_5.out (by omega)
           (first | cases eo13 | (injection eo13 with ea_ en_ ec_; (first | subst ea_ | (injection ea_ with ea_; subst ea_)); subst ec_; clear en_))
           have GB13 := Aside0.mk gb13
           have GG13 := Aside0.mk HG13
           clear gb13 gl13 HG13
           (first | simp only [add_plain] at hx280_0 | skip)
           obtain ⟨hx13_0, hf13_0⟩ := Kd.R_celln 0 HO_5.out (x13_1 : Int) p13 q13
           replace p13 := eq_true p13
           replace q13 := eq_true q13
           have HP29 := Kd.R_putg HO_5.out (x13_1 : Int) (Go.bits .or .u64 (rd x5_1 x13_1) (ji12))
           go_wp2_with (first | ((with_reducible refine gate_store (t := 36) (p := 26) rfl ?_); refine store_event (t := 36) (p := 26) (v := ?vo_w30) (w1 := (wr.setCell ⟨go13, (x13_1 : Int).toNat, none⟩ (.int .u64 (Go.bits .or .u64 (rd x5_1 x13_1) (ji12))))) ?hg ?ho ?hn ?hr ?_; (case ho => rfl); (case hg => rfl); (case hn => rfl); (case hr => first | (go_simp; done) | (go_simp; rfl)); intro w30 hw; have hg : wr.grownBy w30 (some go13) := (by rw [hw]; exact HP29.2); have hp_ : Kd.R (Kd.int .u64) 36 w30 w.heap.size (fun k_ => (w.heap.size ≤ k_)) (.slice (some ⟨go13, 0, none⟩) x5_1.length co28) y281 := (by rw [hw, Ny281.out]; exact HP29.1); clear HP29; replace HO_5 := Aside0.mk (hp_); replace HB := Aside0.mk ((by rw [hw]; exact below_set (HB.out) GB13.out : Below w.heap.size w w30)); clear hg hw hp_))
           go_roundg k1
           case measure => have := HK1.out; omega
           case rel => exact ⟨(y281), (wrap64 (x13_1 + 1)), (by first | rfl | (simp; done) | (simp [*]; done)), H', ⟨by have := HK1.out; omega⟩, ⟨kru HO_5.out⟩, ⟨khu HB.out⟩⟩
          rw [if_neg c14] at H
          have c14b0 : decide (0 < a1) = false := decide_eq_false c14
          clear c14
          have H' := Aside0.mk H
          clear H
          have p279 : 0 ≤ (x13_1 : Int) := of_decide_eq_true ‹_›
          have q279 : x13_1 < (l0.length : Int) := of_decide_eq_true ‹_›
          obtain ⟨ad279, e279, hx279_0⟩ := Kd.at_int HR0.out x13_1 p279 q279
          cases e279
          replace hx279_0 := (HB.out.cell (World.block_lt_of_cell? w _ hx279_0)).trans hx279_0
          replace p279 := eq_true p279
          replace q279 := eq_true q279
          obtain ⟨Ao31, co31, eo31⟩ := Kd.R_slice HO_5.out
          subst eo31
          have p280 : 0 ≤ (x13_1 : Int) := of_decide_eq_true ‹_›
          have q280 : x13_1 < (x5_1.length : Int) := of_decide_eq_true ‹_›
          obtain ⟨ad280, e280, hx280_0⟩ := Kd.at_int (Kd.R_reads' HO_5.out).2.2 x13_1 p280 q280
          cases e280
          replace p280 := eq_true p280
          replace q280 := eq_true q280
          have p13 : 0 ≤ (x13_1 : Int) := of_decide_eq_true ‹_›
          have q13 : (x13_1 : Int) < ((x5_1.length : Int) : Int) := of_decide_eq_true ‹_›
          obtain ⟨go13, co13, eo13, gb13, gl13, cl13, HG13⟩ := Kd.R_form HO_5.out (by omega)
          (first | cases eo13 | (injection eo13 with ea_ en_ ec_; (first | subst ea_ | (injection ea_ with ea_; subst ea_)); subst ec_; clear en_))
          have GB13 := Aside0.mk gb13
          have GG13 := Aside0.mk HG13
          clear gb13 gl13 HG13
          (first | simp only [add_plain] at hx280_0 | skip)
          obtain ⟨hx13_0, hf13_0⟩ := Kd.R_celln 0 HO_5.out (x13_1 : Int) p13 q13
          replace p13 := eq_true p13
          replace q13 := eq_true q13
          have HP32 := Kd.R_putg HO_5.out (x13_1 : Int) (Go.bits .or .u64 (rd x5_1 x13_1) (ji12))
          go_wp2_with (first | ((with_reducible refine gate_store (t := 36) (p := 26) rfl ?_); refine store_event (t := 36) (p := 26) (v := ?vo_w33) (w1 := (wr.setCell ⟨go13, (x13_1 : Int).toNat, none⟩ (.int .u64 (Go.bits .or .u64 (rd x5_1 x13_1) (ji12))))) ?hg ?ho ?hn ?hr ?_; (case ho => rfl); (case hg => rfl); (case hn => rfl); (case hr => first | (go_simp; done) | (go_simp; rfl)); intro w33 hw; have hg : wr.grownBy w33 (some go13) := (by rw [hw]; exact HP32.2); have hp_ : Kd.R (Kd.int .u64) 36 w33 w.heap.size (fun k_ => (w.heap.size ≤ k_)) (.slice (some ⟨go13, 0, none⟩) x5_1.length co31) y281 := (by rw [hw, Ny281.out]; exact HP32.1); clear HP32; replace HO_5 := Aside0.mk (hp_); replace HB := Aside0.mk ((by rw [hw]; exact below_set (HB.out) GB13.out : Below w.heap.size w w33)); clear hg hw hp_))
          go_roundg k1
          case measure => have := HK1.out; omega
          case rel => exact ⟨(y281), (wrap64 (x13_1 + 1)), (by first | rfl | (simp; done) | (simp [*]; done)), H', ⟨by have := HK1.out; omega⟩, ⟨kru HO_5.out⟩, ⟨khu HB.out⟩⟩
         rw [if_neg c11] at H
         exact absurd H (by simp)
        rw [if_neg c10] at H
        exact absurd H (by simp)
       rw [if_neg c9] at H
       exact absurd H (by simp)
      rw [if_neg c8] at H
      exact absurd H (by simp)
     rw [if_neg c7] at H
     have c7b0 : decide (x13_1 < (l0.length : Int)) = false := decide_eq_false c7
     clear c7
     replace H := Option.bind_eq_some_iff.mp H
     obtain ⟨t284, A340, H⟩ := H
     replace H : (some t284) = some r := H
     have A34 := Aside0.mk A340
     clear A340
     obtain rfl := Option.some.inj H
     obtain ⟨Ao35, co35, eo35⟩ := Kd.R_slice HO_5.out
     subst eo35
     go_wp2_with (first | ((with_reducible refine gate_callee (f := 35) rfl ?_); refine kgl (some 46) rfl rfl Tryd.func35 #[.slice Ao35 x5_1.length co35] rfl ?_; (with_reducible refine (whole_trimmed.calls k1 (fun k_ => some k_ = (.slice Ao35 x5_1.length co35 : Value).ownBlock) _ _ x5_1 t284 _ ?side1 A34.out).mono ?_); (case side1 => exact Kd.R_V (Kd.R_tight rfl (HO_5.out))); rintro e w36 ⟨v285, rfl, ho0, hb⟩; refine ⟨_, rfl, ?_⟩; have HO286 := Aside0.mk (Kd.V_lower (Kd.V_mono (ok' := fun k_ => (w.heap.size ≤ k_)) ho0 (fun k_ hk_ => Or.elim hk_ (fun hs_ => ((HO_5.out).1 k_ hs_.symm)) (fun hn_ => (Nat.le_trans (below_size (khu HB.out)) hn_)))) (below_size (khu HB.out))); replace HO_5 := krb HO_5 hb; replace HB := kbs HB hb; (try clear hb); (try clear hb2); (try clear hk); (try clear hi); (try clear ho0)))
     go_ret
     exact ⟨_, by first | rfl | (simp [*, errW_none, errW_some] <;> rfl), kvu HO286.out, khu HB.out⟩
  rw [if_neg c4] at H
  exact absurd H (by simp)
 rw [if_neg c3] at H
 exact absurd H (by simp)
end Go.Proofs.YtikencoikigllaaDoor.PRa
namespace Go.Proofs.YtikencoikigllaaDoor.Mine
open Go.RowKit Go.Proofs.YtikencoikigllaaDoorW.PrintWords Go.Proofs.YtikencoikigllaaDoorW.PrintLast Go.Proofs.YtikencoikigllaaDoorW.PrintMore
open Go.Proofs.YtikencoikigllaaDoor.PRa
def Seg (W : World) (g : Nat) (pre : List Value) (xs : List Int) (post : List Value) : Prop := W.heap[g]? = some (.cells (pre ++ xs.map (Value.int .u64) ++ post).toArray 36 (0, 0))
theorem Seg.drewN {W : World} {g : Nat} {pre post : List Value} {xs : List Int} (h : Seg W g pre xs post) (n : Nat) : Seg (W.drewN n) g pre xs post := blk_drewN h n
theorem Seg.cell {W : World} {g : Nat} {pre post : List Value} {xs : List Int} (h : Seg W g pre xs post) (i : Int) (_h0 : 0 ≤ i) (h1 : i < xs.length) : W.cell? ⟨g, pre.length + i.toNat, none⟩ = some (.int .u64 (rd xs i)) := by
 rw [blk_cell h]
 have hi : i.toNat < xs.length := by omega
 simp only [List.getElem?_toArray]
 rw [List.append_assoc, List.getElem?_append_right (by omega), Nat.add_sub_cancel_left, List.getElem?_append_left (by simpa using hi), List.getElem?_map, List.getElem?_eq_getElem hi]
 simp [rd, List.getD_eq_getElem?_getD, List.getElem?_eq_getElem hi]
theorem Seg.cell0 {W : World} {g : Nat} {post : List Value} {xs : List Int} (h : Seg W g [] xs post) (i : Int) (h0 : 0 ≤ i) (h1 : i < xs.length) : W.cell? ⟨g, i.toNat, none⟩ = some (.int .u64 (rd xs i)) := by
 have := h.cell i h0 h1
 simpa using this
theorem Seg.free {W : World} {g : Nat} {pre post : List Value} {xs : List Int} (h : Seg W g pre xs post) (j : Nat) : W.frozen? ⟨g, j, none⟩ = false := blk_frozen h j
theorem Seg.put {W : World} {g : Nat} {pre post : List Value} {xs : List Int} (h : Seg W g pre xs post) (i : Int) (v : Int) (_h0 : 0 ≤ i) (h1 : i < xs.length) : Seg (W.setCell ⟨g, pre.length + i.toNat, none⟩ (.int .u64 v)) g pre (xs.set i.toNat v) post := by
 refine blk_put h _ _ ?_
 have hi : i.toNat < xs.length := by omega
 simp only [List.setIfInBounds_toArray]
 congr 1
 rw [List.append_assoc, List.append_assoc, List.set_append_right _ _ (by simp), Nat.add_sub_cancel_left, List.set_append_left _ _ (by simpa using hi), List.map_set]
theorem Seg.put0 {W : World} {g : Nat} {post : List Value} {xs : List Int} (h : Seg W g [] xs post) (i : Int) (v : Int) (h0 : 0 ≤ i) (h1 : i < xs.length) : Seg (W.setCell ⟨g, i.toNat, none⟩ (.int .u64 v)) g [] (xs.set i.toNat v) post := by
 have := h.put i v h0 h1
 simpa using this
theorem Seg.far {W : World} {g : Nat} {pre post : List Value} {xs : List Int} (h : Seg W g pre xs post) {p : Addr} (hp : g ≠ p.block) (u : Value) : Seg (W.setCell p u) g pre xs post := blk_far h hp u
theorem Seg.lt {W : World} {g : Nat} {pre post : List Value} {xs : List Int} (h : Seg W g pre xs post) : g < W.heap.size := blk_lt h
theorem Seg.keep {W W' : World} {g g' : Nat} {pre post : List Value} {xs : List Int} (h : Seg W g pre xs post) (hk : KeepBut W W' g' none) (hne : g ≠ g') : Seg W' g pre xs post := hk.blk h hne (by simp)
theorem Seg.below {W W' : World} {g : Nat} {pre post : List Value} {xs : List Int} (h : Seg W g pre xs post) (hb : Below W.heap.size W W') : Seg W' g pre xs post := blk_below h hb
theorem Seg.alloc {W : World} {g : Nat} {pre post : List Value} {xs : List Int} (h : Seg W g pre xs post) (o : Obj) : Seg (W.alloc o) g pre xs post := blk_alloc h o
theorem Seg.C {W : World} {g : Nat} {pre post : List Value} {xs : List Int} (h : Seg W g pre xs post) (hm : xs.length ≤ 9223372036854775807) : Kd.C (Kd.int .u64) W (some ⟨g, pre.length, none⟩) xs.length xs := by
 refine ⟨rfl, hm, fun _ => ⟨_, rfl, fun j p hj => ⟨[.int .u64 p], rfl, rfl, fun i u hu => ?_⟩⟩⟩
 obtain ⟨hjl, hjp⟩ := List.getElem?_eq_some_iff.1 hj
 have hi : i = 0 := by
  have := (List.getElem?_eq_some_iff.1 hu).1
  simpa using this
 subst hi
 have hu' : Value.int .u64 p = u := by simpa using hu
 subst hu'
 have hc := h.cell (j : Int) (by omega) (by omega)
 rw [show j * (Kd.int IntKind.u64).sz + 0 = j from by show j * 1 + 0 = j; omega]
 have ha : (⟨g, pre.length, none⟩ : Addr).add j = ⟨g, pre.length + (j : Int).toNat, none⟩ := by
  unfold Addr.add
  split <;> simp_all
 rw [ha, hc]
 simp [rd, List.getD_eq_getElem?_getD, hj]
theorem Seg.V {W : World} {g base c : Nat} {pre post : List Value} {xs : List Int} {ok : Nat → Prop} (h : Seg W g pre xs post) (hok : ok g) (hl : xs.length ≤ c) (hm : xs.length ≤ 9223372036854775807) : Kd.V (Kd.int .u64) 36 W base ok (.slice (some ⟨g, pre.length, none⟩) xs.length c) xs :=
 ⟨_, c, rfl, hl, fun W' hW => Seg.C (pre := pre) (post := post) (show Seg W' g pre xs post from (hW g hok h.lt).trans h) hm⟩
theorem Seg.of_R {W : World} {base : Nat} {ok : Nat → Prop} {v : Value} {xs : List Int} (h : Kd.R (Kd.int .u64) 36 W base ok v xs) (hp : 0 < xs.length) :
  ∃ g cap post, v = .slice (some ⟨g, 0, none⟩) xs.length cap ∧ base ≤ g ∧ xs.length ≤ cap ∧ cap ≤ maxLen ∧ Seg W g [] xs post := by
 have ho := Kd.own_of_R (enc := Value.int .u64) (h1 := fun _ => rfl) h
 rcases ho.2 with ⟨_, h0⟩ | ⟨g, cap, cur, rfl, hg, hh, hl, hc, hs, ht⟩
 ·omega
 refine ⟨g, cap, cur.toList.drop xs.length, rfl, hg, hl, hc, ?_⟩
 unfold Seg
 rw [hh]
 congr 2
 have e : (encs (Value.int .u64) xs) = xs.map (Value.int .u64) := rfl
 rw [e] at ht
 rw [Nat.mul_one] at ht
 rw [List.nil_append, ← ht, List.take_append_drop]
theorem KeepBut.drewN {w W : World} {g : Nat} (h : KeepBut w W g none) (n : Nat) : KeepBut w (W.drewN n) g none := h
theorem subtract_seg (k : Nat) (g c : Nat) (pre post : List Value) (xs : List Int) (A1 : Option Addr) (c1 : Nat) (l1 : List Int) (a2 : Int) (r1 : Bool) (r2 : List Int) (w : World) (hb : Seg w g pre xs post)
  (hv : ∀ W', KeepBut w W' g none → Kd.C (Kd.int .u64) W' A1 l1.length l1) (h : whole_subtract.f k xs l1 a2 = some (r1, r2)) :
  Calls Tryd.prog 82 #[.slice (some ⟨g, pre.length, none⟩) xs.length c, .slice A1 l1.length c1, .int .u64 a2] w fun e w' => e = .returned (.bool r1) ∧ r2.length = xs.length ∧ Seg w' g pre r2 post ∧ KeepBut w w' g none ∧ Below g w w' := by
 have HS := Aside0.mk hb
 have HV := Aside0.mk hv
 have HK := Aside0.mk (KeepBut.refl w g none)
 have HW := Aside0.mk (Below.refl g w)
 clear hb hv
 have H' := Aside0.mk (show whole_subtract.l0 k xs l1 a2 0 0 l1 (l1.length : Int) 0 = some (r1, r2) from h)
 clear h
 go_enter Tryd.func82, Tryd.ntmps82
 go_wp2
 go_loopg [7, 8, 16] k (fun kq v7 v8 v16 w' => ∃ (y : List Int) (x7 x8 x16 : Int), v7 = .int .u64 x7 ∧ v8 = .int .u64 x8 ∧ v16 = .int .i64 x16 ∧ Aside0 (whole_subtract.l0 kq y l1 a2 x7 x8 l1 (l1.length : Int) x16 = some (r1, r2)) ∧ Aside0 (kq ≤ k) ∧ Aside0 (y.length = xs.length) ∧ Aside0 (Seg w' g pre y post) ∧ Aside0 (KeepBut w w' g none) ∧ Aside0 (Below g w w'))
 case atStart => exact ⟨xs, 0, 0, 0, rfl, rfl, rfl, H', ⟨Nat.le_refl _⟩, ⟨rfl⟩, HS, HK, HW⟩
 case round =>
  clear H' HS HK HW
  obtain ⟨y, x7, x8, x16, rfl, rfl, rfl, HA, HK1, HL, HS, HK, HW⟩ := hrel
  cases gk with
  | zero => exact absurd HA.out (by simp [whole_subtract.l0])
  | succ k1 =>
   have H := HA.out
   clear HA
   simp only [whole_subtract.l0] at H
   by_cases c4 : x16 < (l1.length : Int)
   ·rw [if_pos c4] at H
    by_cases c5 : 0 ≤ x16
    ·rw [if_pos c5, if_pos c4] at H
     obtain ⟨⟨t144, t145⟩, A7, H⟩ := Option.bind_eq_some_iff.mp H
     obtain ⟨⟨t146, t147⟩, A8, H⟩ := Option.bind_eq_some_iff.mp H
     by_cases c9 : x16 < (y.length : Int)
     ·simp only [if_pos c9] at H
      obtain ⟨⟨t149, t150⟩, A10, H⟩ := Option.bind_eq_some_iff.mp H
      simp only at A8 A10 H
      have cw : x16 + 1 ≤ 9223372036854775807 := by have := (HV.out _ HK.out).2.1; omega
      have B7 := Aside0.mk A7
      rw [show wrap64 (x16 + 1) = x16 + 1 from IntWalk.wrap64_in _ ⟨by omega, cw⟩] at H
      have H2 := Aside0.mk H
      have hx8 := bits_Add64.run A8
      have hx10 := bits_Sub64.run A10
      clear A7 A8 A10 H
      obtain ⟨ad, rfl, hx⟩ := Kd.at_int (HV.out _ HK.out) x16 c5 c4
      have hu := HS.out.cell x16 c5 c9
      have hf := HS.out.free (pre.length + x16.toNat)
      have hp := Aside0.mk (HS.out.put x16 t149 c5 c9)
      have c9' : x16 < (xs.length : Int) := by rw [← HL.out]; exact c9
      go_wp2_with (first | (go_at_call 81; refine (bits_Mul64.calls _ _ t144 t145 _ B7.out).mono ?_; rintro e w' ⟨rfl, ⟨nd, rfl⟩⟩))
      go_roundg k1
      case measure => have := HK1.out; omega
      case rel => exact ⟨y.set x16.toNat t149, IntKind.u64.wrap (t144 + t147), t150, x16 + 1, rfl, rfl, rfl, H2, ⟨by have := HK1.out; omega⟩, ⟨by rw [List.length_set]; exact HL.out⟩, hp, ⟨HK.out.set_ _ _⟩, ⟨(pw_below_drewN HW.out _).setCell (Nat.le_refl _) _⟩⟩
     simp only [if_neg c9] at H; exact absurd H (by simp)
    rw [if_neg c5] at H; exact absurd H (by simp)
   rw [if_neg c4] at H
   by_cases c18 : (l1.length : Int) < (y.length : Int)
   ·rw [if_pos (by omega), if_pos c18] at H
    obtain ⟨⟨t153, t154⟩, A19, H⟩ := Option.bind_eq_some_iff.mp H
    simp only [Option.some.injEq, Prod.mk.injEq] at H
    obtain ⟨rfl, rfl⟩ := H
    have hx19 := bits_Sub64.run A19
    clear A19
    have hu := HS.out.cell (l1.length : Int) (by omega) c18
    have hf := HS.out.free (pre.length + l1.length)
    have hp := Aside0.mk (HS.out.put (l1.length : Int) t153 (by omega) c18)
    simp only [Int.toNat_natCast] at hu hp
    have c18' : l1.length < xs.length := by have := HL.out; omega
    go_wp2
    go_ret
    exact ⟨rfl, by simpa using HL.out, by simpa using hp.out, HK.out.set_ _ _, HW.out.setCell (Nat.le_refl _) _⟩
   rw [if_pos (by omega), if_neg c18] at H; exact absurd H (by simp)
theorem add_seg (k : Nat) (g c : Nat) (pre post : List Value) (xs : List Int) (A1 : Option Addr) (c1 : Nat) (l1 : List Int) (r2 : List Int) (w : World) (hb : Seg w g pre xs post)
  (hv : ∀ W', KeepBut w W' g none → Kd.C (Kd.int .u64) W' A1 l1.length l1) (h : whole_add.f k xs l1 = some r2) :
  Calls Tryd.prog 83 #[.slice (some ⟨g, pre.length, none⟩) xs.length c, .slice A1 l1.length c1] w fun e w' => e = .returned (.tuple #[]) ∧ r2.length = xs.length ∧ Seg w' g pre r2 post ∧ KeepBut w w' g none ∧ Below g w w' := by
 have HS := Aside0.mk hb
 have HV := Aside0.mk hv
 have HK := Aside0.mk (KeepBut.refl w g none)
 have HW := Aside0.mk (Below.refl g w)
 clear hb hv
 have H' := Aside0.mk (show whole_add.l0 k xs l1 0 l1 (l1.length : Int) 0 = some r2 from h)
 clear h
 go_enter Tryd.func83, Tryd.ntmps83
 go_wp2
 go_loopg [4, 9] k (fun kq v4 v9 w' => ∃ (y : List Int) (x4 x9 : Int), v4 = .int .u64 x4 ∧ v9 = .int .i64 x9 ∧ Aside0 (whole_add.l0 kq y l1 x4 l1 (l1.length : Int) x9 = some r2) ∧ Aside0 (kq ≤ k) ∧ Aside0 (y.length = xs.length) ∧ Aside0 (Seg w' g pre y post) ∧ Aside0 (KeepBut w w' g none) ∧ Aside0 (Below g w w'))
 case atStart => exact ⟨xs, 0, 0, rfl, rfl, H', ⟨Nat.le_refl _⟩, ⟨rfl⟩, HS, HK, HW⟩
 case round =>
  clear H' HS HK HW
  obtain ⟨y, x4, x9, rfl, rfl, HA, HK1, HL, HS, HK, HW⟩ := hrel
  cases gk with
  | zero => exact absurd HA.out (by simp [whole_add.l0])
  | succ k1 =>
   have H := HA.out
   clear HA
   simp only [whole_add.l0] at H
   by_cases c4 : x9 < (l1.length : Int)
   ·rw [if_pos c4] at H
    by_cases c5 : 0 ≤ x9
    ·rw [if_pos c5, if_pos c4] at H
     by_cases c9 : x9 < (y.length : Int)
     ·simp only [if_pos c9] at H
      obtain ⟨⟨t149, t150⟩, A10, H⟩ := Option.bind_eq_some_iff.mp H
      simp only at A10 H
      have cw : x9 + 1 ≤ 9223372036854775807 := by have := (HV.out _ HK.out).2.1; omega
      rw [show wrap64 (x9 + 1) = x9 + 1 from IntWalk.wrap64_in _ ⟨by omega, cw⟩] at H
      have H2 := Aside0.mk H
      have hx10 := bits_Add64.run A10
      clear A10 H
      obtain ⟨ad, rfl, hx⟩ := Kd.at_int (HV.out _ HK.out) x9 c5 c4
      have hu := HS.out.cell x9 c5 c9
      have hf := HS.out.free (pre.length + x9.toNat)
      have hp := Aside0.mk (HS.out.put x9 t149 c5 c9)
      have c9' : x9 < (xs.length : Int) := by rw [← HL.out]; exact c9
      go_wp2
      go_roundg k1
      case measure => have := HK1.out; omega
      case rel => exact ⟨y.set x9.toNat t149, t150, x9 + 1, rfl, rfl, H2, ⟨by have := HK1.out; omega⟩, ⟨by rw [List.length_set]; exact HL.out⟩, hp, ⟨HK.out.set_ _ _⟩, ⟨HW.out.setCell (Nat.le_refl _) _⟩⟩
     simp only [if_neg c9] at H; exact absurd H (by simp)
    rw [if_neg c5] at H; exact absurd H (by simp)
   rw [if_neg c4] at H
   by_cases c18 : (l1.length : Int) < (y.length : Int)
   ·rw [if_pos (by omega), if_pos c18] at H
    simp only [Option.some.injEq] at H
    subst H
    have hu := HS.out.cell (l1.length : Int) (by omega) c18
    have hf := HS.out.free (pre.length + l1.length)
    have hp := Aside0.mk (HS.out.put (l1.length : Int) (IntKind.u64.wrap ((rd y (l1.length : Int)) + x4)) (by omega) c18)
    simp only [Int.toNat_natCast] at hu hp
    have c18' : l1.length < xs.length := by have := HL.out; omega
    go_wp2
    go_end0
    exact ⟨rfl, by simpa using HL.out, by simpa using hp.out, HK.out.set_ _ _, HW.out.setCell (Nat.le_refl _) _⟩
   rw [if_pos (by omega), if_neg c18] at H; exact absurd H (by simp)
def quo_fix : Nat → Int → Int → Int → Int → Int → Option Int
 | 0, _, _, _, _, _ => none
 | k + 1, guess, rest, vn2, vn1, un2 => (bits_Mul64.f guess vn2).bind fun hl => if hl.1 < rest then some guess else if hl.1 = rest ∧ hl.2 ≤ un2 then some guess else
   if IntKind.u64.wrap (rest + vn1) < rest then some (IntKind.u64.wrap (guess - 1)) else quo_fix k (IntKind.u64.wrap (guess - 1)) (IntKind.u64.wrap (rest + vn1)) vn2 vn1 un2
theorem quo_fix.mono : ∀ k g r a b c, LeO (quo_fix k g r a b c) (quo_fix (k + 1) g r a b c)
 | 0 => fun _ _ _ _ _ r h => by simp [quo_fix] at h
 | k + 1 => by
  intro g r a b c
  have ih := quo_fix.mono k
  unfold quo_fix
  repeat' first
   | (with_reducible exact ih _ _ _ _ _)
   | (with_reducible exact LeO.refl _)
   | (with_reducible refine LeO.ite ?_ ?_)
   | (with_reducible refine LeO.bind ?_ (fun _ => ?_))
   | exact ih _ _ _ _ _
def quo_guess (k : Nat) (un un1 un2 vn1 vn2 : Int) : Option Int := if un < vn1 then (bits_Div64.f k un un1 vn1).bind fun qr => quo_fix k qr.1 qr.2 vn2 vn1 un2 else some 18446744073709551615
theorem quo_guess.mono (a b c d e : Int) (k : Nat) : LeO (quo_guess k a b c d e) (quo_guess (k + 1) a b c d e) := by
 unfold quo_guess
 repeat' first
   | (with_reducible exact quo_fix.mono _ _ _ _ _ _)
   | (with_reducible exact bits_Div64.mono _ _ _ _)
   | (with_reducible exact LeO.refl _)
   | (with_reducible refine LeO.ite ?_ ?_)
   | (with_reducible refine LeO.bind ?_ (fun _ => ?_))
def splice (u : List Int) (j : Nat) (s : List Int) : List Int := u.take j ++ s ++ u.drop (j + s.length)
def quo_go : Nat → List Int → List Int → List Int → Int → Option (List Int × List Int)
 | 0, _, _, _, _ => none
 | k + 1, u, v, q, j => if j < 0 then some (u, q) else if j + (v.length : Int) < (u.length : Int) ∧ j < (q.length : Int) ∧ 2 ≤ v.length then
   (quo_guess k (rd u (j + (v.length : Int))) (rd u (j + (v.length : Int) - 1)) (rd u (j + (v.length : Int) - 2)) (rd v ((v.length : Int) - 1)) (rd v ((v.length : Int) - 2))).bind fun g =>
   (whole_subtract.f k ((u.drop j.toNat).take (v.length + 1)) v g).bind fun bs => if bs.1 = true then
    (whole_add.f k bs.2 v).bind fun s => quo_go k (splice u j.toNat s) v (q.set j.toNat (IntKind.u64.wrap (g - 1))) (j - 1)
   else quo_go k (splice u j.toNat bs.2) v (q.set j.toNat g) (j - 1)
  else none
theorem quo_go.mono : ∀ k u v q j, LeO (quo_go k u v q j) (quo_go (k + 1) u v q j)
 | 0 => fun _ _ _ _ r h => by simp [quo_go] at h
 | k + 1 => by
  intro u v q j
  have ih := quo_go.mono k
  unfold quo_go
  repeat' first
   | (with_reducible exact ih _ _ _ _)
   | (with_reducible exact quo_guess.mono _ _ _ _ _ _)
   | (with_reducible exact whole_subtract.mono _ _ _ _)
   | (with_reducible exact whole_add.mono _ _ _)
   | (with_reducible exact LeO.refl _)
   | (with_reducible exact LeO.none _)
   | (with_reducible refine LeO.ite ?_ ?_)
   | (with_reducible refine LeO.bind ?_ (fun _ => ?_))
def whole_amount_quo.f (k : Nat) (a b : List Int) : Option (List Int × List Int) :=
 (whole_amount_cmp.f k a b).bind fun c => if c < 0 then some ([], a) else if b.length = 1 then
  (whole_amount_byLimb.f k a (rd b 0)).bind fun qr => (whole_trimmed.f k [qr.2]).bind fun r => some (qr.1, r)
 else if b.length < a.length + 1 ∧ 2 ≤ b.length ∧ a.length < 17592186044416 then
  (bits_LeadingZeros64.f (rd b ((b.length : Int) - 1))).bind fun s => if 0 ≤ s ∧ s ≤ 64 then (whole_amount_up.f k b s).bind fun v => (whole_amount_up.f k a s).bind fun u =>
  if b.length ≤ v.length ∧ b.length ≤ u.length then
  (quo_go k u (v.take b.length) (List.replicate (a.length - b.length + 1) 0) ((a.length : Int) - (b.length : Int))).bind fun uq =>
  (whole_trimmed.f k uq.2).bind fun q => (whole_trimmed.f k (uq.1.take b.length)).bind fun r0 => (whole_amount_down.f k r0 s).bind fun r => some (q, r)
  else none else none
 else none
theorem whole_amount_quo.mono : ∀ a b k, LeO (whole_amount_quo.f k a b) (whole_amount_quo.f (k + 1) a b) := by
 intro a b k
 unfold whole_amount_quo.f
 repeat' first
   | (with_reducible exact whole_amount_cmp.mono _ _ _)
   | (with_reducible exact whole_amount_byLimb.mono _ _ _)
   | (with_reducible exact whole_trimmed.mono _ _)
   | (with_reducible exact whole_amount_up.mono _ _ _)
   | (with_reducible exact whole_amount_down.mono _ _ _)
   | (with_reducible exact quo_go.mono _ _ _ _ _)
   | (with_reducible exact LeO.refl _)
   | (with_reducible exact LeO.none _)
   | (with_reducible refine LeO.ite ?_ ?_)
   | (with_reducible refine LeO.bind ?_ (fun _ => ?_))
theorem minfo59q : (Tryd.prog.info? 36).map (fun i => (i.zero, i.size, i.bytes)) = some (some (.int .u64 0), 1, 8) := by kernel_rfl
set_option maxHeartbeats 4000000 in
theorem quo_less (k : Nat) (P0_ : Nat → Prop) (A0 : Option Addr) (c0 : Nat) (l0 : List Int) (A1 : Option Addr) (c1 : Nat) (l1 : List Int) (w : World) (hs0 : Kd.V (Kd.int .u64) 36 w w.heap.size (fun k_ => P0_ k_) (.slice A0 l0.length c0) l0) (hr1 : Kd.C (Kd.int .u64) w A1 l1.length l1) (hc1 : l1.length ≤ c1) (c : Int)
  (hc : whole_amount_cmp.f k l0 l1 = some c) (hlt : c < 0) :
  Calls Tryd.prog 43 #[.slice A0 l0.length c0, .slice A1 l1.length c1] w fun e w' => ∃ v0_ v1_ : Value, e = .returned (.tuple #[v0_, v1_]) ∧ Kd.V (Kd.int .u64) 36 w' w.heap.size (fun k_ => (P0_ k_ ∨ w.heap.size ≤ k_)) v0_ [] ∧ Kd.V (Kd.int .u64) 36 w' w.heap.size (fun k_ => (P0_ k_ ∨ w.heap.size ≤ k_)) v1_ l0 ∧ Below w.heap.size w w' := by
 have h0 := Kd.V_reads' hs0
 go_enter Tryd.func43, Tryd.ntmps43
 go_wp2_with (first | (go_at_call 75; refine (whole_amount_cmp.calls k _ _ l0 _ _ l1 c _ h0.2.2 h0.2.1 hr1 hc1 hc).mono ?_; rintro e w1 ⟨rfl, hd⟩; have HB := Aside0.mk hd.below; clear hd))
 go_ret2
 exact ⟨_, _, rfl, Kd.V_nil _ _ _ _ _, Kd.V_mono (Kd.V_below hs0 HB.out) (fun _ h => .inl h), HB.out⟩
set_option maxHeartbeats 4000000 in
theorem quo_one (k : Nat) (P0_ : Nat → Prop) (A0 : Option Addr) (c0 : Nat) (l0 : List Int) (A1 : Option Addr) (c1 : Nat) (l1 : List Int) (w : World) (hs0 : Kd.V (Kd.int .u64) 36 w w.heap.size (fun k_ => P0_ k_) (.slice A0 l0.length c0) l0) (hr1 : Kd.C (Kd.int .u64) w A1 l1.length l1) (hc1 : l1.length ≤ c1) (c : Int) (q r2 : List Int) (r : Int)
  (hc : whole_amount_cmp.f k l0 l1 = some c) (hlt : ¬ c < 0) (h1 : l1.length = 1) (hq : whole_amount_byLimb.f k l0 (rd l1 0) = some (q, r)) (hr : whole_trimmed.f k [r] = some r2) :
  Calls Tryd.prog 43 #[.slice A0 l0.length c0, .slice A1 l1.length c1] w fun e w' => ∃ v0_ v1_ : Value, e = .returned (.tuple #[v0_, v1_]) ∧ Kd.V (Kd.int .u64) 36 w' w.heap.size (fun k_ => (P0_ k_ ∨ w.heap.size ≤ k_)) v0_ q ∧ Kd.V (Kd.int .u64) 36 w' w.heap.size (fun k_ => (P0_ k_ ∨ w.heap.size ≤ k_)) v1_ r2 ∧ Below w.heap.size w w' := by
 have h0 := Kd.V_reads' hs0
 have b1 : ((l1.length : Int) == 1) = true := by rw [h1]; rfl
 have b1' : (l1.length == 1) = true := by rw [h1]; rfl
 have HL := Aside0.mk h1
 have hl0 : 0 < l1.length := by omega
 obtain ⟨ad, rfl, hx⟩ := Kd.at_int hr1 0 (by omega) (by omega)
 have hxx : ∀ w1, Below w.heap.size w w1 → w1.cell? ad = some (.int .u64 (rd l1 0)) := fun w1 hb => by
  have := (hb.cell (World.block_lt_of_cell? w _ hx)).trans hx
  rwa [show (0 : Int).toNat = 0 from rfl, Addr.add_zero'] at this
 have HX := Aside0.mk hxx
 clear hx hxx h1
 go_enter Tryd.func43, Tryd.ntmps43
 go_wp2_with (first
  | (go_at_call 75; refine (whole_amount_cmp.calls k _ _ l0 _ _ l1 c _ h0.2.2 h0.2.1 hr1 hc1 hc).mono ?_; rintro e w1 ⟨rfl, hd⟩; have HB := Aside0.mk hd.below; clear hd; have hx0 := HX.out _ HB.out)
  | (go_at_call 68; refine (whole_amount_byLimb.calls k _ _ l0 (rd l1 0) q r _ (Kd.C_below h0.2.2 HB.out) h0.2.1 hq).mono ?_; rintro e w2 ⟨v0, rfl, hv0, hb2⟩; have HV0 := Aside0.mk hv0; have HB2 := Aside0.mk (HB.out.trans (hb2.mono HB.out.size)); clear hv0 hb2)
  | (go_at_call 35; refine (whole_trimmed.calls k (fun k_ => w.heap.size ≤ k_) _ 1 [r] r2 _ (Seg.V (pre := []) (post := []) (xs := [r]) (g := w2.heap.size) (blk_new w2 _) HB2.out.size (Nat.le_refl 1) (by simp)) hr).mono ?_; rintro e w3 ⟨v1, rfl, hv1, hb3⟩; have HV1 := Aside0.mk hv1; have HB3 := Aside0.mk hb3; clear hv1 hb3))
 go_ret2
 have hba : Below w2.heap.size w2 w3 := (below_alloc (Below.refl _ _) _).trans (HB3.out.mono (by simp))
 have hB3 : Below w.heap.size w w3 := HB2.out.trans (hba.mono HB2.out.size)
 refine ⟨_, _, rfl, Kd.V_mono (Kd.V_below HV0.out hba) (fun k_ hk => .inr (Nat.le_trans HB.out.size hk)), Kd.V_mono HV1.out (fun k_ hk => .inr (hk.elim id (fun h => Nat.le_trans HB2.out.size (by simp at h; omega)))), hB3⟩
theorem getElem_madeCells (z : Value) (m i : Nat) (hz : z.cells = #[z]) (h : i < m) : (madeCells z.cells m)[i]? = some z := by
 simp [madeCells, hz, h, Nat.mod_one]
theorem Seg.make (w4 : World) (m : Nat) (h : m ≤ 17592186044416) : ∃ w5 gq, (Instr.makeSlice 22 (.int .i64 (m : Int)) (.int .i64 (m : Int))).run Tryd.prog w4 = .ok (.slice (some ⟨gq, 0, none⟩) m m) w5 ∧ Seg w5 gq [] (List.replicate m 0) [] ∧ Below w4.heap.size w4 w5 ∧ w4.heap.size ≤ gq := by
 obtain ⟨i0, hi0, hz0, hz1, hz2⟩ := info_parts minfo59q
 have hr := run_make (P := Tryd.prog) w4 22 36 i0 (.int .u64 0) Tryd.underlying22 hi0 hz0 .i64 .i64 m m (by omega) (by omega) (by rw [hz2]; omega) (by omega)
 simp only [Int.toNat_natCast, hz1, Nat.mul_one] at hr
 refine ⟨_, _, hr, ?_, below_alloc (Below.refl _ _) _, Nat.le_refl _⟩
 have he : madeCells (Value.int .u64 0).cells m = ([] ++ (List.replicate m (0 : Int)).map (Value.int .u64) ++ []).toArray := by
  apply Array.ext_getElem?
  intro i
  by_cases hi : i < m
  ·rw [getElem_madeCells _ _ _ rfl hi]; simp [hi]
  rw [Array.getElem?_eq_none (by rw [size_madeCells]; omega)]; simp [hi]
 rw [he]
 exact blk_new w4 _
theorem Seg.cutTo {W : World} {g : Nat} {xs : List Int} {post : List Value} (h : Seg W g [] xs post) (n : Nat) : Seg W g [] (xs.take n) ((xs.drop n).map (Value.int .u64) ++ post) := by
 unfold Seg at *
 rw [h]
 congr 3
 rw [List.nil_append, List.nil_append, ← List.append_assoc, ← List.map_append, List.take_append_drop]
theorem Seg.mid {W : World} {g : Nat} {a b c : List Int} {post : List Value} : Seg W g [] (a ++ b ++ c) post ↔ Seg W g (a.map (Value.int .u64)) b (c.map (Value.int .u64) ++ post) := by
 unfold Seg
 simp only [List.map_append, List.nil_append, List.append_assoc]
theorem splice_self (u : List Int) (j n : Nat) (h : j + n ≤ u.length) : splice u j ((u.drop j).take n) = u := by
 unfold splice
 rw [List.length_take, List.length_drop, Nat.min_eq_left (by omega)]
 rw [← List.drop_drop, List.append_assoc, List.take_append_drop, List.take_append_drop]
theorem splice_len (u : List Int) (j : Nat) (s : List Int) (h : j + s.length ≤ u.length) : (splice u j s).length = u.length := by
 unfold splice
 simp only [List.length_append, List.length_take, List.length_drop]
 omega
theorem sub_at (k j n gu cu gv cv : Nat) (U v : List Int) (pu pv : List Value) (g : Int) (b : Bool) (U1 : List Int) (W : World) (hu : Seg W gu [] U pu) (hv : Seg W gv [] v pv) (hne : gv ≠ gu) (hj : j + n + 1 ≤ U.length) (hn : n ≤ v.length) (hm : n ≤ 9223372036854775807)
  (h : whole_subtract.f k ((U.drop j).take (n + 1)) (v.take n) g = some (b, U1)) :
  Calls Tryd.prog 82 #[.slice (some ⟨gu, j, none⟩) (n + 1) cu, .slice (some ⟨gv, 0, none⟩) n cv, .int .u64 g] W fun e w' => e = .returned (.bool b) ∧ U1.length = n + 1 ∧ Seg w' gu [] (splice U j U1) pu ∧ KeepBut W w' gu none ∧ Below gu W w' := by
 have hx : ((U.drop j).take (n + 1)).length = n + 1 := by rw [List.length_take, List.length_drop]; omega
 have hp : ((U.take j).map (Value.int .u64)).length = j := by rw [List.length_map, List.length_take]; omega
 have hvl : (v.take n).length = n := by rw [List.length_take]; omega
 have hu' := hu
 rw [← splice_self U j (n + 1) (by omega)] at hu'
 unfold splice at hu'
 rw [Seg.mid] at hu'
 have := subtract_seg k gu cu _ _ _ (some ⟨gv, 0, none⟩) cv (v.take n) g b U1 W hu' (fun W' hk => Seg.C (pre := []) ((hv.keep hk hne).cutTo n) (by omega)) h
 rw [hp, hx, hvl] at this
 refine this.mono ?_
 rintro e w' ⟨he, hl, hs, hk⟩
 refine ⟨he, hl, ?_, hk⟩
 unfold splice
 rw [Seg.mid, hl]
 exact hs
theorem add_at (k j n gu cu gv cv : Nat) (U v : List Int) (pu pv : List Value) (U1 s : List Int) (W : World) (hu : Seg W gu [] (splice U j U1) pu) (hv : Seg W gv [] v pv) (hne : gv ≠ gu) (hj : j + n + 1 ≤ U.length) (hl : U1.length = n + 1) (hn : n ≤ v.length) (hm : n ≤ 9223372036854775807)
  (h : whole_add.f k U1 (v.take n) = some s) :
  Calls Tryd.prog 83 #[.slice (some ⟨gu, j, none⟩) (n + 1) cu, .slice (some ⟨gv, 0, none⟩) n cv] W fun e w' => e = .returned (.tuple #[]) ∧ s.length = n + 1 ∧ Seg w' gu [] (splice U j s) pu ∧ KeepBut W w' gu none ∧ Below gu W w' := by
 have hp : ((U.take j).map (Value.int .u64)).length = j := by rw [List.length_map, List.length_take]; omega
 have hvl : (v.take n).length = n := by rw [List.length_take]; omega
 have hu' := hu
 unfold splice at hu'
 rw [Seg.mid] at hu'
 have := add_seg k gu cu _ _ _ (some ⟨gv, 0, none⟩) cv (v.take n) s W hu' (fun W' hk => Seg.C (pre := []) ((hv.keep hk hne).cutTo n) (by omega)) h
 rw [hp, hl, hvl] at this
 refine this.mono ?_
 rintro e w' ⟨he, hl', hs, hk⟩
 refine ⟨he, hl', ?_, hk⟩
 unfold splice
 rw [Seg.mid, hl']
 exact hs
theorem cut_mid (gu : Nat) (n c : Nat) (j h : Int) (h0 : 0 ≤ j) (h1 : j < h) (h2 : h ≤ c) (W : World) :
  (Instr.slice 22 (.slice (some ⟨gu, 0, none⟩) n c) (some (.int .i64 j)) (some (.int .i64 h)) none).run Tryd.prog W = .ok (.slice (some ⟨gu, j.toNat, none⟩) (h - j).toNat (c - j.toNat)) W := by
 obtain ⟨i0, hi, hz0, hz1, hz2⟩ := info_parts minfo59q
 have hel : Tryd.prog.elem 22 = 36 := by simp [Program.elem, Tryd.underlying22]
 have hu : Tryd.prog.underlying 22 = some (.slice (Tryd.prog.elem 22)) := by rw [hel]; exact Tryd.underlying22
 rw [run_slice_lh W 22 _ n c hu .i64 .i64 j h h0 (by omega) h2, hel]
 have e1 : c ≠ j.toNat := by omega
 have e2 : (Addr.add ⟨gu, 0, none⟩ j.toNat) = ⟨gu, j.toNat, none⟩ := by
  unfold Addr.add
  split <;> simp_all
 have e3 : h.toNat - j.toNat = (h - j).toNat := by omega
 simp [sizeOf, typeInfo, hi, hz1, sliced, Result.andThen, e1, e2, e3]
theorem rd_take (l : List Int) (n : Nat) (i : Int) (h0 : 0 ≤ i) (h : i < n) : rd (l.take n) i = rd l i := by
 simp [rd, List.getD_eq_getElem?_getD, show i.toNat < n from by omega]
theorem quo_more (k : Nat) (P0_ : Nat → Prop) (A0 : Option Addr) (c0 : Nat) (l0 : List Int) (A1 : Option Addr) (c1 : Nat) (l1 : List Int) (w : World) (hs0 : Kd.V (Kd.int .u64) 36 w w.heap.size (fun k_ => P0_ k_) (.slice A0 l0.length c0) l0) (hr1 : Kd.C (Kd.int .u64) w A1 l1.length l1) (hc1 : l1.length ≤ c1) (c s : Int) (v u rU rQ q r0 r : List Int)
  (hc : whole_amount_cmp.f k l0 l1 = some c) (hlt : ¬ c < 0) (h1 : ¬ l1.length = 1) (h2 : l1.length < l0.length + 1) (h3 : 2 ≤ l1.length) (h4 : l0.length < 17592186044416)
  (hs : bits_LeadingZeros64.f (rd l1 ((l1.length : Int) - 1)) = some s) (hs1 : 0 ≤ s) (hs2 : s ≤ 64) (hv : whole_amount_up.f k l1 s = some v) (hu : whole_amount_up.f k l0 s = some u) (hv1 : l1.length ≤ v.length) (hu1 : l1.length ≤ u.length)
  (hg : quo_go k u (v.take l1.length) (List.replicate (l0.length - l1.length + 1) 0) ((l0.length : Int) - (l1.length : Int)) = some (rU, rQ))
  (hq : whole_trimmed.f k rQ = some q) (hr0 : whole_trimmed.f k (rU.take l1.length) = some r0) (hr : whole_amount_down.f k r0 s = some r) :
  Calls Tryd.prog 43 #[.slice A0 l0.length c0, .slice A1 l1.length c1] w fun e w' => ∃ v0_ v1_ : Value, e = .returned (.tuple #[v0_, v1_]) ∧ Kd.V (Kd.int .u64) 36 w' w.heap.size (fun k_ => (P0_ k_ ∨ w.heap.size ≤ k_)) v0_ q ∧ Kd.V (Kd.int .u64) 36 w' w.heap.size (fun k_ => (P0_ k_ ∨ w.heap.size ≤ k_)) v1_ r ∧ Below w.heap.size w w' := by
 have h0 := Kd.V_reads' hs0
 have b1 : ((l1.length : Int) == 1) = false := by rw [beq_eq_false_iff_ne]; omega
 have b1' : (l1.length == 1) = false := by rw [beq_eq_false_iff_ne]; omega
 have hl0 : (l1.length : Int) - 1 < l1.length := by omega
 have hl1 : 0 ≤ (l1.length : Int) - 1 := by omega
 have wl1 : wrap64 ((l1.length : Int) - 1) = (l1.length : Int) - 1 := IntWalk.wrap64_in _ ⟨by omega, by omega⟩
 obtain ⟨ad, rfl, hx⟩ := Kd.at_int hr1 ((l1.length : Int) - 1) (by omega) (by omega)
 have hxx : ∀ w1, Below w.heap.size w w1 → w1.cell? (ad.add (l1.length - 1)) = some (.int .u64 (rd l1 ((l1.length : Int) - 1))) := fun w1 hb => by
  rw [show l1.length - 1 = ((l1.length : Int) - 1).toNat from by omega]
  exact (hb.cell (World.block_lt_of_cell? w _ hx)).trans hx
 have HX := Aside0.mk hxx
 clear hx hxx h1 wl1
 go_enter Tryd.func43, Tryd.ntmps43
 go_wp2_with (first
  | (go_at_call 75; refine (whole_amount_cmp.calls k _ _ l0 _ _ l1 c _ h0.2.2 h0.2.1 hr1 hc1 hc).mono ?_; rintro e w1 ⟨rfl, hd⟩; have HB := Aside0.mk hd.below; clear hd; have hx0 := HX.out _ HB.out)
  | (go_at_call 78; refine (bits_LeadingZeros64.calls _ s _ hs).mono ?_; rintro e w2 ⟨rfl, hd⟩; have HB2 := Aside0.mk (HB.out.trans (hd.below.mono HB.out.size)); clear hd hx0)
  | (go_at_call 79; (with_reducible refine (whole_amount_up.calls k _ _ l1 s v _ ?sv hc1 hv).mono ?_); (case sv => exact Kd.C_below hr1 HB2.out); rintro e w3 ⟨vv, rfl, hR, hb⟩; obtain ⟨gv, cv, pv, rfl, hgv, hlv, hcv, hsv⟩ := Seg.of_R hR (by omega); have HSV := Aside0.mk hsv; have HB3 := Aside0.mk (HB2.out.trans (hb.mono HB2.out.size)); have HGV := Aside0.mk (Nat.le_trans HB2.out.size hgv); clear hR hb hsv hgv; obtain ⟨i0, hi0, _, _, _⟩ := info_parts minfo59q; have hcut := cut_to (P := Tryd.prog) 22 36 .i64 Tryd.underlying22 hi0 (some ⟨gv, 0, none⟩) v.length cv (l1.length : Int) (by omega) (by omega) hlv; simp only [Int.toNat_natCast] at hcut)
  | (go_at_call 79; (with_reducible refine (whole_amount_up.calls k _ _ l0 s u _ ?su h0.2.1 hu).mono ?_); (case su => exact Kd.C_below h0.2.2 HB3.out); rintro e w4 ⟨uu, rfl, hR, hb⟩; obtain ⟨gu, cu, pu, rfl, hgu, hlu, hcu, hsu⟩ := Seg.of_R hR (by omega); have HNE := Aside0.mk (show gv ≠ gu from by have := HSV.out.lt; omega); have hsv3 := HSV.out; have HB4 := Aside0.mk (HB3.out.trans (hb.mono HB3.out.size)); have HGU := Aside0.mk (Nat.le_trans HB3.out.size hgu); obtain ⟨w5, gq, hmk, hsq, hbq, hgq⟩ := Seg.make w4 (l0.length - l1.length + 1) (by omega); rw [show ((l0.length - l1.length + 1 : Nat) : Int) = (l0.length : Int) - (l1.length : Int) + 1 from by omega] at hmk; have HSV5 := Aside0.mk ((hsv3.below hb).below hbq); have HSU5 := Aside0.mk (hsu.below hbq); have HSQ5 := Aside0.mk hsq; have HB5 := Aside0.mk (HB4.out.trans (hbq.mono HB4.out.size)); have HNQ := Aside0.mk (show gq ≠ gv ∧ gq ≠ gu from by have h1 := (hsv3.below hb).lt; have h2 := hsu.lt; omega); have HGQ := Aside0.mk (Nat.le_trans HB4.out.size hgq); clear hR hb hsu hgu hcut hsv3 hsq hbq hgq))
 clear hmk
 have hVl : (v.take l1.length).length = l1.length := by rw [List.length_take]; omega
 have HG := Aside0.mk hg
 clear hg
 go_loopg [14] k (fun kq v14 w' => ∃ (U Q : List Int) (j : Int), v14 = .int .i64 j ∧ Aside0 (quo_go kq U (v.take l1.length) Q j = some (rU, rQ)) ∧ Aside0 (kq ≤ k) ∧ Aside0 (U.length = u.length) ∧ Aside0 (Q.length = l0.length - l1.length + 1) ∧ Aside0 (Seg w' gv [] v pv) ∧ Aside0 (Seg w' gu [] U pu) ∧ Aside0 (Seg w' gq [] Q []) ∧ Aside0 (Below w.heap.size w w'))
 case atStart => exact ⟨u, _, _, rfl, HG, ⟨Nat.le_refl _⟩, ⟨rfl⟩, ⟨by simp⟩, HSV5, HSU5, HSQ5, HB5⟩
 case round =>
  clear HG HSV5 HSU5 HSQ5 HB5 HSV
  obtain ⟨U, Q, j, rfl, HA, HK1, HLU, HLQ, HSV, HSU, HSQ, HB⟩ := hrel
  cases gk with
  | zero => exact absurd HA.out (by simp [quo_go])
  | succ k1 =>
   have H := HA.out
   clear HA
   simp only [quo_go, hVl, HLU.out, HLQ.out] at H
   by_cases cj : j < 0
   ·rw [if_pos cj, Option.some.injEq, Prod.mk.injEq] at H
    obtain ⟨rfl, rfl⟩ := H
    have HBW : ∀ W, Below wr.heap.size wr W → w.heap.size ≤ W.heap.size := fun W hb => Nat.le_trans HB.out.size hb.size
    have TQ := Aside0.mk (show ∀ W, Below wr.heap.size wr W → Calls Tryd.prog 35 #[.slice (some ⟨gq, 0, none⟩) (l0.length - l1.length + 1) (l0.length - l1.length + 1)] W fun e w' => ∃ v0_ : Value, e = .returned (v0_) ∧ Kd.V (Kd.int .u64) 36 w' w.heap.size (fun k_ => w.heap.size ≤ k_) v0_ q ∧ Below W.heap.size W w' ∧ Below wr.heap.size wr w' from fun W hb => by
     have := whole_trimmed.calls k (fun k_ => w.heap.size ≤ k_) (some ⟨gq, 0, none⟩) (l0.length - l1.length + 1) Q q W (Seg.V (pre := []) (HSQ.out.below hb) HGQ.out (by rw [HLQ.out]; omega) (by rw [HLQ.out]; omega)) hq
     rw [HLQ.out] at this
     refine this.mono ?_
     rintro e w' ⟨v, he, hv, hb'⟩
     exact ⟨v, he, Kd.V_lower (Kd.V_mono hv (fun k_ hk => hk.elim id (fun h => Nat.le_trans (HBW W hb) h))) (HBW W hb), hb', hb.trans (hb'.mono hb.size)⟩)
    have TU := Aside0.mk (show ∀ W, Below wr.heap.size wr W → Calls Tryd.prog 35 #[.slice (some ⟨gu, 0, none⟩) l1.length cu] W fun e w' => ∃ v0_ : Value, e = .returned (v0_) ∧ (∃ A c, v0_ = .slice A r0.length c ∧ r0.length ≤ c ∧ Kd.C (Kd.int .u64) w' A r0.length r0) ∧ Below W.heap.size W w' ∧ Below wr.heap.size wr w' from fun W hb => by
     have hl : (U.take l1.length).length = l1.length := by rw [List.length_take, HLU.out]; omega
     have := whole_trimmed.calls k (fun k_ => w.heap.size ≤ k_) (some ⟨gu, 0, none⟩) cu (U.take l1.length) r0 W (Seg.V (pre := []) ((HSU.out.below hb).cutTo _) HGU.out (by rw [hl]; omega) (by rw [hl]; omega)) hr0
     rw [hl] at this
     refine this.mono ?_
     rintro e w' ⟨v, he, hv, hb'⟩
     obtain ⟨A, c, rfl, hc, -⟩ := id hv
     exact ⟨_, he, ⟨A, c, rfl, hc, (Kd.V_reads' hv).2.2⟩, hb', hb.trans (hb'.mono hb.size)⟩)
    have TD := Aside0.mk (show ∀ W A c, Below wr.heap.size wr W → r0.length ≤ c → Kd.C (Kd.int .u64) W A r0.length r0 → Calls Tryd.prog 84 #[.slice A r0.length c, .int .u64 s] W fun e w' => ∃ v0_ : Value, e = .returned (v0_) ∧ Kd.V (Kd.int .u64) 36 w' w.heap.size (fun k_ => w.heap.size ≤ k_) v0_ r ∧ Below W.heap.size W w' ∧ Below wr.heap.size wr w' from fun W A c hb hcl hC => by
     refine (whole_amount_down.calls k A c r0 s r W hC hcl hr).mono ?_
     rintro e w' ⟨v, he, hv, hb'⟩
     exact ⟨v, he, Kd.V_lower (Kd.V_mono hv (fun k_ hk => Nat.le_trans (HBW W hb) hk)) (HBW W hb), hb', hb.trans (hb'.mono hb.size)⟩)
    have HBC := Aside0.mk (Below.refl wr.heap.size wr)
    obtain ⟨i1, hi1, _, _, _⟩ := info_parts minfo59q
    have hcut := cut_to (P := Tryd.prog) 22 36 .i64 Tryd.underlying22 hi1 (some ⟨gu, 0, none⟩) u.length cu (l1.length : Int) (by omega) (by omega) hlu
    simp only [Int.toNat_natCast] at hcut
    clear hr hq hr0 HBW
    go_upto_region 28 with (fail)
    go_region_with (first
     | (go_at_call_of 35 gq; refine (TQ.out _ ?hbt).mono ?_; (case hbt => (first | exact HBC.out | exact pw_below_drewN HBC.out _ | exact pw_below_drewN HBC.out 1)); rintro e w8 ⟨vq, rfl, hvq, hb, hbc⟩; (try replace HCU := Aside0.mk (Kd.C_below HCU.out hb)); (try replace HVR := Aside0.mk (Kd.V_below HVR.out hb)); have HVQ := Aside0.mk hvq; clear HBC; have HBC := Aside0.mk hbc; clear hvq hb hbc)
     | (go_at_call_of 35 gu; refine (TU.out _ ?hbt).mono ?_; (case hbt => (first | exact HBC.out | exact pw_below_drewN HBC.out _ | exact pw_below_drewN HBC.out 1)); rintro e w8 ⟨vu, rfl, ⟨au, cu', rfl, hcu', hc⟩, hb, hbc⟩; (try replace HVQ := Aside0.mk (Kd.V_below HVQ.out hb)); have HCU := Aside0.mk hc; have HCC := Aside0.mk hcu'; clear HBC; have HBC := Aside0.mk hbc; clear hb hc hcu' hbc)
     | (go_at_call 84; refine (TD.out _ _ _ ?hbt HCC.out ?hcd).mono ?_; (case hbt => (first | exact HBC.out | exact pw_below_drewN HBC.out _ | exact pw_below_drewN HBC.out 1)); (case hcd => exact HCU.out); rintro e w8 ⟨vr, rfl, hvr, hb, hbc⟩; (try replace HVQ := Aside0.mk (Kd.V_below HVQ.out hb)); have HVR := Aside0.mk hvr; clear HBC; have HBC := Aside0.mk hbc; clear hvr hb hbc))
    all_goals go_wp2
    all_goals go_ret2
    all_goals exact ⟨_, _, rfl, Kd.V_mono HVQ.out (fun _ h => .inr h), Kd.V_mono HVR.out (fun _ h => .inr h), HB.out.trans (HBC.out.mono HB.out.size)⟩
   rw [if_neg cj] at H
   by_cases c1 : j + (l1.length : Int) < (u.length : Int) ∧ j < ((l0.length - l1.length + 1 : Nat) : Int) ∧ 2 ≤ l1.length
   ·rw [if_pos c1] at H
    obtain ⟨c1, c2, _⟩ := c1
    obtain ⟨g, hgs, H⟩ := Option.bind_eq_some_iff.mp H
    obtain ⟨⟨b, U1⟩, hsub, H⟩ := Option.bind_eq_some_iff.mp H
    have H := Aside0.mk H
    have HSB := Aside0.mk hsub
    clear hsub
    have hu0 := HSU.out.cell0 (j + (l1.length : Int)) (by omega) (by rw [HLU.out]; omega)
    have hu1 := HSU.out.cell0 (j + (l1.length : Int) - 1) (by omega) (by rw [HLU.out]; omega)
    have hu2 := HSU.out.cell0 (j + (l1.length : Int) - 2) (by omega) (by rw [HLU.out]; omega)
    have hv0 := HSV.out.cell0 ((l1.length : Int) - 1) (by omega) (by omega)
    have hv1 := HSV.out.cell0 ((l1.length : Int) - 2) (by omega) (by omega)
    rw [← rd_take v l1.length _ (by omega) (by omega)] at hv0 hv1
    rw [show ((l1.length : Int) - 1).toNat = l1.length - 1 from by omega] at hv0
    rw [show (j + (l1.length : Int) - 1).toNat = (j + (l1.length : Int)).toNat - 1 from by omega] at hu1
    rw [show ((l1.length : Int) - 2).toNat = l1.length - 2 from by omega] at hv1
    generalize hun0 : rd U (j + (l1.length : Int)) = un0 at hu0 hgs
    generalize hun1 : rd U (j + (l1.length : Int) - 1) = un1 at hu1 hgs
    generalize hun2 : rd U (j + (l1.length : Int) - 2) = un2 at hu2 hgs
    generalize hvn1 : rd (v.take l1.length) ((l1.length : Int) - 1) = vn1 at hv0 hgs
    generalize hvn2 : rd (v.take l1.length) ((l1.length : Int) - 2) = vn2 at hv1 hgs
    clear hun0 hun1 hun2 hvn1 hvn2
    have HGS := Aside0.mk hgs
    clear hgs
    go_wp2
    go_quiet (fail)
    go_upto_if 83 with (fail)
    go_cut [15] (fun v15 wc => v15 = .int .u64 g ∧ Aside0 (Seg wc gv [] v pv) ∧ Aside0 (Seg wc gu [] U pu) ∧ Aside0 (Seg wc gq [] Q []) ∧ Aside0 (Below w.heap.size w wc))
    case first =>
     replace HGS := HGS.out
     by_cases cg : un0 < vn1
     ·simp only [quo_guess, if_pos cg] at HGS
      obtain ⟨⟨g0, t0⟩, hdiv, HGS⟩ := Option.bind_eq_some_iff.mp HGS
      replace HGS := Aside0.mk HGS
      have HDV := Aside0.mk hdiv
      clear hdiv
      go_wp2
      go_quiet (first | (go_at_call 80; refine (bits_Div64.calls k1 un0 un1 vn1 g0 t0 _ HDV.out).mono ?_; rintro e w' ⟨rfl, ⟨nd, rfl⟩⟩; exact ⟨rfl, _, by rw [World.drewN_drewN, Nat.add_assoc]⟩))
      go_wp2
      go_loopg [15, 16] k1 (fun kr v15 v16 w' => ∃ (x15 x16 : Int), v15 = .int .u64 x15 ∧ v16 = .int .u64 x16 ∧ Aside0 (quo_fix kr x15 x16 vn2 vn1 un2 = some g) ∧ Aside0 (kr ≤ k1) ∧ Aside0 (∃ m, w' = wr.drewN m))
      case atStart => exact ⟨_, _, rfl, rfl, HGS, ⟨Nat.le_refl _⟩, ⟨_, by rw [World.drewN_drewN]⟩⟩
      case round =>
       obtain ⟨x15, x16, rfl, rfl, HA, HK2, HW⟩ := hrel
       obtain ⟨m, rfl⟩ := HW.out
       clear HW
       cases gk with
       | zero => exact absurd HA.out (by simp [quo_fix])
       | succ k2 =>
        have H := HA.out
        clear HA
        simp only [quo_fix] at H
        obtain ⟨⟨hi, lo⟩, hmul, H⟩ := Option.bind_eq_some_iff.mp H
        have HM := Aside0.mk hmul
        clear hmul
        simp only at H
        by_cases d1 : hi < x16
        ·rw [if_pos d1, Option.some.injEq] at H
         subst H
         go_wp2_with (first | (go_at_call 81; refine (bits_Mul64.calls _ _ hi lo _ HM.out).mono ?_; rintro e w' ⟨rfl, ⟨nd, rfl⟩⟩))
         go_meet
         case rel => exact ⟨rfl, ⟨by simpa only [World.drewN_drewN] using HSV.out.drewN _⟩, ⟨by simpa only [World.drewN_drewN] using HSU.out.drewN _⟩, ⟨by simpa only [World.drewN_drewN] using HSQ.out.drewN _⟩, ⟨by simpa only [World.drewN_drewN] using pw_below_drewN HB.out _⟩⟩
        rw [if_neg d1] at H
        by_cases d2 : hi = x16
        ·subst d2
         by_cases d4 : lo ≤ un2
         ·rw [if_pos ⟨rfl, d4⟩, Option.some.injEq] at H
          subst H
          go_wp2_with (first | (go_at_call 81; refine (bits_Mul64.calls _ _ hi lo _ HM.out).mono ?_; rintro e w' ⟨rfl, ⟨nd, rfl⟩⟩))
          go_meet
          case rel => exact ⟨rfl, ⟨by simpa only [World.drewN_drewN] using HSV.out.drewN _⟩, ⟨by simpa only [World.drewN_drewN] using HSU.out.drewN _⟩, ⟨by simpa only [World.drewN_drewN] using HSQ.out.drewN _⟩, ⟨by simpa only [World.drewN_drewN] using pw_below_drewN HB.out _⟩⟩
         rw [if_neg (fun h => d4 h.2)] at H
         by_cases d3 : IntKind.u64.wrap (hi + vn1) < hi
         ·rw [if_pos d3, Option.some.injEq] at H
          subst H
          go_wp2_with (first | (go_at_call 81; refine (bits_Mul64.calls _ _ hi lo _ HM.out).mono ?_; rintro e w' ⟨rfl, ⟨nd, rfl⟩⟩))
          go_meet
          case rel => exact ⟨rfl, ⟨by simpa only [World.drewN_drewN] using HSV.out.drewN _⟩, ⟨by simpa only [World.drewN_drewN] using HSU.out.drewN _⟩, ⟨by simpa only [World.drewN_drewN] using HSQ.out.drewN _⟩, ⟨by simpa only [World.drewN_drewN] using pw_below_drewN HB.out _⟩⟩
         rw [if_neg d3] at H
         have H := Aside0.mk H
         go_wp2_with (first | (go_at_call 81; refine (bits_Mul64.calls _ _ hi lo _ HM.out).mono ?_; rintro e w' ⟨rfl, ⟨nd, rfl⟩⟩))
         go_roundg k2
         case measure => have := HK2.out; omega
         case rel => exact ⟨_, _, rfl, rfl, H, ⟨by have := HK2.out; omega⟩, ⟨m + nd, by first | rfl | simp only [World.drewN_drewN]⟩⟩
        rw [if_neg (fun h => d2 h.1)] at H
        by_cases d3 : IntKind.u64.wrap (x16 + vn1) < x16
        ·rw [if_pos d3, Option.some.injEq] at H
         subst H
         go_wp2_with (first | (go_at_call 81; refine (bits_Mul64.calls _ _ hi lo _ HM.out).mono ?_; rintro e w' ⟨rfl, ⟨nd, rfl⟩⟩))
         go_meet
         case rel => exact ⟨rfl, ⟨by simpa only [World.drewN_drewN] using HSV.out.drewN _⟩, ⟨by simpa only [World.drewN_drewN] using HSU.out.drewN _⟩, ⟨by simpa only [World.drewN_drewN] using HSQ.out.drewN _⟩, ⟨by simpa only [World.drewN_drewN] using pw_below_drewN HB.out _⟩⟩
        rw [if_neg d3] at H
        have H := Aside0.mk H
        go_wp2_with (first | (go_at_call 81; refine (bits_Mul64.calls _ _ hi lo _ HM.out).mono ?_; rintro e w' ⟨rfl, ⟨nd, rfl⟩⟩))
        go_roundg k2
        case measure => have := HK2.out; omega
        case rel => exact ⟨_, _, rfl, rfl, H, ⟨by have := HK2.out; omega⟩, ⟨m + nd, by first | rfl | simp only [World.drewN_drewN]⟩⟩
     simp only [quo_guess, if_neg cg, Option.some.injEq] at HGS
     subst HGS
     go_wp2
     go_meet
     case rel => exact ⟨rfl, ⟨HSV.out.drewN _⟩, ⟨HSU.out.drewN _⟩, ⟨HSQ.out.drewN _⟩, ⟨pw_below_drewN HB.out _⟩⟩
    case rest =>
     obtain ⟨rfl, HSV1, HSU1, HSQ1, HB1⟩ := hcut
     clear HSV HSU HSQ HB hu0 hu1 hu2 hv0 hv1 HGS
     have hcm := cut_mid gu u.length cu j (j + (l1.length : Int) + 1) (by omega) (by omega) (by omega)
     rw [show (j + (l1.length : Int) + 1 - j).toNat = l1.length + 1 from by omega] at hcm
     have HLU' := HLU.out
     have hsa := fun W hu hv => sub_at k1 j.toNat l1.length gu (cu - j.toNat) gv cv U v pu pv g b U1 W hu hv HNE.out (by omega) (by omega) (by omega) HSB.out
     have HSA := Aside0.mk hsa
     clear hsa HLU'
     cases b with
     | true =>
      replace H := H.out
      clear HSB
      rw [if_pos rfl] at H
      obtain ⟨S1, hadd, H⟩ := Option.bind_eq_some_iff.mp H
      have HF := Aside0.mk H
      clear H
      have HAD := Aside0.mk hadd
      clear hadd
      go_wp2_with (first
       | (go_at_call 82; refine (HSA.out _ HSU1.out HSV1.out).mono ?_; rintro e w6 ⟨rfl, hl1, hs1, hk1, hb1⟩; have HL1 := Aside0.mk hl1; have HSU2 := Aside0.mk hs1; have HSV2 := Aside0.mk (HSV1.out.keep hk1 HNE.out); have HSQ2 := Aside0.mk (HSQ1.out.keep hk1 HNQ.out.2); have HB2' := Aside0.mk (HB1.out.trans (hb1.mono HGU.out)); clear hl1 hs1 hk1 hb1)
       | (go_at_call 83; refine (add_at k1 j.toNat l1.length gu (cu - j.toNat) gv cv U v pu pv U1 S1 _ HSU2.out HSV2.out HNE.out (by have := HLU.out; omega) HL1.out (by omega) (by omega) HAD.out).mono ?_; rintro e w7 ⟨rfl, hl1, hs1, hk1, hb1⟩; have HL3 := Aside0.mk hl1; have HSU3 := Aside0.mk hs1; have HSV3 := Aside0.mk (HSV2.out.keep hk1 HNE.out); have HSQ3 := Aside0.mk (HSQ2.out.keep hk1 HNQ.out.2); have HB3' := Aside0.mk (HB2'.out.trans (hb1.mono HGU.out)); have hqc := HSQ3.out.cell0 j (by omega) (by rw [HLQ.out]; omega); have hqf := HSQ3.out.free j.toNat; clear hl1 hs1 hk1 hb1))
      go_roundg k1
      case measure => have := HK1.out; omega
      case rel =>
       have hp := HSQ3.out.put0 j (IntKind.u64.wrap (g - 1)) (by omega) (by rw [HLQ.out]; omega)
       exact ⟨splice U j.toNat S1, _, _, rfl, HF, ⟨by have := HK1.out; omega⟩, ⟨by rw [splice_len _ _ _ (by rw [HL3.out]; have := HLU.out; omega)]; exact HLU.out⟩, ⟨by rw [List.length_set]; exact HLQ.out⟩, ⟨by first | exact HSV3.out.far HNQ.out.1.symm _ | exact (HSV3.out.drewN _).far HNQ.out.1.symm _⟩, ⟨by first | exact HSU3.out.far HNQ.out.2.symm _ | exact (HSU3.out.drewN _).far HNQ.out.2.symm _⟩, ⟨by first | exact hp | exact hp.drewN _⟩, ⟨by first | exact HB3'.out.setCell HGQ.out _ | exact (pw_below_drewN HB3'.out _).setCell HGQ.out _⟩⟩
     | false =>
      replace H := H.out
      clear HSB
      rw [if_neg (by simp)] at H
      have HF := Aside0.mk H
      clear H
      go_wp2_with (first
       | (go_at_call 82; refine (HSA.out _ HSU1.out HSV1.out).mono ?_; rintro e w6 ⟨rfl, hl1, hs1, hk1, hb1⟩; have HL1 := Aside0.mk hl1; have HSU2 := Aside0.mk hs1; have HSV2 := Aside0.mk (HSV1.out.keep hk1 HNE.out); have HSQ2 := Aside0.mk (HSQ1.out.keep hk1 HNQ.out.2); have HB2' := Aside0.mk (HB1.out.trans (hb1.mono HGU.out)); have hqc := HSQ2.out.cell0 j (by omega) (by rw [HLQ.out]; omega); have hqf := HSQ2.out.free j.toNat; clear hl1 hs1 hk1 hb1))
      go_roundg k1
      case measure => have := HK1.out; omega
      case rel =>
       have hp := HSQ2.out.put0 j g (by omega) (by rw [HLQ.out]; omega)
       exact ⟨splice U j.toNat U1, _, _, rfl, HF, ⟨by have := HK1.out; omega⟩, ⟨by rw [splice_len _ _ _ (by rw [HL1.out]; have := HLU.out; omega)]; exact HLU.out⟩, ⟨by rw [List.length_set]; exact HLQ.out⟩, ⟨by first | exact HSV2.out.far HNQ.out.1.symm _ | exact (HSV2.out.drewN _).far HNQ.out.1.symm _⟩, ⟨by first | exact HSU2.out.far HNQ.out.2.symm _ | exact (HSU2.out.drewN _).far HNQ.out.2.symm _⟩, ⟨by first | exact hp | exact hp.drewN _⟩, ⟨by first | exact HB2'.out.setCell HGQ.out _ | exact (pw_below_drewN HB2'.out _).setCell HGQ.out _⟩⟩
   rw [if_neg c1] at H; exact absurd H (by simp)
theorem whole_amount_quo.calls (k : Nat) (P0_ : Nat → Prop) (A0 : Option Addr) (c0 : Nat) (l0 : List Int) (A1 : Option Addr) (c1 : Nat) (l1 : List Int) (r1 r2 : List Int) (w : World) (hs0 : Kd.V (Kd.int .u64) 36 w w.heap.size (fun k_ => P0_ k_) (.slice A0 l0.length c0) l0) (hr1 : Kd.C (Kd.int .u64) w A1 l1.length l1) (hc1 : l1.length ≤ c1) (h : whole_amount_quo.f k l0 l1 = some (r1, r2)) :
  Calls Tryd.prog 43 #[.slice A0 l0.length c0, .slice A1 l1.length c1] w fun e w' => ∃ v0_ v1_ : Value, e = .returned (.tuple #[v0_, v1_]) ∧ Kd.V (Kd.int .u64) 36 w' w.heap.size (fun k_ => (P0_ k_ ∨ w.heap.size ≤ k_)) v0_ r1 ∧ Kd.V (Kd.int .u64) 36 w' w.heap.size (fun k_ => (P0_ k_ ∨ w.heap.size ≤ k_)) v1_ r2 ∧ Below w.heap.size w w' := by
 unfold whole_amount_quo.f at h
 obtain ⟨c, hc, h⟩ := Option.bind_eq_some_iff.mp h
 by_cases hlt : c < 0
 ·rw [if_pos hlt, Option.some.injEq, Prod.mk.injEq] at h
  obtain ⟨rfl, rfl⟩ := h
  exact quo_less k P0_ A0 c0 l0 A1 c1 l1 w hs0 hr1 hc1 c hc hlt
 rw [if_neg hlt] at h
 by_cases h1 : l1.length = 1
 ·rw [if_pos h1] at h
  obtain ⟨⟨q, r⟩, hq, h⟩ := Option.bind_eq_some_iff.mp h
  obtain ⟨t, ht, h⟩ := Option.bind_eq_some_iff.mp h
  rw [Option.some.injEq, Prod.mk.injEq] at h
  obtain ⟨rfl, rfl⟩ := h
  exact quo_one k P0_ A0 c0 l0 A1 c1 l1 w hs0 hr1 hc1 c _ _ r hc hlt h1 hq ht
 rw [if_neg h1] at h
 by_cases h2 : l1.length < l0.length + 1 ∧ 2 ≤ l1.length ∧ l0.length < 17592186044416
 ·rw [if_pos h2] at h
  obtain ⟨s, hs, h⟩ := Option.bind_eq_some_iff.mp h
  by_cases h3 : 0 ≤ s ∧ s ≤ 64
  ·rw [if_pos h3] at h
   obtain ⟨v, hv, h⟩ := Option.bind_eq_some_iff.mp h
   obtain ⟨u, hu, h⟩ := Option.bind_eq_some_iff.mp h
   by_cases h4 : l1.length ≤ v.length ∧ l1.length ≤ u.length
   ·rw [if_pos h4] at h
    obtain ⟨⟨rU, rQ⟩, hg, h⟩ := Option.bind_eq_some_iff.mp h
    obtain ⟨q, hq, h⟩ := Option.bind_eq_some_iff.mp h
    obtain ⟨r0, hr0, h⟩ := Option.bind_eq_some_iff.mp h
    obtain ⟨r, hr, h⟩ := Option.bind_eq_some_iff.mp h
    rw [Option.some.injEq, Prod.mk.injEq] at h
    obtain ⟨rfl, rfl⟩ := h
    exact quo_more k P0_ A0 c0 l0 A1 c1 l1 w hs0 hr1 hc1 c s v u rU rQ _ r0 _ hc hlt h1 h2.1 h2.2.1 h2.2.2 hs h3.1 h3.2 hv hu h4.1 h4.2 hg hq hr0 hr
   rw [if_neg h4] at h; cases h
  rw [if_neg h3] at h; cases h
 rw [if_neg h2] at h; cases h
end Go.Proofs.YtikencoikigllaaDoor.Mine
