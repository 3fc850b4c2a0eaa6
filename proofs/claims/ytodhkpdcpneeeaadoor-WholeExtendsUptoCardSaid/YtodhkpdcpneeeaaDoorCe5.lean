/- Part 5 of what the card rests on. -/
import Derived.Laws.Bits64b
import Derived.OpenShut
import Derived.Test.YtodhkpdcpneeeaaDoorCe4
set_option maxHeartbeats 8000000
set_option maxRecDepth 100000
set_option linter.unusedVariables false
set_option linter.unusedSimpArgs false
namespace Go.Proofs.YtodhkpdcpneeeaaDoor.Mine
open Go Go.RowKit Go.Proofs.YtodhkpdcpneeeaaDoorW.PrintWords Go.Proofs.YtodhkpdcpneeeaaDoorW.PrintLast Go.Proofs.YtodhkpdcpneeeaaDoorW.PrintMore
namespace Kp
variable {w W W' : World} {bs bs' : List Bx} {vs vs' os os' : List KV} {g : Nat} {t : TypeId}
theorem addR3 {α β γ : Type} {kd : Kd α} {kd2 : Kd β} {kd3 : Kd γ} {e e2 e3 : Nat} {v v2 v3 : Value} {xs : List α} {xs2 : List β} {xs3 : List γ} (K : Kp w bs vs os W) (hb : Below W.heap.size W W') (ho : kd.R e W' W.heap.size (fun k => some k ≠ v2.ownBlock ∧ some k ≠ v3.ownBlock) v xs) (ho2 : kd2.R e2 W' W.heap.size (fun k => some k ≠ v.ownBlock ∧ some k ≠ v3.ownBlock) v2 xs2) (ho3 : kd3.R e3 W' W.heap.size (fun k => some k ≠ v.ownBlock ∧ some k ≠ v2.ownBlock) v3 xs3) :
  Kp w bs (vs ++ [⟨kd, e, v, xs, fun _ => False⟩] ++ [⟨kd2, e2, v2, xs2, fun _ => False⟩] ++ [⟨kd3, e3, v3, xs3, fun _ => False⟩]) (os ++ [⟨kd, e, v, xs, fun _ => True⟩] ++ [⟨kd2, e2, v2, xs2, fun _ => True⟩] ++ [⟨kd3, e3, v3, xs3, fun _ => True⟩]) W' := by
 have K2 := K.addR2 hb (Kd.R_mono ho fun _ h => h.1) (Kd.R_mono ho2 fun _ h => h.1)
 have K0 : Kp w bs (vs ++ [⟨kd, e, v, xs, fun _ => False⟩] ++ [⟨kd2, e2, v2, xs2, fun _ => False⟩]) os W' := ⟨K2.below, K2.blk, K2.nod, K2.val, (K.up hb).own, K.sep⟩
 have K3 := K.moreF (base := 0) (fun _ => False) K0 (Kd.V_mono (Kd.R_V (Kd.R_bound ho3)) fun k hk => hk.2.1)
 have hk1 : ∀ k, W.heap.size ≤ k → ∀ b ∈ bs, k ≠ b.1 := fun k hk b hb e => by have := blk_lt (K.blk b hb).2; omega
 refine ⟨K3.below, K3.blk, K3.nod, K3.val, fun x hx => ?_, ?_⟩
 ·rcases List.mem_append.1 hx with hx | hx
  ·exact K2.own x hx
  obtain rfl := List.mem_singleton.1 hx
  exact Kd.R_lower (Kd.R_mono (Kd.R_bound ho3) fun k hk => hk1 k hk.2.1) (below_size K.below)
 rw [List.pairwise_append]
 refine ⟨K2.sep, List.pairwise_singleton _ _, fun a ha b hb' k h1 h2 => ?_⟩
 obtain rfl := List.mem_singleton.1 hb'
 have h3 := ho3.1 k h2
 rcases List.mem_append.1 ha with ha | ha
 ·rcases List.mem_append.1 ha with ha | ha
  ·have g1 := Kd.R_base ho3 k h2
   have g2 := Kd.R_lt (K.own a ha) k h1
   omega
  obtain rfl := List.mem_singleton.1 ha
  exact h3.1 h1.symm
 obtain rfl := List.mem_singleton.1 ha
 exact h3.2 h1.symm
end Kp
end Go.Proofs.YtodhkpdcpneeeaaDoor.Mine
namespace Go.Proofs.YtodhkpdcpneeeaaDoor.PDv
open Go.RowKit Go.Proofs.YtodhkpdcpneeeaaDoorW.PrintWords Go.Proofs.YtodhkpdcpneeeaaDoorW.PrintLast Go.Proofs.YtodhkpdcpneeeaaDoorW.PrintMore
open Go.Proofs.YtodhkpdcpneeeaaDoor.Mine
attribute [local go_sem] max2_int min2_int max_two min_two max_three min_three max_four min_four
def tribunallaw02_WholeExtends.f (k : Nat) (a0_0 : Bool) (l0_1 : List Int) (a1_0 : Bool) (l1_1 : List Int) : Option (Bool) := ((whole_Extended.f k a0_0 l0_1 a1_0 l1_1).bind fun g => ((tribunalref02_Extended.f k a0_0 l0_1 a1_0 l1_1).bind fun h => ((tribunalref02_Same.f k g.1 g.2.1 h.1 h.2.1).bind fun t1 => (if t1 = true then ((tribunalref02_Same.f k g.2.2.1 g.2.2.2.1 h.2.2.1 h.2.2.2.1).bind fun t2 => (if t2 = true then ((tribunalref02_Same.f k g.2.2.2.2.1 g.2.2.2.2.2.1 h.2.2.2.2.1 h.2.2.2.2.2.1).bind fun t3 => (if t3 = true then (if g.2.2.2.2.2.2 = h.2.2.2.2.2.2 then ((tribunallaw02_awake.f k).bind fun t4 => (some t4)) else (none)) else (none))) else (none))) else (none)))))
theorem tribunallaw02_WholeExtends.calls (k : Nat) (a0_0 : Bool) (A0_1 : Option Addr) (c0_1 : Nat) (l0_1 : List Int) (a1_0 : Bool) (A1_1 : Option Addr) (c1_1 : Nat) (l1_1 : List Int) (r : Bool) (w : World) (hr0_1 : Kd.C (Kd.int .u64) w A0_1 l0_1.length l0_1) (hc0_1 : l0_1.length ≤ c0_1) (hr1_1 : Kd.C (Kd.int .u64) w A1_1 l1_1.length l1_1) (hc1_1 : l1_1.length ≤ c1_1) (h : tribunallaw02_WholeExtends.f k a0_0 l0_1 a1_0 l1_1 = some r) :
  Calls Tryd.prog 14 #[.agg #[.bool a0_0, .slice A0_1 l0_1.length c0_1], .agg #[.bool a1_0, .slice A1_1 l1_1.length c1_1]] w fun e w' => e = .returned (.bool r) ∧ Below w.heap.size w w' := by
 have hu25 := Tryd.underlying25
 have K := Kp.refl w
 replace K := K.parV (Kd.V_mono (ok' := fun _ => True) (Kd.V_mk (e := 59) (base := 0) hc0_1 (Kd.C_F (Kd.heap_int .u64) hr0_1)) (fun _ h => trivial))
 clear hr0_1 hc0_1
 replace K := K.parV (Kd.V_mono (ok' := fun _ => True) (Kd.V_mk (e := 59) (base := 0) hc1_1 (Kd.C_F (Kd.heap_int .u64) hr1_1)) (fun _ h => trivial))
 clear hr1_1 hc1_1
 try simp only [klv] at K
 rw [tribunallaw02_WholeExtends.f] at h
 replace h := bindA h
 obtain ⟨⟨z5, x6, z7, x8, z9, x10, n11⟩, A12, h⟩ := h
 dsimp only at h
 replace h := bindA h
 obtain ⟨⟨z41, x42, z43, x44, z45, x46, n47⟩, A48, h⟩ := h
 dsimp only at h
 replace h := bindA h
 obtain ⟨z77, A78, h⟩ := h
 by_cases c_0 : z77 = true
 ·subst c_0
  rw [if_pos rfl] at h
  replace h := bindA h
  obtain ⟨z80, A81, h⟩ := h
  by_cases c_1 : z80 = true
  ·subst c_1
   rw [if_pos rfl] at h
   replace h := bindA h
   obtain ⟨z83, A84, h⟩ := h
   by_cases c_2 : z83 = true
   ·subst c_2
    rw [if_pos rfl] at h
    by_cases c_3 : n11 = n47
    ·rw [if_pos c_3] at h
     have c_3b0 : (n11 == n47) = true := beq_iff_eq.mpr c_3
     have c_3b1 : (n11 != n47) = false := bne_eq_false_iff_eq.mpr c_3
     clear c_3
     replace h := bindA h
     obtain ⟨z86, A87, h⟩ := h
     simp only [Option.some.injEq] at h
     subst h
     go_enter Tryd.func14, Tryd.ntmps14
     go_wp2_with (first | (refine gd 2 rfl ?_; refine kbk 2 #[.bool a0_0, .slice A0_1 l0_1.length c0_1] 25 K.u ?_; clear K; intro g1 W2 K) | (refine gd 3 rfl ?_; refine kbk 3 #[.bool a1_0, .slice A1_1 l1_1.length c1_1] 25 K.u ?_; clear K; intro g3 W4 K; obtain ⟨ua0, ub0⟩ := K.cell2 0 rfl; obtain ⟨ua1, ub1⟩ := K.cell2 1 rfl) | (refine gd 16 rfl ?_; clear ua0 ub0 ua1 ub1; refine kgl (some 16) rfl rfl Tryd.func52 #[.agg #[.bool a0_0, .slice A0_1 l0_1.length c0_1], .agg #[.bool a1_0, .slice A1_1 l1_1.length c1_1]] rfl ?_; refine (whole_Extended.calls _ a0_0 _ _ l0_1 a1_0 _ _ l1_1 z5 x6 z7 x8 z9 x10 n11 _ (K.C 0 rfl) (K.le 0 rfl) (K.C 1 rfl) (K.le 1 rfl) A12.out).mono ?_; rintro e W19 ⟨v13, v14, v15, rfl, ho16, ho17, ho18, hb⟩; refine ⟨_, rfl, ?_⟩; replace K := K.u.addR3 hb ho16 ho17 ho18; clear hb ho16 ho17 ho18; obtain ⟨P20, c21, e22⟩ := K.slice 2 rfl; subst e22; obtain ⟨P23, c24, e25⟩ := K.slice 3 rfl; subst e25; obtain ⟨P26, c27, e28⟩ := K.slice 4 rfl; subst e28) | (refine gd 5 rfl ?_; refine kbk 5 #[.bool false, .slice none 0 0] 25 K.u ?_; clear K; intro g29 W30 K) | (refine gd 6 rfl ?_; refine kbk 6 #[.bool false, .slice none 0 0] 25 K.u ?_; clear K; intro g31 W32 K) | (refine gd 7 rfl ?_; refine kbk 7 #[.bool false, .slice none 0 0] 25 K.u ?_; clear K; intro g33 W34 K) | (refine gs 25 5 17 rfl ?_; refine ks2 2 (.bool z5) (.slice P20 x6.length c21) K.u rfl ?_; clear K; intro W35 K; simp only [kls, klv] at K) | (refine gs 25 6 18 rfl ?_; refine ks2 3 (.bool z7) (.slice P23 x8.length c24) K.u rfl ?_; clear K; intro W37 K; simp only [kls, klv] at K) | (refine gs 25 7 19 rfl ?_; refine ks2 4 (.bool z9) (.slice P26 x10.length c27) K.u rfl ?_; clear K; intro W39 K; simp only [kls, klv] at K; obtain ⟨ua0, ub0⟩ := K.cell2 0 rfl; obtain ⟨ua1, ub1⟩ := K.cell2 1 rfl) | (refine gd 24 rfl ?_; clear ua0 ub0 ua1 ub1; refine kgl (some 24) rfl rfl Tryd.func53 #[.agg #[.bool a0_0, .slice A0_1 l0_1.length c0_1], .agg #[.bool a1_0, .slice A1_1 l1_1.length c1_1]] rfl ?_; refine (tribunalref02_Extended.calls _ a0_0 _ _ l0_1 a1_0 _ _ l1_1 z41 x42 z43 x44 z45 x46 n47 _ (K.C 0 rfl) (K.le 0 rfl) (K.C 1 rfl) (K.le 1 rfl) A48.out).mono ?_; rintro e W55 ⟨v49, v50, v51, rfl, ho52, ho53, ho54, hb⟩; refine ⟨_, rfl, ?_⟩; replace K := K.u.addR3 hb ho52 ho53 ho54; clear hb ho52 ho53 ho54; obtain ⟨P56, c57, e58⟩ := K.slice 5 rfl; subst e58; obtain ⟨P59, c60, e61⟩ := K.slice 6 rfl; subst e61; obtain ⟨P62, c63, e64⟩ := K.slice 7 rfl; subst e64) | (refine gd 9 rfl ?_; refine kbk 9 #[.bool false, .slice none 0 0] 25 K.u ?_; clear K; intro g65 W66 K) | (refine gd 10 rfl ?_; refine kbk 10 #[.bool false, .slice none 0 0] 25 K.u ?_; clear K; intro g67 W68 K) | (refine gd 11 rfl ?_; refine kbk 11 #[.bool false, .slice none 0 0] 25 K.u ?_; clear K; intro g69 W70 K) | (refine gs 25 9 25 rfl ?_; refine ks2 5 (.bool z41) (.slice P56 x42.length c57) K.u rfl ?_; clear K; intro W71 K; simp only [kls, klv] at K) | (refine gs 25 10 26 rfl ?_; refine ks2 6 (.bool z43) (.slice P59 x44.length c60) K.u rfl ?_; clear K; intro W73 K; simp only [kls, klv] at K) | (refine gs 25 11 27 rfl ?_; refine ks2 7 (.bool z45) (.slice P62 x46.length c63) K.u rfl ?_; clear K; intro W75 K; simp only [kls, klv] at K; obtain ⟨ua2, ub2⟩ := K.cell2 2 rfl; obtain ⟨ua5, ub5⟩ := K.cell2 5 rfl) | (refine gd 31 rfl ?_; clear ua2 ub2 ua5 ub5; refine kgl (some 31) rfl rfl Tryd.func20 #[.agg #[.bool z5, .slice P20 x6.length c21], .agg #[.bool z41, .slice P56 x42.length c57]] rfl ?_; refine (tribunalref02_Same.calls _ z5 _ _ x6 z41 _ _ x42 true _ (K.C 2 rfl) (K.le 2 rfl) (K.C 5 rfl) (K.le 5 rfl) A78.out).mono ?_; rintro e W79 ⟨rfl, hb⟩; refine ⟨_, rfl, ?_⟩; replace K := K.u.up hb; clear hb; obtain ⟨ua3, ub3⟩ := K.cell2 3 rfl; obtain ⟨ua6, ub6⟩ := K.cell2 6 rfl) | (refine gd 35 rfl ?_; clear ua3 ub3 ua6 ub6; refine gate_guard (by rfl) ?_; refine kgl (some 35) rfl rfl Tryd.func20 #[.agg #[.bool z7, .slice P23 x8.length c24], .agg #[.bool z43, .slice P59 x44.length c60]] rfl ?_; refine (tribunalref02_Same.calls _ z7 _ _ x8 z43 _ _ x44 true _ (K.C 3 rfl) (K.le 3 rfl) (K.C 6 rfl) (K.le 6 rfl) A81.out).mono ?_; rintro e W82 ⟨rfl, hb⟩; refine ⟨_, rfl, ?_⟩; replace K := K.u.up hb; clear hb; obtain ⟨ua4, ub4⟩ := K.cell2 4 rfl; obtain ⟨ua7, ub7⟩ := K.cell2 7 rfl) | (refine gd 40 rfl ?_; clear ua4 ub4 ua7 ub7; refine gate_guard (by rfl) ?_; refine kgl (some 40) rfl rfl Tryd.func20 #[.agg #[.bool z9, .slice P26 x10.length c27], .agg #[.bool z45, .slice P62 x46.length c63]] rfl ?_; refine (tribunalref02_Same.calls _ z9 _ _ x10 z45 _ _ x46 true _ (K.C 4 rfl) (K.le 4 rfl) (K.C 7 rfl) (K.le 7 rfl) A84.out).mono ?_; rintro e W85 ⟨rfl, hb⟩; refine ⟨_, rfl, ?_⟩; replace K := K.u.up hb; clear hb) | (refine gd 48 rfl ?_; refine gate_guard (by rfl) ?_; refine kgl (some 48) rfl rfl Tryd.func21 #[] rfl ?_; refine (tribunallaw02_awake.calls _ z86 _ A87.out).mono ?_; rintro e W88 ⟨rfl, hb⟩; refine ⟨_, rfl, ?_⟩; replace K := K.u.up hb; clear hb))
     go_ret
     exact ⟨rfl, K.u.below⟩
    rw [if_neg c_3] at h
    have c_3b0 : (n11 == n47) = false := beq_eq_false_iff_ne.mpr c_3
    have c_3b1 : (n11 != n47) = true := bne_iff_ne.mpr c_3
    clear c_3
    exact nomatch h
   replace c_2 := Bool.eq_false_iff.mpr c_2
   subst c_2
   rw [if_neg (by decide)] at h
   exact nomatch h
  replace c_1 := Bool.eq_false_iff.mpr c_1
  subst c_1
  rw [if_neg (by decide)] at h
  exact nomatch h
 replace c_0 := Bool.eq_false_iff.mpr c_0
 subst c_0
 rw [if_neg (by decide)] at h
 exact nomatch h
def whole_number_told.f (l0_0 : List Int) (a0_1 : Bool) : Option (Bool × List Int × Int) := (whole_number_long.f l0_0 a0_1).bind fun t791 => (if t791 = true then (some (false, ([] : List Int), 5)) else ((whole_number_out.f l0_0 a0_1).bind fun bt792 => (some (bt792.1, bt792.2, 0))))
def whole_Add.f (k : Nat) (a0_0 : Bool) (l0_1 : List Int) (a1_0 : Bool) (l1_1 : List Int) : Option (Bool × List Int × Int) := (whole_of.f k a0_0 l0_1).bind fun bt985 => ((whole_of.f k a1_0 l1_1).bind fun bt989 => ((whole_number_plus.f k bt985.1 bt985.2 bt989.1 bt989.2).bind fun bt993 => ((whole_number_told.f bt993.1 bt993.2).bind fun bt997 => (some (bt997.1, bt997.2.1, bt997.2.2)))))
def whole_Abs.f (k : Nat) (a0_0 : Bool) (l0_1 : List Int) : Option (Bool × List Int) := (whole_of.f k a0_0 l0_1).bind fun bt1035 => ((whole_signed.f bt1035.1 false).bind fun bt1039 => ((whole_number_out.f bt1039.1 bt1039.2).bind fun bt1043 => (some (bt1043.1, bt1043.2))))
end Go.Proofs.YtodhkpdcpneeeaaDoor.PDv
namespace Go.Proofs.YtodhkpdcpneeeaaDoor.Big
def val (B : Int) : List Int → Int
 | [] => 0
 | x :: xs => x + B * val B xs
def Dig (B : Int) (l : List Int) : Prop := ∀ x ∈ l, 0 ≤ x ∧ x < B
def Top : List Int → Prop
 | [] => True
 | [x] => x ≠ 0
 | _ :: y :: l => Top (y :: l)
theorem Dig.nil {B : Int} : Dig B [] := fun _ h => by cases h
theorem Dig.cons {B x : Int} {l : List Int} : Dig B (x :: l) ↔ (0 ≤ x ∧ x < B) ∧ Dig B l := by
 simp [Dig]
theorem Dig.append {B : Int} {a b : List Int} : Dig B (a ++ b) ↔ Dig B a ∧ Dig B b := by
 simp only [Dig, List.mem_append]
 exact ⟨fun h => ⟨fun x hx => h x (.inl hx), fun x hx => h x (.inr hx)⟩, fun h x hx => hx.elim (h.1 x) (h.2 x)⟩
theorem Dig.take {B : Int} {a : List Int} (h : Dig B a) (n : Nat) : Dig B (a.take n) := fun x hx => h x (List.mem_of_mem_take hx)
theorem Dig.drop {B : Int} {a : List Int} (h : Dig B a) (n : Nat) : Dig B (a.drop n) := fun x hx => h x (List.mem_of_mem_drop hx)
theorem Dig.set {B : Int} {a : List Int} (h : Dig B a) (n : Nat) {v : Int} (hv : 0 ≤ v ∧ v < B) : Dig B (a.set n v) := fun x hx => by
 rcases List.mem_or_eq_of_mem_set hx with hx | rfl
 ·exact h x hx
 exact hv
theorem Dig.rep {B : Int} (hB : 0 < B) (n : Nat) : Dig B (List.replicate n 0) := fun x hx => by
 have := List.eq_of_mem_replicate hx; omega
theorem Dig.get {B : Int} {a : List Int} (h : Dig B a) (i : Nat) (hi : i < a.length) : 0 ≤ a[i] ∧ a[i] < B := h _ (List.getElem_mem hi)
theorem val_append (B : Int) (a b : List Int) : val B (a ++ b) = val B a + B ^ a.length * val B b := by
 induction a with
 | nil => simp [val]
 | cons x a ih => simp only [List.cons_append, val, ih, List.length_cons, Int.pow_succ]; grind
theorem val_replicate (B : Int) (n : Nat) : val B (List.replicate n 0) = 0 := by
 induction n with
 | zero => rfl
 | succ n ih => simp [List.replicate_succ, val, ih]
theorem pow_pos {B : Int} (hB : 0 < B) (n : Nat) : 0 < B ^ n := Int.pow_pos hB
theorem val_nonneg {B : Int} (hB : 0 < B) {l : List Int} (h : Dig B l) : 0 ≤ val B l := by
 induction l with
 | nil => simp [val]
 | cons x l ih =>
  rw [Dig.cons] at h
  have := ih h.2
  have := Int.mul_nonneg (Int.le_of_lt hB) this
  simp only [val]; omega
theorem val_lt {B : Int} (hB : 0 < B) {l : List Int} (h : Dig B l) : val B l < B ^ l.length := by
 induction l with
 | nil => simp [val]
 | cons x l ih =>
  rw [Dig.cons] at h
  have h1 := ih h.2
  have h2 : B * (val B l + 1) ≤ B * B ^ l.length := Int.mul_le_mul_of_nonneg_left (by omega) (by omega)
  simp only [val, List.length_cons, Int.pow_succ]
  grind
theorem val_set (B : Int) (l : List Int) (i : Nat) (v : Int) (hi : i < l.length) : val B (l.set i v) = val B l + (v - l[i]) * B ^ i := by
 induction l generalizing i with
 | nil => simp at hi
 | cons x l ih =>
  cases i with
  | zero => simp only [List.set_cons_zero, val, List.getElem_cons_zero, Int.pow_zero]; omega
  | succ i =>
   simp only [List.set_cons_succ, val, List.getElem_cons_succ, Int.pow_succ]
   rw [ih i (by simpa using hi)]
   grind
theorem val_take_succ (B : Int) (l : List Int) (i : Nat) (hi : i < l.length) : val B (l.take (i + 1)) = val B (l.take i) + l[i] * B ^ i := by
 rw [List.take_succ_eq_append_getElem hi, val_append]
 simp [val, List.length_take, Nat.min_eq_left (Nat.le_of_lt hi), Int.mul_comm]
theorem val_split (B : Int) (l : List Int) (i : Nat) (hi : i ≤ l.length) : val B l = val B (l.take i) + B ^ i * val B (l.drop i) := by
 have := val_append B (l.take i) (l.drop i)
 rw [List.take_append_drop, List.length_take, Nat.min_eq_left hi] at this
 exact this
theorem val_snoc (B : Int) (l : List Int) (x : Int) : val B (l ++ [x]) = val B l + x * B ^ l.length := by
 rw [val_append]; simp [val, Int.mul_comm]
theorem Top.cons {x y : Int} {l : List Int} : Top (x :: y :: l) ↔ Top (y :: l) := Iff.rfl
theorem Top_iff (l : List Int) : Top l ↔ ∀ h : l ≠ [], l.getLast h ≠ 0 := by
 induction l with
 | nil => simp [Top]
 | cons x l ih =>
  cases l with
  | nil => simp [Top]
  | cons y l => rw [Top.cons, ih]; exact ⟨fun h _ => by simpa using h (by simp), fun h _ => by simpa using h (by simp)⟩
theorem Top_snoc {l : List Int} {x : Int} (h : x ≠ 0) : Top (l ++ [x]) := by
 rw [Top_iff]; intro _; simpa using h
theorem uniq {B : Int} (hB : 1 < B) : ∀ {a b : List Int}, Dig B a → Dig B b → Top a → Top b → val B a = val B b → a = b := by
 have key : ∀ {b : List Int}, Dig B b → Top b → val B b = 0 → b = [] := by
  intro b
  induction b with
  | nil => intros; rfl
  | cons y b ih =>
   intro hd ht hv
   rw [Dig.cons] at hd
   simp only [val] at hv
   have h0 := val_nonneg (by omega) hd.2
   have h1 := Int.mul_nonneg (show 0 ≤ B by omega) h0
   have h2 : B * val B b = 0 := by omega
   have h3 : val B b = 0 := by rcases Int.mul_eq_zero.1 h2 with h | h <;> omega
   cases b with
   | nil => exfalso; simp only [Top] at ht; omega
   | cons z b => have := ih hd.2 ht h3; cases this
 intro a
 induction a with
 | nil =>
  intro b _ hb _ tb h
  exact (key hb tb h.symm).symm
 | cons x a ih =>
  intro b ha hb ta tb h
  cases b with
  | nil => exact key ha ta h
  | cons y b =>
   rw [Dig.cons] at ha hb
   simp only [val] at h
   have e1 : x = y := by
    have h1 : (x + B * val B a) % B = x := by rw [Int.add_mul_emod_self_left]; exact Int.emod_eq_of_lt ha.1.1 ha.1.2
    have h2 : (y + B * val B b) % B = y := by rw [Int.add_mul_emod_self_left]; exact Int.emod_eq_of_lt hb.1.1 hb.1.2
    rw [← h1, ← h2, h]
   subst e1
   have e2 : val B a = val B b := by
    have : B * val B a = B * val B b := by omega
    exact Int.eq_of_mul_eq_mul_left (by omega) this
   have ta' : Top a := by cases a with | nil => trivial | cons => exact ta
   have tb' : Top b := by cases b with | nil => trivial | cons => exact tb
   rw [ih ha.2 hb.2 ta' tb' e2]
theorem low {B : Int} (hB : 0 < B) {l : List Int} (h : Dig B l) (t : Top l) (hne : l ≠ []) : B ^ (l.length - 1) ≤ val B l := by
 induction l with
 | nil => exact absurd rfl hne
 | cons x l ih =>
  rw [Dig.cons] at h
  cases l with
  | nil => simp only [Top] at t; simp [val]; omega
  | cons y l =>
   have := ih h.2 t (by simp)
   simp only [List.length_cons, Nat.add_sub_cancel] at this ⊢
   simp only [val] at this ⊢
   have := Int.mul_le_mul_of_nonneg_left this (Int.le_of_lt hB)
   rw [Int.pow_succ, Int.mul_comm]
   omega
structure Rep (B : Int) (n : Int) (l : List Int) : Prop where
 dig : Dig B l
 top : Top l
 val : val B l = n
theorem Rep.uniq {B n : Int} (hB : 1 < B) {a b : List Int} (ha : Rep B n a) (hb : Rep B n b) : a = b :=
 Big.uniq hB ha.dig hb.dig ha.top hb.top (ha.val.trans hb.val.symm)
theorem Rep.nonneg {B n : Int} (hB : 0 < B) {a : List Int} (ha : Rep B n a) : 0 ≤ n := ha.val ▸ val_nonneg hB ha.dig
theorem Rep.lt {B n : Int} (hB : 0 < B) {a : List Int} (ha : Rep B n a) : n < B ^ a.length := ha.val ▸ val_lt hB ha.dig
theorem Rep.low {B n : Int} (hB : 0 < B) {a : List Int} (ha : Rep B n a) (h : a ≠ []) : B ^ (a.length - 1) ≤ n := ha.val ▸ Big.low hB ha.dig ha.top h
theorem Rep.nil_iff {B n : Int} (hB : 0 < B) {a : List Int} (ha : Rep B n a) : a = [] ↔ n = 0 := by
 constructor
 ·rintro rfl; exact ha.val.symm
 intro h
 rcases Classical.em (a = []) with e | e
 ·exact e
 have := ha.low hB e; have := pow_pos hB (a.length - 1); omega
end Go.Proofs.YtodhkpdcpneeeaaDoor.Big
namespace Go.Proofs.YtodhkpdcpneeeaaDoor.PurePDv
set_option linter.unusedVariables false
set_option linter.unusedSimpArgs false
open Go.RowKit Go.Proofs.YtodhkpdcpneeeaaDoorW.PrintWords Go.Proofs.YtodhkpdcpneeeaaDoorW.PrintLast Go.Proofs.YtodhkpdcpneeeaaDoorW.PrintMore Go.Proofs.YtodhkpdcpneeeaaDoor.PDv Go.Proofs.YtodhkpdcpneeeaaDoor Go.Proofs.YtodhkpdcpneeeaaDoor.Mine
open Big
def Ev {α : Type} (f : Nat → Option α) (r : α) : Prop := ∃ K, ∀ k, K ≤ k → f k = some r
theorem up {α : Type} {f : Nat → Option α} (mono : ∀ k, LeO (f k) (f (k + 1))) {k : Nat} {r : α} (h : f k = some r) : ∀ j, k ≤ j → f j = some r := by
 intro j hj
 induction hj with
 | refl => exact h
 | step _ ih => exact mono _ _ ih
theorem Ev.of {α : Type} {f : Nat → Option α} (mono : ∀ k, LeO (f k) (f (k + 1))) {k : Nat} {r : α} (h : f k = some r) : Ev f r := ⟨k, up mono h⟩
theorem Ev.bind {α β : Type} {f : Nat → Option α} {a : α} (h : Ev f a) {g : Nat → α → Option β} {b : β} (hg : Ev (fun k => g k a) b) : Ev (fun k => (f k).bind (g k)) b := by
 obtain ⟨K1, h1⟩ := h
 obtain ⟨K2, h2⟩ := hg
 exact ⟨max K1 K2, fun k hk => by show (f k).bind (g k) = _; rw [h1 k (by omega)]; exact h2 k (by omega)⟩
theorem rd_nat (l : List Int) (n : Nat) (h : n < l.length) : rd l (n : Int) = l[n] := by
 simp [rd, List.getD_eq_getElem?_getD, List.getElem?_eq_getElem h]
theorem w64 (n : Int) (h : -9223372036854775808 ≤ n ∧ n ≤ 9223372036854775807) : wrap64 n = n := IntWalk.wrap64_in n h
theorem whole_trimmed_l0 (l : List Int) (hl : l.length < 9223372036854775807) : ∀ (n k : Nat), n ≤ l.length → n < k → ∃ m, m ≤ n ∧ whole_trimmed.l0 k l (n : Int) = some (l.take m) ∧ Top (l.take m) ∧ ∀ B, val B (l.take m) = val B (l.take n) := by
 intro n
 induction n with
 | zero =>
  intro k _ hk
  obtain ⟨k, rfl⟩ : ∃ j, k = j + 1 := ⟨k - 1, by omega⟩
  refine ⟨0, Nat.le_refl _, ?_, by simp [Top], fun _ => rfl⟩
  simp only [whole_trimmed.l0]
  rw [if_neg (by omega), if_pos (by omega), if_pos (by omega)]
  rfl
 | succ n ih =>
  intro k hn hk
  obtain ⟨k, rfl⟩ : ∃ j, k = j + 1 := ⟨k - 1, by omega⟩
  have hw : wrap64 (((n + 1 : Nat) : Int) - 1) = (n : Int) := by rw [w64 _ (by omega)]; omega
  simp only [whole_trimmed.l0]
  rw [hw, if_pos (by omega), if_pos (by omega), if_pos (by omega), rd_nat l n (by omega)]
  by_cases h0 : l[n] = 0
  ·obtain ⟨m, hm, he, ht, hv⟩ := ih k (by omega) (by omega)
   refine ⟨m, by omega, by rw [if_pos h0]; exact he, ht, fun B => ?_⟩
   rw [hv B, val_take_succ B l n (by omega), h0]; simp
  refine ⟨n + 1, Nat.le_refl _, ?_, ?_, fun _ => rfl⟩
  ·rw [if_neg h0, if_pos (by omega), if_pos (by omega)]; congr 1
  rw [List.take_succ_eq_append_getElem (by omega)]; exact Top_snoc h0
theorem whole_trimmed_ev {B : Int} {l : List Int} (hl : l.length < 9223372036854775807) (hd : Dig B l) : ∃ r, Ev (fun k => whole_trimmed.f k l) r ∧ Dig B r ∧ Top r ∧ val B r = val B l := by
 obtain ⟨m, hm, he, ht, hv⟩ := whole_trimmed_l0 l hl l.length (l.length + 1) (Nat.le_refl _) (by omega)
 refine ⟨l.take m, Ev.of (fun k => whole_trimmed.mono l k) he, hd.take m, ht, ?_⟩
 rw [hv B, List.take_length]
theorem tribunalref02_trim_l0 (l : List Int) (hl : l.length < 9223372036854775807) : ∀ (n k : Nat), n ≤ l.length → n < k → ∃ m, m ≤ n ∧ tribunalref02_trim.l0 k l (n : Int) = some (l.take m) ∧ Top (l.take m) ∧ ∀ B, val B (l.take m) = val B (l.take n) := by
 intro n
 induction n with
 | zero =>
  intro k _ hk
  obtain ⟨k, rfl⟩ : ∃ j, k = j + 1 := ⟨k - 1, by omega⟩
  refine ⟨0, Nat.le_refl _, ?_, by simp [Top], fun _ => rfl⟩
  simp only [tribunalref02_trim.l0]
  rw [if_neg (by omega), if_pos (by omega), if_pos (by omega)]
  rfl
 | succ n ih =>
  intro k hn hk
  obtain ⟨k, rfl⟩ : ∃ j, k = j + 1 := ⟨k - 1, by omega⟩
  have hw : wrap64 (((n + 1 : Nat) : Int) - 1) = (n : Int) := by rw [w64 _ (by omega)]; omega
  simp only [tribunalref02_trim.l0]
  rw [hw, if_pos (by omega), if_pos (by omega), if_pos (by omega), rd_nat l n (by omega)]
  by_cases h0 : l[n] = 0
  ·obtain ⟨m, hm, he, ht, hv⟩ := ih k (by omega) (by omega)
   refine ⟨m, by omega, by rw [if_pos h0]; exact he, ht, fun B => ?_⟩
   rw [hv B, val_take_succ B l n (by omega), h0]; simp
  refine ⟨n + 1, Nat.le_refl _, ?_, ?_, fun _ => rfl⟩
  ·rw [if_neg h0, if_pos (by omega), if_pos (by omega)]; congr 1
  rw [List.take_succ_eq_append_getElem (by omega)]; exact Top_snoc h0
theorem tribunalref02_trim_ev {B : Int} {l : List Int} (hl : l.length < 9223372036854775807) (hd : Dig B l) : ∃ r, Ev (fun k => tribunalref02_trim.f k l) r ∧ Dig B r ∧ Top r ∧ val B r = val B l := by
 obtain ⟨m, hm, he, ht, hv⟩ := tribunalref02_trim_l0 l hl l.length (l.length + 1) (Nat.le_refl _) (by omega)
 refine ⟨l.take m, Ev.of (fun k => tribunalref02_trim.mono l k) he, hd.take m, ht, ?_⟩
 rw [hv B, List.take_length]
end Go.Proofs.YtodhkpdcpneeeaaDoor.PurePDv
namespace Go.Proofs.YtodhkpdcpneeeaaDoor.PurePDv
set_option linter.unusedVariables false
set_option linter.unusedSimpArgs false
open Go.RowKit Go.Proofs.YtodhkpdcpneeeaaDoorW.PrintWords Go.Proofs.YtodhkpdcpneeeaaDoorW.PrintLast Go.Proofs.YtodhkpdcpneeeaaDoorW.PrintMore Go.Proofs.YtodhkpdcpneeeaaDoor.PDv Go.Proofs.YtodhkpdcpneeeaaDoor Go.Proofs.YtodhkpdcpneeeaaDoor.Mine Big
theorem and32 (x : Int) (h : 0 ≤ x ∧ x < 18446744073709551616) : Go.bits .and .u64 x 4294967295 = x % 4294967296 := by
 obtain ⟨n, rfl⟩ := Int.eq_ofNat_of_zero_le h.1
 have := bits_and_u64_nat n 4294967295 (by omega) (by decide)
 rw [show ((4294967295 : Nat) : Int) = 4294967295 from rfl] at this
 rw [this, show (4294967295 : Nat) = 2 ^ 32 - 1 from by decide, Nat.and_two_pow_sub_one_eq_mod]
 omega
theorem mul_bound {x y M : Int} (hx : 0 ≤ x ∧ x ≤ M) (hy : 0 ≤ y ∧ y ≤ M) : 0 ≤ x * y ∧ x * y ≤ M * M :=
 ⟨Int.mul_nonneg hx.1 hy.1, Int.mul_le_mul hx.2 hy.2 hy.1 (by omega)⟩
theorem Mul64_eq (x y : Int) (hx : 0 ≤ x ∧ x < 18446744073709551616) (hy : 0 ≤ y ∧ y < 18446744073709551616) : bits_Mul64.f x y = some (x * y / 18446744073709551616, x * y % 18446744073709551616) := by
 unfold bits_Mul64.f
 rw [and32 x hx, and32 y hy]
 obtain ⟨x1, hx1⟩ : ∃ z, z = x / 4294967296 := ⟨_, rfl⟩
 obtain ⟨x0, hx0⟩ : ∃ z, z = x % 4294967296 := ⟨_, rfl⟩
 obtain ⟨y1, hy1⟩ : ∃ z, z = y / 4294967296 := ⟨_, rfl⟩
 obtain ⟨y0, hy0⟩ : ∃ z, z = y % 4294967296 := ⟨_, rfl⟩
 rw [← hx1, ← hx0, ← hy1, ← hy0]
 have ex : x = 4294967296 * x1 + x0 := by omega
 have ey : y = 4294967296 * y1 + y0 := by omega
 have bx1 : 0 ≤ x1 ∧ x1 ≤ 4294967295 := by omega
 have bx0 : 0 ≤ x0 ∧ x0 ≤ 4294967295 := by omega
 have by1 : 0 ≤ y1 ∧ y1 ≤ 4294967295 := by omega
 have by0 : 0 ≤ y0 ∧ y0 ≤ 4294967295 := by omega
 have p11 := mul_bound bx1 by1
 have p10 := mul_bound bx1 by0
 have p01 := mul_bound bx0 by1
 have p00 := mul_bound bx0 by0
 have exy : x * y = 18446744073709551616 * (x1 * y1) + 4294967296 * (x1 * y0) + 4294967296 * (x0 * y1) + x0 * y0 := by rw [ex, ey]; grind
 generalize x1 * y1 = a11 at *
 generalize x1 * y0 = a10 at *
 generalize x0 * y1 = a01 at *
 generalize x0 * y0 = a00 at *
 generalize x * y = xy at *
 clear hx1 hx0 hy1 hy0 ex ey
 have w0 : IntKind.u64.wrap a00 = a00 := by rw [IntKind.wrap_u64]; omega
 have w1 : IntKind.u64.wrap a10 = a10 := by rw [IntKind.wrap_u64]; omega
 have w2 : IntKind.u64.wrap a01 = a01 := by rw [IntKind.wrap_u64]; omega
 have w3 : IntKind.u64.wrap a11 = a11 := by rw [IntKind.wrap_u64]; omega
 rw [w0, w1, w2, w3]
 have w4 : IntKind.u64.wrap (a10 + a00 / 4294967296) = a10 + a00 / 4294967296 := by rw [IntKind.wrap_u64]; omega
 rw [w4, and32 _ (by omega)]
 have w5 : IntKind.u64.wrap ((a10 + a00 / 4294967296) % 4294967296 + a01) = (a10 + a00 / 4294967296) % 4294967296 + a01 := by rw [IntKind.wrap_u64]; omega
 rw [w5]
 simp only [IntKind.wrap_u64, Option.some.injEq, Prod.mk.injEq]
 refine ⟨?_, trivial⟩
 obtain ⟨t, ht⟩ : ∃ t, t = a10 + a00 / 4294967296 := ⟨_, rfl⟩
 rw [← ht]
 obtain ⟨q, hq⟩ : ∃ q, q = t / 4294967296 := ⟨_, rfl⟩
 obtain ⟨m, hm⟩ : ∃ m, m = t % 4294967296 := ⟨_, rfl⟩
 rw [← hq, ← hm]
 obtain ⟨u, hu⟩ : ∃ u, u = (m + a01) / 4294967296 := ⟨_, rfl⟩
 rw [← hu]
 have b1 : 0 ≤ q ∧ q ≤ 4294967295 := by omega
 have b2 : 0 ≤ u ∧ u ≤ 4294967295 := by omega
 have e2 : xy / 18446744073709551616 = a11 + q + u := by
  have : xy = 18446744073709551616 * (a11 + q + u) + (4294967296 * ((m + a01) % 4294967296) + a00 % 4294967296) := by omega
  omega
 rw [e2, Int.emod_eq_of_lt (by omega) (by omega), Int.emod_eq_of_lt (by omega) (by omega)]
theorem limb4 (x : Int) (h : 0 ≤ x ∧ x < 18446744073709551616) : val 65536 [IntKind.u16.wrap x, IntKind.u16.wrap (x / 65536), IntKind.u16.wrap (x / 4294967296), IntKind.u16.wrap (x / 281474976710656)] = x ∧ Dig 65536 [IntKind.u16.wrap x, IntKind.u16.wrap (x / 65536), IntKind.u16.wrap (x / 4294967296), IntKind.u16.wrap (x / 281474976710656)] := by
 simp only [IntKind.wrap_u16, val, Dig.cons]
 refine ⟨by omega, by omega, by omega, by omega, by omega, Dig.nil⟩
theorem pow4 : (18446744073709551616 : Int) = 65536 ^ 4 := by decide
theorem From_l0 (s : Bool) (l : List Int) (hl : l.length ≤ 1048576) (hd : Dig 18446744073709551616 l) : ∀ (n i k : Nat) (d : List Int), i + n = l.length → n + 4 * l.length + 3 < k → d.length = 4 * i → Dig 65536 d → val 65536 d = val 18446744073709551616 (l.take i) →
  ∃ r, Ev (fun k => tribunalref02_From.l0 k d (i : Int) s l) (s && decide (0 < r.length), r) ∧ Dig 65536 r ∧ Top r ∧ val 65536 r = val 18446744073709551616 l := by
 intro n
 induction n with
 | zero =>
  intro i k d hi hk hdl hdd hdv
  obtain ⟨r, ⟨K, hr⟩, hrd, hrt, hrv⟩ := tribunalref02_trim_ev (B := 65536) (l := d) (by omega) hdd
  refine ⟨r, ⟨K + 1, fun k hk => ?_⟩, hrd, hrt, by rw [hrv, hdv, show i = l.length from by omega, List.take_length]⟩
  obtain ⟨k, rfl⟩ : ∃ j, k = j + 1 := ⟨k - 1, by omega⟩
  simp only [tribunalref02_From.l0]
  rw [if_neg (by omega)]
  simp only [tribunalref02_Make.f, hr k (by omega), Option.bind_some]
  cases s <;> simp
 | succ n ih =>
  intro i k d hi hk hdl hdd hdv
  have hx := hd.get i (by omega)
  obtain ⟨hv4, hd4⟩ := limb4 l[i] hx
  obtain ⟨r, ⟨K, hr⟩, h1, h2, h3⟩ := ih (i + 1) (k - 1) (d ++ [IntKind.u16.wrap l[i], IntKind.u16.wrap (l[i] / 65536), IntKind.u16.wrap (l[i] / 4294967296), IntKind.u16.wrap (l[i] / 281474976710656)]) (by omega) (by omega) (by simp; omega) (Dig.append.2 ⟨hdd, hd4⟩)
   (by rw [val_append, hv4, hdv, val_take_succ _ l i (by omega), hdl, pow4, Int.pow_mul]; rw [Int.mul_comm])
  refine ⟨r, ⟨K + 1, fun k hk => ?_⟩, h1, h2, h3⟩
  obtain ⟨k, rfl⟩ : ∃ j, k = j + 1 := ⟨k - 1, by omega⟩
  simp only [tribunalref02_From.l0]
  rw [if_pos (by omega), if_pos (by omega), rd_nat l i (by omega)]
  simp only [Option.bind_some]
  rw [if_pos (by simp; omega), w64 _ (by omega)]
  have := hr k (by omega)
  rwa [show ((i + 1 : Nat) : Int) = (i : Int) + 1 from by omega] at this
theorem From_ev (s : Bool) (l : List Int) (hl : l.length ≤ 1048576) (hd : Dig 18446744073709551616 l) :
  ∃ r, Ev (fun k => tribunalref02_From.f k s l) (s && decide (0 < r.length), r) ∧ Dig 65536 r ∧ Top r ∧ val 65536 r = val 18446744073709551616 l := by
 have := From_l0 s l hl hd l.length 0 (l.length + 4 * l.length + 4) [] (by omega) (by omega) rfl Dig.nil rfl
 exact this
theorem of_ev (s : Bool) (l : List Int) (hl : l.length ≤ 1048576) (hd : Dig 18446744073709551616 l) :
  ∃ r, Ev (fun k => whole_of.f k s l) (r, s && decide (0 < r.length)) ∧ r.length ≤ l.length ∧ Dig 18446744073709551616 r ∧ Top r ∧ val 18446744073709551616 r = val 18446744073709551616 l := by
 obtain ⟨m, hm, he, ht, hv⟩ := whole_trimmed_l0 l (by omega) l.length (l.length + 1) (Nat.le_refl _) (by omega)
 obtain ⟨K, hr⟩ := Ev.of (fun k => whole_trimmed.mono l k) he
 refine ⟨l.take m, ⟨K, fun k hk => ?_⟩, by rw [List.length_take]; omega, hd.take m, ht, by rw [hv, List.take_length]⟩
 simp only [whole_of.f, hr k hk, Option.bind_some]
 cases s
 ·simp
 simp only [whole_amount_null.f, Option.bind_some, if_true]
 congr 2
 cases h : l.take m <;> simp <;> omega
theorem or16 (x d : Int) (hx : 0 ≤ x ∧ x < 281474976710656) (hd : 0 ≤ d ∧ d < 65536) : Go.bits .or .u64 (IntKind.u64.wrap (x * 65536)) (IntKind.u64.wrap d) = x * 65536 + d := by
 rw [IntKind.wrap_u64, IntKind.wrap_u64, Int.emod_eq_of_lt (by omega) (by omega), Int.emod_eq_of_lt (by omega) (by omega)]
 obtain ⟨n, rfl⟩ := Int.eq_ofNat_of_zero_le hx.1
 obtain ⟨m, rfl⟩ := Int.eq_ofNat_of_zero_le hd.1
 have := bits_or_u64_nat (n * 65536) m (by omega) (by omega)
 rw [show ((n : Int) * 65536) = ((n * 65536 : Nat) : Int) from by omega, this]
 have e : n * 65536 ||| m = n * 65536 + m := by
  have := Nat.shiftLeft_add_eq_or_of_lt (i := 16) (b := m) (by omega) n
  rw [Nat.shiftLeft_eq] at this
  exact this.symm
 rw [e]; omega
theorem To_step (k : Nat) (l D : List Int) (s : Bool) (i j : Nat) (x : Int) (hD : D.length ≤ 8388608) (hd : Dig 65536 D) (hi : i ≤ 8388608) (hj : j ≤ 3) (hx : 0 ≤ x ∧ x < 281474976710656) :
  tribunalref02_To.l1 (k + 1) l (i : Int) x (j : Int) s D = tribunalref02_To.l1 k l (i : Int) (x * 65536 + D.getD (i + j) 0) ((j : Int) - 1) s D := by
 rw [tribunalref02_To.l1, if_pos (by omega), w64 _ (by omega), w64 _ (by omega)]
 by_cases h : i + j < D.length
 ·have hdj := hd.get (i + j) h
  rw [if_pos (by omega), if_pos (by omega), show (i : Int) + (j : Int) = ((i + j : Nat) : Int) from by omega, rd_nat D (i + j) h, or16 x _ hx hdj, List.getD_eq_getElem?_getD, List.getElem?_eq_getElem h, Option.getD_some]
 rw [if_neg (by omega), List.getD_eq_getElem?_getD, List.getElem?_eq_none (by omega), Option.getD_none, IntKind.wrap_u64, Int.emod_eq_of_lt (by omega) (by omega), Int.add_zero]
theorem take4 (D : List Int) (i : Nat) (hi : i < D.length) : val 65536 (D.take (i + 4)) = val 65536 (D.take i) + 65536 ^ i * ((((0 * 65536 + D.getD (i + 3) 0) * 65536 + D.getD (i + 2) 0) * 65536 + D.getD (i + 1) 0) * 65536 + D.getD (i + 0) 0) := by
 have e : D.take (i + 4) = D.take i ++ (D.drop i).take 4 := by rw [List.take_add]
 rw [e, val_append, List.length_take, Nat.min_eq_left (by omega)]
 have h : val 65536 ((D.drop i).take 4) = (((0 * 65536 + D.getD (i + 3) 0) * 65536 + D.getD (i + 2) 0) * 65536 + D.getD (i + 1) 0) * 65536 + D.getD (i + 0) 0 := by
  have g : ∀ j, D.getD (i + j) 0 = (D.drop i).getD j 0 := fun j => by simp [List.getD_eq_getElem?_getD]
  rw [g 0, g 1, g 2, g 3]
  match D.drop i with
  | [] => rfl
  | [a] => simp [val, List.getD_eq_getElem?_getD]
  | [a, b] => simp [val, List.getD_eq_getElem?_getD]; omega
  | [a, b, c] => simp [val, List.getD_eq_getElem?_getD]; omega
  | a :: b :: c :: d :: _ => simp [val, List.getD_eq_getElem?_getD]; omega
 rw [h]
theorem getD_dig {B : Int} (hB : 0 < B) {D : List Int} (hd : Dig B D) (j : Nat) : 0 ≤ D.getD j 0 ∧ D.getD j 0 < B := by
 by_cases h : j < D.length
 ·rw [List.getD_eq_getElem?_getD, List.getElem?_eq_getElem h]; exact hd.get j h
 rw [List.getD_eq_getElem?_getD, List.getElem?_eq_none (by omega)]; simp; exact hB
theorem To_limb (k : Nat) (l D : List Int) (s : Bool) (i : Nat) (hD : D.length ≤ 8388608) (hl : l.length ≤ 8388608) (hd : Dig 65536 D) (hi : i < D.length) :
  ∃ x, 0 ≤ x ∧ x < 18446744073709551616 ∧ val 65536 (D.take (i + 4)) = val 65536 (D.take i) + 65536 ^ i * x ∧ tribunalref02_To.l1 (k + 5) l (i : Int) 0 3 s D = tribunalref02_To.l0 k (l ++ [x]) ((i + 4 : Nat) : Int) s D := by
 have d0 := getD_dig (by decide) hd (i + 0)
 have d1 := getD_dig (by decide) hd (i + 1)
 have d2 := getD_dig (by decide) hd (i + 2)
 have d3 := getD_dig (by decide) hd (i + 3)
 refine ⟨_, ?_, ?_, take4 D i hi, ?_⟩
 ·omega
 ·omega
 have s3 := To_step (k + 4) l D s i 3 0 hD hd (by omega) (by omega) (by omega)
 have s2 := To_step (k + 3) l D s i 2 (0 * 65536 + D.getD (i + 3) 0) hD hd (by omega) (by omega) (by omega)
 have s1 := To_step (k + 2) l D s i 1 ((0 * 65536 + D.getD (i + 3) 0) * 65536 + D.getD (i + 2) 0) hD hd (by omega) (by omega) (by omega)
 have s0 := To_step (k + 1) l D s i 0 (((0 * 65536 + D.getD (i + 3) 0) * 65536 + D.getD (i + 2) 0) * 65536 + D.getD (i + 1) 0) hD hd (by omega) (by omega) (by omega)
 rw [show ((3 : Nat) : Int) = 3 from rfl, show (3 : Int) - 1 = 2 from rfl] at s3
 rw [show ((2 : Nat) : Int) = 2 from rfl, show (2 : Int) - 1 = 1 from rfl] at s2
 rw [show ((1 : Nat) : Int) = 1 from rfl, show (1 : Int) - 1 = 0 from rfl] at s1
 rw [show ((0 : Nat) : Int) = 0 from rfl] at s0
 rw [s3, s2, s1, s0, tribunalref02_To.l1, if_neg (by omega), if_pos (by omega), w64 _ (by omega), show ((i + 4 : Nat) : Int) = (i : Int) + 4 from by omega]
theorem To_l0 (D : List Int) (s : Bool) (hD : D.length ≤ 8388608) (hd : Dig 65536 D) : ∀ (n i : Nat) (l : List Int), D.length ≤ i + n → i = 4 * l.length → i < D.length + 4 → Dig 18446744073709551616 l → val 18446744073709551616 l = val 65536 (D.take i) →
  ∃ r, Ev (fun k => tribunalref02_To.l0 k l (i : Int) s D) (s, r) ∧ Dig 18446744073709551616 r ∧ val 18446744073709551616 r = val 65536 D ∧ D.length ≤ 4 * r.length ∧ 4 * r.length < D.length + 4 := by
 intro n
 induction n using Nat.strongRecOn with
 | ind n ih =>
  intro i l hn hi hi4 hdl hv
  by_cases h : i < D.length
  ·obtain ⟨m, rfl⟩ : ∃ m, n = m + 1 := ⟨n - 1, by omega⟩
   have hx := fun k => To_limb k l D s i hD (by omega) hd h
   obtain ⟨x, hx0, hx1, hxv, _⟩ := hx 0
   have hxk : ∀ k, tribunalref02_To.l1 (k + 5) l (i : Int) 0 3 s D = tribunalref02_To.l0 k (l ++ [x]) ((i + 4 : Nat) : Int) s D := fun k => by
    obtain ⟨x', h0', h1', hv', he⟩ := hx k
    have : x' = x := by
     have e : (65536 : Int) ^ i * x' = 65536 ^ i * x := by omega
     exact Int.eq_of_mul_eq_mul_left (Int.ne_of_gt (pow_pos (by decide) i)) e
    rw [he, this]
   obtain ⟨r, ⟨K, hr⟩, hq⟩ := ih (m + 1 - 4) (by omega) (i + 4) (l ++ [x]) (by omega) (by simp; omega) (by omega) (Dig.append.2 ⟨hdl, by rw [Dig.cons]; exact ⟨⟨hx0, hx1⟩, Dig.nil⟩⟩)
    (by rw [val_snoc, hv, hxv, hi, pow4, Int.pow_mul, Int.mul_comm])
   refine ⟨r, ⟨K + 6, fun k hk => ?_⟩, hq⟩
   obtain ⟨k, rfl⟩ : ∃ j, k = j + 6 := ⟨k - 6, by omega⟩
   show tribunalref02_To.l0 (k + 5 + 1) l (i : Int) s D = _
   rw [tribunalref02_To.l0, if_pos (by omega), hxk]
   exact hr k (by omega)
  refine ⟨l, ⟨1, fun k hk => ?_⟩, hdl, by rw [hv, List.take_of_length_le (by omega)], by omega, by omega⟩
  obtain ⟨k, rfl⟩ : ∃ j, k = j + 1 := ⟨k - 1, by omega⟩
  show tribunalref02_To.l0 (k + 1) l (i : Int) s D = _
  rw [tribunalref02_To.l0, if_neg (by omega)]
theorem To_ev (D : List Int) (s : Bool) (hD : D.length ≤ 8388608) (hd : Dig 65536 D) (ht : Top D) :
  ∃ r, Ev (fun k => tribunalref02_To.f k s D) (s, r) ∧ Dig 18446744073709551616 r ∧ Top r ∧ val 18446744073709551616 r = val 65536 D ∧ D.length ≤ 4 * r.length ∧ 4 * r.length < D.length + 4 := by
 obtain ⟨r, hr, h1, h2, h3, h4⟩ := To_l0 D s hD hd D.length 0 [] (by omega) rfl (by omega) Dig.nil rfl
 refine ⟨r, hr, h1, ?_, h2, h3, h4⟩
 rw [Top_iff]
 intro hne h0
 have hlen : 0 < r.length := List.length_pos_iff.2 hne
 have hDne : D ≠ [] := by intro e; rw [e] at h4; simp at h4; omega
 have hlow := low (B := 65536) (by decide) hd ht hDne
 have e : r = r.take (r.length - 1) ++ [0] := by
  conv => lhs; rw [← List.dropLast_concat_getLast hne, h0]
  rw [List.dropLast_eq_take]
 have hv : val 18446744073709551616 r = val 18446744073709551616 (r.take (r.length - 1)) := by
  conv => lhs; rw [e]
  rw [val_snoc]; simp
 have hlt := val_lt (B := 18446744073709551616) (by decide) (h1.take (r.length - 1))
 rw [List.length_take, Nat.min_eq_left (by omega), pow4, ← Int.pow_mul] at hlt
 rw [pow4] at hv h2
 have hmono : (65536 : Int) ^ (4 * (r.length - 1)) ≤ 65536 ^ (D.length - 1) := by
  have : 4 * (r.length - 1) ≤ D.length - 1 := by omega
  obtain ⟨c, hc⟩ := Nat.exists_eq_add_of_le this
  rw [hc, Int.pow_add]
  have h1 := pow_pos (B := 65536) (by decide) (4 * (r.length - 1))
  have h2 := pow_pos (B := 65536) (by decide) c
  have := Int.mul_le_mul_of_nonneg_left (show (1 : Int) ≤ 65536 ^ c by omega) (Int.le_of_lt h1)
  omega
 omega
theorem Same_l0 (b c : Bool) (l : List Int) (hl : l.length ≤ 8388608) : ∀ (n i : Nat), i + n = l.length → ∀ k, n < k → tribunalref02_Same.l0 k (i : Int) b l c l = some true := by
 intro n
 induction n with
 | zero =>
  intro i hi k hk
  obtain ⟨k, rfl⟩ : ∃ j, k = j + 1 := ⟨k - 1, by omega⟩
  rw [tribunalref02_Same.l0, if_neg (by omega)]
 | succ n ih =>
  intro i hi k hk
  obtain ⟨k, rfl⟩ : ∃ j, k = j + 1 := ⟨k - 1, by omega⟩
  have := ih (i + 1) (by omega) k (by omega)
  rw [tribunalref02_Same.l0, if_pos (by omega), if_pos (by omega), if_pos (by omega), if_pos rfl, w64 _ (by omega), show (i : Int) + 1 = ((i + 1 : Nat) : Int) from by omega]
  exact this
theorem Same_ev (b : Bool) (l : List Int) (hl : l.length ≤ 8388608) : Ev (fun k => tribunalref02_Same.f k b l b l) true := by
 refine ⟨l.length + 2, fun k hk => ?_⟩
 obtain ⟨k, rfl⟩ : ∃ j, k = j + 1 := ⟨k - 1, by omega⟩
 show tribunalref02_Same.f (k + 1) b l b l = some true
 have := Same_l0 b b l hl l.length 0 (by omega) k (by omega)
 rw [tribunalref02_Same.f, if_neg (by simp), show ((l.length : Int) != (l.length : Int)) = false from by simp, tribunalref02_Same.j0, if_neg (by simp)]
 exact this
theorem len_le {r d : List Int} (hr : Dig 18446744073709551616 r) (tr : Top r) (hd : Dig 65536 d) (td : Top d) (h : val 18446744073709551616 r = val 65536 d) : ∃ r', Dig 18446744073709551616 r' ∧ r' = r ∧ (r.length > 4096 ↔ d.length > 16384) := by
 refine ⟨r, hr, rfl, ?_⟩
 constructor
 ·intro h1
  have hne : r ≠ [] := by intro e; rw [e] at h1; simp at h1
  have h2 := low (B := 18446744073709551616) (by decide) hr tr hne
  have h3 := val_lt (B := 65536) (by decide) hd
  rw [pow4, ← Int.pow_mul] at h2
  rw [pow4] at h
  refine Classical.byContradiction fun hc => ?_
  have h4 : (65536 : Int) ^ d.length ≤ 65536 ^ (4 * (r.length - 1)) := by
   obtain ⟨c, hc⟩ := Nat.exists_eq_add_of_le (show d.length ≤ 4 * (r.length - 1) by omega)
   rw [hc, Int.pow_add]
   have g1 := pow_pos (B := 65536) (by decide) d.length
   have g2 := pow_pos (B := 65536) (by decide) c
   have := Int.mul_le_mul_of_nonneg_left (show (1 : Int) ≤ 65536 ^ c by omega) (Int.le_of_lt g1)
   omega
  omega
 intro h1
 have hne : d ≠ [] := by intro e; rw [e] at h1; simp at h1
 have h2 := low (B := 65536) (by decide) hd td hne
 have h3 := val_lt (B := 18446744073709551616) (by decide) hr
 rw [pow4, ← Int.pow_mul] at h3
 rw [pow4] at h
 refine Classical.byContradiction fun hc => ?_
 have h4 : (65536 : Int) ^ (4 * r.length) ≤ 65536 ^ (d.length - 1) := by
  obtain ⟨c, hc⟩ := Nat.exists_eq_add_of_le (show 4 * r.length ≤ d.length - 1 by omega)
  rw [hc, Int.pow_add]
  have g1 := pow_pos (B := 65536) (by decide) (4 * r.length)
  have g2 := pow_pos (B := 65536) (by decide) c
  have := Int.mul_le_mul_of_nonneg_left (show (1 : Int) ≤ 65536 ^ c by omega) (Int.le_of_lt g1)
  omega
 omega
end Go.Proofs.YtodhkpdcpneeeaaDoor.PurePDv
namespace Go.Proofs.YtodhkpdcpneeeaaDoor.Big
structure Num (B n : Int) (s : Bool) (l : List Int) : Prop where
 rep : Rep B (n.natAbs : Int) l
 sign : s = decide (n < 0)
theorem Num.uniq {B n : Int} {s t : Bool} {l m : List Int} (hB : 1 < B) (h : Num B n s l) (g : Num B n t m) : t = s ∧ m = l :=
 ⟨g.sign.trans h.sign.symm, g.rep.uniq hB h.rep⟩
theorem Rep.pos_iff {B n : Int} (hB : 0 < B) {a : List Int} (ha : Rep B n a) : 0 < a.length ↔ 0 < n := by
 have h := ha.nil_iff hB
 have h1 := ha.nonneg hB
 rw [List.length_pos_iff, Ne, h]
 omega
theorem Num.of_rep {B v : Int} (hB : 0 < B) {l : List Int} (h : Rep B v l) (b : Bool) : Num B (if b then -v else v) (b && decide (0 < l.length)) l := by
 have h1 := h.nonneg hB
 have h2 := h.pos_iff hB
 refine ⟨?_, ?_⟩
 ·have e : (((if b then -v else v) : Int).natAbs : Int) = v := by cases b <;> simp <;> omega
  rw [e]; exact h
 cases b
 ·simp; omega
 simp only [Bool.true_and, if_true]
 by_cases h3 : 0 < l.length
 ·have := h2.1 h3; simp [h3]; omega
 have : ¬ 0 < v := fun g => h3 (h2.2 g)
 simp [h3]; omega
theorem Num.of_rep' {B v : Int} (hB : 0 < B) {l : List Int} (h : Rep B v l) (b : Bool) {n : Int} (hn : n = if b then -v else v) : Num B n (b && decide (0 < l.length)) l := hn ▸ Num.of_rep hB h b
theorem mul_signs (n m : Int) : n * m = if (decide (n < 0) != decide (m < 0)) = true then -((n.natAbs : Int) * (m.natAbs : Int)) else (n.natAbs : Int) * (m.natAbs : Int) := by
 rcases Int.lt_or_le n 0 with h | h <;> rcases Int.lt_or_le m 0 with g | g
 ·have e1 : (n.natAbs : Int) = -n := by omega
  have e2 : (m.natAbs : Int) = -m := by omega
  rw [e1, e2]; simp [h, g, Int.neg_mul, Int.mul_neg]
 ·have e1 : (n.natAbs : Int) = -n := by omega
  have e2 : (m.natAbs : Int) = m := by omega
  have g' : ¬ m < 0 := by omega
  rw [e1, e2]; simp [h, g', Int.neg_mul]
 ·have e1 : (n.natAbs : Int) = n := by omega
  have e2 : (m.natAbs : Int) = -m := by omega
  have h' : ¬ n < 0 := by omega
  rw [e1, e2]; simp [h', g, Int.mul_neg]
 have e1 : (n.natAbs : Int) = n := by omega
 have e2 : (m.natAbs : Int) = m := by omega
 have h' : ¬ n < 0 := by omega
 have g' : ¬ m < 0 := by omega
 rw [e1, e2]; simp [h', g']
def sg (n : Int) : Int := if n < 0 then -1 else if n = 0 then 0 else 1
theorem sg_neg {n : Int} (h : n < 0) : sg n = -1 := by unfold sg; rw [if_pos h]
theorem sg_zero {n : Int} (h : n = 0) : sg n = 0 := by unfold sg; rw [if_neg (by omega), if_pos h]
theorem sg_pos {n : Int} (h : 0 < n) : sg n = 1 := by unfold sg; rw [if_neg (by omega), if_neg (by omega)]
theorem lt_of_len {B : Int} (hB : 0 < B) {a b : List Int} (da : Dig B a) (db : Dig B b) (tb : Top b) (h : a.length < b.length) : val B a < val B b := by
 have h1 := val_lt hB da
 have hne : b ≠ [] := by intro e; rw [e] at h; simp at h
 have h2 := low hB db tb hne
 have h4 : B ^ a.length ≤ B ^ (b.length - 1) := by
  obtain ⟨c, hc⟩ := Nat.exists_eq_add_of_le (show a.length ≤ b.length - 1 by omega)
  rw [hc, Int.pow_add]
  have g1 := pow_pos hB a.length
  have g2 := pow_pos hB c
  have := Int.mul_le_mul_of_nonneg_left (show (1 : Int) ≤ B ^ c by omega) (Int.le_of_lt g1)
  omega
 omega
theorem lt_of_top {B : Int} (hB : 0 < B) {a b : List Int} (da : Dig B a) (db : Dig B b) (n : Nat) (ha : n < a.length) (hb : n < b.length) (h : a[n] < b[n]) : val B (a.take (n + 1)) < val B (b.take (n + 1)) := by
 rw [val_take_succ B a n ha, val_take_succ B b n hb]
 have h1 := val_lt hB (da.take n)
 rw [List.length_take, Nat.min_eq_left (by omega)] at h1
 have h2 := val_nonneg hB (db.take n)
 have h3 := Int.mul_le_mul_of_nonneg_right (show a[n] + 1 ≤ b[n] by omega) (Int.le_of_lt (pow_pos hB n))
 rw [Int.add_mul, Int.one_mul] at h3
 omega
theorem add_step (V c c' s x y X Y P B : Int) (hs : c' * B + s = x + y + c) (hv : V + c * P = X + Y) : (V + s * P) + c' * (P * B) = (X + x * P) + (Y + y * P) := by
 have h1 : c' * (P * B) + s * P = (c' * B + s) * P := by rw [Int.add_mul, Int.mul_assoc, Int.mul_comm P B]
 rw [hs, Int.add_mul, Int.add_mul] at h1
 omega
theorem sub_step (V c c' s x y X Y P B : Int) (hs : s - c' * B = x - y - c) (hv : V - c * P = X - Y) : (V + s * P) - c' * (P * B) = (X + x * P) - (Y + y * P) := by
 have h1 : s * P - c' * (P * B) = (s - c' * B) * P := by rw [Int.sub_mul, Int.mul_assoc, Int.mul_comm P B]
 rw [hs, Int.sub_mul, Int.sub_mul] at h1
 omega
theorem val_take_getD (B : Int) (l : List Int) (i : Nat) : val B (l.take (i + 1)) = val B (l.take i) + l.getD i 0 * B ^ i := by
 by_cases h : i < l.length
 ·rw [val_take_succ B l i h, List.getD_eq_getElem?_getD, List.getElem?_eq_getElem h, Option.getD_some]
 rw [List.take_of_length_le (by omega), List.take_of_length_le (by omega), List.getD_eq_getElem?_getD, List.getElem?_eq_none (by omega), Option.getD_none, Int.zero_mul, Int.add_zero]
end Go.Proofs.YtodhkpdcpneeeaaDoor.Big
namespace Go.Proofs.YtodhkpdcpneeeaaDoor.PurePDv
set_option linter.unusedVariables false
set_option linter.unusedSimpArgs false
open Go.RowKit Go.Proofs.YtodhkpdcpneeeaaDoorW.PrintWords Go.Proofs.YtodhkpdcpneeeaaDoorW.PrintLast Go.Proofs.YtodhkpdcpneeeaaDoorW.PrintMore Go.Proofs.YtodhkpdcpneeeaaDoor.PDv Go.Proofs.YtodhkpdcpneeeaaDoor Go.Proofs.YtodhkpdcpneeeaaDoor.Mine Big
theorem pow_le_pow {B : Int} (hB : 0 < B) {m n : Nat} (h : m ≤ n) : B ^ m ≤ B ^ n := by
 obtain ⟨c, rfl⟩ := Nat.exists_eq_add_of_le h
 rw [Int.pow_add]
 have g1 := pow_pos hB m
 have g2 := pow_pos hB c
 have := Int.mul_le_mul_of_nonneg_left (show (1 : Int) ≤ B ^ c by omega) (Int.le_of_lt g1)
 omega
theorem rep_len {B v : Int} (hB : 0 < B) {r : List Int} (h : Rep B v r) {m : Nat} (hv : v < B ^ m) : r.length ≤ m := by
 refine Classical.byContradiction fun hc => ?_
 have hne : r ≠ [] := by intro e; rw [e] at hc; simp at hc
 have h1 := h.low hB hne
 have h2 := pow_le_pow hB (show m ≤ r.length - 1 by omega)
 omega
theorem len4 {l d : List Int} {v : Int} (hl : Dig 18446744073709551616 l) (hv : val 18446744073709551616 l = v) (h : Rep 65536 v d) : d.length ≤ 4 * l.length := by
 by_cases hne : d = []
 ·rw [hne]; simp
 have h1 := h.low (by decide) hne
 have h2 := val_lt (B := 18446744073709551616) (by decide) hl
 rw [hv, pow4, ← Int.pow_mul] at h2
 refine Classical.byContradiction fun hc => ?_
 have h4 : (65536 : Int) ^ (4 * l.length) ≤ 65536 ^ (d.length - 1) := by
  obtain ⟨c, hc⟩ := Nat.exists_eq_add_of_le (show 4 * l.length ≤ d.length - 1 by omega)
  rw [hc, Int.pow_add]
  have g1 := pow_pos (B := 65536) (by decide) (4 * l.length)
  have g2 := pow_pos (B := 65536) (by decide) c
  have := Int.mul_le_mul_of_nonneg_left (show (1 : Int) ≤ 65536 ^ c by omega) (Int.le_of_lt g1)
  omega
 omega
theorem arg_num (s : Bool) (l : List Int) (hl : l.length ≤ 1048576) (hd : Dig 18446744073709551616 l) : ∃ (n : Int) (t : Bool) (r d : List Int),
  Ev (fun k => whole_of.f k s l) (r, t) ∧ Ev (fun k => tribunalref02_From.f k s l) (t, d) ∧ Num 18446744073709551616 n t r ∧ Num 65536 n t d ∧ r.length ≤ l.length ∧ d.length ≤ 4 * l.length := by
 obtain ⟨r, hr, hrl, hrd, hrt, hrv⟩ := of_ev s l hl hd
 obtain ⟨d, hdE, hdd, hdt, hdv⟩ := From_ev s l hl hd
 have R1 : Rep 18446744073709551616 (val 18446744073709551616 l) r := ⟨hrd, hrt, hrv⟩
 have R2 : Rep 65536 (val 18446744073709551616 l) d := ⟨hdd, hdt, hdv⟩
 have N1 := Num.of_rep (by decide) R1 s
 have N2 := Num.of_rep (by decide) R2 s
 have e : (s && decide (0 < d.length)) = (s && decide (0 < r.length)) := N2.sign.trans N1.sign.symm
 refine ⟨_, _, r, d, hr, ?_, N1, e ▸ N2, hrl, len4 hd rfl R2⟩
 rw [← e]; exact hdE
theorem signed_eq (m : List Int) (b : Bool) : whole_signed.f m b = some (m, b && decide (0 < m.length)) := by
 cases b
 ·simp [whole_signed.f]
 simp only [whole_signed.f, whole_amount_null.f, Option.bind_some, if_true]
 congr 2
 cases m <;> simp <;> omega
theorem awake_ev : Ev (fun k => tribunallaw02_awake.f k) true := Ev.of (fun k => tribunallaw02_awake.mono k) (k := 40) (by kernel_rfl)
theorem dig_of_wf {l : List Int} (h : ∀ z ∈ l, (Lit.int .u64 z).wf = true) : Dig 18446744073709551616 l := fun z hz => by
 have := Go.bounds_u64 (h z hz)
 omega
theorem whole_amount_cmp_l0 (a b : List Int) (hl : a.length ≤ 8388608) (hab : a.length = b.length) (da : Dig 18446744073709551616 a) (db : Dig 18446744073709551616 b) : ∀ (n k : Nat) (i : Int), n ≤ a.length → n < k → i = (n : Int) - 1 → whole_amount_cmp.l0 k a b i = some (sg (val 18446744073709551616 (a.take n) - val 18446744073709551616 (b.take n))) := by
 intro n
 induction n with
 | zero =>
  intro k i _ hk hi
  obtain ⟨k, rfl⟩ : ∃ j, k = j + 1 := ⟨k - 1, by omega⟩
  rw [whole_amount_cmp.l0, if_neg (by omega), sg_zero (by simp)]
 | succ n ih =>
  intro k i hn hk hi
  obtain ⟨k, rfl⟩ : ∃ j, k = j + 1 := ⟨k - 1, by omega⟩
  have hi' : i = (n : Int) := by omega
  subst hi'
  have hna : n < a.length := by omega
  have hnb : n < b.length := by omega
  rw [whole_amount_cmp.l0, if_pos (by omega), if_pos (by omega), if_pos (by omega), if_pos (by omega), rd_nat a n hna, rd_nat b n hnb]
  rcases Int.lt_trichotomy a[n] b[n] with h | h | h
  ·have := lt_of_top (by decide) da db n hna hnb h
   rw [if_neg (by omega), if_pos h]
   rw [sg_neg (by omega)]
  ·rw [if_pos h]
   rw [w64 _ (by omega), ih k _ (by omega) (by omega) rfl, val_take_succ 18446744073709551616 a n hna, val_take_succ 18446744073709551616 b n hnb, h]
   congr 2
   omega
  have := lt_of_top (by decide) db da n hnb hna h
  rw [if_neg (by omega), if_neg (by omega)]
  rw [sg_pos (by omega)]
theorem whole_amount_cmp_ev (a b : List Int) (ha : a.length ≤ 8388608) (hb : b.length ≤ 8388608) (da : Dig 18446744073709551616 a) (db : Dig 18446744073709551616 b) (ta : Top a) (tb : Top b) : Ev (fun k => whole_amount_cmp.f k a b) (sg (val 18446744073709551616 a - val 18446744073709551616 b)) := by
 refine ⟨a.length + 1, fun k hk => ?_⟩
 show whole_amount_cmp.f k a b = _
 rw [whole_amount_cmp.f]
 rcases Nat.lt_trichotomy a.length b.length with h | h | h
 ·have := lt_of_len (by decide) da db tb h
  rw [if_neg (by omega), if_pos (by omega), sg_neg (by omega)]
 ·rw [if_pos (by omega), w64 _ (by omega), whole_amount_cmp_l0 a b ha h da db a.length k _ (Nat.le_refl _) (by omega) rfl, List.take_length, h, List.take_length]
 have := lt_of_len (by decide) db da ta h
 rw [if_neg (by omega), if_neg (by omega), sg_pos (by omega)]
theorem tribunalref02_cmpD_l0 (a b : List Int) (hl : a.length ≤ 8388608) (hab : a.length = b.length) (da : Dig 65536 a) (db : Dig 65536 b) : ∀ (n k : Nat) (i : Int), n ≤ a.length → n < k → i = (n : Int) - 1 → tribunalref02_cmpD.l0 k a b i = some (sg (val 65536 (a.take n) - val 65536 (b.take n))) := by
 intro n
 induction n with
 | zero =>
  intro k i _ hk hi
  obtain ⟨k, rfl⟩ : ∃ j, k = j + 1 := ⟨k - 1, by omega⟩
  rw [tribunalref02_cmpD.l0, if_neg (by omega), sg_zero (by simp)]
 | succ n ih =>
  intro k i hn hk hi
  obtain ⟨k, rfl⟩ : ∃ j, k = j + 1 := ⟨k - 1, by omega⟩
  have hi' : i = (n : Int) := by omega
  subst hi'
  have hna : n < a.length := by omega
  have hnb : n < b.length := by omega
  rw [tribunalref02_cmpD.l0, if_pos (by omega), if_pos (by omega), if_pos (by omega), if_pos (by omega), rd_nat a n hna, rd_nat b n hnb]
  rcases Int.lt_trichotomy a[n] b[n] with h | h | h
  ·have := lt_of_top (by decide) da db n hna hnb h
   rw [if_pos h]
   rw [sg_neg (by omega)]
  ·rw [if_neg (by omega), if_neg (by omega)]
   rw [w64 _ (by omega), ih k _ (by omega) (by omega) rfl, val_take_succ 65536 a n hna, val_take_succ 65536 b n hnb, h]
   congr 2
   omega
  have := lt_of_top (by decide) db da n hnb hna h
  rw [if_neg (by omega), if_pos h]
  rw [sg_pos (by omega)]
theorem tribunalref02_cmpD_ev (a b : List Int) (ha : a.length ≤ 8388608) (hb : b.length ≤ 8388608) (da : Dig 65536 a) (db : Dig 65536 b) (ta : Top a) (tb : Top b) : Ev (fun k => tribunalref02_cmpD.f k a b) (sg (val 65536 a - val 65536 b)) := by
 refine ⟨a.length + 1, fun k hk => ?_⟩
 show tribunalref02_cmpD.f k a b = _
 rw [tribunalref02_cmpD.f]
 rcases Nat.lt_trichotomy a.length b.length with h | h | h
 ·have := lt_of_len (by decide) da db tb h
  rw [if_neg (by omega), if_pos (by omega), sg_neg (by omega)]
 ·rw [if_pos (by omega), w64 _ (by omega), tribunalref02_cmpD_l0 a b ha h da db a.length k _ (Nat.le_refl _) (by omega) rfl, List.take_length, h, List.take_length]
 have := lt_of_len (by decide) db da ta h
 rw [if_neg (by omega), if_neg (by omega), sg_pos (by omega)]
theorem rd_getD (l : List Int) (n : Nat) : rd l (n : Int) = l.getD n 0 := by simp [rd]
theorem getD_ge (l : List Int) (n : Nat) (h : l.length ≤ n) : l.getD n 0 = 0 := by
 rw [List.getD_eq_getElem?_getD, List.getElem?_eq_none h, Option.getD_none]
theorem Add64_eq (x y c : Int) (hx : 0 ≤ x) (hy : 0 ≤ y) (hc : 0 ≤ c ∧ c ≤ 1) : bits_Add64.f x y c = some ((x + y + c) % 18446744073709551616, (x + y + c) / 18446744073709551616) := by
 rw [bits_Add64.f, if_pos ⟨hx, hy, hc.1, hc.2⟩]
theorem Sub64_eq (x y c : Int) (hx : 0 ≤ x) (hy : 0 ≤ y ∧ y < 18446744073709551616) (hc : 0 ≤ c ∧ c ≤ 1) : bits_Sub64.f x y c = some ((x - y - c) % 18446744073709551616, if x < y + c then 1 else 0) := by
 rw [bits_Sub64.f, if_pos ⟨hx, hy.1, hy.2, hc.1, hc.2⟩]
theorem plus_step (k : Nat) (a b out : List Int) (c : Int) (i : Nat) (hi : i < a.length) (hl : a.length ≤ 8388608) (ho : out.length = i) (da : Dig 18446744073709551616 a) (db : Dig 18446744073709551616 b) (hc : 0 ≤ c ∧ c ≤ 1) :
  whole_amount_plus.l0 (k + 1) a b out c (a.length : Int) (i : Int) = whole_amount_plus.l0 k a b (out ++ [(a.getD i 0 + b.getD i 0 + c) % 18446744073709551616]) ((a.getD i 0 + b.getD i 0 + c) / 18446744073709551616) (a.length : Int) ((i + 1 : Nat) : Int) := by
 have ga := getD_dig (by decide) da i
 have gb := getD_dig (by decide) db i
 rw [whole_amount_plus.l0, if_pos (by omega), rd_getD, rd_getD, show wrap64 ((i : Int) + 1) = ((i + 1 : Nat) : Int) from by rw [w64 _ (by omega)]; omega]
 by_cases h : (i : Int) < (b.length : Int)
 ·rw [if_pos h, if_pos (by omega), if_pos (by omega), Add64_eq _ _ _ ga.1 gb.1 hc, Option.bind_some, if_pos (by omega)]
 rw [if_neg h, if_pos (by omega), if_pos (by omega), Add64_eq _ _ _ ga.1 (by decide) hc, Option.bind_some, if_pos (by omega), getD_ge b i (by omega)]
theorem plus_l0 (a b : List Int) (hl : a.length ≤ 8388608) (hb : b.length ≤ a.length) (da : Dig 18446744073709551616 a) (db : Dig 18446744073709551616 b) : ∀ (n i : Nat) (out : List Int) (c : Int), i + n = a.length → out.length = i → Dig 18446744073709551616 out → 0 ≤ c ∧ c ≤ 1 → val 18446744073709551616 out + c * 18446744073709551616 ^ i = val 18446744073709551616 (a.take i) + val 18446744073709551616 (b.take i) →
  ∃ r, Ev (fun k => whole_amount_plus.l0 k a b out c (a.length : Int) (i : Int)) r ∧ Rep 18446744073709551616 (val 18446744073709551616 a + val 18446744073709551616 b) r := by
 intro n
 induction n with
 | zero =>
  intro i out c hi ho hd hc hv
  obtain ⟨r, ⟨K, hr⟩, h1, h2, h3⟩ := whole_trimmed_ev (B := 18446744073709551616) (l := out ++ [c]) (by simp; omega) (Dig.append.2 ⟨hd, by rw [Dig.cons]; exact ⟨⟨hc.1, by omega⟩, Dig.nil⟩⟩)
  refine ⟨r, ⟨K + 1, fun k hk => ?_⟩, h1, h2, ?_⟩
  ·obtain ⟨k, rfl⟩ : ∃ j, k = j + 1 := ⟨k - 1, by omega⟩
   have hk' : whole_trimmed.f k (out ++ [c]) = some r := hr k (by omega)
   show whole_amount_plus.l0 (k + 1) a b out c (a.length : Int) (i : Int) = some r
   rw [whole_amount_plus.l0, if_neg (by omega), if_pos (by omega), hk', Option.bind_some]
  rw [h3, val_snoc, ho, hv, List.take_of_length_le (by omega), List.take_of_length_le (by omega)]
 | succ n ih =>
  intro i out c hi ho hd hc hv
  have hil : i < a.length := by omega
  have ga := getD_dig (by decide) da i
  have gb := getD_dig (by decide) db i
  obtain ⟨r, ⟨K, hr⟩, hq⟩ := ih (i + 1) (out ++ [(a.getD i 0 + b.getD i 0 + c) % 18446744073709551616]) ((a.getD i 0 + b.getD i 0 + c) / 18446744073709551616) (by omega) (by simp; omega)
   (Dig.append.2 ⟨hd, by rw [Dig.cons]; exact ⟨by omega, Dig.nil⟩⟩) (by omega)
   (by rw [val_snoc, ho, val_take_getD, val_take_getD, Int.pow_succ]; exact add_step _ c _ _ _ _ _ _ _ _ (by omega) hv)
  refine ⟨r, ⟨K + 1, fun k hk => ?_⟩, hq⟩
  obtain ⟨k, rfl⟩ : ∃ j, k = j + 1 := ⟨k - 1, by omega⟩
  show whole_amount_plus.l0 (k + 1) a b out c (a.length : Int) (i : Int) = some r
  rw [plus_step k a b out c i hil hl ho da db hc]
  exact hr k (by omega)
theorem plus_j0 (a b : List Int) (hl : a.length ≤ 8388600) (hb : b.length ≤ a.length) (da : Dig 18446744073709551616 a) (db : Dig 18446744073709551616 b) :
  ∃ r, Ev (fun k => whole_amount_plus.j0 k a b) r ∧ Rep 18446744073709551616 (val 18446744073709551616 a + val 18446744073709551616 b) r := by
 obtain ⟨r, ⟨K, hr⟩, hq⟩ := plus_l0 a b (by omega) hb da db a.length 0 [] 0 (by omega) rfl Dig.nil (by omega) (by simp [val])
 refine ⟨r, ⟨K + 1, fun k hk => ?_⟩, hq⟩
 obtain ⟨k, rfl⟩ : ∃ j, k = j + 1 := ⟨k - 1, by omega⟩
 show whole_amount_plus.j0 (k + 1) a b = some r
 have hw : wrap64 ((a.length : Int) + 1) = ((a.length + 1 : Nat) : Int) := by rw [w64 _ (by omega)]; omega
 rw [whole_amount_plus.j0, hw, if_pos (by omega), Int.toNat_natCast, if_pos (by omega)]
 exact hr k (by omega)
theorem plus_ev (a b : List Int) (ha : a.length ≤ 8388600) (hb : b.length ≤ 8388600) (da : Dig 18446744073709551616 a) (db : Dig 18446744073709551616 b) :
  ∃ r, Ev (fun k => whole_amount_plus.f k a b) r ∧ Rep 18446744073709551616 (val 18446744073709551616 a + val 18446744073709551616 b) r := by
 by_cases h : a.length < b.length
 ·obtain ⟨r, ⟨K, hr⟩, hq⟩ := plus_j0 b a hb (by omega) db da
  refine ⟨r, ⟨K, fun k hk => ?_⟩, by rw [Int.add_comm]; exact hq⟩
  show whole_amount_plus.f k a b = some r
  rw [whole_amount_plus.f, if_pos (by omega)]
  exact hr k hk
 obtain ⟨r, ⟨K, hr⟩, hq⟩ := plus_j0 a b ha (by omega) da db
 refine ⟨r, ⟨K, fun k hk => ?_⟩, hq⟩
 show whole_amount_plus.f k a b = some r
 rw [whole_amount_plus.f, if_neg (by omega)]
 exact hr k hk
theorem num_len {B n m u : Int} (hB : 2 ≤ B) {s t x : Bool} {a b r : List Int} (ha : Num B n s a) (hb : Num B m t b) (hr : Num B u x r) (hu : (u.natAbs : Int) ≤ n.natAbs + m.natAbs) {L : Nat} (la : a.length ≤ L) (lb : b.length ≤ L) : r.length ≤ L + 1 := by
 refine rep_len (by omega) hr.rep ?_
 have h1 := ha.rep.lt (by omega)
 have h2 := hb.rep.lt (by omega)
 have h3 := pow_le_pow (B := B) (by omega) la
 have h4 := pow_le_pow (B := B) (by omega) lb
 rw [Int.pow_succ]
 have h5 := pow_pos (B := B) (by omega) L
 have h6 := Int.mul_le_mul_of_nonneg_left hB (Int.le_of_lt h5)
 omega
theorem sg_ge {n : Int} : sg n ≥ 0 ↔ 0 ≤ n := by unfold sg; split <;> (try split) <;> omega
theorem len_of_le {B : Int} (hB : 0 < B) {a b : List Int} (da : Dig B a) (db : Dig B b) (tb : Top b) (h : val B b ≤ val B a) : b.length ≤ a.length := by
 refine Classical.byContradiction fun hc => ?_
 have := lt_of_len hB da db tb (by omega)
 omega
theorem minus_step (k : Nat) (a b out : List Int) (c : Int) (i : Nat) (hi : i < a.length) (hl : a.length ≤ 8388608) (ho : out.length = i) (da : Dig 18446744073709551616 a) (db : Dig 18446744073709551616 b) (hc : 0 ≤ c ∧ c ≤ 1) :
  whole_amount_minus.l0 (k + 1) a b out c (a.length : Int) (i : Int) = whole_amount_minus.l0 k a b (out ++ [(a.getD i 0 - b.getD i 0 - c) % 18446744073709551616]) (if a.getD i 0 < b.getD i 0 + c then 1 else 0) (a.length : Int) ((i + 1 : Nat) : Int) := by
 have ga := getD_dig (by decide) da i
 have gb := getD_dig (by decide) db i
 rw [whole_amount_minus.l0, if_pos (by omega), rd_getD, rd_getD, show wrap64 ((i : Int) + 1) = ((i + 1 : Nat) : Int) from by rw [w64 _ (by omega)]; omega]
 by_cases h : (i : Int) < (b.length : Int)
 ·rw [if_pos h, if_pos (by omega), if_pos (by omega), Sub64_eq _ _ _ ga.1 gb hc, Option.bind_some, if_pos (by omega)]
 rw [if_neg h, if_pos (by omega), if_pos (by omega), Sub64_eq _ _ _ ga.1 (by decide) hc, Option.bind_some, if_pos (by omega), getD_ge b i (by omega)]
theorem borrow_none {V c P X Y : Int} (hV : 0 ≤ V ∧ V < P) (hc : 0 ≤ c ∧ c ≤ 1) (hle : Y ≤ X) (h : V - c * P = X - Y) : V = X - Y := by
 have : c = 0 ∨ c = 1 := by omega
 rcases this with h1 | h1
 ·rw [h1] at h; omega
 rw [h1] at h; omega
theorem minus_l0 (a b : List Int) (hl : a.length ≤ 8388608) (hb : b.length ≤ a.length) (hle : val 18446744073709551616 b ≤ val 18446744073709551616 a) (da : Dig 18446744073709551616 a) (db : Dig 18446744073709551616 b) : ∀ (n i : Nat) (out : List Int) (c : Int), i + n = a.length → out.length = i → Dig 18446744073709551616 out → 0 ≤ c ∧ c ≤ 1 → val 18446744073709551616 out - c * 18446744073709551616 ^ i = val 18446744073709551616 (a.take i) - val 18446744073709551616 (b.take i) →
  ∃ r, Ev (fun k => whole_amount_minus.l0 k a b out c (a.length : Int) (i : Int)) r ∧ Rep 18446744073709551616 (val 18446744073709551616 a - val 18446744073709551616 b) r := by
 intro n
 induction n with
 | zero =>
  intro i out c hi ho hd hc hv
  obtain ⟨r, ⟨K, hr⟩, h1, h2, h3⟩ := whole_trimmed_ev (B := 18446744073709551616) (l := out) (by omega) hd
  refine ⟨r, ⟨K + 1, fun k hk => ?_⟩, h1, h2, ?_⟩
  ·obtain ⟨k, rfl⟩ : ∃ j, k = j + 1 := ⟨k - 1, by omega⟩
   have hk' : whole_trimmed.f k out = some r := hr k (by omega)
   show whole_amount_minus.l0 (k + 1) a b out c (a.length : Int) (i : Int) = some r
   rw [whole_amount_minus.l0, if_neg (by omega), hk', Option.bind_some]
  rw [h3]
  rw [List.take_of_length_le (by omega), List.take_of_length_le (by omega)] at hv
  have g1 := val_lt (B := 18446744073709551616) (by decide) hd
  have g2 := val_nonneg (B := 18446744073709551616) (by decide) hd
  rw [ho] at g1
  exact borrow_none ⟨g2, g1⟩ hc hle hv
 | succ n ih =>
  intro i out c hi ho hd hc hv
  have hil : i < a.length := by omega
  have ga := getD_dig (by decide) da i
  have gb := getD_dig (by decide) db i
  obtain ⟨r, ⟨K, hr⟩, hq⟩ := ih (i + 1) (out ++ [(a.getD i 0 - b.getD i 0 - c) % 18446744073709551616]) (if a.getD i 0 < b.getD i 0 + c then 1 else 0) (by omega) (by simp; omega)
   (Dig.append.2 ⟨hd, by rw [Dig.cons]; exact ⟨by omega, Dig.nil⟩⟩) (by split <;> omega)
   (by rw [val_snoc, ho, val_take_getD, val_take_getD, Int.pow_succ]; exact sub_step _ c _ _ _ _ _ _ _ _ (by split <;> omega) hv)
  refine ⟨r, ⟨K + 1, fun k hk => ?_⟩, hq⟩
  obtain ⟨k, rfl⟩ : ∃ j, k = j + 1 := ⟨k - 1, by omega⟩
  show whole_amount_minus.l0 (k + 1) a b out c (a.length : Int) (i : Int) = some r
  rw [minus_step k a b out c i hil hl ho da db hc]
  exact hr k (by omega)
theorem minus_ev (a b : List Int) (ha : a.length ≤ 8388608) (hb : b.length ≤ a.length) (hle : val 18446744073709551616 b ≤ val 18446744073709551616 a) (da : Dig 18446744073709551616 a) (db : Dig 18446744073709551616 b) :
  ∃ r, Ev (fun k => whole_amount_minus.f k a b) r ∧ Rep 18446744073709551616 (val 18446744073709551616 a - val 18446744073709551616 b) r := by
 obtain ⟨r, ⟨K, hr⟩, hq⟩ := minus_l0 a b ha hb hle da db a.length 0 [] 0 (by omega) rfl Dig.nil (by omega) (by simp [val])
 refine ⟨r, ⟨K, fun k hk => ?_⟩, hq⟩
 show whole_amount_minus.f k a b = some r
 rw [whole_amount_minus.f, if_pos (by omega), Int.toNat_natCast, if_pos (by omega)]
 exact hr k hk
theorem plus_num {n m : Int} {s t : Bool} {a b : List Int} (ha : Num 18446744073709551616 n s a) (hb : Num 18446744073709551616 m t b) (la : a.length ≤ 8388600) (lb : b.length ≤ 8388600) :
  ∃ u r, Ev (fun k => whole_number_plus.f k a s b t) (r, u) ∧ Num 18446744073709551616 (n + m) u r := by
 have e1 := ha.sign
 have e2 := hb.sign
 by_cases hst : s = t
 ·obtain ⟨r, ⟨K, hr⟩, hR⟩ := plus_ev a b la lb ha.rep.dig hb.rep.dig
  rw [ha.rep.val, hb.rep.val] at hR
  refine ⟨_, r, ⟨K, fun k hk => ?_⟩, Num.of_rep' (by decide) hR s (by subst hst; cases s <;> simp at e1 e2 ⊢ <;> omega)⟩
  have g : whole_amount_plus.f k a b = some r := hr k hk
  show whole_number_plus.f k a s b t = _
  rw [whole_number_plus.f, if_pos (by rw [hst]; exact beq_self_eq_true t), g, Option.bind_some, signed_eq, Option.bind_some]
 obtain ⟨K1, h1⟩ := whole_amount_cmp_ev a b (by omega) (by omega) ha.rep.dig hb.rep.dig ha.rep.top hb.rep.top
 have hne : ¬ (s == t) = true := by intro h; exact hst (eq_of_beq h)
 by_cases hle : val 18446744073709551616 b ≤ val 18446744073709551616 a
 ·obtain ⟨r, ⟨K, hr⟩, hR⟩ := minus_ev a b (by omega) (len_of_le (by decide) ha.rep.dig hb.rep.dig hb.rep.top hle) hle ha.rep.dig hb.rep.dig
  have hle' := hle
  rw [ha.rep.val, hb.rep.val] at hR hle'
  refine ⟨_, r, ⟨max K K1, fun k hk => ?_⟩, Num.of_rep' (by decide) hR s (by cases s <;> cases t <;> simp at hst e1 e2 ⊢ <;> omega)⟩
  have g : whole_amount_minus.f k a b = some r := hr k (by omega)
  have g1 : whole_amount_cmp.f k a b = _ := h1 k (by omega)
  show whole_number_plus.f k a s b t = _
  rw [whole_number_plus.f, if_neg hne, g1, Option.bind_some, if_pos (sg_ge.2 (by omega)), g, Option.bind_some, signed_eq, Option.bind_some]
 have hle2 : val 18446744073709551616 a ≤ val 18446744073709551616 b := by omega
 obtain ⟨r, ⟨K, hr⟩, hR⟩ := minus_ev b a (by omega) (len_of_le (by decide) hb.rep.dig ha.rep.dig ha.rep.top hle2) hle2 hb.rep.dig ha.rep.dig
 have hle' := hle2
 rw [ha.rep.val, hb.rep.val] at hR hle'
 refine ⟨_, r, ⟨max K K1, fun k hk => ?_⟩, Num.of_rep' (by decide) hR t (by cases s <;> cases t <;> simp at hst e1 e2 ⊢ <;> omega)⟩
 have g : whole_amount_minus.f k b a = some r := hr k (by omega)
 have g1 : whole_amount_cmp.f k a b = _ := h1 k (by omega)
 show whole_number_plus.f k a s b t = _
 rw [whole_number_plus.f, if_neg hne, g1, Option.bind_some, if_neg (fun x => hle (by have := sg_ge.1 x; omega)), g, Option.bind_some, signed_eq, Option.bind_some]
theorem opposite_num {n : Int} {s : Bool} {a : List Int} (ha : Num 18446744073709551616 n s a) : ∃ u, whole_number_opposite.f a s = some (a, u) ∧ Num 18446744073709551616 (-n) u a := by
 have e1 := ha.sign
 refine ⟨_, ?_, Num.of_rep' (by decide) ha.rep (!s) (by cases s <;> simp at e1 ⊢ <;> omega)⟩
 rw [whole_number_opposite.f, signed_eq, Option.bind_some]
theorem minus_num {n m : Int} {s t : Bool} {a b : List Int} (ha : Num 18446744073709551616 n s a) (hb : Num 18446744073709551616 m t b) (la : a.length ≤ 8388600) (lb : b.length ≤ 8388600) :
  ∃ u r, Ev (fun k => whole_number_minus.f k a s b t) (r, u) ∧ Num 18446744073709551616 (n - m) u r := by
 obtain ⟨v, hv, hb'⟩ := opposite_num hb
 obtain ⟨u, r, ⟨K, hr⟩, hR⟩ := plus_num ha hb' la lb
 refine ⟨u, r, ⟨K, fun k hk => ?_⟩, by rw [Int.sub_eq_add_neg]; exact hR⟩
 have g : whole_number_plus.f k a s b v = _ := hr k hk
 show whole_number_minus.f k a s b t = _
 rw [whole_number_minus.f, hv, Option.bind_some, g, Option.bind_some]
theorem addD_step (k : Nat) (a b out : List Int) (c : Int) (i : Nat) (hi : i < a.length ∨ i < b.length ∨ 0 < c) (ha : a.length ≤ 8388608) (hb : b.length ≤ 8388608) (hi2 : i ≤ 8388608) (ho : out.length = i) (da : Dig 65536 a) (db : Dig 65536 b) (hc : 0 ≤ c ∧ c ≤ 1) :
  tribunalref02_addD.l0 (k + 2) a b out c (i : Int) = tribunalref02_addD.l0 k a b (out ++ [(a.getD i 0 + b.getD i 0 + c) % 65536]) ((a.getD i 0 + b.getD i 0 + c) / 65536) ((i + 1 : Nat) : Int) := by
 have ga := getD_dig (by decide) da i
 have gb := getD_dig (by decide) db i
 have hw : wrap64 ((i : Int) + 1) = ((i + 1 : Nat) : Int) := by rw [w64 _ (by omega)]; omega
 have e1 : tribunalref02_addD.l0 (k + 1 + 1) a b out c (i : Int) = tribunalref02_addD.j1 (k + 1) a b out c (i : Int) true := by
  rw [tribunalref02_addD.l0]
  by_cases h1 : (i : Int) < (a.length : Int)
  ·rw [if_pos h1]
  by_cases h2 : (i : Int) < (b.length : Int)
  ·rw [if_neg h1, if_pos h2]
  rw [if_neg h1, if_neg h2, show decide (c > 0) = true from by simp; omega]
 show tribunalref02_addD.l0 (k + 1 + 1) a b out c (i : Int) = _
 rw [e1, tribunalref02_addD.j1, if_pos rfl, rd_getD, rd_getD, hw]
 by_cases h1 : (i : Int) < (a.length : Int)
 ·by_cases h2 : (i : Int) < (b.length : Int)
  ·have e : (c + a.getD i 0 + b.getD i 0) % 4294967296 = a.getD i 0 + b.getD i 0 + c := by omega
   rw [if_pos h1, if_pos (by omega), if_pos h2, if_pos (by omega), e, IntKind.wrap_u16]
  have e : (c + a.getD i 0) % 4294967296 = a.getD i 0 + b.getD i 0 + c := by have := getD_ge b i (by omega); omega
  rw [if_pos h1, if_pos (by omega), if_neg h2, if_pos (by omega), e, IntKind.wrap_u16]
 by_cases h2 : (i : Int) < (b.length : Int)
 ·have e : (c + b.getD i 0) % 4294967296 = a.getD i 0 + b.getD i 0 + c := by have := getD_ge a i (by omega); omega
  rw [if_neg h1, if_pos h2, if_pos (by omega), if_pos (by omega), e, IntKind.wrap_u16]
 have e : a.getD i 0 + b.getD i 0 + c = c := by have := getD_ge a i (by omega); have := getD_ge b i (by omega); omega
 rw [if_neg h1, if_neg h2, if_pos (by omega), e, IntKind.wrap_u16]
theorem addD_end (k : Nat) (a b out : List Int) (c : Int) (i : Nat) (h1 : ¬ i < a.length) (h2 : ¬ i < b.length) (h3 : ¬ 0 < c) : tribunalref02_addD.l0 (k + 2) a b out c (i : Int) = some out := by
 show tribunalref02_addD.l0 (k + 1 + 1) a b out c (i : Int) = _
 rw [tribunalref02_addD.l0, if_neg (by omega), if_neg (by omega), show decide (c > 0) = false from by simp; omega, tribunalref02_addD.j1, if_neg (by decide)]
theorem addD_l0 (a b : List Int) (ha : a.length ≤ 8388600) (hb : b.length ≤ 8388600) (da : Dig 65536 a) (db : Dig 65536 b) : ∀ (n i : Nat) (out : List Int) (c : Int), 2 * (max a.length b.length - i) + c.toNat ≤ n → i ≤ max a.length b.length + 1 → (i ≤ max a.length b.length ∨ c = 0) → out.length = i → Dig 65536 out → 0 ≤ c ∧ c ≤ 1 → val 65536 out + c * 65536 ^ i = val 65536 (a.take i) + val 65536 (b.take i) →
  ∃ r, Ev (fun k => tribunalref02_addD.l0 k a b out c (i : Int)) r ∧ Dig 65536 r ∧ val 65536 r = val 65536 a + val 65536 b ∧ r.length ≤ max a.length b.length + 1 := by
 intro n
 induction n with
 | zero =>
  intro i out c hn him him2 ho hd hc hv
  refine ⟨out, ⟨2, fun k hk => ?_⟩, hd, ?_, by omega⟩
  ·obtain ⟨k, rfl⟩ : ∃ j, k = j + 2 := ⟨k - 2, by omega⟩
   exact addD_end k a b out c i (by omega) (by omega) (by omega)
  rw [List.take_of_length_le (by omega), List.take_of_length_le (by omega), show c = 0 from by omega] at hv
  omega
 | succ n ih =>
  intro i out c hn him him2 ho hd hc hv
  by_cases h : i < a.length ∨ i < b.length ∨ 0 < c
  ·have ga := getD_dig (by decide) da i
   have gb := getD_dig (by decide) db i
   have hx : (a.length ≤ i → a.getD i 0 = 0) := getD_ge a i
   have hy : (b.length ≤ i → b.getD i 0 = 0) := getD_ge b i
   obtain ⟨r, ⟨K, hr⟩, hq⟩ := ih (i + 1) (out ++ [(a.getD i 0 + b.getD i 0 + c) % 65536]) ((a.getD i 0 + b.getD i 0 + c) / 65536)
    (by by_cases h4 : i < max a.length b.length
        ·omega
        have := hx (by omega); have := hy (by omega); omega)
    (by omega)
    (by by_cases h4 : i < max a.length b.length
        ·omega
        have := hx (by omega); have := hy (by omega); omega)
    (by simp; omega)
    (Dig.append.2 ⟨hd, by rw [Dig.cons]; exact ⟨by omega, Dig.nil⟩⟩) (by omega)
    (by rw [val_snoc, ho, val_take_getD, val_take_getD, Int.pow_succ]; exact add_step _ c _ _ _ _ _ _ _ _ (by omega) hv)
   refine ⟨r, ⟨K + 2, fun k hk => ?_⟩, hq⟩
   obtain ⟨k, rfl⟩ : ∃ j, k = j + 2 := ⟨k - 2, by omega⟩
   show tribunalref02_addD.l0 (k + 2) a b out c (i : Int) = some r
   rw [addD_step k a b out c i h (by omega) (by omega) (by omega) ho da db hc]
   exact hr k (by omega)
  refine ⟨out, ⟨2, fun k hk => ?_⟩, hd, ?_, by omega⟩
  ·obtain ⟨k, rfl⟩ : ∃ j, k = j + 2 := ⟨k - 2, by omega⟩
   exact addD_end k a b out c i (by omega) (by omega) (by omega)
  rw [List.take_of_length_le (by omega), List.take_of_length_le (by omega), show c = 0 from by omega] at hv
  omega
theorem addD_ev (a b : List Int) (ha : a.length ≤ 8388600) (hb : b.length ≤ 8388600) (da : Dig 65536 a) (db : Dig 65536 b) :
  ∃ r, Ev (fun k => tribunalref02_addD.f k a b) r ∧ Dig 65536 r ∧ val 65536 r = val 65536 a + val 65536 b ∧ r.length ≤ max a.length b.length + 1 := by
 obtain ⟨r, ⟨K, hr⟩, hq⟩ := addD_l0 a b ha hb da db _ 0 [] 0 (Nat.le_refl _) (by omega) (.inr rfl) rfl Dig.nil (by omega) (by simp [val])
 refine ⟨r, ⟨K, fun k hk => ?_⟩, hq⟩
 show tribunalref02_addD.f k a b = some r
 rw [tribunalref02_addD.f]
 exact hr k hk
theorem w32 (n : Int) (h : -2147483648 ≤ n ∧ n ≤ 2147483647) : wrap32 n = n := by unfold wrap32; omega
theorem subD_step (k : Nat) (a b out : List Int) (c : Int) (i : Nat) (hi : i < a.length) (ha : a.length ≤ 8388608) (ho : out.length = i) (da : Dig 65536 a) (db : Dig 65536 b) (hc : 0 ≤ c ∧ c ≤ 1) :
  tribunalref02_subD.l0 (k + 1) a b out c (i : Int) = tribunalref02_subD.l0 k a b (out ++ [(a.getD i 0 - b.getD i 0 - c) % 65536]) (if a.getD i 0 < b.getD i 0 + c then 1 else 0) ((i + 1 : Nat) : Int) := by
 have ga := getD_dig (by decide) da i
 have gb := getD_dig (by decide) db i
 have hw : wrap64 ((i : Int) + 1) = ((i + 1 : Nat) : Int) := by rw [w64 _ (by omega)]; omega
 rw [tribunalref02_subD.l0, rd_getD, rd_getD, hw, w32 (a.getD i 0) (by omega), w32 (b.getD i 0) (by omega), w32 (a.getD i 0 - c) (by omega), w32 (a.getD i 0 - c - b.getD i 0) (by omega), w32 (a.getD i 0 - c - b.getD i 0 + 65536) (by omega), w32 (a.getD i 0 - c + 65536) (by omega), if_pos (by omega), if_pos (by omega)]
 by_cases h2 : (i : Int) < (b.length : Int)
 ·rw [if_pos h2]
  by_cases h3 : a.getD i 0 - c - b.getD i 0 < 0
  ·rw [if_pos h3, if_pos (by omega), if_pos (by omega), IntKind.wrap_u16, show (a.getD i 0 - c - b.getD i 0 + 65536) % 65536 = (a.getD i 0 - b.getD i 0 - c) % 65536 from by omega]
  rw [if_neg h3, if_pos (by omega), if_neg (by omega), IntKind.wrap_u16, show (a.getD i 0 - c - b.getD i 0) % 65536 = (a.getD i 0 - b.getD i 0 - c) % 65536 from by omega]
 have h0 := getD_ge b i (by omega)
 rw [if_neg h2]
 by_cases h3 : a.getD i 0 - c < 0
 ·rw [if_pos h3, if_pos (by omega), if_pos (by omega), IntKind.wrap_u16, show (a.getD i 0 - c + 65536) % 65536 = (a.getD i 0 - b.getD i 0 - c) % 65536 from by omega]
 rw [if_neg h3, if_pos (by omega), if_neg (by omega), IntKind.wrap_u16, show (a.getD i 0 - c) % 65536 = (a.getD i 0 - b.getD i 0 - c) % 65536 from by omega]
theorem subD_l0 (a b : List Int) (hl : a.length ≤ 8388608) (hb : b.length ≤ a.length) (hle : val 65536 b ≤ val 65536 a) (da : Dig 65536 a) (db : Dig 65536 b) : ∀ (n i : Nat) (out : List Int) (c : Int), i + n = a.length → out.length = i → Dig 65536 out → 0 ≤ c ∧ c ≤ 1 → val 65536 out - c * 65536 ^ i = val 65536 (a.take i) - val 65536 (b.take i) →
  ∃ r, Ev (fun k => tribunalref02_subD.l0 k a b out c (i : Int)) r ∧ Rep 65536 (val 65536 a - val 65536 b) r := by
 intro n
 induction n with
 | zero =>
  intro i out c hi ho hd hc hv
  obtain ⟨r, ⟨K, hr⟩, h1, h2, h3⟩ := tribunalref02_trim_ev (B := 65536) (l := out) (by omega) hd
  refine ⟨r, ⟨K + 1, fun k hk => ?_⟩, h1, h2, ?_⟩
  ·obtain ⟨k, rfl⟩ : ∃ j, k = j + 1 := ⟨k - 1, by omega⟩
   have hk' : tribunalref02_trim.f k out = some r := hr k (by omega)
   show tribunalref02_subD.l0 (k + 1) a b out c (i : Int) = some r
   rw [tribunalref02_subD.l0, if_neg (by omega), hk', Option.bind_some]
  rw [h3]
  rw [List.take_of_length_le (by omega), List.take_of_length_le (by omega)] at hv
  have g1 := val_lt (B := 65536) (by decide) hd
  have g2 := val_nonneg (B := 65536) (by decide) hd
  rw [ho] at g1
  exact borrow_none ⟨g2, g1⟩ hc hle hv
 | succ n ih =>
  intro i out c hi ho hd hc hv
  have hil : i < a.length := by omega
  have ga := getD_dig (by decide) da i
  have gb := getD_dig (by decide) db i
  obtain ⟨r, ⟨K, hr⟩, hq⟩ := ih (i + 1) (out ++ [(a.getD i 0 - b.getD i 0 - c) % 65536]) (if a.getD i 0 < b.getD i 0 + c then 1 else 0) (by omega) (by simp; omega)
   (Dig.append.2 ⟨hd, by rw [Dig.cons]; exact ⟨by omega, Dig.nil⟩⟩) (by split <;> omega)
   (by rw [val_snoc, ho, val_take_getD, val_take_getD, Int.pow_succ]; exact sub_step _ c _ _ _ _ _ _ _ _ (by split <;> omega) hv)
  refine ⟨r, ⟨K + 1, fun k hk => ?_⟩, hq⟩
  obtain ⟨k, rfl⟩ : ∃ j, k = j + 1 := ⟨k - 1, by omega⟩
  show tribunalref02_subD.l0 (k + 1) a b out c (i : Int) = some r
  rw [subD_step k a b out c i hil hl ho da db hc]
  exact hr k (by omega)
theorem subD_ev (a b : List Int) (ha : a.length ≤ 8388608) (hb : b.length ≤ a.length) (hle : val 65536 b ≤ val 65536 a) (da : Dig 65536 a) (db : Dig 65536 b) :
  ∃ r, Ev (fun k => tribunalref02_subD.f k a b) r ∧ Rep 65536 (val 65536 a - val 65536 b) r := by
 obtain ⟨r, ⟨K, hr⟩, hq⟩ := subD_l0 a b ha hb hle da db a.length 0 [] 0 (by omega) rfl Dig.nil (by omega) (by simp [val])
 refine ⟨r, ⟨K, fun k hk => ?_⟩, hq⟩
 show tribunalref02_subD.f k a b = some r
 rw [tribunalref02_subD.f]
 exact hr k hk
theorem Make_ev (s : Bool) (l : List Int) (hl : l.length < 9223372036854775807) (hd : Dig 65536 l) : ∃ r, Ev (fun k => tribunalref02_Make.f k s l) (s && decide (0 < r.length), r) ∧ Dig 65536 r ∧ Top r ∧ val 65536 r = val 65536 l := by
 obtain ⟨r, ⟨K, hr⟩, h⟩ := tribunalref02_trim_ev (B := 65536) (l := l) hl hd
 refine ⟨r, ⟨K, fun k hk => ?_⟩, h⟩
 have hk' : tribunalref02_trim.f k l = some r := hr k hk
 show tribunalref02_Make.f k s l = _
 simp only [tribunalref02_Make.f, hk', Option.bind_some]
 cases s <;> simp
theorem Make_num {v : Int} {l : List Int} (b : Bool) (hl : l.length < 9223372036854775807) (hd : Dig 65536 l) (hv : val 65536 l = v) {n : Int} (hn : n = if b then -v else v) : ∃ u r, Ev (fun k => tribunalref02_Make.f k b l) (u, r) ∧ Num 65536 n u r := by
 obtain ⟨r, h, h1, h2, h3⟩ := Make_ev b l hl hd
 exact ⟨_, r, h, Num.of_rep' (by decide) ⟨h1, h2, h3.trans hv⟩ b hn⟩
theorem rplus_num {n m : Int} {s t : Bool} {a b : List Int} (ha : Num 65536 n s a) (hb : Num 65536 m t b) (la : a.length ≤ 8388600) (lb : b.length ≤ 8388600) :
  ∃ u r, Ev (fun k => tribunalref02_Plus.f k s a t b) (u, r) ∧ Num 65536 (n + m) u r := by
 have e1 := ha.sign
 have e2 := hb.sign
 by_cases hst : s = t
 ·obtain ⟨r0, ⟨K, hr⟩, h1, h2, h3⟩ := addD_ev a b la lb ha.rep.dig hb.rep.dig
  rw [ha.rep.val, hb.rep.val] at h2
  obtain ⟨u, r, ⟨K2, hr2⟩, hN⟩ := Make_num s (by omega) h1 h2 (n := n + m) (by subst hst; cases s <;> simp at e1 e2 ⊢ <;> omega)
  refine ⟨u, r, ⟨max K K2, fun k hk => ?_⟩, hN⟩
  have g : tribunalref02_addD.f k a b = some r0 := hr k (by omega)
  have g2 : tribunalref02_Make.f k s r0 = _ := hr2 k (by omega)
  show tribunalref02_Plus.f k s a t b = _
  rw [tribunalref02_Plus.f, if_pos (by rw [hst]; exact beq_self_eq_true t), g, Option.bind_some, g2, Option.bind_some]
 obtain ⟨K1, h1⟩ := tribunalref02_cmpD_ev a b (by omega) (by omega) ha.rep.dig hb.rep.dig ha.rep.top hb.rep.top
 have hne : ¬ (s == t) = true := by intro h; exact hst (eq_of_beq h)
 by_cases hle : val 65536 b ≤ val 65536 a
 ·obtain ⟨r0, ⟨K, hr⟩, hR⟩ := subD_ev a b (by omega) (len_of_le (by decide) ha.rep.dig hb.rep.dig hb.rep.top hle) hle ha.rep.dig hb.rep.dig
  have hlen : r0.length ≤ a.length := rep_len (by decide) hR (by have := val_lt (B := 65536) (by decide) ha.rep.dig; have := val_nonneg (B := 65536) (by decide) hb.rep.dig; omega)
  have hle' := hle
  rw [ha.rep.val, hb.rep.val] at hR hle'
  obtain ⟨u, r, ⟨K2, hr2⟩, hN⟩ := Make_num s (by omega) hR.dig hR.val (n := n + m) (by cases s <;> cases t <;> simp at hst e1 e2 ⊢ <;> omega)
  refine ⟨u, r, ⟨max K1 (max K K2), fun k hk => ?_⟩, hN⟩
  have g : tribunalref02_subD.f k a b = some r0 := hr k (by omega)
  have g1 : tribunalref02_cmpD.f k a b = _ := h1 k (by omega)
  have g2 : tribunalref02_Make.f k s r0 = _ := hr2 k (by omega)
  show tribunalref02_Plus.f k s a t b = _
  rw [tribunalref02_Plus.f, if_neg hne, g1, Option.bind_some, if_pos (sg_ge.2 (by omega)), g, Option.bind_some, g2, Option.bind_some]
 have hle2 : val 65536 a ≤ val 65536 b := by omega
 obtain ⟨r0, ⟨K, hr⟩, hR⟩ := subD_ev b a (by omega) (len_of_le (by decide) hb.rep.dig ha.rep.dig ha.rep.top hle2) hle2 hb.rep.dig ha.rep.dig
 have hlen : r0.length ≤ b.length := rep_len (by decide) hR (by have := val_lt (B := 65536) (by decide) hb.rep.dig; have := val_nonneg (B := 65536) (by decide) ha.rep.dig; omega)
 have hle' := hle2
 rw [ha.rep.val, hb.rep.val] at hR hle'
 obtain ⟨u, r, ⟨K2, hr2⟩, hN⟩ := Make_num t (by omega) hR.dig hR.val (n := n + m) (by cases s <;> cases t <;> simp at hst e1 e2 ⊢ <;> omega)
 refine ⟨u, r, ⟨max K1 (max K K2), fun k hk => ?_⟩, hN⟩
 have g : tribunalref02_subD.f k b a = some r0 := hr k (by omega)
 have g1 : tribunalref02_cmpD.f k a b = _ := h1 k (by omega)
 have g2 : tribunalref02_Make.f k t r0 = _ := hr2 k (by omega)
 show tribunalref02_Plus.f k s a t b = _
 rw [tribunalref02_Plus.f, if_neg hne, g1, Option.bind_some, if_neg (fun x => hle (by have := sg_ge.1 x; omega)), g, Option.bind_some, g2, Option.bind_some]
theorem rminus_num {n : Int} {s : Bool} {a : List Int} (ha : Num 65536 n s a) (la : a.length ≤ 8388608) : ∃ u r, Ev (fun k => tribunalref02_Minus.f k s a) (u, r) ∧ Num 65536 (-n) u r := by
 have e1 := ha.sign
 obtain ⟨u, r, ⟨K, hr⟩, hN⟩ := Make_num (!s) (by omega) ha.rep.dig ha.rep.val (n := -n) (by cases s <;> simp at e1 ⊢ <;> omega)
 refine ⟨u, r, ⟨K, fun k hk => ?_⟩, hN⟩
 have g : tribunalref02_Make.f k (!s) a = _ := hr k hk
 show tribunalref02_Minus.f k s a = _
 rw [tribunalref02_Minus.f, g, Option.bind_some]
theorem rep_four {v : Int} (h : 0 ≤ v ∧ v < 18446744073709551616) (b : Bool) {n : Int} (hn : n = if b then -v else v) : ∃ u r, Ev (fun k => tribunalref02_Make.f k b [IntKind.u16.wrap v, IntKind.u16.wrap (v / 65536), IntKind.u16.wrap (v / 4294967296), IntKind.u16.wrap (v / 281474976710656)]) (u, r) ∧ Num 65536 n u r ∧ r.length ≤ 4 := by
 obtain ⟨hv4, hd4⟩ := limb4 v h
 obtain ⟨u, r, hr, hN⟩ := Make_num b (by simp) hd4 hv4 hn
 refine ⟨u, r, hr, hN, rep_len (by decide) hN.rep ?_⟩
 rw [← pow4]
 cases b <;> simp at hn <;> omega
theorem u64_neg {n : Int} (h : -9223372036854775808 ≤ n ∧ n < 0) : IntKind.u64.wrap (-(IntKind.u64.wrap n)) = -n := by
 simp only [IntKind.wrap_u64]; omega
theorem u64_pos {n : Int} (h : 0 ≤ n ∧ n ≤ 9223372036854775807) : IntKind.u64.wrap n = n := by
 simp only [IntKind.wrap_u64]; omega
theorem Small1_num {n : Int} (h : -9223372036854775808 ≤ n ∧ n ≤ 9223372036854775807) : ∃ u d, Ev (fun k => tribunalref02_Small1.f k n) (u, d) ∧ Num 65536 n u d ∧ d.length ≤ 4 := by
 by_cases h0 : n < 0
 ·obtain ⟨u, r, ⟨K, hr⟩, hN⟩ := rep_four (v := -n) (by omega) true (n := n) (by simp)
  refine ⟨u, r, ⟨K, fun k hk => ?_⟩, hN⟩
  have g := hr k hk
  show tribunalref02_Small1.f k n = _
  rw [tribunalref02_Small1.f, if_pos h0, u64_neg (by omega)]
  replace g : tribunalref02_Make.f k true _ = _ := g
  rw [g, Option.bind_some]
 obtain ⟨u, r, ⟨K, hr⟩, hN⟩ := rep_four (v := n) (by omega) false (n := n) (by simp)
 refine ⟨u, r, ⟨K, fun k hk => ?_⟩, hN⟩
 have g := hr k hk
 show tribunalref02_Small1.f k n = _
 rw [tribunalref02_Small1.f, if_neg h0, u64_pos (by omega)]
 replace g : tribunalref02_Make.f k false _ = _ := g
 rw [g, Option.bind_some]
theorem getD_set_ne (l : List Int) (i t : Nat) (v : Int) (h : i ≠ t) : (l.set i v).getD t 0 = l.getD t 0 := by
 simp [List.getD_eq_getElem?_getD, List.getElem?_set_ne h]
theorem step_arith {xy o c lo hi s1 s2 : Int} (hxy : 0 ≤ xy ∧ xy ≤ 18446744073709551615 * 18446744073709551615) (ho : 0 ≤ o ∧ o < 18446744073709551616) (hc : 0 ≤ c ∧ c < 18446744073709551616)
  (h1 : hi = xy / 18446744073709551616) (h2 : lo = xy % 18446744073709551616) (h3 : s1 = lo + o + 0) (h4 : s2 = s1 % 18446744073709551616 + c + 0) :
  IntKind.u64.wrap (IntKind.u64.wrap (hi + s1 / 18446744073709551616) + s2 / 18446744073709551616) * 18446744073709551616 + s2 % 18446744073709551616 = xy + o + c ∧
  0 ≤ IntKind.u64.wrap (IntKind.u64.wrap (hi + s1 / 18446744073709551616) + s2 / 18446744073709551616) ∧ IntKind.u64.wrap (IntKind.u64.wrap (hi + s1 / 18446744073709551616) + s2 / 18446744073709551616) < 18446744073709551616 := by
 simp only [IntKind.wrap_u64]
 have e1 : xy = hi * 18446744073709551616 + lo := by omega
 have e2 : s1 = (s1 / 18446744073709551616) * 18446744073709551616 + s1 % 18446744073709551616 := by omega
 have e3 : s2 = (s2 / 18446744073709551616) * 18446744073709551616 + s2 % 18446744073709551616 := by omega
 have lo1 : 0 ≤ s1 % 18446744073709551616 ∧ s1 % 18446744073709551616 < 18446744073709551616 := by omega
 generalize s1 / 18446744073709551616 = c1 at *
 generalize s1 % 18446744073709551616 = l1 at *
 generalize s2 / 18446744073709551616 = c2 at *
 have l2 : 0 ≤ s2 % 18446744073709551616 ∧ s2 % 18446744073709551616 < 18446744073709551616 := by omega
 generalize s2 % 18446744073709551616 = m2 at *
 have b : (hi + c1 + c2) * 18446744073709551616 + m2 = xy + o + c := by omega
 have lo0 : 0 ≤ hi := by omega
 have b1 : 0 ≤ c1 := by omega
 have b2 : 0 ≤ c2 := by omega
 have b3 : hi + c1 + c2 < 18446744073709551616 := by omega
 rw [Int.emod_eq_of_lt (a := hi + c1) (by omega) (by omega), Int.emod_eq_of_lt (by omega) (by omega)]
 exact ⟨b, by omega, b3⟩
theorem mstep (x y o c : Int) (hx : 0 ≤ x ∧ x < 18446744073709551616) (hy : 0 ≤ y ∧ y < 18446744073709551616) (ho : 0 ≤ o ∧ o < 18446744073709551616) (hc : 0 ≤ c ∧ c < 18446744073709551616) :
  ∃ hi lo t1 c1 lo2 c2 c', bits_Mul64.f x y = some (hi, lo) ∧ bits_Add64.f lo o 0 = some (t1, c1) ∧ bits_Add64.f t1 c 0 = some (lo2, c2) ∧ IntKind.u64.wrap (IntKind.u64.wrap (hi + c1) + c2) = c' ∧ (0 ≤ lo2 ∧ lo2 < 18446744073709551616) ∧ (0 ≤ c' ∧ c' < 18446744073709551616) ∧ c' * 18446744073709551616 + lo2 = x * y + o + c := by
 have hxy := mul_bound (x := x) (y := y) (M := 18446744073709551615) ⟨hx.1, by omega⟩ ⟨hy.1, by omega⟩
 obtain ⟨hs, hc1, hc2⟩ := step_arith hxy ho hc rfl rfl rfl rfl
 refine ⟨_, _, (x * y % 18446744073709551616 + o + 0) % 18446744073709551616, _, _, _, _, Mul64_eq x y hx hy, ?_, ?_, rfl, ?_, ⟨hc1, hc2⟩, hs⟩
 ·rw [bits_Add64.f, if_pos ⟨by omega, by omega, by omega, by omega⟩]
 ·rw [bits_Add64.f, if_pos ⟨by omega, by omega, by omega, by omega⟩]
 omega
theorem or_add (t : Nat) {x y : Int} (hx : 0 ≤ x ∧ x < 18446744073709551616) (hd : ∃ c, x = c * 2 ^ t) (hy : 0 ≤ y ∧ y < 2 ^ t) (hy2 : y < 18446744073709551616) : Go.bits .or .u64 x y = x + y ∧ Go.bits .or .u64 y x = x + y := by
 obtain ⟨c, rfl⟩ := hd
 have hp : (0 : Int) < 2 ^ t := Int.pow_pos (by decide)
 have hc : 0 ≤ c := by
  refine Classical.byContradiction fun h => ?_
  have := Int.mul_le_mul_of_nonneg_right (show c ≤ -1 by omega) (Int.le_of_lt hp)
  omega
 obtain ⟨n, rfl⟩ := Int.eq_ofNat_of_zero_le hc
 obtain ⟨m, rfl⟩ := Int.eq_ofNat_of_zero_le hy.1
 have hpc : ((2 : Int) ^ t) = ((2 ^ t : Nat) : Int) := by simp
 rw [hpc] at hx hy ⊢
 have hm : m < 2 ^ t := by have := hy.2; omega
 rw [← Int.natCast_mul] at hx ⊢
 have e : n * 2 ^ t ||| m = n * 2 ^ t + m := by
  have := Nat.shiftLeft_add_eq_or_of_lt (i := t) (b := m) hm n
  rw [Nat.shiftLeft_eq] at this
  exact this.symm
 constructor
 ·rw [bits_or_u64_nat _ _ (by omega) (by omega), e]; omega
 rw [bits_or_u64_nat _ _ (by omega) (by omega), Nat.or_comm, e]; omega
theorem or_nil {x : Int} (hx : 0 ≤ x ∧ x < 18446744073709551616) : Go.bits .or .u64 0 x = x := by
 have := (or_add 0 (x := x) (y := 0) hx ⟨x, by simp⟩ (by simp) (by decide)).2
 rw [this]; omega
structure Sh (s P Q : Int) : Prop where
 s0 : 0 ≤ s ∧ s ≤ 63
 P0 : 0 < P
 Q0 : 0 < Q
 PQ : P * Q = 18446744073709551616
 P1 : ∃ t : Nat, P = 2 ^ t ∧ s.toNat = t
 Q1 : ∃ t : Nat, Q = 2 ^ t ∧ 64 - s.toNat = t
theorem Sh.P_le {s P Q : Int} (h : Sh s P Q) : P ≤ 18446744073709551616 := by
 have := Int.mul_le_mul_of_nonneg_left (show (1 : Int) ≤ Q by have := h.Q0; omega) (Int.le_of_lt h.P0)
 rw [h.PQ] at this; omega
theorem Sh.Q_le {s P Q : Int} (h : Sh s P Q) : Q ≤ 18446744073709551616 := by
 have := Int.mul_le_mul_of_nonneg_right (show (1 : Int) ≤ P by have := h.P0; omega) (Int.le_of_lt h.Q0)
 rw [h.PQ] at this; omega
theorem shl_parts {P Q x : Int} (hP : 0 < P) (hQ : 0 < Q) (hPQ : P * Q = 18446744073709551616) (hx : 0 ≤ x ∧ x < 18446744073709551616) :
  x * P = x / Q * 18446744073709551616 + x % Q * P ∧ 0 ≤ x / Q ∧ x / Q < P ∧ 0 ≤ x % Q * P ∧ x % Q * P < 18446744073709551616 ∧ (x * P) % 18446744073709551616 = x % Q * P := by
 have h1 := Int.mul_ediv_add_emod x Q
 have h2 := Int.emod_nonneg x (Int.ne_of_gt hQ)
 have h3 := Int.emod_lt_of_pos x hQ
 have h4 : 0 ≤ x / Q := Int.ediv_nonneg hx.1 (Int.le_of_lt hQ)
 have e : x * P = x / Q * 18446744073709551616 + x % Q * P := by
  have : x * P = (Q * (x / Q) + x % Q) * P := by rw [h1]
  rw [this, Int.add_mul, ← hPQ, Int.mul_comm Q, Int.mul_assoc, Int.mul_comm Q P]
 have h5 : 0 ≤ x % Q * P := Int.mul_nonneg h2 (Int.le_of_lt hP)
 have h6 : x % Q * P < 18446744073709551616 := by
  rw [← hPQ, Int.mul_comm P Q]
  exact Int.mul_lt_mul_of_pos_right h3 hP
 refine ⟨e, h4, ?_, h5, h6, ?_⟩
 ·refine Int.ediv_lt_of_lt_mul hQ ?_
  rw [hPQ]; exact hx.2
 rw [e, Int.mul_add_emod_self_right]; exact Int.emod_eq_of_lt h5 h6
theorem Sh.eqL {s P Q x : Int} (h : Sh s P Q) (hx : 0 ≤ x ∧ x < 18446744073709551616) : shl .u64 x s = x % Q * P := by
 obtain ⟨t, e, et⟩ := h.P1
 have := (shl_parts h.P0 h.Q0 h.PQ hx).2.2.2.2.2
 have hs := h.s0
 unfold Go.Proofs.YtodhkpdcpneeeaaDoorW.PrintWords.shl
 rw [show min s.toNat IntKind.u64.bits = t from by show min s.toNat 64 = t; omega, ← e, IntKind.wrap_u64, this]
theorem Sh.eqR {s P Q x : Int} (h : Sh s P Q) : shr .u64 x s = x / P := by
 obtain ⟨t, e, et⟩ := h.P1
 have hs := h.s0
 unfold Go.Proofs.YtodhkpdcpneeeaaDoorW.PrintWords.shr
 rw [show min s.toNat IntKind.u64.bits = t from by show min s.toNat 64 = t; omega, ← e]
theorem Sh.count {s P Q : Int} (h : Sh s P Q) : IntKind.u64.wrap (64 - s) = 64 - s := by
 have hs := h.s0
 rw [IntKind.wrap_u64]; omega
theorem Sh.eqR' {s P Q x : Int} (h : Sh s P Q) : shr .u64 x (64 - s) = x / Q := by
 obtain ⟨t, e, et⟩ := h.Q1
 have hs := h.s0
 unfold Go.Proofs.YtodhkpdcpneeeaaDoorW.PrintWords.shr
 rw [show min (64 - s).toNat IntKind.u64.bits = t from by show min (64 - s).toNat 64 = t; omega, ← e]
theorem Sh.eqL' {s P Q x : Int} (h : Sh s P Q) (hx : 0 ≤ x ∧ x < 18446744073709551616) : shl .u64 x (64 - s) = x % P * Q := by
 obtain ⟨t, e, et⟩ := h.Q1
 have := (shl_parts h.Q0 h.P0 (by rw [Int.mul_comm]; exact h.PQ) hx).2.2.2.2.2
 have hs := h.s0
 unfold Go.Proofs.YtodhkpdcpneeeaaDoorW.PrintWords.shl
 rw [show min (64 - s).toNat IntKind.u64.bits = t from by show min (64 - s).toNat 64 = t; omega, ← e, IntKind.wrap_u64, this]
theorem val_set_getD (B : Int) (l : List Int) (i : Nat) (v : Int) (hi : i < l.length) : val B (l.set i v) = val B l + (v - l.getD i 0) * B ^ i := by
 rw [val_set B l i v hi, List.getD_eq_getElem?_getD, List.getElem?_eq_getElem hi, Option.getD_some]
theorem getD_set_eq (l : List Int) (i : Nat) (v : Int) (hi : i < l.length) : (l.set i v).getD i 0 = v := by
 rw [List.getD_eq_getElem?_getD, List.getElem?_set_self hi, Option.getD_some]
theorem div_eq {T y g : Int} (hy : 0 < y) (h1 : g * y ≤ T) (h2 : T < (g + 1) * y) : T / y = g := by
 have := Int.le_ediv_of_mul_le hy h1
 have := Int.ediv_lt_of_lt_mul hy h2
 omega
structure Half (y yn1 yn0 u d q r : Int) : Prop where
 hy : y = yn1 * 4294967296 + yn0
 y1 : 2147483648 ≤ yn1 ∧ yn1 < 4294967296
 y0 : 0 ≤ yn0 ∧ yn0 < 4294967296
 hu : 0 ≤ u ∧ u < y
 hd : 0 ≤ d ∧ d < 4294967296
 hq : 0 ≤ q ∧ q ≤ 4294967297
 hr : 0 ≤ r ∧ r < 4294967296
 hqr : u = q * yn1 + r
 top : u * 4294967296 + d < (q + 1) * y
theorem Half.start {y yn1 yn0 u d : Int} (hy : y = yn1 * 4294967296 + yn0) (y1 : 2147483648 ≤ yn1 ∧ yn1 < 4294967296) (y0 : 0 ≤ yn0 ∧ yn0 < 4294967296) (hu : 0 ≤ u ∧ u < y) (hd : 0 ≤ d ∧ d < 4294967296) : Half y yn1 yn0 u d (u / yn1) (u % yn1) := by
 have h1 := Int.mul_ediv_add_emod u yn1
 have h2 := Int.emod_nonneg u (show yn1 ≠ 0 by omega)
 have h3 := Int.emod_lt_of_pos u (show 0 < yn1 by omega)
 have h4 : 0 ≤ u / yn1 := Int.ediv_nonneg hu.1 (by omega)
 have h5 : u / yn1 < 4294967298 := Int.ediv_lt_of_lt_mul (by omega) (by omega)
 rw [Int.mul_comm] at h1
 refine ⟨hy, y1, y0, hu, hd, ⟨h4, by omega⟩, ⟨h2, by omega⟩, h1.symm, ?_⟩
 have h6 : 0 ≤ (u / yn1 + 1) * yn0 := Int.mul_nonneg (by omega) y0.1
 have h7 : (u / yn1 + 1) * y = (u / yn1 * yn1 + yn1) * 4294967296 + (u / yn1 + 1) * yn0 := by
  rw [hy, Int.mul_add, ← Int.mul_assoc, Int.add_mul (u / yn1) 1 yn1, Int.one_mul]
 rw [h7]; omega
theorem Half.eqs {y yn1 yn0 u d q r : Int} (h : Half y yn1 yn0 u d q r) : u * 4294967296 + d - q * y = r * 4294967296 + d - q * yn0 := by
 have e : q * y = q * yn1 * 4294967296 + q * yn0 := by rw [h.hy, Int.mul_add, ← Int.mul_assoc]
 have := h.hqr
 rw [e]; omega
theorem Half.below {y yn1 yn0 u d q r : Int} (h : Half y yn1 yn0 u d q r) : u * 4294967296 + d < 4294967296 * y := by
 have := h.hu; have := h.hd; omega
theorem Half.good {y yn1 yn0 u d q r : Int} (h : Half y yn1 yn0 u d q r) (hc : q * yn0 ≤ r * 4294967296 + d) : (u * 4294967296 + d) / y = q := by
 have e := h.eqs
 have hy := h.hy; have h1 := h.y1; have h2 := h.y0
 exact div_eq (by omega) (by omega) h.top
theorem Half.much {y yn1 yn0 u d q r : Int} (h : Half y yn1 yn0 u d q r) (hc : q ≥ 4294967296 ∨ q * yn0 > r * 4294967296 + d) : u * 4294967296 + d < q * y ∧ 1 ≤ q := by
 have e := h.eqs
 have hy := h.hy; have h1 := h.y1; have h2 := h.y0; have h3 := h.hd; have h4 := h.hr; have h5 := h.hq
 rcases hc with hc | hc
 ·have := h.below
  have h6 := Int.mul_le_mul_of_nonneg_right (show 4294967296 ≤ q from hc) (show 0 ≤ y by omega)
  omega
 refine ⟨by omega, ?_⟩
 refine Classical.byContradiction fun hx => ?_
 have : q = 0 := by omega
 rw [this] at hc; omega
theorem Half.next {y yn1 yn0 u d q r : Int} (h : Half y yn1 yn0 u d q r) (hc : q ≥ 4294967296 ∨ q * yn0 > r * 4294967296 + d) (hr : r + yn1 < 4294967296) : Half y yn1 yn0 u d (q - 1) (r + yn1) := by
 obtain ⟨h1, h2⟩ := h.much hc
 have h3 := h.hqr; have h4 := h.hq; have h5 := h.hr; have h6 := h.y1
 refine ⟨h.hy, h.y1, h.y0, h.hu, h.hd, by omega, by omega, ?_, by rw [show q - 1 + 1 = q from by omega]; exact h1⟩
 rw [Int.sub_mul, Int.one_mul]; omega
theorem Half.last {y yn1 yn0 u d q r : Int} (h : Half y yn1 yn0 u d q r) (hc : q ≥ 4294967296 ∨ q * yn0 > r * 4294967296 + d) (hr : r + yn1 ≥ 4294967296) : (u * 4294967296 + d) / y = q - 1 := by
 obtain ⟨h1, h2⟩ := h.much hc
 have h3 := h.hqr; have h4 := h.hq; have h5 := h.hr; have h6 := h.y1; have h7 := h.y0; have h8 := h.hd; have hy := h.hy
 refine div_eq (by omega) ?_ (by rw [show q - 1 + 1 = q from by omega]; exact h1)
 have e := h.eqs
 have e2 : (q - 1) * y = q * y - y := by rw [Int.sub_mul, Int.one_mul]
 have e3 : (q - 1) * yn0 = q * yn0 - yn0 := by rw [Int.sub_mul, Int.one_mul]
 have h9 := Int.mul_le_mul (show q - 1 ≤ 4294967296 by omega) (show yn0 ≤ 4294967295 by omega) h7.1 (by decide)
 rw [e2]; omega
theorem Half.quot {y yn1 yn0 u d q r : Int} (h : Half y yn1 yn0 u d q r) : 0 ≤ (u * 4294967296 + d) / y ∧ (u * 4294967296 + d) / y < 4294967296 := by
 have h3 := h.hu; have h4 := h.hd; have hy := h.hy; have h6 := h.y1; have h7 := h.y0
 exact ⟨Int.ediv_nonneg (by omega) (by omega), Int.ediv_lt_of_lt_mul (by omega) h.below⟩
theorem Half.qy {y yn1 yn0 u d q r : Int} (h : Half y yn1 yn0 u d q r) (hq : q < 4294967296) : 0 ≤ q * yn0 ∧ q * yn0 < 18446744073709551616 := by
 have h1 := h.y0; have h2 := h.hq
 refine ⟨Int.mul_nonneg h2.1 h1.1, ?_⟩
 have := Int.mul_le_mul (show q ≤ 4294967295 by omega) (show yn0 ≤ 4294967295 by omega) h1.1 (by decide)
 omega
theorem u64_in {x : Int} (h : 0 ≤ x ∧ x < 18446744073709551616) : IntKind.u64.wrap x = x := by
 rw [IntKind.wrap_u64]; omega
theorem Div64_l0 {y yn1 yn0 u d : Int} (s e : Int) (R : Int × Int) (hR : Ev (fun k => bits_Div64.j2 k y s yn1 yn0 u d e ((u * 4294967296 + d) / y)) R) : ∀ (n : Nat) (q r : Int), (4294967296 - r).toNat ≤ n → Half y yn1 yn0 u d q r → Ev (fun k => bits_Div64.l0 k y s yn1 yn0 u d e q r) R := by
 obtain ⟨K0, hR⟩ := hR
 intro n
 induction n with
 | zero => intro q r hn h; have := h.hr; omega
 | succ n ih =>
  intro q r hn h
  have h2 := h.hq; have h3 := h.hr; have h4 := h.y1; have h5 := h.hd; have h6 := h.y0
  have key : ∀ k, bits_Div64.l0 (k + 1) y s yn1 yn0 u d e q r = bits_Div64.j1 k y s yn1 yn0 u d e q r (decide (q ≥ 4294967296 ∨ q * yn0 > r * 4294967296 + d)) := by
   intro k
   rw [bits_Div64.l0]
   by_cases hc : q ≥ 4294967296
   ·rw [if_pos hc, decide_eq_true (Or.inl hc)]
   have := h.qy (by omega)
   rw [if_neg hc, u64_in this, u64_in (x := 4294967296 * r) (by omega), u64_in (x := 4294967296 * r + d) (by omega)]
   congr 1
   apply Bool.eq_iff_iff.2
   simp only [decide_eq_true_eq]
   constructor
   ·intro hx; right; omega
   intro hx; rcases hx with hx | hx <;> omega
  by_cases hc : q ≥ 4294967296 ∨ q * yn0 > r * 4294967296 + d
  ·have hq1 := (h.much hc).2
   by_cases ho : r + yn1 ≥ 4294967296
   ·refine ⟨K0 + 2, fun k hk => ?_⟩
    obtain ⟨k, rfl⟩ : ∃ j, k = j + 2 := ⟨k - 2, by omega⟩
    show bits_Div64.l0 (k + 1 + 1) y s yn1 yn0 u d e q r = some R
    rw [key, decide_eq_true hc, bits_Div64.j1, if_pos rfl, u64_in (x := r + yn1) (by omega), if_pos ho, u64_in (x := q - 1) (by omega), ← h.last hc ho]
    exact hR k (by omega)
   obtain ⟨K1, h1⟩ := ih (q - 1) (r + yn1) (by omega) (h.next hc (by omega))
   refine ⟨K1 + 2, fun k hk => ?_⟩
   obtain ⟨k, rfl⟩ : ∃ j, k = j + 2 := ⟨k - 2, by omega⟩
   show bits_Div64.l0 (k + 1 + 1) y s yn1 yn0 u d e q r = some R
   rw [key, decide_eq_true hc, bits_Div64.j1, if_pos rfl, u64_in (x := r + yn1) (by omega), if_neg ho, u64_in (x := q - 1) (by omega)]
   exact h1 k (by omega)
  refine ⟨K0 + 2, fun k hk => ?_⟩
  obtain ⟨k, rfl⟩ : ∃ j, k = j + 2 := ⟨k - 2, by omega⟩
  show bits_Div64.l0 (k + 1 + 1) y s yn1 yn0 u d e q r = some R
  rw [key, decide_eq_false hc, bits_Div64.j1, if_neg (by decide)]
  have hg := h.good (by omega)
  rw [← hg]
  exact hR k (by omega)
theorem Div64_fin {y s P Q u d q g : Int} (h : Sh s P Q) (hy : 0 < y ∧ y < 18446744073709551616) (hu : 0 ≤ u ∧ u < y) (hd : 0 ≤ d ∧ d < 4294967296) (hg : (u * 4294967296 + d) / y = g) (hg0 : 0 ≤ g ∧ g < 4294967296) (hq : 0 ≤ q ∧ q < 4294967296) :
  (if 0 ≤ s then some (IntKind.u64.wrap (IntKind.u64.wrap (q * 4294967296) + g), Go.Proofs.YtodhkpdcpneeeaaDoorW.PrintWords.shr .u64 (IntKind.u64.wrap (IntKind.u64.wrap (IntKind.u64.wrap (u * 4294967296) + d) - IntKind.u64.wrap (g * y))) s) else none) = some (q * 4294967296 + g, (u * 4294967296 + d) % y / P) := by
 have hs := h.s0
 have h1 := Int.emod_nonneg (u * 4294967296 + d) (show y ≠ 0 by omega)
 have h2 := Int.emod_lt_of_pos (u * 4294967296 + d) hy.1
 have h3 := Int.mul_ediv_add_emod (u * 4294967296 + d) y
 rw [hg, Int.mul_comm y g] at h3
 rw [if_pos hs.1, u64_in (x := q * 4294967296) (by omega), u64_in (x := q * 4294967296 + g) (by omega), h.eqR]
 have e : IntKind.u64.wrap (IntKind.u64.wrap (IntKind.u64.wrap (u * 4294967296) + d) - IntKind.u64.wrap (g * y)) = (u * 4294967296 + d) % y := by
  simp only [IntKind.wrap_u64]
  omega
 rw [e]
theorem Div64_l1 {y yn1 yn0 u d s P Q : Int} (hs : Sh s P Q) (hy : 0 < y ∧ y < 18446744073709551616) (g : Int) (hg : 0 ≤ g ∧ g < 4294967296) : ∀ (n : Nat) (q r : Int), (4294967296 - r).toNat ≤ n → Half y yn1 yn0 u d q r → Ev (fun k => bits_Div64.l1 k y s yn1 yn0 d g r u q) (g * 4294967296 + (u * 4294967296 + d) / y, (u * 4294967296 + d) % y / P) := by
 intro n
 induction n with
 | zero => intro q r hn h; have := h.hr; omega
 | succ n ih =>
  intro q r hn h
  have h2 := h.hq; have h3 := h.hr; have h4 := h.y1; have h5 := h.hd; have h6 := h.y0
  have hquot := h.quot
  have key : ∀ k, bits_Div64.l1 (k + 1) y s yn1 yn0 d g r u q = bits_Div64.j4 k y s yn1 yn0 d g r u q (decide (q ≥ 4294967296 ∨ q * yn0 > r * 4294967296 + d)) := by
   intro k
   rw [bits_Div64.l1]
   by_cases hc : q ≥ 4294967296
   ·rw [if_pos hc, decide_eq_true (Or.inl hc)]
   have := h.qy (by omega)
   rw [if_neg hc, u64_in this, u64_in (x := 4294967296 * r) (by omega), u64_in (x := 4294967296 * r + d) (by omega)]
   congr 1
   apply Bool.eq_iff_iff.2
   simp only [decide_eq_true_eq]
   constructor
   ·intro hx; right; omega
   intro hx; rcases hx with hx | hx <;> omega
  by_cases hc : q ≥ 4294967296 ∨ q * yn0 > r * 4294967296 + d
  ·have hq1 := (h.much hc).2
   by_cases ho : r + yn1 ≥ 4294967296
   ·have hl := h.last hc ho
    refine ⟨2, fun k hk => ?_⟩
    obtain ⟨k, rfl⟩ : ∃ j, k = j + 2 := ⟨k - 2, by omega⟩
    show bits_Div64.l1 (k + 1 + 1) y s yn1 yn0 d g r u q = _
    rw [key, decide_eq_true hc, bits_Div64.j4, if_pos rfl, u64_in (x := r + yn1) (by omega), if_pos ho, u64_in (x := q - 1) (by omega), Div64_fin hs hy h.hu h.hd hl (by rw [← hl]; exact hquot) hg, hl]
   obtain ⟨K1, h1⟩ := ih (q - 1) (r + yn1) (by omega) (h.next hc (by omega))
   refine ⟨K1 + 2, fun k hk => ?_⟩
   obtain ⟨k, rfl⟩ : ∃ j, k = j + 2 := ⟨k - 2, by omega⟩
   show bits_Div64.l1 (k + 1 + 1) y s yn1 yn0 d g r u q = _
   rw [key, decide_eq_true hc, bits_Div64.j4, if_pos rfl, u64_in (x := r + yn1) (by omega), if_neg ho, u64_in (x := q - 1) (by omega)]
   exact h1 k (by omega)
  have hl := h.good (by omega)
  refine ⟨2, fun k hk => ?_⟩
  obtain ⟨k, rfl⟩ : ∃ j, k = j + 2 := ⟨k - 2, by omega⟩
  show bits_Div64.l1 (k + 1 + 1) y s yn1 yn0 d g r u q = _
  rw [key, decide_eq_false hc, bits_Div64.j4, if_neg (by decide), Div64_fin hs hy h.hu h.hd hl (by rw [← hl]; exact hquot) hg, hl]
theorem up_or {s P Q : Int} (h : Sh s P Q) {o x : Int} (hx : 0 ≤ x ∧ x < 18446744073709551616) (ho : 0 ≤ o ∧ o < P) : Go.bits .or .u64 o (x % Q * P) = o + x % Q * P := by
 obtain ⟨t, et, _⟩ := h.P1
 obtain ⟨_, _, _, e4, e5, _⟩ := shl_parts h.P0 h.Q0 h.PQ hx
 have hP := h.P_le
 rw [(or_add t ⟨e4, e5⟩ ⟨x % Q, by rw [et]⟩ (by rw [← et]; exact ho) (by omega)).2, Int.add_comm]
theorem up_out0 {s P Q : Int} (h : Sh s P Q) (h0 : ¬ s > 0) {x : Int} (hx : 0 ≤ x ∧ x < 18446744073709551616) : x / Q = 0 := by
 obtain ⟨t, et, es⟩ := h.P1
 have hs := h.s0
 have hP1 : P = 1 := by rw [et, ← es, show s = 0 from by omega]; rfl
 have hQ1 : Q = 18446744073709551616 := by have := h.PQ; rw [hP1] at this; omega
 rw [hQ1]; exact Int.ediv_eq_zero_of_lt hx.1 hx.2
theorem set_same (l : List Int) (i : Nat) (h : l.getD i 0 = 0) : l.set i 0 = l := by
 refine List.ext_getElem (by simp) fun j h1 h2 => ?_
 by_cases hj : j = i
 ·subst hj
  rw [List.getElem_set_self]
  rw [List.getD_eq_getElem?_getD, List.getElem?_eq_getElem h2, Option.getD_some] at h
  exact h.symm
 rw [List.getElem_set_ne (fun e => hj e.symm)]
theorem step_wrap (i n : Nat) (hi : i < n) (hn : n ≤ 8388608) : wrap64 ((i : Int) + 1) = ((i + 1 : Nat) : Int) := by rw [w64 _ (by omega)]; omega
theorem up_step (k : Nat) {s P Q : Int} (h : Sh s P Q) (a out : List Int) (i : Nat) (hi : i < a.length) (hl : a.length ≤ 8388608) (ho : out.length = a.length + 1) (da : Dig 18446744073709551616 a) (hw : 0 ≤ out.getD i 0 ∧ out.getD i 0 < P) (hz : out.getD (i + 1) 0 = 0) :
  whole_amount_up.l0 (k + 1) s out a (a.length : Int) (i : Int) = whole_amount_up.l0 k s ((out.set i (out.getD i 0 + a.getD i 0 % Q * P)).set (i + 1) (a.getD i 0 / Q)) a (a.length : Int) ((i + 1 : Nat) : Int) := by
 have ga := getD_dig (by decide) da i
 have hor := up_or h ga hw
 have hwr := step_wrap i a.length hi hl
 have hout := fun h0 => up_out0 h h0 ga
 have c1 : (i : Int) < (a.length : Int) := by omega
 have c2 : (0 : Int) ≤ (i : Int) := by omega
 have c3 : (i : Int) < (out.length : Int) := by omega
 have c4 := h.s0.1
 have c5 : (0 : Int) ≤ ((i + 1 : Nat) : Int) := by omega
 have c6 : ((i + 1 : Nat) : Int) < (out.length : Int) := by omega
 have c7 : (0 : Int) ≤ 64 - s := by have := h.s0; omega
 have hcount := h.count
 have hL := h.eqL ga
 have hR := h.eqR' (x := a.getD i 0)
 have hset := set_same (out.set i (out.getD i 0 + a.getD i 0 % Q * P)) (i + 1) (by rw [getD_set_ne _ _ _ _ (by omega)]; exact hz)
 have ra := rd_getD a i
 have ro := rd_getD out i
 generalize a.getD i 0 = x at *
 generalize out.getD i 0 = o at *
 clear da hw ga hl hi hz
 rw [whole_amount_up.l0, if_pos c1, if_pos c2, if_pos c1, if_pos c3, if_pos c4, Option.bind_some, ra, ro, hL, hor, hwr, Int.toNat_natCast, Int.toNat_natCast]
 by_cases h0 : s > 0
 ·rw [if_pos h0, hcount, if_pos c7, if_pos c5, if_pos c6, hR]
 have hx0 := hout h0
 rw [if_neg h0, hx0, hset]
theorem up_l0 {s P Q : Int} (h : Sh s P Q) (a : List Int) (hl : a.length ≤ 8388608) (da : Dig 18446744073709551616 a) : ∀ (n i k : Nat) (out : List Int), i + n = a.length → n < k → out.length = a.length + 1 → Dig 18446744073709551616 out → val 18446744073709551616 out = val 18446744073709551616 (a.take i) * P → out.getD i 0 < P → (∀ t, i < t → out.getD t 0 = 0) →
  ∃ r, whole_amount_up.l0 k s out a (a.length : Int) (i : Int) = some r ∧ r.length = a.length + 1 ∧ Dig 18446744073709551616 r ∧ val 18446744073709551616 r = val 18446744073709551616 a * P := by
 intro n
 induction n with
 | zero =>
  intro i k out hi hk ho hd hv hw hz
  obtain ⟨k, rfl⟩ : ∃ j, k = j + 1 := ⟨k - 1, by omega⟩
  refine ⟨out, ?_, ho, hd, by rw [hv, show i = a.length from by omega, List.take_length]⟩
  rw [whole_amount_up.l0, if_neg (by omega)]
 | succ n ih =>
  intro i k out hi hk ho hd hv hw hz
  obtain ⟨k, rfl⟩ : ∃ j, k = j + 1 := ⟨k - 1, by omega⟩
  have hil : i < a.length := by omega
  have ga := getD_dig (by decide) da i
  have go := getD_dig (by decide) hd i
  have hz1 := hz (i + 1) (by omega)
  obtain ⟨e1, e2, e3, e4, e5, e6⟩ := shl_parts h.P0 h.Q0 h.PQ ga
  rw [up_step k h a out i hil hl ho da ⟨go.1, hw⟩ hz1]
  have hP := h.P_le
  have hsum : 0 ≤ out.getD i 0 + a.getD i 0 % Q * P ∧ out.getD i 0 + a.getD i 0 % Q * P < 18446744073709551616 := by
   refine ⟨by omega, ?_⟩
   have h1 : a.getD i 0 % Q + 1 ≤ Q := by have := Int.emod_lt_of_pos (a.getD i 0) h.Q0; omega
   have h2 := Int.mul_le_mul_of_nonneg_right h1 (Int.le_of_lt h.P0)
   rw [Int.mul_comm Q P, h.PQ, Int.add_mul, Int.one_mul] at h2
   omega
  refine ih (i + 1) k _ (by omega) (by omega) (by simp [ho]) ((hd.set i hsum).set (i + 1) ⟨e2, by omega⟩) ?_ ?_ ?_
  ·rw [val_set_getD _ _ _ _ (by simp [ho]; omega), val_set_getD _ _ _ _ (by omega), getD_set_ne _ _ _ _ (by omega), hz1, val_take_getD, hv, Int.pow_succ, Int.add_mul]
   have e7 : a.getD i 0 * 18446744073709551616 ^ i * P = (a.getD i 0 * P) * 18446744073709551616 ^ i := by rw [Int.mul_assoc, Int.mul_comm (18446744073709551616 ^ i) P, ← Int.mul_assoc]
   rw [e7, e1, Int.add_mul, Int.mul_comm (18446744073709551616 ^ i) 18446744073709551616, ← Int.mul_assoc, Int.sub_zero, show out.getD i 0 + a.getD i 0 % Q * P - out.getD i 0 = a.getD i 0 % Q * P from by omega]
   omega
  ·rw [getD_set_eq _ _ _ (by simp [ho]; omega)]; exact e3
  intro t ht
  rw [getD_set_ne _ _ _ _ (by omega), getD_set_ne _ _ _ _ (by omega)]
  exact hz t (by omega)
theorem up_ev {s P Q : Int} (h : Sh s P Q) (a : List Int) (hl : a.length ≤ 8388600) (da : Dig 18446744073709551616 a) :
  ∃ r, Ev (fun k => whole_amount_up.f k a s) r ∧ r.length = a.length + 1 ∧ Dig 18446744073709551616 r ∧ val 18446744073709551616 r = val 18446744073709551616 a * P := by
 have hz : ∀ t, (List.replicate (a.length + 1) (0 : Int)).getD t 0 = 0 := fun t => by
  simp [List.getD_eq_getElem?_getD, List.getElem?_replicate]; split <;> rfl
 obtain ⟨r, hr, hq⟩ := up_l0 h a (by omega) da a.length 0 (a.length + 1) (List.replicate (a.length + 1) 0) (by omega) (by omega) (by simp) (Dig.rep (by decide) _) (by rw [val_replicate]; simp [val]) (by rw [hz]; exact h.P0) (fun t _ => hz t)
 refine ⟨r, ?_, hq⟩
 have hw : wrap64 ((a.length : Int) + 1) = ((a.length + 1 : Nat) : Int) := by rw [w64 _ (by omega)]; omega
 refine Ev.of (fun k => whole_amount_up.mono a s k) (k := a.length + 1) ?_
 rw [whole_amount_up.f, hw, Int.toNat_natCast, if_pos (by omega), if_pos (by omega)]
 exact hr
theorem val_take_set (B : Int) (l : List Int) (i : Nat) (x : Int) (h : i < l.length) : val B ((l.set i x).take (i + 1)) = val B (l.take i) + x * B ^ i := by
 rw [val_take_getD, getD_set_eq _ _ _ h]
 congr 1
 rw [List.take_set_of_le (Nat.le_refl _)]
theorem mul_carry {g v c : Int} (hg : 0 ≤ g ∧ g < 18446744073709551616) (hv : 0 ≤ v ∧ v < 18446744073709551616) (hc : 0 ≤ c ∧ c < 18446744073709551616) :
  ∃ hi lo lo2 c2, bits_Mul64.f g v = some (hi, lo) ∧ bits_Add64.f lo c 0 = some (lo2, c2) ∧ 0 ≤ lo2 ∧ lo2 < 18446744073709551616 ∧ 0 ≤ hi + c2 ∧ hi + c2 < 18446744073709551616 ∧ (hi + c2) * 18446744073709551616 + lo2 = g * v + c := by
 have hb := mul_bound (M := 18446744073709551615) (x := g) (y := v) (by omega) (by omega)
 refine ⟨_, _, _, _, Mul64_eq g v hg hv, Add64_eq _ _ _ (by omega) hc.1 (by omega), ?_⟩
 generalize g * v = p at *
 refine ⟨by omega, by omega, by omega, by omega, by omega⟩
theorem sub_carry {u lo b : Int} (hu : 0 ≤ u ∧ u < 18446744073709551616) (hl : 0 ≤ lo ∧ lo < 18446744073709551616) (hb : 0 ≤ b ∧ b ≤ 1) :
  ∃ s b2, bits_Sub64.f u lo b = some (s, b2) ∧ 0 ≤ s ∧ s < 18446744073709551616 ∧ 0 ≤ b2 ∧ b2 ≤ 1 ∧ s = u - lo - b + b2 * 18446744073709551616 := by
 refine ⟨_, _, Sub64_eq u lo b hu.1 hl hb, by omega, by omega, by split <;> omega, by split <;> omega, by split <;> omega⟩
theorem sub_inv {N U V g u v c b c2 b2 s lo W B : Int} (hN : N = U - g * V + (c + b) * W) (h1 : c2 * B + lo = g * v + c) (h2 : s = u - lo - b + b2 * B) : N + s * W = (U + u * W) - g * (V + v * W) + (c2 + b2) * (W * B) := by
 have e1 : g * (V + v * W) = g * V + (g * v) * W := by rw [Int.mul_add, Int.mul_assoc]
 have e2 : (c2 + b2) * (W * B) = (c2 * B) * W + (b2 * B) * W := by rw [Int.add_mul, Int.mul_comm W B, ← Int.mul_assoc, ← Int.mul_assoc]
 have e3 : g * v = c2 * B + lo - c := by omega
 rw [e1, e2, hN, h2, e3]
 simp only [Int.add_mul, Int.sub_mul]
 omega
theorem subtract_step (k : Nat) (x v : List Int) (g c b hi lo lo2 c2 s b2 : Int) (i n : Nat) (hn : v.length = n) (hi1 : i < n) (hl : n ≤ 8388608) (hx : i < x.length) (h1 : bits_Mul64.f g (v.getD i 0) = some (hi, lo)) (h2 : bits_Add64.f lo c 0 = some (lo2, c2)) (h3 : bits_Sub64.f (x.getD i 0) lo2 b = some (s, b2)) (h4 : 0 ≤ hi + c2 ∧ hi + c2 < 18446744073709551616) :
  whole_subtract.l0 (k + 1) x v g c b v (n : Int) (i : Int) = whole_subtract.l0 k (x.set i s) v g (hi + c2) b2 v (n : Int) ((i + 1 : Nat) : Int) := by
 have hwr := step_wrap i n hi1 hl
 rw [whole_subtract.l0, if_pos (by omega), if_pos (by omega), if_pos (by omega), rd_getD, rd_getD, h1, Option.bind_some, h2, Option.bind_some, if_pos (by omega), h3, Option.bind_some, hwr, u64_in h4, Int.toNat_natCast]
theorem subtract_end (k : Nat) (x v : List Int) (g c b s b2 : Int) (n : Nat) (hn : v.length = n) (hx : n < x.length) (h3 : bits_Sub64.f (x.getD n 0) c b = some (s, b2)) :
  whole_subtract.l0 (k + 1) x v g c b v (n : Int) (n : Int) = some ((b2 == 1), x.set n s) := by
 rw [whole_subtract.l0, if_neg (by omega), hn, if_pos (by omega), if_pos (by omega), rd_getD, h3, Option.bind_some, Int.toNat_natCast]
theorem subtract_l0 (v : List Int) (g : Int) (n : Nat) (hn : v.length = n) (hl : n ≤ 8388608) (hg : 0 ≤ g ∧ g < 18446744073709551616) (dv : Dig 18446744073709551616 v) (u : List Int) (hu : u.length = n + 1) (du : Dig 18446744073709551616 u) : ∀ (m i k : Nat) (x : List Int) (c b : Int), i + m = n → m < k → x.length = n + 1 → Dig 18446744073709551616 x → (∀ t, i ≤ t → x.getD t 0 = u.getD t 0) → 0 ≤ c ∧ c < 18446744073709551616 → 0 ≤ b ∧ b ≤ 1 → val 18446744073709551616 (x.take i) = val 18446744073709551616 (u.take i) - g * val 18446744073709551616 (v.take i) + (c + b) * 18446744073709551616 ^ i →
  ∃ (b2 : Int) (r : List Int), whole_subtract.l0 k x v g c b v (n : Int) (i : Int) = some ((b2 == 1), r) ∧ 0 ≤ b2 ∧ b2 ≤ 1 ∧ r.length = n + 1 ∧ Dig 18446744073709551616 r ∧ val 18446744073709551616 r = val 18446744073709551616 u - g * val 18446744073709551616 v + b2 * 18446744073709551616 ^ (n + 1) := by
 intro m
 induction m with
 | zero =>
  intro i k x c b hi hk hx dx hxu hc hb hv
  obtain ⟨k, rfl⟩ : ∃ j, k = j + 1 := ⟨k - 1, by omega⟩
  have hin : i = n := by omega
  subst hin
  have gu := getD_dig (by decide) du i
  obtain ⟨s, b2, h3, s0, s1, b0, b1, hs⟩ := sub_carry (u := x.getD i 0) (by rw [hxu i (Nat.le_refl _)]; exact gu) hc hb
  refine ⟨b2, x.set i s, subtract_end k x v g c b s b2 i hn (by omega) h3, b0, b1, by simp [hx], dx.set i ⟨s0, s1⟩, ?_⟩
  have e1 : x.set i s = (x.set i s).take (i + 1) := by rw [List.take_of_length_le (by simp [hx])]
  have e2 : val 18446744073709551616 u = val 18446744073709551616 (u.take i) + u.getD i 0 * 18446744073709551616 ^ i := by
   rw [← val_take_getD, List.take_of_length_le (by omega)]
  rw [e1, val_take_set _ _ _ _ (by omega), hv, hs, hxu i (Nat.le_refl _), e2, show v.take i = v from List.take_of_length_le (by omega), Int.pow_succ]
  have e3 : b2 * (18446744073709551616 ^ i * 18446744073709551616) = b2 * 18446744073709551616 * 18446744073709551616 ^ i := by rw [Int.mul_comm (18446744073709551616 ^ i), ← Int.mul_assoc]
  rw [e3]
  simp only [Int.add_mul, Int.sub_mul]
  omega
 | succ m ih =>
  intro i k x c b hi hk hx dx hxu hc hb hv
  obtain ⟨k, rfl⟩ : ∃ j, k = j + 1 := ⟨k - 1, by omega⟩
  have gu := getD_dig (by decide) du i
  have gv := getD_dig (by decide) dv i
  obtain ⟨hi', lo, lo2, c2, h1, h2, l0, l1, p0, p1, hp⟩ := mul_carry hg gv hc
  obtain ⟨s, b2, h3, s0, s1, b0, b1, hs⟩ := sub_carry (u := x.getD i 0) (by rw [hxu i (Nat.le_refl _)]; exact gu) ⟨l0, l1⟩ hb
  rw [subtract_step k x v g c b hi' lo lo2 c2 s b2 i n hn (by omega) hl (by omega) h1 h2 h3 ⟨p0, p1⟩]
  refine ih (i + 1) k (x.set i s) (hi' + c2) b2 (by omega) (by omega) (by simp [hx]) (dx.set i ⟨s0, s1⟩) (fun t ht => by rw [getD_set_ne _ _ _ _ (by omega)]; exact hxu t (by omega)) ⟨p0, p1⟩ ⟨b0, b1⟩ ?_
  rw [val_take_set _ _ _ _ (by omega), val_take_getD, val_take_getD, Int.pow_succ]
  rw [hxu i (Nat.le_refl _)] at hs
  exact sub_inv hv hp hs
theorem subtract_ev (u v : List Int) (g : Int) (n : Nat) (hn : v.length = n) (hl : n ≤ 8388608) (hg : 0 ≤ g ∧ g < 18446744073709551616) (dv : Dig 18446744073709551616 v) (hu : u.length = n + 1) (du : Dig 18446744073709551616 u) :
  ∃ (b2 : Int) (r : List Int), Ev (fun k => whole_subtract.f k u v g) ((b2 == 1), r) ∧ 0 ≤ b2 ∧ b2 ≤ 1 ∧ r.length = n + 1 ∧ Dig 18446744073709551616 r ∧ val 18446744073709551616 r = val 18446744073709551616 u - g * val 18446744073709551616 v + b2 * 18446744073709551616 ^ (n + 1) := by
 obtain ⟨b2, r, hr, hq⟩ := subtract_l0 v g n hn hl hg dv u hu du n 0 (n + 1) u 0 0 (by omega) (by omega) hu du (fun _ _ => rfl) (by omega) (by omega) (by simp [val])
 refine ⟨b2, r, Ev.of (fun k => whole_subtract.mono u v g k) (k := n + 1) ?_, hq⟩
 rw [whole_subtract.f, hn]
 exact hr
theorem add_step' (k : Nat) (x v : List Int) (c : Int) (i n : Nat) (hn : v.length = n) (hi1 : i < n) (hl : n ≤ 8388608) (hx : i < x.length) (dx : Dig 18446744073709551616 x) (dv : Dig 18446744073709551616 v) (hc : 0 ≤ c ∧ c ≤ 1) :
  whole_add.l0 (k + 1) x v c v (n : Int) (i : Int) = whole_add.l0 k (x.set i ((x.getD i 0 + v.getD i 0 + c) % 18446744073709551616)) v ((x.getD i 0 + v.getD i 0 + c) / 18446744073709551616) v (n : Int) ((i + 1 : Nat) : Int) := by
 have hwr := step_wrap i n hi1 hl
 have gx := getD_dig (by decide) dx i
 have gv := getD_dig (by decide) dv i
 rw [whole_add.l0, if_pos (by omega), if_pos (by omega), if_pos (by omega), if_pos (by omega), rd_getD, rd_getD, Add64_eq _ _ _ gx.1 gv.1 hc, Option.bind_some, hwr, Int.toNat_natCast]
theorem add_end (k : Nat) (x v : List Int) (c : Int) (n : Nat) (hn : v.length = n) (hx : n < x.length) :
  whole_add.l0 (k + 1) x v c v (n : Int) (n : Int) = some (x.set n (IntKind.u64.wrap (x.getD n 0 + c))) := by
 rw [whole_add.l0, if_neg (by omega), hn, if_pos (by omega), if_pos (by omega), rd_getD, Int.toNat_natCast]
theorem add_l0 (v : List Int) (n : Nat) (hn : v.length = n) (hl : n ≤ 8388608) (dv : Dig 18446744073709551616 v) (u : List Int) (hu : u.length = n + 1) (du : Dig 18446744073709551616 u) : ∀ (m i k : Nat) (x : List Int) (c : Int), i + m = n → m < k → x.length = n + 1 → Dig 18446744073709551616 x → (∀ t, i ≤ t → x.getD t 0 = u.getD t 0) → 0 ≤ c ∧ c ≤ 1 → val 18446744073709551616 (x.take i) + c * 18446744073709551616 ^ i = val 18446744073709551616 (u.take i) + val 18446744073709551616 (v.take i) →
  ∃ (b2 : Int) (r : List Int), whole_add.l0 k x v c v (n : Int) (i : Int) = some r ∧ 0 ≤ b2 ∧ r.length = n + 1 ∧ Dig 18446744073709551616 r ∧ val 18446744073709551616 r + b2 * 18446744073709551616 ^ (n + 1) = val 18446744073709551616 u + val 18446744073709551616 v := by
 intro m
 induction m with
 | zero =>
  intro i k x c hi hk hx dx hxu hc hv
  obtain ⟨k, rfl⟩ : ∃ j, k = j + 1 := ⟨k - 1, by omega⟩
  have hin : i = n := by omega
  subst hin
  have gu := getD_dig (by decide) du i
  rw [add_end k x v c i hn (by omega), hxu i (Nat.le_refl _), IntKind.wrap_u64]
  refine ⟨(u.getD i 0 + c) / 18446744073709551616, _, rfl, by omega, by simp [hx], dx.set i (by omega), ?_⟩
  have e1 : ∀ y, x.set i y = (x.set i y).take (i + 1) := fun y => by rw [List.take_of_length_le (by simp [hx])]
  have e2 : val 18446744073709551616 u = val 18446744073709551616 (u.take i) + u.getD i 0 * 18446744073709551616 ^ i := by
   rw [← val_take_getD, List.take_of_length_le (by omega)]
  rw [e1, val_take_set _ _ _ _ (by omega), e2, Int.pow_succ]
  rw [show v.take i = v from List.take_of_length_le (by omega)] at hv
  have := add_step (val 18446744073709551616 (x.take i)) c ((u.getD i 0 + c) / 18446744073709551616) ((u.getD i 0 + c) % 18446744073709551616) (u.getD i 0) 0 _ _ (18446744073709551616 ^ i) 18446744073709551616 (by omega) hv
  omega
 | succ m ih =>
  intro i k x c hi hk hx dx hxu hc hv
  obtain ⟨k, rfl⟩ : ∃ j, k = j + 1 := ⟨k - 1, by omega⟩
  have gu := getD_dig (by decide) du i
  have gv := getD_dig (by decide) dv i
  rw [add_step' k x v c i n hn (by omega) hl (by omega) dx dv hc, hxu i (Nat.le_refl _)]
  refine ih (i + 1) k _ _ (by omega) (by omega) (by simp [hx]) (dx.set i (by omega)) (fun t ht => by rw [getD_set_ne _ _ _ _ (by omega)]; exact hxu t (by omega)) (by omega) ?_
  rw [val_take_set _ _ _ _ (by omega), val_take_getD, val_take_getD, Int.pow_succ]
  exact add_step _ c _ _ _ _ _ _ _ _ (by omega) hv
theorem add_ev' (u v : List Int) (n : Nat) (hn : v.length = n) (hl : n ≤ 8388608) (dv : Dig 18446744073709551616 v) (hu : u.length = n + 1) (du : Dig 18446744073709551616 u) :
  ∃ (b2 : Int) (r : List Int), Ev (fun k => whole_add.f k u v) r ∧ 0 ≤ b2 ∧ r.length = n + 1 ∧ Dig 18446744073709551616 r ∧ val 18446744073709551616 r + b2 * 18446744073709551616 ^ (n + 1) = val 18446744073709551616 u + val 18446744073709551616 v := by
 obtain ⟨b2, r, hr, hq⟩ := add_l0 v n hn hl dv u hu du n 0 (n + 1) u 0 (by omega) (by omega) hu du (fun _ _ => rfl) (by omega) (by simp [val])
 refine ⟨b2, r, Ev.of (fun k => whole_add.mono u v k) (k := n + 1) ?_, hq⟩
 rw [whole_add.f, hn]
 exact hr
theorem bitLen_up {x : Nat} (h0 : 0 < x) (h : x < 2 ^ 64) : 1 ≤ Lib.bitLen x ∧ Lib.bitLen x ≤ 64 ∧ x < 2 ^ Lib.bitLen x ∧ 2 ^ (Lib.bitLen x - 1) ≤ x := by
 have h1 := Lib.bitLen_half x (by omega) h
 have h2 := Lib.bitLen_le x 64 (by omega) h
 refine ⟨by omega, h2, ?_, ?_⟩
 ·refine Classical.byContradiction fun hc => ?_
  have h3 := Lib.bitLen_shift (Lib.bitLen x) x (by omega) h
  have h4 : 0 < x / 2 ^ Lib.bitLen x := Nat.div_pos (by omega) (Nat.pow_pos (by decide))
  have h5 := Lib.bitLen_half (x / 2 ^ Lib.bitLen x) (by omega) (Nat.lt_of_le_of_lt (Nat.div_le_self _ _) h)
  omega
 refine Classical.byContradiction fun hc => ?_
 have h3 := Lib.bitLen_le x (Lib.bitLen x - 1) (by omega) (by omega)
 omega
theorem clz {x : Int} (h : 0 < x ∧ x < 18446744073709551616) : ∃ s P Q, bits_LeadingZeros64.f x = some s ∧ Sh s P Q ∧ 9223372036854775808 ≤ x * P ∧ x * P < 18446744073709551616 := by
 obtain ⟨n, rfl⟩ := Int.eq_ofNat_of_zero_le (Int.le_of_lt h.1)
 have hn : 0 < n ∧ n < 2 ^ 64 := by omega
 obtain ⟨b1, b2, b3, b4⟩ := bitLen_up hn.1 hn.2
 refine ⟨64 - (Lib.bitLen n : Int), 2 ^ (64 - Lib.bitLen n), 2 ^ Lib.bitLen n, ?_, ⟨by omega, Int.pow_pos (by decide), Int.pow_pos (by decide), ?_, ⟨_, rfl, by omega⟩, ⟨_, rfl, by omega⟩⟩, ?_, ?_⟩
 ·rw [bits_LeadingZeros64.f, if_pos (by omega), Int.toNat_natCast]
 ·rw [← Int.pow_add, show 64 - Lib.bitLen n + Lib.bitLen n = 64 from by omega]; decide
 ·have e : (9223372036854775808 : Int) = ((2 ^ (Lib.bitLen n - 1) * 2 ^ (64 - Lib.bitLen n) : Nat) : Int) := by
   rw [← Nat.pow_add, show Lib.bitLen n - 1 + (64 - Lib.bitLen n) = 63 from by omega]; rfl
  rw [e, show ((n : Int) * 2 ^ (64 - Lib.bitLen n)) = ((n * 2 ^ (64 - Lib.bitLen n) : Nat) : Int) from by simp]
  exact Int.ofNat_le.2 (Nat.mul_le_mul_right _ b4)
 have e : (18446744073709551616 : Int) = ((2 ^ Lib.bitLen n * 2 ^ (64 - Lib.bitLen n) : Nat) : Int) := by
  rw [← Nat.pow_add, show Lib.bitLen n + (64 - Lib.bitLen n) = 64 from by omega]; rfl
 rw [e, show ((n : Int) * 2 ^ (64 - Lib.bitLen n)) = ((n * 2 ^ (64 - Lib.bitLen n) : Nat) : Int) from by simp]
 exact Int.ofNat_lt.2 (Nat.mul_lt_mul_of_pos_right b3 (Nat.pow_pos (by decide)))
theorem scale_div {X a P G r : Int} (hP : 0 < P) (ha : 0 < a) (h : X * P = G * (a * P) + r) (h0 : 0 ≤ r) (h1 : r < a * P) : X / a = G ∧ X % a = r / P := by
 have e : r = (X - G * a) * P := by rw [Int.sub_mul, h, Int.mul_assoc]; omega
 have d0 : 0 ≤ X - G * a := by
  refine Classical.byContradiction fun hc => ?_
  have := Int.mul_le_mul_of_nonneg_right (show X - G * a ≤ -1 by omega) (Int.le_of_lt hP)
  omega
 have d1 : X - G * a < a := by
  refine Classical.byContradiction fun hc => ?_
  have := Int.mul_le_mul_of_nonneg_right (show a ≤ X - G * a by omega) (Int.le_of_lt hP)
  omega
 have hq : X / a = G := div_eq ha (by omega) (by rw [Int.add_mul, Int.one_mul]; omega)
 refine ⟨hq, ?_⟩
 have h2 := Int.mul_ediv_add_emod X a
 rw [hq, Int.mul_comm a G] at h2
 rw [e, Int.mul_ediv_cancel _ (Int.ne_of_gt hP)]
 omega
theorem tdivmod {u d : Int} (hu : 0 ≤ u ∧ u < 18446744073709551616) (hd : 0 < d) : IntKind.u64.wrap (Int.tdiv u d) = u / d ∧ IntKind.u64.wrap (u - IntKind.u64.wrap (IntKind.u64.wrap (Int.tdiv u d) * d)) = u % d := by
 have h1 := Int.mul_ediv_add_emod u d
 have h2 := Int.emod_nonneg u (Int.ne_of_gt hd)
 have h3 := Int.emod_lt_of_pos u hd
 have h4 : 0 ≤ u / d := Int.ediv_nonneg hu.1 (Int.le_of_lt hd)
 have h5 : u / d ≤ u := by
  have := Int.mul_le_mul_of_nonneg_right (show (1 : Int) ≤ d by omega) h4
  rw [Int.one_mul] at this; omega
 have e : IntKind.u64.wrap (Int.tdiv u d) = u / d := by
  rw [Int.tdiv_eq_ediv_of_nonneg hu.1, u64_in ⟨h4, by omega⟩]
 refine ⟨e, ?_⟩
 have h6 : 0 ≤ u / d * d := Int.mul_nonneg h4 (Int.le_of_lt hd)
 rw [Int.mul_comm] at h1
 rw [e, u64_in (x := u / d * d) ⟨h6, by omega⟩, show u - u / d * d = u % d from by omega, u64_in ⟨h2, by omega⟩]
theorem rest_eq {y u d g : Int} (hy : 0 < y ∧ y < 18446744073709551616) (hg : (u * 4294967296 + d) / y = g) : IntKind.u64.wrap (IntKind.u64.wrap (IntKind.u64.wrap (u * 4294967296) + d) - IntKind.u64.wrap (g * y)) = (u * 4294967296 + d) % y := by
 have h1 := Int.emod_nonneg (u * 4294967296 + d) (show y ≠ 0 by omega)
 have h2 := Int.emod_lt_of_pos (u * 4294967296 + d) hy.1
 have h3 := Int.mul_ediv_add_emod (u * 4294967296 + d) y
 rw [hg, Int.mul_comm y g] at h3
 simp only [IntKind.wrap_u64]
 omega
theorem Div64_j2 {y yn1 yn0 u d1 d0 s P Q : Int} (hs : Sh s P Q) (hy : y = yn1 * 4294967296 + yn0) (y1 : 2147483648 ≤ yn1 ∧ yn1 < 4294967296) (y0 : 0 ≤ yn0 ∧ yn0 < 4294967296) (hu : 0 ≤ u ∧ u < y) (h1 : 0 ≤ d1 ∧ d1 < 4294967296) (h0 : 0 ≤ d0 ∧ d0 < 4294967296) :
  Ev (fun k => bits_Div64.j2 k y s yn1 yn0 u d1 d0 ((u * 4294967296 + d1) / y)) ((u * 4294967296 + d1) / y * 4294967296 + ((u * 4294967296 + d1) % y * 4294967296 + d0) / y, ((u * 4294967296 + d1) % y * 4294967296 + d0) % y / P) := by
 have hyM : 0 < y ∧ y < 18446744073709551616 := by omega
 have hst := Half.start hy y1 y0 hu h1
 have hr0 := Int.emod_nonneg (u * 4294967296 + d1) (show y ≠ 0 by omega)
 have hr1 := Int.emod_lt_of_pos (u * 4294967296 + d1) hyM.1
 obtain ⟨K, hK⟩ := Div64_l1 hs hyM ((u * 4294967296 + d1) / y) hst.quot _ _ _ (Nat.le_refl _) (Half.start hy y1 y0 ⟨hr0, hr1⟩ h0)
 obtain ⟨t1, t2⟩ := tdivmod (u := (u * 4294967296 + d1) % y) (d := yn1) ⟨hr0, by omega⟩ (by omega)
 have he := rest_eq hyM (rfl : (u * 4294967296 + d1) / y = _)
 refine ⟨K + 1, fun k hk => ?_⟩
 obtain ⟨k, rfl⟩ : ∃ j, k = j + 1 := ⟨k - 1, by omega⟩
 have hk := hK k (by omega)
 show bits_Div64.j2 (k + 1) y s yn1 yn0 u d1 d0 ((u * 4294967296 + d1) / y) = _
 rw [bits_Div64.j2, if_neg (show ¬ yn1 = 0 by omega), he, t2, t1]
 exact hk
theorem Div64_ev {a0 a1 a2 : Int} (h0 : 0 ≤ a0 ∧ a0 < a2) (h1 : 0 ≤ a1 ∧ a1 < 18446744073709551616) (h2 : a2 < 18446744073709551616) : Ev (fun k => bits_Div64.f k a0 a1 a2) ((a0 * 18446744073709551616 + a1) / a2, (a0 * 18446744073709551616 + a1) % a2) := by
 by_cases hz : a0 = 0
 ·refine ⟨0, fun k _ => ?_⟩
  show bits_Div64.f k a0 a1 a2 = _
  have h4 : 0 ≤ a1 / a2 := Int.ediv_nonneg h1.1 (by omega)
  have h5 : a1 / a2 ≤ a1 := Int.ediv_le_self _ h1.1
  rw [bits_Div64.f, if_neg (by omega), if_neg (by omega), if_pos hz, Int.tdiv_eq_ediv_of_nonneg h1.1, Int.tmod_eq_emod_of_nonneg h1.1, u64_in ⟨h4, by omega⟩, hz, Int.zero_mul, Int.zero_add]
 obtain ⟨s, P, Q, hc, hs, hP1, hP2⟩ := clz (x := a2) (by omega)
 have hs0 := hs.s0
 have hP0 := hs.P0
 have hQ0 := hs.Q0
 have haQ : a2 < Q := by
  refine Classical.byContradiction fun hx => ?_
  have := Int.mul_le_mul_of_nonneg_right (show Q ≤ a2 by omega) (Int.le_of_lt hP0)
  rw [Int.mul_comm Q P, hs.PQ] at this
  omega
 have e2 : shl .u64 a2 s = a2 * P := by rw [hs.eqL (by omega), Int.emod_eq_of_lt (by omega) haQ]
 have e0 : shl .u64 a0 s = a0 * P := by rw [hs.eqL (by omega), Int.emod_eq_of_lt (by omega) (by omega)]
 have e1 : shl .u64 a1 s = a1 % Q * P := hs.eqL h1
 have e3 : shr .u64 a1 (64 - s) = a1 / Q := hs.eqR'
 obtain ⟨p1, p2, p3, p4, p5, _⟩ := shl_parts hP0 hQ0 hs.PQ h1
 obtain ⟨t, et, _⟩ := hs.P1
 have a0P : 0 ≤ a0 * P := Int.mul_nonneg h0.1 (Int.le_of_lt hP0)
 have a0P2 : a0 * P + P ≤ a2 * P := by
  have := Int.mul_le_mul_of_nonneg_right (show a0 + 1 ≤ a2 by omega) (Int.le_of_lt hP0)
  rw [Int.add_mul, Int.one_mul] at this; exact this
 have hPle := hs.P_le
 have eor : Go.bits .or .u64 (a0 * P) (a1 / Q) = a0 * P + a1 / Q := (or_add t ⟨a0P, by omega⟩ ⟨a0, by rw [et]⟩ (by rw [← et]; exact ⟨p2, p3⟩) (by omega)).1
 have hX : (a0 * 18446744073709551616 + a1) * P = (a0 * P + a1 / Q) * 18446744073709551616 + a1 % Q * P := by
  rw [Int.add_mul, Int.add_mul, p1, Int.mul_assoc, Int.mul_comm 18446744073709551616 P, ← Int.mul_assoc]; omega
 have hw1 : IntKind.u64.wrap s = s := u64_in (by omega)
 have hcnt := hs.count
 clear p1
 generalize hyy : a2 * P = y at *
 generalize huu : a0 * P + a1 / Q = u at *
 generalize hww : a1 % Q * P = w at *
 have hu : 0 ≤ u ∧ u < y := by omega
 have hyn : y = y / 4294967296 * 4294967296 + y % 4294967296 := by omega
 have y1 : 2147483648 ≤ y / 4294967296 ∧ y / 4294967296 < 4294967296 := by omega
 have y0 : 0 ≤ y % 4294967296 ∧ y % 4294967296 < 4294967296 := by omega
 have w1 : 0 ≤ w / 4294967296 ∧ w / 4294967296 < 4294967296 := by omega
 have w0 : 0 ≤ w % 4294967296 ∧ w % 4294967296 < 4294967296 := by omega
 obtain ⟨K, hK⟩ := Div64_l0 s (w % 4294967296) _ (Div64_j2 hs hyn y1 y0 hu w1 w0) _ _ _ (Nat.le_refl _) (Half.start hyn y1 y0 hu w1)
 obtain ⟨t1, t2⟩ := tdivmod (u := u) (d := y / 4294967296) (by omega) (by omega)
 have hres := scale_div (X := a0 * 18446744073709551616 + a1) (a := a2) (P := P) (G := (u * 4294967296 + w / 4294967296) / y * 4294967296 + ((u * 4294967296 + w / 4294967296) % y * 4294967296 + w % 4294967296) / y) (r := ((u * 4294967296 + w / 4294967296) % y * 4294967296 + w % 4294967296) % y) hP0 (by omega) (by
  have g1 := Int.mul_ediv_add_emod (u * 4294967296 + w / 4294967296) y
  have g2 := Int.mul_ediv_add_emod ((u * 4294967296 + w / 4294967296) % y * 4294967296 + w % 4294967296) y
  rw [hX, hyy, Int.add_mul, Int.mul_comm _ y, Int.mul_comm _ y, ← Int.mul_assoc]
  omega) (Int.emod_nonneg _ (by omega)) (by rw [hyy]; exact Int.emod_lt_of_pos _ (by omega))
 rw [hres.1, hres.2]
 refine ⟨K, fun k hk => ?_⟩
 have hk := hK k hk
 show bits_Div64.f k a0 a1 a2 = _
 rw [bits_Div64.f, if_neg (by omega), if_neg (by omega), if_neg hz, hc, Option.bind_some, hw1, if_pos hs0.1, hcnt, if_pos (by omega), e2, e0, e1, e3, eor, if_neg (by omega), and32 y (by omega), and32 w (by omega), t2, t1]
 exact hk
structure Fix (N vn1 vn2 un2 g r : Int) : Prop where
 hv1 : 0 < vn1 ∧ vn1 < 18446744073709551616
 hv2 : 0 ≤ vn2 ∧ vn2 < 18446744073709551616
 hu2 : 0 ≤ un2 ∧ un2 < 18446744073709551616
 hg : 0 ≤ g ∧ g < 18446744073709551616
 hr : 0 ≤ r ∧ r < 18446744073709551616
 hN : N = g * vn1 + r
 top : N * 18446744073709551616 + un2 < (g + 1) * (vn1 * 18446744073709551616 + vn2)
theorem Fix.eqs {N vn1 vn2 un2 g r : Int} (h : Fix N vn1 vn2 un2 g r) : N * 18446744073709551616 + un2 - g * (vn1 * 18446744073709551616 + vn2) = r * 18446744073709551616 + un2 - g * vn2 := by
 have := h.hN
 rw [Int.mul_add, ← Int.mul_assoc]
 generalize g * vn1 = x at *
 generalize g * vn2 = y at *
 omega
theorem fix_run {N vn1 vn2 un2 : Int} : ∀ (n : Nat) (g r : Int), (18446744073709551616 - r).toNat ≤ n → Fix N vn1 vn2 un2 g r → ∃ g2, quo_fix (n + 1) g r vn2 vn1 un2 = some g2 ∧ 0 ≤ g2 ∧ g2 < 18446744073709551616 ∧ g2 * (vn1 * 18446744073709551616 + vn2) ≤ N * 18446744073709551616 + un2 ∧ N * 18446744073709551616 + un2 < (g2 + 1) * (vn1 * 18446744073709551616 + vn2) := by
 intro n
 induction n with
 | zero => intro g r hn h; have := h.hr; omega
 | succ n ih =>
  intro g r hn h
  have e := h.eqs
  have hr := h.hr
  have hu := h.hu2
  have hb := mul_bound (M := 18446744073709551615) (x := g) (y := vn2) (by have := h.hg; omega) (by have := h.hv2; omega)
  rw [quo_fix, Mul64_eq g vn2 h.hg h.hv2, Option.bind_some]
  have hp : g * vn2 = g * vn2 / 18446744073709551616 * 18446744073709551616 + g * vn2 % 18446744073709551616 := by omega
  have hl : 0 ≤ g * vn2 % 18446744073709551616 ∧ g * vn2 % 18446744073709551616 < 18446744073709551616 := by omega
  show ∃ g2, (if g * vn2 / 18446744073709551616 < r then some g else if g * vn2 / 18446744073709551616 = r ∧ g * vn2 % 18446744073709551616 ≤ un2 then some g else _) = some g2 ∧ _
  by_cases hc : g * vn2 ≤ r * 18446744073709551616 + un2
  ·refine ⟨g, ?_, h.hg.1, h.hg.2, by omega, h.top⟩
   by_cases h1 : g * vn2 / 18446744073709551616 < r
   ·rw [if_pos h1]
   rw [if_neg h1, if_pos (by omega)]
  have h1 : ¬ g * vn2 / 18446744073709551616 < r := by omega
  have h2 : ¬ (g * vn2 / 18446744073709551616 = r ∧ g * vn2 % 18446744073709551616 ≤ un2) := by omega
  rw [if_neg h1, if_neg h2]
  have hv1 := h.hv1
  have hg1 : 1 ≤ g := by
   have := h.hg
   refine Classical.byContradiction fun hx => ?_
   have : g = 0 := by omega
   rw [this] at hc; omega
  have htop : N * 18446744073709551616 + un2 < (g - 1 + 1) * (vn1 * 18446744073709551616 + vn2) := by
   rw [show g - 1 + 1 = g from by omega]; omega
  have hg' := h.hg
  rw [u64_in (x := g - 1) (by omega)]
  by_cases ho : r + vn1 < 18446744073709551616
  ·rw [u64_in (x := r + vn1) (by omega), if_neg (by omega)]
   refine ih (g - 1) (r + vn1) (by omega) ⟨h.hv1, h.hv2, h.hu2, by omega, by omega, ?_, htop⟩
   rw [Int.sub_mul, Int.one_mul]; have := h.hN; omega
  have hw : IntKind.u64.wrap (r + vn1) = r + vn1 - 18446744073709551616 := by rw [IntKind.wrap_u64]; omega
  rw [hw, if_pos (by omega)]
  refine ⟨g - 1, rfl, by omega, by omega, ?_, htop⟩
  have h9 : (g - 1) * vn2 = g * vn2 - vn2 := by rw [Int.sub_mul, Int.one_mul]
  have h8 := h.hv2
  have h10 : (g - 1) * (vn1 * 18446744073709551616 + vn2) = g * (vn1 * 18446744073709551616 + vn2) - (vn1 * 18446744073709551616 + vn2) := by rw [Int.sub_mul, Int.one_mul]
  rw [h10]
  omega
theorem guess_ev {un un1 un2 vn1 vn2 : Int} (hu : 0 ≤ un ∧ un < 18446744073709551616) (hu1 : 0 ≤ un1 ∧ un1 < 18446744073709551616) (hu2 : 0 ≤ un2 ∧ un2 < 18446744073709551616) (hv1 : 9223372036854775808 ≤ vn1 ∧ vn1 < 18446744073709551616) (hv2 : 0 ≤ vn2 ∧ vn2 < 18446744073709551616) :
  ∃ g, Ev (fun k => quo_guess k un un1 un2 vn1 vn2) g ∧ 0 ≤ g ∧ g < 18446744073709551616 ∧ ((g * (vn1 * 18446744073709551616 + vn2) ≤ (un * 18446744073709551616 + un1) * 18446744073709551616 + un2 ∧ (un * 18446744073709551616 + un1) * 18446744073709551616 + un2 < (g + 1) * (vn1 * 18446744073709551616 + vn2)) ∨ (vn1 ≤ un ∧ g = 18446744073709551615)) := by
 by_cases hc : un < vn1
 ·obtain ⟨K, hK⟩ := Div64_ev (a0 := un) (a1 := un1) (a2 := vn1) ⟨hu.1, hc⟩ hu1 hv1.2
  have h1 := Int.mul_ediv_add_emod (un * 18446744073709551616 + un1) vn1
  have h2 := Int.emod_nonneg (un * 18446744073709551616 + un1) (show vn1 ≠ 0 by omega)
  have h3 := Int.emod_lt_of_pos (un * 18446744073709551616 + un1) (show 0 < vn1 by omega)
  have h4 : 0 ≤ (un * 18446744073709551616 + un1) / vn1 := Int.ediv_nonneg (by omega) (by omega)
  have h5 : (un * 18446744073709551616 + un1) / vn1 < 18446744073709551616 := Int.ediv_lt_of_lt_mul (by omega) (by omega)
  rw [Int.mul_comm] at h1
  obtain ⟨g, hg, g0, g1, g2, g3⟩ := fix_run (N := un * 18446744073709551616 + un1) (vn1 := vn1) (vn2 := vn2) (un2 := un2) _ _ _ (Nat.le_refl _) ⟨by omega, hv2, hu2, ⟨h4, h5⟩, ⟨h2, by omega⟩, h1.symm, by
   have h6 : 0 ≤ ((un * 18446744073709551616 + un1) / vn1 + 1) * vn2 := Int.mul_nonneg (by omega) hv2.1
   rw [Int.mul_add, ← Int.mul_assoc, Int.add_mul ((un * 18446744073709551616 + un1) / vn1) 1 vn1, Int.one_mul]
   omega⟩
  obtain ⟨J, hJ⟩ := Ev.of (fun k => quo_fix.mono k _ _ _ _ _) hg
  refine ⟨g, ⟨max K J, fun k hk => ?_⟩, g0, g1, .inl ⟨g2, g3⟩⟩
  have e1 : bits_Div64.f k un un1 vn1 = _ := hK k (by omega)
  have e2 := hJ k (by omega)
  show quo_guess k un un1 un2 vn1 vn2 = some g
  rw [quo_guess, if_pos hc, e1, Option.bind_some]
  exact e2
 refine ⟨18446744073709551615, ⟨0, fun k _ => ?_⟩, by omega, by omega, .inr ⟨by omega, rfl⟩⟩
 show quo_guess k un un1 un2 vn1 vn2 = _
 rw [quo_guess, if_neg hc]
theorem digit_bounds {U V W U0 V0 g un un1 un2 vn1 vn2 : Int} (hW : 0 < W) (hU : U = U0 + ((un * 18446744073709551616 + un1) * 18446744073709551616 + un2) * W) (hV : V = V0 + (vn1 * 18446744073709551616 + vn2) * W) (hU0 : 0 ≤ U0 ∧ U0 < W) (hV0 : 0 ≤ V0 ∧ V0 < W) (hlt : U < V * 18446744073709551616)
  (hu : 0 ≤ un) (hu1 : 0 ≤ un1) (hu2 : 0 ≤ un2) (hv1 : 9223372036854775808 ≤ vn1) (hv2 : 0 ≤ vn2 ∧ vn2 < 18446744073709551616) (hg : 0 ≤ g ∧ g < 18446744073709551616)
  (h : (g * (vn1 * 18446744073709551616 + vn2) ≤ (un * 18446744073709551616 + un1) * 18446744073709551616 + un2 ∧ (un * 18446744073709551616 + un1) * 18446744073709551616 + un2 < (g + 1) * (vn1 * 18446744073709551616 + vn2)) ∨ (vn1 ≤ un ∧ g = 18446744073709551615)) : U < (g + 1) * V ∧ (g - 1) * V ≤ U := by
 have hV2 : V ≤ (vn1 * 18446744073709551616 + vn2 + 1) * W := by rw [Int.add_mul _ 1 W, Int.one_mul]; omega
 have hVn : 0 ≤ V := by
  have := Int.mul_nonneg (show 0 ≤ vn1 * 18446744073709551616 + vn2 by omega) (Int.le_of_lt hW)
  omega
 rcases h with ⟨h1, h2⟩ | ⟨h1, h2⟩
 ·have hT0 : 0 ≤ (un * 18446744073709551616 + un1) * 18446744073709551616 + un2 := by omega
  have hv20 : 18446744073709551616 ≤ vn1 * 18446744073709551616 + vn2 := by omega
  generalize (un * 18446744073709551616 + un1) * 18446744073709551616 + un2 = T at *
  generalize vn1 * 18446744073709551616 + vn2 = v2 at *
  constructor
  ·have a1 := Int.mul_le_mul_of_nonneg_right (show T + 1 ≤ (g + 1) * v2 by omega) (Int.le_of_lt hW)
   have a2 := Int.mul_le_mul_of_nonneg_left (show v2 * W ≤ V by omega) (show 0 ≤ g + 1 by omega)
   rw [Int.add_mul, Int.one_mul, Int.mul_assoc] at a1
   omega
  by_cases hg0 : g = 0
  ·rw [hg0]
   have := Int.mul_nonneg hT0 (Int.le_of_lt hW)
   omega
  have a1 := Int.mul_le_mul_of_nonneg_left hV2 (show 0 ≤ g - 1 by omega)
  rw [← Int.mul_assoc] at a1
  have a2 : (g - 1) * (v2 + 1) ≤ T := by
   rw [Int.mul_add, Int.mul_one, Int.sub_mul, Int.one_mul]; omega
  have a3 := Int.mul_le_mul_of_nonneg_right a2 (Int.le_of_lt hW)
  omega
 subst h2
 constructor
 ·rw [Int.mul_comm V] at hlt; exact hlt
 have a1 := Int.mul_le_mul_of_nonneg_left hV2 (show (0 : Int) ≤ 18446744073709551615 - 1 by decide)
 rw [← Int.mul_assoc] at a1
 have a2 : (18446744073709551615 - 1) * (vn1 * 18446744073709551616 + vn2 + 1) ≤ (un * 18446744073709551616 + un1) * 18446744073709551616 + un2 := by omega
 have a3 := Int.mul_le_mul_of_nonneg_right a2 (Int.le_of_lt hW)
 omega
theorem top_two (v : List Int) (m : Nat) (hl : v.length = m + 2) : val 18446744073709551616 v = val 18446744073709551616 (v.take m) + (v.getD (m + 1) 0 * 18446744073709551616 + v.getD m 0) * 18446744073709551616 ^ m := by
 have e : val 18446744073709551616 v = val 18446744073709551616 (v.take (m + 1 + 1)) := by rw [List.take_of_length_le (by omega)]
 rw [e, val_take_getD, val_take_getD, Int.pow_succ, Int.mul_comm (18446744073709551616 ^ m) 18446744073709551616, ← Int.mul_assoc, Int.add_mul]
 omega
theorem top_three (S : List Int) (m : Nat) (hl : S.length = m + 3) : val 18446744073709551616 S = val 18446744073709551616 (S.take m) + ((S.getD (m + 2) 0 * 18446744073709551616 + S.getD (m + 1) 0) * 18446744073709551616 + S.getD m 0) * 18446744073709551616 ^ m := by
 have e : val 18446744073709551616 S = val 18446744073709551616 (S.take (m + 2 + 1)) := by rw [List.take_of_length_le (by omega)]
 rw [e, val_take_getD, val_take_getD, val_take_getD, show (18446744073709551616 : Int) ^ (m + 2) = 18446744073709551616 ^ m * 18446744073709551616 * 18446744073709551616 from by rw [Int.pow_succ, Int.pow_succ], Int.pow_succ]
 generalize (18446744073709551616 : Int) ^ m = W
 generalize S.getD (m + 2) 0 = a
 generalize S.getD (m + 1) 0 = b
 generalize S.getD m 0 = c
 have e1 : b * (W * 18446744073709551616) = b * 18446744073709551616 * W := by rw [Int.mul_comm W, ← Int.mul_assoc]
 have e2 : a * (W * 18446744073709551616 * 18446744073709551616) = a * 18446744073709551616 * 18446744073709551616 * W := by
  rw [Int.mul_assoc W, Int.mul_comm W, ← Int.mul_assoc, ← Int.mul_assoc]
 have e3 : ((a * 18446744073709551616 + b) * 18446744073709551616 + c) * W = a * 18446744073709551616 * 18446744073709551616 * W + b * 18446744073709551616 * W + c * W := by
  rw [Int.add_mul _ b, Int.add_mul, Int.add_mul]
 rw [e1, e2, e3]
 omega
theorem seg_getD (u : List Int) (j n t : Nat) (h : t < n) : ((u.drop j).take n).getD t 0 = u.getD (j + t) 0 := by
 rw [List.getD_eq_getElem?_getD, List.getD_eq_getElem?_getD, List.getElem?_take_of_lt h, List.getElem?_drop]
theorem go_digit (u v : List Int) (n j : Nat) (hn : v.length = n) (hn2 : 2 ≤ n) (hl : n ≤ 8388600) (hj : j + n < u.length) (du : Dig 18446744073709551616 u) (dv : Dig 18446744073709551616 v) (hv1 : 9223372036854775808 ≤ v.getD (n - 1) 0) (hlt : val 18446744073709551616 ((u.drop j).take (n + 1)) < val 18446744073709551616 v * 18446744073709551616) (hjl : u.length ≤ 8388608) :
  ∃ (g : Int) (S : List Int) (K : Nat), 0 ≤ g ∧ g < 18446744073709551616 ∧ S.length = n + 1 ∧ Dig 18446744073709551616 S ∧ val 18446744073709551616 S < val 18446744073709551616 v ∧ val 18446744073709551616 ((u.drop j).take (n + 1)) = g * val 18446744073709551616 v + val 18446744073709551616 S ∧
   ∀ k, K ≤ k → ∀ q : List Int, j < q.length → quo_go (k + 1) u v q (j : Int) = quo_go k (splice u j S) v (q.set j g) ((j : Int) - 1) := by
 obtain ⟨m, rfl⟩ : ∃ m, n = m + 2 := ⟨n - 2, by omega⟩
 have hSl : ((u.drop j).take (m + 2 + 1)).length = m + 3 := by simp; omega
 have dS : Dig 18446744073709551616 ((u.drop j).take (m + 2 + 1)) := (du.drop j).take _
 have t3 := top_three _ m hSl
 have t2 := top_two v m hn
 rw [seg_getD _ _ _ _ (by omega), seg_getD _ _ _ _ (by omega), seg_getD _ _ _ _ (by omega)] at t3
 have d0 := getD_dig (by decide) du (j + m)
 have d1 := getD_dig (by decide) du (j + (m + 1))
 have d2 := getD_dig (by decide) du (j + (m + 2))
 have w0 := getD_dig (by decide) dv m
 have w1 := getD_dig (by decide) dv (m + 1)
 rw [show m + 2 - 1 = m + 1 from by omega] at hv1
 have U0 := val_nonneg (B := 18446744073709551616) (by decide) (dS.take m)
 have U1 := val_lt (B := 18446744073709551616) (by decide) (dS.take m)
 rw [List.length_take, Nat.min_eq_left (by omega)] at U1
 have V0 := val_nonneg (B := 18446744073709551616) (by decide) (dv.take m)
 have V1 := val_lt (B := 18446744073709551616) (by decide) (dv.take m)
 rw [List.length_take, Nat.min_eq_left (by omega)] at V1
 obtain ⟨g, ⟨K1, hg⟩, g0, g1, hgc⟩ := guess_ev d2 d1 d0 ⟨hv1, w1.2⟩ w0
 obtain ⟨b1, b2⟩ := digit_bounds (pow_pos (by decide) m) t3 t2 ⟨U0, U1⟩ ⟨V0, V1⟩ hlt d2.1 d1.1 d0.1 hv1 w0 ⟨g0, g1⟩ hgc
 clear t3 t2 hgc U0 U1 V0 V1
 have hUn := val_nonneg (B := 18446744073709551616) (by decide) dS
 have hVn := val_nonneg (B := 18446744073709551616) (by decide) dv
 have hVl := val_lt (B := 18446744073709551616) (by decide) dv
 rw [hn] at hVl
 have hpw : (18446744073709551616 : Int) ^ (m + 2) ≤ 18446744073709551616 ^ (m + 2 + 1) := pow_le_pow (by decide) (by omega)
 obtain ⟨bb, r, ⟨K2, hr⟩, bb0, bb1, hrl, dr, hrv⟩ := subtract_ev ((u.drop j).take (m + 2 + 1)) v g (m + 2) hn (by omega) ⟨g0, g1⟩ dv (by rw [hSl]) dS
 have r0 := val_nonneg (B := 18446744073709551616) (by decide) dr
 have r1 := val_lt (B := 18446744073709551616) (by decide) dr
 rw [hrl] at r1
 have head : ∀ k (q : List Int), K1 ≤ k → K2 ≤ k → j < q.length → quo_go (k + 1) u v q (j : Int) = if (bb == 1) = true then (whole_add.f k r v).bind fun s => quo_go k (splice u j s) v (q.set j (IntKind.u64.wrap (g - 1))) ((j : Int) - 1) else quo_go k (splice u j r) v (q.set j g) ((j : Int) - 1) := by
  intro k q k1 k2 hq
  have e1 := hg k k1
  have e2 : whole_subtract.f k ((u.drop j).take (m + 2 + 1)) v g = _ := hr k k2
  have c1 : (j : Int) + (v.length : Int) < (u.length : Int) ∧ (j : Int) < (q.length : Int) ∧ 2 ≤ v.length := by omega
  have i1 : (j : Int) + (v.length : Int) = ((j + (m + 2) : Nat) : Int) := by omega
  have i2 : ((j + (m + 2) : Nat) : Int) - 1 = ((j + (m + 1) : Nat) : Int) := by omega
  have i3 : ((j + (m + 2) : Nat) : Int) - 2 = ((j + m : Nat) : Int) := by omega
  have i4 : (v.length : Int) - 1 = ((m + 1 : Nat) : Int) := by omega
  have i5 : (v.length : Int) - 2 = ((m : Nat) : Int) := by omega
  rw [quo_go, if_neg (by omega), if_pos c1, i4, i5, i1, i2, i3, rd_getD, rd_getD, rd_getD, rd_getD, rd_getD, Int.toNat_natCast, hn]
  replace e1 : quo_guess k (u.getD (j + (m + 2)) 0) (u.getD (j + (m + 1)) 0) (u.getD (j + m) 0) (v.getD (m + 1) 0) (v.getD m 0) = some g := e1
  rw [e1, Option.bind_some, e2, Option.bind_some]
 generalize hU : val 18446744073709551616 ((u.drop j).take (m + 2 + 1)) = U at *
 generalize hVV : val 18446744073709551616 v = V at *
 have bx1 : (g + 1) * V = g * V + V := by rw [Int.add_mul, Int.one_mul]
 have bx2 : (g - 1) * V = g * V - V := by rw [Int.sub_mul, Int.one_mul]
 by_cases hneg : U - g * V < 0
 ·have hbb : bb = 1 := by
   have : bb = 0 ∨ bb = 1 := by omega
   rcases this with h | h
   ·rw [h, Int.zero_mul] at hrv; omega
   exact h
  subst hbb
  rw [Int.one_mul] at hrv
  have hg1 : 1 ≤ g := by
   refine Classical.byContradiction fun hx => ?_
   have : g = 0 := by omega
   rw [this, Int.zero_mul] at hneg; omega
  obtain ⟨c, r2, ⟨K3, hr2⟩, c0, hr2l, dr2, hr2v⟩ := add_ev' r v (m + 2) hn (by omega) dv hrl dr
  have s0 := val_nonneg (B := 18446744073709551616) (by decide) dr2
  have s1 := val_lt (B := 18446744073709551616) (by decide) dr2
  rw [hr2l] at s1
  rw [hVV] at hr2v
  have hc : c = 1 := by
   have h3 : c = 0 ∨ c = 1 ∨ 2 ≤ c := by omega
   rcases h3 with h | h | h
   ·rw [h, Int.zero_mul] at hr2v; omega
   ·exact h
   have := Int.mul_le_mul_of_nonneg_right h (Int.le_of_lt (pow_pos (B := 18446744073709551616) (by decide) (m + 2 + 1)))
   omega
  rw [hc, Int.one_mul] at hr2v
  refine ⟨g - 1, r2, max K1 (max K2 K3), by omega, by omega, hr2l, dr2, by omega, by rw [bx2]; omega, fun k hk q hq => ?_⟩
  have e3 : whole_add.f k r v = some r2 := hr2 k (by omega)
  rw [head k q (by omega) (by omega) hq, if_pos (by decide), e3, Option.bind_some, u64_in (x := g - 1) (by omega)]
 have hbb : bb = 0 := by
  have : bb = 0 ∨ bb = 1 := by omega
  rcases this with h | h
  ·exact h
  rw [h, Int.one_mul] at hrv; omega
 subst hbb
 rw [Int.zero_mul] at hrv
 refine ⟨g, r, max K1 K2, g0, g1, hrl, dr, by omega, by omega, fun k hk q hq => ?_⟩
 rw [head k q (by omega) (by omega) hq, if_neg (by decide)]
theorem val_take_of_lt {l : List Int} {n : Nat} (hd : Dig 18446744073709551616 l) (h : val 18446744073709551616 l < 18446744073709551616 ^ n) : val 18446744073709551616 (l.take n) = val 18446744073709551616 l ∧ val 18446744073709551616 (l.drop n) = 0 := by
 by_cases hn : n ≤ l.length
 ·have e := val_split 18446744073709551616 l n hn
  have h1 := val_nonneg (B := 18446744073709551616) (by decide) (hd.take n)
  have h2 := val_nonneg (B := 18446744073709551616) (by decide) (hd.drop n)
  have h3 : val 18446744073709551616 (l.drop n) = 0 := by
   refine Classical.byContradiction fun hx => ?_
   have := Int.mul_le_mul_of_nonneg_left (show 1 ≤ val 18446744073709551616 (l.drop n) by omega) (Int.le_of_lt (pow_pos (B := 18446744073709551616) (by decide) n))
   omega
  rw [h3, Int.mul_zero] at e
  exact ⟨by omega, h3⟩
 rw [List.take_of_length_le (by omega), List.drop_eq_nil_of_le (by omega)]
 exact ⟨rfl, rfl⟩
theorem splice_drop (u S : List Int) (j : Nat) (h : j + S.length ≤ u.length) : (splice u j S).drop j = S ++ u.drop (j + S.length) ∧ (splice u j S).length = u.length ∧ val 18446744073709551616 (splice u j S) = val 18446744073709551616 (u.take j) + 18446744073709551616 ^ j * (val 18446744073709551616 S + 18446744073709551616 ^ S.length * val 18446744073709551616 (u.drop (j + S.length))) := by
 have hl : (u.take j).length = j := by rw [List.length_take]; omega
 refine ⟨?_, ?_, ?_⟩
 ·unfold splice
  rw [List.append_assoc, List.drop_left' hl]
 ·unfold splice
  simp
  omega
 unfold splice
 rw [List.append_assoc, val_append, val_append, hl]
theorem val_parts (u : List Int) (j n : Nat) (h : j + n ≤ u.length) : val 18446744073709551616 u = val 18446744073709551616 (u.take j) + 18446744073709551616 ^ j * (val 18446744073709551616 ((u.drop j).take n) + 18446744073709551616 ^ n * val 18446744073709551616 (u.drop (j + n))) := by
 rw [val_split 18446744073709551616 u j (by omega), val_split 18446744073709551616 (u.drop j) n (by simp; omega), List.drop_drop]
theorem go_run (v : List Int) (n : Nat) (hn : v.length = n) (hn2 : 2 ≤ n) (hl : n ≤ 8388600) (dv : Dig 18446744073709551616 v) (hv1 : 9223372036854775808 ≤ v.getD (n - 1) 0) : ∀ (m : Nat) (u q : List Int), m + n ≤ u.length → Dig 18446744073709551616 u → u.length ≤ 8388608 → val 18446744073709551616 (u.drop m) < val 18446744073709551616 v → Dig 18446744073709551616 q → m ≤ q.length → (∀ t, t < m → q.getD t 0 = 0) →
  ∃ u2 q2, Ev (fun k => quo_go k u v q ((m : Int) - 1)) (u2, q2) ∧ u2.length = u.length ∧ Dig 18446744073709551616 u2 ∧ Dig 18446744073709551616 q2 ∧ q2.length = q.length ∧ val 18446744073709551616 u2 < val 18446744073709551616 v ∧ val 18446744073709551616 u2 + val 18446744073709551616 q2 * val 18446744073709551616 v = val 18446744073709551616 u + val 18446744073709551616 q * val 18446744073709551616 v := by
 have hVl := val_lt (B := 18446744073709551616) (by decide) dv
 rw [hn] at hVl
 intro m
 induction m with
 | zero =>
  intro u q hmu du hul hlt dq hmq hz
  refine ⟨u, q, ⟨1, fun k hk => ?_⟩, rfl, du, dq, rfl, hlt, rfl⟩
  obtain ⟨k, rfl⟩ : ∃ j, k = j + 1 := ⟨k - 1, by omega⟩
  show quo_go (k + 1) u v q (((0 : Nat) : Int) - 1) = some (u, q)
  rw [quo_go, if_pos (by omega)]
 | succ m ih =>
  intro u q hmu du hul hlt dq hmq hz
  have hmu' : m < u.length := by omega
  have dm := du.get m hmu'
  have dd := du.drop (m + 1)
  have hrest := val_take_of_lt (n := n) dd (by omega)
  have hseg : val 18446744073709551616 ((u.drop m).take (n + 1)) < val 18446744073709551616 v * 18446744073709551616 := by
   rw [List.drop_eq_getElem_cons hmu', List.take_succ_cons]
   show u[m] + 18446744073709551616 * val 18446744073709551616 ((u.drop (m + 1)).take n) < _
   rw [hrest.1]
   omega
  obtain ⟨g, S, K, g0, g1, hSl, dS, hSV, hval, hstep⟩ := go_digit u v n m hn hn2 hl (by omega) du dv hv1 hseg hul
  have hz0 : val 18446744073709551616 (u.drop (m + (n + 1))) = 0 := by
   have := hrest.2
   rw [List.drop_drop, show m + 1 + n = m + (n + 1) from by omega] at this
   exact this
  obtain ⟨s1, s2, s3⟩ := splice_drop u S m (by omega)
  have p := val_parts u m (n + 1) (by omega)
  rw [hSl, hz0, Int.mul_zero, Int.add_zero] at s3
  rw [hz0, Int.mul_zero, Int.add_zero, hval] at p
  have dsp : Dig 18446744073709551616 (splice u m S) := Dig.append.2 ⟨Dig.append.2 ⟨du.take m, dS⟩, du.drop _⟩
  obtain ⟨u2, q2, ⟨J, hJ⟩, h1, h2, h3, h4, h5, h6⟩ := ih (splice u m S) (q.set m g) (by rw [s2]; omega) dsp (by rw [s2]; exact hul)
   (by rw [s1, val_append, hSl, hz0, Int.mul_zero, Int.add_zero]; exact hSV) (dq.set m ⟨g0, g1⟩) (by simp; omega) (fun t ht => by rw [getD_set_ne _ _ _ _ (by omega)]; exact hz t (by omega))
  refine ⟨u2, q2, ⟨max K J + 1, fun k hk => ?_⟩, h1.trans s2, h2, h3, by rw [h4]; simp, h5, ?_⟩
  ·obtain ⟨k, rfl⟩ : ∃ j, k = j + 1 := ⟨k - 1, by omega⟩
   have e1 := hstep k (by omega) q (by omega)
   have e2 := hJ k (by omega)
   show quo_go (k + 1) u v q (((m + 1 : Nat) : Int) - 1) = some (u2, q2)
   rw [show ((m + 1 : Nat) : Int) - 1 = (m : Int) from by omega, e1]
   exact e2
  rw [h6, s3, p, val_set_getD _ _ _ _ (by omega), hz m (by omega), Int.sub_zero, Int.add_mul]
  have e : g * 18446744073709551616 ^ m * val 18446744073709551616 v = 18446744073709551616 ^ m * (g * val 18446744073709551616 v) := by
   rw [Int.mul_comm g, Int.mul_assoc]
  rw [e, Int.mul_add]
  omega
theorem byLimb_l0 (a : List Int) (d : Int) (hd : 0 < d ∧ d < 18446744073709551616) (hl : a.length ≤ 8388608) (da : Dig 18446744073709551616 a) : ∀ (n : Nat) (q : List Int) (r i : Int), n ≤ a.length → i = (n : Int) - 1 → q.length = a.length → Dig 18446744073709551616 q → (∀ t, t < n → q.getD t 0 = 0) → 0 ≤ r ∧ r < d → val 18446744073709551616 q * d + r * 18446744073709551616 ^ n + val 18446744073709551616 (a.take n) = val 18446744073709551616 a →
  ∃ q2 r2, Ev (fun k => whole_amount_byLimb.l0 k a d q r i) (q2, r2) ∧ Rep 18446744073709551616 (val 18446744073709551616 a / d) q2 ∧ r2 = val 18446744073709551616 a % d := by
 intro n
 induction n with
 | zero =>
  intro q r i hn hi hq dq hz hr hv
  obtain ⟨q2, ⟨K, hK⟩, h1, h2, h3⟩ := whole_trimmed_ev (B := 18446744073709551616) (l := q) (by omega) dq
  have hv' : val 18446744073709551616 q * d + r = val 18446744073709551616 a := by
   rw [← hv]; simp [val]
  have hdiv : val 18446744073709551616 a / d = val 18446744073709551616 q := div_eq hd.1 (by omega) (by rw [Int.add_mul, Int.one_mul]; omega)
  refine ⟨q2, r, ⟨K + 1, fun k hk => ?_⟩, ⟨h1, h2, by rw [h3, hdiv]⟩, ?_⟩
  ·obtain ⟨k, rfl⟩ : ∃ j, k = j + 1 := ⟨k - 1, by omega⟩
   have hk' : whole_trimmed.f k q = some q2 := hK k (by omega)
   show whole_amount_byLimb.l0 (k + 1) a d q r i = _
   rw [whole_amount_byLimb.l0, if_neg (by omega), hk', Option.bind_some]
  have h4 := Int.mul_ediv_add_emod (val 18446744073709551616 a) d
  rw [hdiv, Int.mul_comm] at h4
  omega
 | succ n ih =>
  intro q r i hn hi hq dq hz hr hv
  have hi' : i = (n : Int) := by omega
  subst hi'
  have ga := getD_dig (by decide) da n
  obtain ⟨K, hK⟩ := Div64_ev (a0 := r) (a1 := a.getD n 0) (a2 := d) hr ga hd.2
  have h1 := Int.mul_ediv_add_emod (r * 18446744073709551616 + a.getD n 0) d
  have h2 := Int.emod_nonneg (r * 18446744073709551616 + a.getD n 0) (Int.ne_of_gt hd.1)
  have h3 := Int.emod_lt_of_pos (r * 18446744073709551616 + a.getD n 0) hd.1
  have h4 : 0 ≤ (r * 18446744073709551616 + a.getD n 0) / d := Int.ediv_nonneg (by omega) (by omega)
  have h5 : (r * 18446744073709551616 + a.getD n 0) / d < 18446744073709551616 := Int.ediv_lt_of_lt_mul hd.1 (by omega)
  generalize (r * 18446744073709551616 + a.getD n 0) / d = g at *
  generalize hr' : (r * 18446744073709551616 + a.getD n 0) % d = r' at *
  clear hr'
  obtain ⟨q2, r2, ⟨J, hJ⟩, hq2⟩ := ih (q.set n g) r' ((n : Int) - 1) (by omega) rfl (by simp [hq]) (dq.set n ⟨h4, h5⟩) (fun t ht => by rw [getD_set_ne _ _ _ _ (by omega)]; exact hz t (by omega)) ⟨h2, h3⟩ (by
   rw [← hv, val_set_getD _ _ _ _ (by omega), hz n (by omega), val_take_getD, Int.sub_zero, Int.pow_succ, Int.add_mul]
   generalize (18446744073709551616 : Int) ^ n = W
   have e1 : g * W * d = d * g * W := by rw [Int.mul_comm (g * W), ← Int.mul_assoc]
   have e2 : r * (W * 18446744073709551616) = r * 18446744073709551616 * W := by rw [Int.mul_comm W, ← Int.mul_assoc]
   have e3 : (d * g + r') * W = (r * 18446744073709551616 + a.getD n 0) * W := by rw [h1]
   rw [Int.add_mul, Int.add_mul] at e3
   rw [e1, e2]
   omega)
  refine ⟨q2, r2, ⟨K + J + 1, fun k hk => ?_⟩, hq2⟩
  obtain ⟨k, rfl⟩ : ∃ j, k = j + 1 := ⟨k - 1, by omega⟩
  have e1 : bits_Div64.f k r (a.getD n 0) d = _ := hK k (by omega)
  have e2 := hJ k (by omega)
  show whole_amount_byLimb.l0 (k + 1) a d q r (n : Int) = _
  rw [whole_amount_byLimb.l0, if_pos (by omega), if_pos (by omega), if_pos (by omega), rd_getD, e1, Option.bind_some, if_pos (by omega), Int.toNat_natCast, w64 _ (by omega)]
  exact e2
theorem byLimb_ev (a : List Int) (d : Int) (hd : 0 < d ∧ d < 18446744073709551616) (hl : a.length ≤ 8388608) (da : Dig 18446744073709551616 a) :
  ∃ q2, Ev (fun k => whole_amount_byLimb.f k a d) (q2, val 18446744073709551616 a % d) ∧ Rep 18446744073709551616 (val 18446744073709551616 a / d) q2 := by
 have hz : ∀ t, (List.replicate a.length (0 : Int)).getD t 0 = 0 := fun t => by
  simp [List.getD_eq_getElem?_getD, List.getElem?_replicate]; split <;> rfl
 obtain ⟨q2, r2, ⟨K, hK⟩, h1, h2⟩ := byLimb_l0 a d hd hl da a.length (List.replicate a.length 0) 0 ((a.length : Int) - 1) (Nat.le_refl _) rfl (by simp) (Dig.rep (by decide) _) (fun t _ => hz t) (by omega) (by rw [val_replicate, List.take_length]; simp)
 subst h2
 refine ⟨q2, ⟨K, fun k hk => ?_⟩, h1⟩
 show whole_amount_byLimb.f k a d = _
 rw [whole_amount_byLimb.f, if_pos (by omega), Int.toNat_natCast, if_pos (by omega), w64 _ (by omega)]
 exact hK k hk
theorem down_or {s P Q : Int} (h : Sh s P Q) {o x : Int} (hx : 0 ≤ x ∧ x < 18446744073709551616) (ho : 0 ≤ o ∧ o < Q) : Go.bits .or .u64 o (x % P * Q) = o + x % P * Q := by
 obtain ⟨t, et, _⟩ := h.Q1
 obtain ⟨_, _, _, e4, e5, _⟩ := shl_parts h.Q0 h.P0 (by rw [Int.mul_comm]; exact h.PQ) hx
 have hQ := h.Q_le
 rw [(or_add t ⟨e4, e5⟩ ⟨x % P, by rw [et]⟩ (by rw [← et]; exact ho) (by omega)).2, Int.add_comm]
theorem down_out0 {s P Q : Int} (h : Sh s P Q) (h0 : ¬ s > 0) (x : Int) : x % P = 0 := by
 obtain ⟨t, et, es⟩ := h.P1
 have hs := h.s0
 have hP1 : P = 1 := by rw [et, ← es, show s = 0 from by omega]; rfl
 rw [hP1]; omega
def downSet (out : List Int) (i : Nat) (x P Q : Int) : List Int := if i = 0 then out.set 0 (x / P) else (out.set i (x / P)).set (i - 1) (out.getD (i - 1) 0 + x % P * Q)
theorem set_getD_same (l : List Int) (i : Nat) : l.set i (l.getD i 0) = l := by
 refine List.ext_getElem (by simp) fun j h1 h2 => ?_
 by_cases hj : i = j
 ·subst hj
  rw [List.getElem_set_self, List.getD_eq_getElem?_getD, List.getElem?_eq_getElem h2, Option.getD_some]
 rw [List.getElem_set_ne hj]
theorem down_step (k : Nat) {s P Q : Int} (h : Sh s P Q) (a out : List Int) (i : Nat) (hi : i < a.length) (hl : a.length ≤ 8388608) (ho : out.length = a.length) (da : Dig 18446744073709551616 a) (hz : out.getD i 0 = 0) (hw : 0 < i → 0 ≤ out.getD (i - 1) 0 ∧ out.getD (i - 1) 0 < Q) :
  whole_amount_down.l0 (k + 1) s out a (a.length : Int) (i : Int) = whole_amount_down.l0 k s (downSet out i (a.getD i 0) P Q) a (a.length : Int) ((i + 1 : Nat) : Int) := by
 have ga := getD_dig (by decide) da i
 have hwr := step_wrap i a.length hi hl
 have c1 : (i : Int) < (a.length : Int) := by omega
 have c2 : (0 : Int) ≤ (i : Int) := by omega
 have c3 : (i : Int) < (out.length : Int) := by omega
 have c4 := h.s0.1
 have c7 : (0 : Int) ≤ 64 - s := by have := h.s0; omega
 have hcount := h.count
 have hR := h.eqR (x := a.getD i 0)
 have hL := h.eqL' ga
 have hx : 0 ≤ a.getD i 0 / P ∧ a.getD i 0 / P < 18446744073709551616 := by
  have h1 := Int.ediv_nonneg ga.1 (Int.le_of_lt h.P0)
  have h2 := Int.ediv_le_self P ga.1
  exact ⟨h1, by omega⟩
 have hor0 := or_nil hx
 have ra := rd_getD a i
 have ro := rd_getD out i
 rw [hz] at ro
 by_cases hi0 : i = 0
 ·subst hi0
  rw [whole_amount_down.l0, if_pos c1, if_pos c2, if_pos c1, if_pos c3, if_pos c4, Option.bind_some, ra, ro, hR, hor0, hwr, Int.toNat_natCast, if_neg (show ¬ ((0 : Nat) : Int) > 0 by decide), ite_self, downSet, if_pos rfl]
 have hpr : wrap64 ((i : Int) - 1) = ((i - 1 : Nat) : Int) := by rw [w64 _ (by omega)]; omega
 have rp := rd_getD (out.set i (a.getD i 0 / P)) (i - 1)
 rw [getD_set_ne _ _ _ _ (by omega)] at rp
 have hor := down_or h ga (hw (by omega))
 have c5 : (0 : Int) ≤ ((i - 1 : Nat) : Int) := by omega
 have c6 : ((i - 1 : Nat) : Int) < (out.length : Int) := by omega
 have c8 : (i : Int) > 0 := by omega
 rw [whole_amount_down.l0, if_pos c1, if_pos c2, if_pos c1, if_pos c3, if_pos c4, Option.bind_some, ra, ro, hR, hor0, hwr, hpr, Int.toNat_natCast, Int.toNat_natCast, rp, downSet, if_neg hi0]
 by_cases h0 : s > 0
 ·rw [if_pos h0, if_pos c8, if_pos c5, if_pos c6, hcount, if_pos c7, hL, hor]
 rw [if_neg h0, down_out0 h h0, Int.zero_mul, Int.add_zero]
 have e := set_getD_same (out.set i (a.getD i 0 / P)) (i - 1)
 rw [getD_set_ne _ _ _ _ (by omega)] at e
 rw [e]
theorem down_val {P Q A x V : Int} (hP : 0 < P) (hPQ : P * Q = 18446744073709551616) (i : Nat) (hi : 0 < i) (hV : V = A / P) :
  V + (x / P) * 18446744073709551616 ^ i + (x % P * Q) * 18446744073709551616 ^ (i - 1) = (A + x * 18446744073709551616 ^ i) / P := by
 obtain ⟨j, rfl⟩ : ∃ j, i = j + 1 := ⟨i - 1, by omega⟩
 rw [Nat.add_sub_cancel, Int.pow_succ]
 generalize (18446744073709551616 : Int) ^ j = W
 rw [← hPQ, hV]
 have h1 := Int.mul_ediv_add_emod x P
 have e : A + x * (W * (P * Q)) = A + (x * W * Q) * P := by
  rw [Int.mul_comm P Q, ← Int.mul_assoc W, ← Int.mul_assoc x, ← Int.mul_assoc x W Q]
 rw [e, Int.add_mul_ediv_right _ _ (Int.ne_of_gt hP)]
 have e2 : x * W * Q = x / P * (W * (P * Q)) + x % P * Q * W := by
  have : x * W * Q = (P * (x / P) + x % P) * W * Q := by rw [h1]
  rw [this, Int.add_mul, Int.add_mul]
  congr 1
  ·rw [Int.mul_comm P (x / P), Int.mul_assoc, Int.mul_assoc, ← Int.mul_assoc P W Q, Int.mul_comm P W, Int.mul_assoc]
  rw [Int.mul_assoc, Int.mul_comm W Q, ← Int.mul_assoc]
 rw [e2]; omega
theorem down_l0 {s P Q : Int} (h : Sh s P Q) (a : List Int) (hl : a.length ≤ 8388608) (da : Dig 18446744073709551616 a) : ∀ (n i : Nat) (out : List Int), i + n = a.length → out.length = a.length → Dig 18446744073709551616 out → val 18446744073709551616 out = val 18446744073709551616 (a.take i) / P → (∀ t, i ≤ t → out.getD t 0 = 0) → (0 < i → out.getD (i - 1) 0 < Q) →
  ∃ r, Ev (fun k => whole_amount_down.l0 k s out a (a.length : Int) (i : Int)) r ∧ Rep 18446744073709551616 (val 18446744073709551616 a / P) r := by
 intro n
 induction n with
 | zero =>
  intro i out hi ho hd hv hz hw
  obtain ⟨r, ⟨K, hr⟩, h1, h2, h3⟩ := whole_trimmed_ev (B := 18446744073709551616) (l := out) (by omega) hd
  refine ⟨r, ⟨K + 1, fun k hk => ?_⟩, h1, h2, by rw [h3, hv, show i = a.length from by omega, List.take_length]⟩
  obtain ⟨k, rfl⟩ : ∃ j, k = j + 1 := ⟨k - 1, by omega⟩
  have hk' : whole_trimmed.f k out = some r := hr k (by omega)
  show whole_amount_down.l0 (k + 1) s out a (a.length : Int) (i : Int) = some r
  rw [whole_amount_down.l0, if_neg (by omega), hk', Option.bind_some]
 | succ n ih =>
  intro i out hi ho hd hv hz hw
  have hil : i < a.length := by omega
  have ga := getD_dig (by decide) da i
  have hzi := hz i (Nat.le_refl _)
  have hwi : 0 < i → 0 ≤ out.getD (i - 1) 0 ∧ out.getD (i - 1) 0 < Q := fun x => ⟨(getD_dig (by decide) hd (i - 1)).1, hw x⟩
  have hx1 := Int.ediv_nonneg ga.1 (Int.le_of_lt h.P0)
  have hx2 : a.getD i 0 / P < Q := Int.ediv_lt_of_lt_mul h.P0 (by rw [Int.mul_comm, h.PQ]; exact ga.2)
  have hQ := h.Q_le
  obtain ⟨_, _, _, e4, e5, _⟩ := shl_parts h.Q0 h.P0 (by rw [Int.mul_comm]; exact h.PQ) ga
  have hm1 : a.getD i 0 % P + 1 ≤ P := by have := Int.emod_lt_of_pos (a.getD i 0) h.P0; omega
  have hm2 := Int.mul_le_mul_of_nonneg_right hm1 (Int.le_of_lt h.Q0)
  rw [h.PQ, Int.add_mul, Int.one_mul] at hm2
  obtain ⟨r, ⟨K, hr⟩, hq⟩ := ih (i + 1) (downSet out i (a.getD i 0) P Q) (by omega) (by unfold downSet; split <;> simp [ho])
   (by unfold downSet; split
       ·exact hd.set 0 ⟨hx1, by omega⟩
       rename_i hi0
       have := hwi (by omega)
       exact (hd.set i ⟨hx1, by omega⟩).set (i - 1) ⟨by omega, by omega⟩)
   (by unfold downSet; split
       ·rename_i hi0; subst hi0
        rw [val_set_getD _ _ _ _ (by omega), hzi, hv, val_take_getD]
        simp [val]
       rename_i hi0
       rw [val_set_getD _ _ _ _ (by simp; omega), val_set_getD _ _ _ _ (by omega), getD_set_ne _ _ _ _ (by omega), hzi, val_take_getD, ← down_val h.P0 h.PQ i (by omega) hv, Int.sub_zero, show out.getD (i - 1) 0 + a.getD i 0 % P * Q - out.getD (i - 1) 0 = a.getD i 0 % P * Q from by omega])
   (by intro t ht
       unfold downSet; split
       ·rw [getD_set_ne _ _ _ _ (by omega)]; exact hz t (by omega)
       rw [getD_set_ne _ _ _ _ (by omega), getD_set_ne _ _ _ _ (by omega)]; exact hz t (by omega))
   (by intro _
       rw [Nat.add_sub_cancel]
       unfold downSet; split
       ·rename_i hi0; subst hi0
        rw [getD_set_eq _ _ _ (by omega)]; exact hx2
       rw [getD_set_ne _ _ _ _ (by omega), getD_set_eq _ _ _ (by omega)]; exact hx2)
  refine ⟨r, ⟨K + 1, fun k hk => ?_⟩, hq⟩
  obtain ⟨k, rfl⟩ : ∃ j, k = j + 1 := ⟨k - 1, by omega⟩
  show whole_amount_down.l0 (k + 1) s out a (a.length : Int) (i : Int) = some r
  rw [down_step k h a out i hil hl ho da hzi hwi]
  exact hr k (by omega)
theorem down_ev {s P Q : Int} (h : Sh s P Q) (a : List Int) (hl : a.length ≤ 8388608) (da : Dig 18446744073709551616 a) :
  ∃ r, Ev (fun k => whole_amount_down.f k a s) r ∧ Rep 18446744073709551616 (val 18446744073709551616 a / P) r := by
 have hz : ∀ t, (List.replicate a.length (0 : Int)).getD t 0 = 0 := fun t => by
  simp [List.getD_eq_getElem?_getD, List.getElem?_replicate]; split <;> rfl
 obtain ⟨r, ⟨K, hr⟩, hq⟩ := down_l0 h a hl da a.length 0 (List.replicate a.length 0) (by omega) (by simp) (Dig.rep (by decide) _) (by rw [val_replicate]; simp [val]) (fun t _ => hz t) (fun x => absurd x (by decide))
 refine ⟨r, ⟨K, fun k hk => ?_⟩, hq⟩
 show whole_amount_down.f k a s = some r
 rw [whole_amount_down.f, if_pos (by omega), Int.toNat_natCast, if_pos (by omega)]
 exact hr k hk
theorem normal {b v : List Int} {n : Nat} {P : Int} (hn : b.length = n) (hn2 : 2 ≤ n) (hv : v.length = n + 1) (db : Dig 18446744073709551616 b) (dv : Dig 18446744073709551616 v) (hP : 0 < P) (hdvd : ∃ Q, P * Q = 18446744073709551616) (h1 : 9223372036854775808 ≤ b.getD (n - 1) 0 * P) (h2 : b.getD (n - 1) 0 * P < 18446744073709551616) (hval : val 18446744073709551616 v = val 18446744073709551616 b * P) :
  val 18446744073709551616 (v.take n) = val 18446744073709551616 b * P ∧ 9223372036854775808 ≤ (v.take n).getD (n - 1) 0 ∧ 18446744073709551616 ^ (n - 1) * P ≤ val 18446744073709551616 b * P := by
 obtain ⟨m, rfl⟩ : ∃ m, n = m + 1 := ⟨n - 1, by omega⟩
 rw [Nat.add_sub_cancel] at *
 have eb : val 18446744073709551616 b = val 18446744073709551616 (b.take m) + b.getD m 0 * 18446744073709551616 ^ m := by
  have := val_take_getD 18446744073709551616 b m
  rw [List.take_of_length_le (show b.length ≤ m + 1 by omega)] at this
  exact this
 have b0 := val_nonneg (B := 18446744073709551616) (by decide) (db.take m)
 have b1 := val_lt (B := 18446744073709551616) (by decide) (db.take m)
 rw [List.length_take, Nat.min_eq_left (by omega)] at b1
 have hW := pow_pos (B := 18446744073709551616) (by decide) m
 obtain ⟨Q, hQ⟩ := hdvd
 have htop : (b.getD m 0 + 1) * P ≤ 18446744073709551616 := by
  refine Classical.byContradiction fun hx => ?_
  have h3 : b.getD m 0 * P < Q * P := by rw [Int.mul_comm Q P, hQ]; exact h2
  have h4 : b.getD m 0 < Q := Int.lt_of_mul_lt_mul_right h3 (Int.le_of_lt hP)
  have h5 := Int.mul_le_mul_of_nonneg_right (show b.getD m 0 + 1 ≤ Q by omega) (Int.le_of_lt hP)
  rw [Int.mul_comm Q P, hQ] at h5
  omega
 have hb1 : 1 ≤ b.getD m 0 := by
  refine Classical.byContradiction fun hx => ?_
  have := Int.mul_le_mul_of_nonneg_right (show b.getD m 0 ≤ 0 by omega) (Int.le_of_lt hP)
  omega
 generalize b.getD m 0 = t at *
 have hlow : 18446744073709551616 ^ m ≤ val 18446744073709551616 b := by
  have := Int.mul_le_mul_of_nonneg_right hb1 (Int.le_of_lt hW)
  omega
 have hup : val 18446744073709551616 b * P < 18446744073709551616 ^ (m + 1) := by
  have h3 : val 18446744073709551616 b < (t + 1) * 18446744073709551616 ^ m := by rw [Int.add_mul, Int.one_mul]; omega
  have h4 := Int.mul_lt_mul_of_pos_right h3 hP
  have h5 := Int.mul_le_mul_of_nonneg_right htop (Int.le_of_lt hW)
  have e : (t + 1) * 18446744073709551616 ^ m * P = (t + 1) * P * 18446744073709551616 ^ m := by
   rw [Int.mul_assoc, Int.mul_comm (18446744073709551616 ^ m) P, ← Int.mul_assoc]
  rw [Int.pow_succ, Int.mul_comm (18446744073709551616 ^ m)]
  omega
 have hvt := val_take_of_lt (n := m + 1) dv (by rw [hval]; exact hup)
 refine ⟨hvt.1.trans hval, ?_, Int.mul_le_mul_of_nonneg_right hlow (Int.le_of_lt hP)⟩
 have dvt := dv.take (m + 1)
 have ev : val 18446744073709551616 (v.take (m + 1)) = val 18446744073709551616 ((v.take (m + 1)).take m) + (v.take (m + 1)).getD m 0 * 18446744073709551616 ^ m := by
  have := val_take_getD 18446744073709551616 (v.take (m + 1)) m
  rw [List.take_of_length_le (show (v.take (m + 1)).length ≤ m + 1 by simp; omega)] at this
  exact this
 have v1 := val_lt (B := 18446744073709551616) (by decide) (dvt.take m)
 rw [List.length_take, Nat.min_eq_left (by simp; omega)] at v1
 rw [hvt.1, hval] at ev
 generalize (v.take (m + 1)).getD m 0 = x at *
 refine Classical.byContradiction fun hx => ?_
 have h6 := Int.mul_le_mul_of_nonneg_right (show x + 1 ≤ 9223372036854775808 by omega) (Int.le_of_lt hW)
 rw [Int.add_mul, Int.one_mul] at h6
 have h7 : t * 18446744073709551616 ^ m ≤ val 18446744073709551616 b := by omega
 have h8 := Int.mul_le_mul_of_nonneg_right h7 (Int.le_of_lt hP)
 have h9 := Int.mul_le_mul_of_nonneg_right h1 (Int.le_of_lt hW)
 have e : t * 18446744073709551616 ^ m * P = t * P * 18446744073709551616 ^ m := by
  rw [Int.mul_assoc, Int.mul_comm (18446744073709551616 ^ m) P, ← Int.mul_assoc]
 omega
theorem rep_word {v : Int} (h : 0 ≤ v ∧ v < 18446744073709551616) : ∃ r, Ev (fun k => whole_trimmed.f k [v]) r ∧ Rep 18446744073709551616 v r := by
 obtain ⟨r, hr, h1, h2, h3⟩ := whole_trimmed_ev (B := 18446744073709551616) (l := [v]) (by simp) (by rw [Dig.cons]; exact ⟨h, Dig.nil⟩)
 exact ⟨r, hr, h1, h2, by rw [h3]; simp [val]⟩
theorem quo_ev {A D : Int} {a b : List Int} (ha : Rep 18446744073709551616 A a) (hb : Rep 18446744073709551616 D b) (hD : 0 < D) (la : a.length ≤ 8388600) (lb : b.length ≤ 8388600) :
  ∃ q r, Ev (fun k => whole_amount_quo.f k a b) (q, r) ∧ Rep 18446744073709551616 (A / D) q ∧ Rep 18446744073709551616 (A % D) r := by
 have hA := ha.nonneg (by decide)
 obtain ⟨K1, h1⟩ := whole_amount_cmp_ev a b (by omega) (by omega) ha.dig hb.dig ha.top hb.top
 rw [ha.val, hb.val] at h1
 by_cases hc : A < D
 ·refine ⟨[], a, ⟨K1, fun k hk => ?_⟩, ⟨Dig.nil, trivial, ?_⟩, ?_⟩
  ·have e1 : whole_amount_cmp.f k a b = _ := h1 k hk
   show whole_amount_quo.f k a b = _
   rw [whole_amount_quo.f, e1, Option.bind_some, sg_neg (by omega), if_pos (by decide)]
  ·rw [Int.ediv_eq_zero_of_lt hA hc]; rfl
  rw [Int.emod_eq_of_lt hA hc]; exact ha
 have hsg : ¬ sg (A - D) < 0 := by unfold sg; split <;> (try split) <;> omega
 have hbpos := (hb.pos_iff (by decide)).2 hD
 by_cases h1b : b.length = 1
 ·obtain ⟨x, rfl⟩ := List.length_eq_one_iff.1 h1b
  have hx : x = D := by have := hb.val; simpa [val] using this
  have dx := hb.dig.get 0 (by simp)
  have dx' : 0 ≤ x ∧ x < 18446744073709551616 := dx
  obtain ⟨q, ⟨K2, h2⟩, hq⟩ := byLimb_ev a x (by omega) (by omega) ha.dig
  rw [ha.val, hx] at hq
  have hm0 := Int.emod_nonneg A (show x ≠ 0 by omega)
  have hm1 := Int.emod_lt_of_pos A (show 0 < x by omega)
  obtain ⟨r, ⟨K3, h3⟩, hr⟩ := rep_word (v := A % x) ⟨hm0, by omega⟩
  rw [hx] at hr
  refine ⟨q, r, ⟨K1 + K2 + K3, fun k hk => ?_⟩, hq, hr⟩
  have e1 : whole_amount_cmp.f k a [x] = _ := h1 k (by omega)
  have e2 : whole_amount_byLimb.f k a x = _ := h2 k (by omega)
  have e3 : whole_trimmed.f k [A % x] = _ := h3 k (by omega)
  rw [ha.val] at e2
  show whole_amount_quo.f k a [x] = _
  rw [whole_amount_quo.f, e1, Option.bind_some, if_neg hsg, if_pos (by rfl), show rd [x] 0 = x from rfl, e2, Option.bind_some, e3, Option.bind_some]
 have hlen := len_of_le (by decide) ha.dig hb.dig hb.top (by rw [ha.val, hb.val]; omega)
 have hn2 : 2 ≤ b.length := by omega
 have gb := getD_dig (by decide) hb.dig (b.length - 1)
 have htop : b.getD (b.length - 1) 0 ≠ 0 := by
  have hne : b ≠ [] := by intro e; rw [e] at hn2; simp at hn2
  have := (Top_iff b).1 hb.top hne
  rw [List.getLast_eq_getElem] at this
  rw [List.getD_eq_getElem?_getD, List.getElem?_eq_getElem (by omega), Option.getD_some]
  exact this
 obtain ⟨s, P, Q, hs, hSh, hp1, hp2⟩ := clz (x := b.getD (b.length - 1) 0) (by omega)
 have hP0 := hSh.P0
 obtain ⟨v, ⟨K2, h2⟩, hvl, dv, hvv⟩ := up_ev hSh b lb hb.dig
 obtain ⟨u, ⟨K3, h3⟩, hul, du, huv⟩ := up_ev hSh a la ha.dig
 obtain ⟨n1, n2, n3⟩ := normal rfl hn2 hvl hb.dig dv hP0 ⟨Q, hSh.PQ⟩ hp1 hp2 hvv
 rw [hb.val] at n1 n3
 rw [ha.val] at huv
 have hvtl : (v.take b.length).length = b.length := by rw [List.length_take]; omega
 have hAl := ha.lt (by decide)
 have htopu : val 18446744073709551616 (u.drop (a.length - b.length + 1)) < val 18446744073709551616 (v.take b.length) := by
  rw [n1]
  have e := val_split 18446744073709551616 u (a.length - b.length + 1) (by omega)
  have t0 := val_nonneg (B := 18446744073709551616) (by decide) (du.take (a.length - b.length + 1))
  have hW := pow_pos (B := 18446744073709551616) (by decide) (a.length - b.length + 1)
  refine Classical.byContradiction fun hx => ?_
  have h5 := Int.mul_le_mul_of_nonneg_left (show 18446744073709551616 ^ (b.length - 1) * P ≤ val 18446744073709551616 (u.drop (a.length - b.length + 1)) by omega) (Int.le_of_lt hW)
  rw [← Int.mul_assoc, ← Int.pow_add, show a.length - b.length + 1 + (b.length - 1) = a.length from by omega] at h5
  have h6 := Int.mul_lt_mul_of_pos_right hAl hP0
  omega
 have hq0 : ∀ t, (List.replicate (a.length - b.length + 1) (0 : Int)).getD t 0 = 0 := fun t => by
  simp [List.getD_eq_getElem?_getD, List.getElem?_replicate]; split <;> rfl
 obtain ⟨u2, q2, ⟨K4, h4⟩, w1, w2, w3, w4, w5, w6⟩ := go_run (v.take b.length) b.length hvtl hn2 lb (dv.take _) n2 (a.length - b.length + 1) u (List.replicate (a.length - b.length + 1) 0) (by omega) du (by omega) htopu (Dig.rep (by decide) _) (by simp) (fun t _ => hq0 t)
 rw [val_replicate, Int.zero_mul, Int.add_zero, huv, n1] at w6
 rw [n1] at w5
 have hu0 := val_nonneg (B := 18446744073709551616) (by decide) w2
 obtain ⟨d1, d2⟩ := scale_div (X := A) (a := D) (P := P) (G := val 18446744073709551616 q2) (r := val 18446744073709551616 u2) hP0 hD (by omega) hu0 w5
 obtain ⟨q, ⟨K5, h5⟩, q1, q3, q4⟩ := whole_trimmed_ev (B := 18446744073709551616) (l := q2) (by rw [w4]; simp; omega) w3
 have hvlt := val_lt (B := 18446744073709551616) (by decide) (dv.take b.length)
 rw [hvtl, n1] at hvlt
 have hut := val_take_of_lt (n := b.length) w2 (by omega)
 obtain ⟨r0, ⟨K6, h6⟩, r1, r3, r4⟩ := whole_trimmed_ev (B := 18446744073709551616) (l := u2.take b.length) (by rw [List.length_take]; omega) (w2.take _)
 have hr0l : r0.length ≤ 8388608 := by
  have := rep_len (by decide) (Rep.mk r1 r3 (r4.trans hut.1)) (m := b.length) (by omega)
  omega
 obtain ⟨r, ⟨K7, h7⟩, hr⟩ := down_ev hSh r0 hr0l r1
 rw [r4, hut.1, ← d2] at hr
 refine ⟨q, r, ⟨K1 + K2 + K3 + K4 + K5 + K6 + K7, fun k hk => ?_⟩, ⟨q1, q3, by rw [q4, d1]⟩, hr⟩
 have e1 : whole_amount_cmp.f k a b = _ := h1 k (by omega)
 have e2 : whole_amount_up.f k b s = _ := h2 k (by omega)
 have e3 : whole_amount_up.f k a s = _ := h3 k (by omega)
 have e4 : quo_go k u (v.take b.length) (List.replicate (a.length - b.length + 1) 0) (((a.length - b.length + 1 : Nat) : Int) - 1) = _ := h4 k (by omega)
 have e5 : whole_trimmed.f k q2 = _ := h5 k (by omega)
 have e6 : whole_trimmed.f k (u2.take b.length) = _ := h6 k (by omega)
 have e7 : whole_amount_down.f k r0 s = _ := h7 k (by omega)
 have hs0 := hSh.s0
 have i1 : (a.length : Int) - (b.length : Int) = ((a.length - b.length + 1 : Nat) : Int) - 1 := by omega
 have i2 : (b.length : Int) - 1 = ((b.length - 1 : Nat) : Int) := by omega
 show whole_amount_quo.f k a b = _
 rw [whole_amount_quo.f, e1, Option.bind_some, if_neg hsg, if_neg h1b, if_pos (by omega), i2, rd_getD, hs, Option.bind_some, if_pos (by omega), e2, Option.bind_some, e3, Option.bind_some, if_pos (by omega), i1, e4, Option.bind_some, e5, Option.bind_some, e6, Option.bind_some, e7, Option.bind_some]
theorem mul_step (V c c' s x n X P B : Int) (hs : c' * B + s = x * n + c) (hv : V + c * P = X * n) : (V + s * P) + c' * (P * B) = (X + x * P) * n := by
 have h1 : c' * (P * B) + s * P = (c' * B + s) * P := by rw [Int.add_mul, Int.mul_assoc, Int.mul_comm P B]
 have h2 : x * P * n = x * n * P := by rw [Int.mul_assoc, Int.mul_comm P n, ← Int.mul_assoc]
 rw [hs, Int.add_mul] at h1
 rw [Int.add_mul, h2]
 omega
theorem timesD_step (k : Nat) (a out : List Int) (n c t : Int) (i : Nat) (hi : i < a.length) (hl : a.length ≤ 8388608) (ho : out.length = i) (ht : (c + a.getD i 0 % 4294967296 * n) % 4294967296 = t) :
  tribunalref02_timesD.l0 (k + 1) a n out c (i : Int) = tribunalref02_timesD.l0 k a n (out ++ [t % 65536]) (t / 65536) ((i + 1 : Nat) : Int) := by
 have hwr := step_wrap i a.length hi hl
 rw [tribunalref02_timesD.l0, if_pos (by omega), if_pos (by omega), if_pos (by omega), rd_getD, ht, hwr, IntKind.wrap_u16]
theorem timesD_l0 (a : List Int) (n : Int) (hn : 0 ≤ n ∧ n < 65536) (hl : a.length ≤ 8388608) (da : Dig 65536 a) : ∀ (m i : Nat) (out : List Int) (c : Int), i + m = a.length → out.length = i → Dig 65536 out → 0 ≤ c ∧ c < 65536 → val 65536 out + c * 65536 ^ i = val 65536 (a.take i) * n →
  ∃ r, Ev (fun k => tribunalref02_timesD.l0 k a n out c (i : Int)) r ∧ Rep 65536 (val 65536 a * n) r := by
 intro m
 induction m with
 | zero =>
  intro i out c hi ho hd hc hv
  obtain ⟨r, ⟨K, hr⟩, h1, h2, h3⟩ := tribunalref02_trim_ev (B := 65536) (l := out ++ [c]) (by simp; omega) (Dig.append.2 ⟨hd, by rw [Dig.cons]; exact ⟨hc, Dig.nil⟩⟩)
  refine ⟨r, ⟨K + 1, fun k hk => ?_⟩, h1, h2, ?_⟩
  ·obtain ⟨k, rfl⟩ : ∃ j, k = j + 1 := ⟨k - 1, by omega⟩
   have hk' : tribunalref02_trim.f k (out ++ [c]) = some r := hr k (by omega)
   have hw : IntKind.u16.wrap c = c := by rw [IntKind.wrap_u16]; omega
   show tribunalref02_timesD.l0 (k + 1) a n out c (i : Int) = some r
   rw [tribunalref02_timesD.l0, if_neg (by omega), if_pos (by omega), hw, hk', Option.bind_some]
  rw [h3, val_snoc, ho, hv, show i = a.length from by omega, List.take_length]
 | succ m ih =>
  intro i out c hi ho hd hc hv
  have hil : i < a.length := by omega
  have ga := getD_dig (by decide) da i
  have hb := mul_bound (M := 65535) (x := a.getD i 0) (y := n) (by omega) (by omega)
  have ht : (c + a.getD i 0 % 4294967296 * n) % 4294967296 = a.getD i 0 * n + c := by
   rw [Int.emod_eq_of_lt ga.1 (by omega)]
   generalize a.getD i 0 * n = p at *
   omega
  obtain ⟨r, ⟨K, hr⟩, hq⟩ := ih (i + 1) (out ++ [(a.getD i 0 * n + c) % 65536]) ((a.getD i 0 * n + c) / 65536) (by omega) (by simp; omega)
   (Dig.append.2 ⟨hd, by rw [Dig.cons]; exact ⟨by omega, Dig.nil⟩⟩) (by generalize a.getD i 0 * n = p at *; omega)
   (by rw [val_snoc, ho, val_take_getD, Int.pow_succ]; exact mul_step _ c _ _ _ _ _ _ _ (by omega) hv)
  refine ⟨r, ⟨K + 1, fun k hk => ?_⟩, hq⟩
  obtain ⟨k, rfl⟩ : ∃ j, k = j + 1 := ⟨k - 1, by omega⟩
  show tribunalref02_timesD.l0 (k + 1) a n out c (i : Int) = some r
  rw [timesD_step k a out n c _ i hil hl ho ht]
  exact hr k (by omega)
theorem timesD_ev (a : List Int) (n : Int) (hn : 0 ≤ n ∧ n < 65536) (hl : a.length ≤ 8388608) (da : Dig 65536 a) :
  ∃ r, Ev (fun k => tribunalref02_timesD.f k a n) r ∧ Rep 65536 (val 65536 a * n) r := by
 obtain ⟨r, ⟨K, hr⟩, hq⟩ := timesD_l0 a n hn hl da a.length 0 [] 0 (by omega) rfl Dig.nil (by omega) (by simp [val])
 refine ⟨r, ⟨K, fun k hk => ?_⟩, hq⟩
 show tribunalref02_timesD.f k a n = some r
 rw [tribunalref02_timesD.f]
 exact hr k hk
theorem times_len {A n : Int} {r : List Int} {L : Nat} (h : Rep 65536 (A * n) r) (hA : 0 ≤ A ∧ A < 65536 ^ L) (hn : 0 ≤ n ∧ n < 65536) : r.length ≤ L + 1 := by
 refine rep_len (by decide) h ?_
 rw [Int.pow_succ]
 have h1 := Int.mul_le_mul_of_nonneg_left (show n ≤ 65535 by omega) hA.1
 omega
theorem sg_le {n : Int} : sg n ≤ 0 ↔ n ≤ 0 := by unfold sg; split <;> (try split) <;> omega
theorem digit_l0 {A D : Int} {a b : List Int} (ha : Rep 65536 A a) (hb : Rep 65536 D b) (hD : 0 < D) (la : a.length ≤ 8388600) (lb : b.length ≤ 8388600) : ∀ (m : Nat) (lo hi : Int), (hi - lo).toNat ≤ m → 0 ≤ lo → lo ≤ hi → hi ≤ 65535 → D * lo ≤ A → A < D * (hi + 1) →
  ∃ r, Ev (fun k => tribunalref02_digit.l0 k a b lo hi) (A / D, r) ∧ Rep 65536 (A % D) r := by
 have hDl := hb.lt (by decide)
 have hA := ha.nonneg (by decide)
 intro m
 induction m with
 | zero =>
  intro lo hi hm h0 h1 h2 h3 h4
  have hlh : lo = hi := by omega
  subst hlh
  obtain ⟨t, ⟨K1, e1⟩, ht⟩ := timesD_ev b lo (by omega) (by omega) hb.dig
  rw [hb.val] at ht
  have hlt := times_len ht ⟨Int.le_of_lt hD, hDl⟩ (by omega)
  have hlen := len_of_le (by decide) ha.dig ht.dig ht.top (by rw [ha.val, ht.val]; exact h3)
  obtain ⟨r, ⟨K2, e2⟩, hr⟩ := subD_ev a t (by omega) hlen (by rw [ha.val, ht.val]; exact h3) ha.dig ht.dig
  rw [ha.val, ht.val] at hr
  have hdiv : A / D = lo := div_eq hD (by rw [Int.mul_comm]; exact h3) (by rw [Int.mul_comm]; exact h4)
  have hmod : A % D = A - D * lo := by
   have := Int.mul_ediv_add_emod A D
   rw [hdiv] at this; omega
  refine ⟨r, ⟨K1 + K2 + 1, fun k hk => ?_⟩, by rw [hmod]; exact hr⟩
  obtain ⟨k, rfl⟩ : ∃ j, k = j + 1 := ⟨k - 1, by omega⟩
  have g1 : tribunalref02_timesD.f k b lo = _ := e1 k (by omega)
  have g2 : tribunalref02_subD.f k a t = _ := e2 k (by omega)
  have hw : IntKind.u16.wrap lo = lo := by rw [IntKind.wrap_u16]; omega
  show tribunalref02_digit.l0 (k + 1) a b lo lo = _
  rw [tribunalref02_digit.l0, if_neg (by omega), g1, Option.bind_some, g2, Option.bind_some, hw, hdiv]
 | succ m ih =>
  intro lo hi hm h0 h1 h2 h3 h4
  by_cases hlt : lo < hi
  ·have hmid : (lo + hi + 1) % 4294967296 / 2 = (lo + hi + 1) / 2 := by omega
   have m1 : lo < (lo + hi + 1) / 2 := by omega
   have m2 : (lo + hi + 1) / 2 ≤ hi := by omega
   generalize hmd : (lo + hi + 1) / 2 = mid at *
   have hm1 : (mid - 1) % 4294967296 = mid - 1 := by omega
   obtain ⟨t, ⟨K1, e1⟩, ht⟩ := timesD_ev b mid (by omega) (by omega) hb.dig
   rw [hb.val] at ht
   have htl := times_len ht ⟨Int.le_of_lt hD, hDl⟩ (by omega)
   obtain ⟨K2, e2⟩ := tribunalref02_cmpD_ev t a (by omega) (by omega) ht.dig ha.dig ht.top ha.top
   rw [ht.val, ha.val] at e2
   by_cases hc : D * mid ≤ A
   ·obtain ⟨r, ⟨K3, e3⟩, hr⟩ := ih mid hi (by omega) (by omega) m2 h2 hc h4
    refine ⟨r, ⟨K1 + K2 + K3 + 1, fun k hk => ?_⟩, hr⟩
    obtain ⟨k, rfl⟩ : ∃ j, k = j + 1 := ⟨k - 1, by omega⟩
    have g1 : tribunalref02_timesD.f k b mid = _ := e1 k (by omega)
    have g2 : tribunalref02_cmpD.f k t a = _ := e2 k (by omega)
    show tribunalref02_digit.l0 (k + 1) a b lo hi = _
    rw [tribunalref02_digit.l0, if_pos hlt, hmid, g1, Option.bind_some, g2, Option.bind_some, if_pos (sg_le.2 (by omega))]
    exact e3 k (by omega)
   obtain ⟨r, ⟨K3, e3⟩, hr⟩ := ih lo (mid - 1) (by omega) h0 (by omega) (by omega) h3 (by rw [show mid - 1 + 1 = mid from by omega]; omega)
   refine ⟨r, ⟨K1 + K2 + K3 + 1, fun k hk => ?_⟩, hr⟩
   obtain ⟨k, rfl⟩ : ∃ j, k = j + 1 := ⟨k - 1, by omega⟩
   have g1 : tribunalref02_timesD.f k b mid = _ := e1 k (by omega)
   have g2 : tribunalref02_cmpD.f k t a = _ := e2 k (by omega)
   show tribunalref02_digit.l0 (k + 1) a b lo hi = _
   rw [tribunalref02_digit.l0, if_pos hlt, hmid, g1, Option.bind_some, g2, Option.bind_some, if_neg (fun x => hc (by have := sg_le.1 x; omega)), hm1]
   exact e3 k (by omega)
  exact ih lo hi (by omega) h0 h1 h2 h3 h4
theorem digit_ev {A D : Int} {a b : List Int} (ha : Rep 65536 A a) (hb : Rep 65536 D b) (hD : 0 < D) (la : a.length ≤ 8388600) (lb : b.length ≤ 8388600) (hlt : A < D * 65536) :
  ∃ r, Ev (fun k => tribunalref02_digit.f k a b) (A / D, r) ∧ Rep 65536 (A % D) r := by
 have hA := ha.nonneg (by decide)
 obtain ⟨r, ⟨K, hr⟩, hq⟩ := digit_l0 ha hb hD la lb 65535 0 65535 (by omega) (by omega) (by omega) (by omega) (by omega) (by omega)
 refine ⟨r, ⟨K, fun k hk => ?_⟩, hq⟩
 show tribunalref02_digit.f k a b = _
 rw [tribunalref02_digit.f]
 exact hr k hk
theorem divD_l0 {D : Int} {b : List Int} (a : List Int) (hb : Rep 65536 D b) (hD : 0 < D) (hl : a.length ≤ 8388608) (lb : b.length ≤ 8388590) (da : Dig 65536 a) : ∀ (n : Nat) (q r : List Int) (R i : Int), n ≤ a.length → i = (n : Int) - 1 → q.length = a.length → Dig 65536 q → (∀ t, t < n → q.getD t 0 = 0) → Rep 65536 R r → R < D → val 65536 q * D + R * 65536 ^ n + val 65536 (a.take n) = val 65536 a →
  ∃ q2 r2, Ev (fun k => tribunalref02_divD.l0 k a b q r i) (q2, r2) ∧ Rep 65536 (val 65536 a / D) q2 ∧ Rep 65536 (val 65536 a % D) r2 := by
 have hDl := hb.lt (by decide)
 intro n
 induction n with
 | zero =>
  intro q r R i hn hi hq dq hz hr hR hv
  have hR0 := hr.nonneg (by decide)
  obtain ⟨q2, ⟨K, hK⟩, h1, h2, h3⟩ := tribunalref02_trim_ev (B := 65536) (l := q) (by omega) dq
  have hv' : val 65536 q * D + R = val 65536 a := by rw [← hv]; simp [val]
  have hdiv : val 65536 a / D = val 65536 q := div_eq hD (by omega) (by rw [Int.add_mul, Int.one_mul]; omega)
  have hmod : val 65536 a % D = R := by
   have h4 := Int.mul_ediv_add_emod (val 65536 a) D
   rw [hdiv, Int.mul_comm] at h4
   omega
  refine ⟨q2, r, ⟨K + 1, fun k hk => ?_⟩, ⟨h1, h2, by rw [h3, hdiv]⟩, by rw [hmod]; exact hr⟩
  obtain ⟨k, rfl⟩ : ∃ j, k = j + 1 := ⟨k - 1, by omega⟩
  have hk' : tribunalref02_trim.f k q = some q2 := hK k (by omega)
  show tribunalref02_divD.l0 (k + 1) a b q r i = _
  rw [tribunalref02_divD.l0, if_neg (by omega), hk', Option.bind_some]
 | succ n ih =>
  intro q r R i hn hi hq dq hz hr hR hv
  have hR0 := hr.nonneg (by decide)
  have hi' : i = (n : Int) := by omega
  subst hi'
  have ga := getD_dig (by decide) da n
  have hrl : r.length ≤ b.length := rep_len (by decide) hr (by omega)
  have dr : Dig 65536 (a.getD n 0 :: r) := Dig.cons.2 ⟨ga, hr.dig⟩
  obtain ⟨t, ⟨K1, e1⟩, h1, h2, h3⟩ := tribunalref02_trim_ev (B := 65536) (l := a.getD n 0 :: r) (by simp; omega) dr
  have ht : Rep 65536 (a.getD n 0 + 65536 * R) t := ⟨h1, h2, by rw [h3]; show a.getD n 0 + 65536 * val 65536 r = _; rw [hr.val]⟩
  have htl : t.length ≤ b.length + 1 := rep_len (by decide) ht (by rw [Int.pow_succ]; omega)
  obtain ⟨r', ⟨K2, e2⟩, hr'⟩ := digit_ev ht hb hD (by omega) (by omega) (by omega)
  have g1 := Int.mul_ediv_add_emod (a.getD n 0 + 65536 * R) D
  have g2 := Int.emod_nonneg (a.getD n 0 + 65536 * R) (Int.ne_of_gt hD)
  have g3 := Int.emod_lt_of_pos (a.getD n 0 + 65536 * R) hD
  have g4 : 0 ≤ (a.getD n 0 + 65536 * R) / D := Int.ediv_nonneg (by omega) (by omega)
  have g5 : (a.getD n 0 + 65536 * R) / D < 65536 := Int.ediv_lt_of_lt_mul hD (by omega)
  generalize (a.getD n 0 + 65536 * R) / D = g at *
  generalize hR' : (a.getD n 0 + 65536 * R) % D = R' at *
  clear hR'
  obtain ⟨q2, r2, ⟨K3, e3⟩, hq2⟩ := ih (q.set n g) r' R' ((n : Int) - 1) (by omega) rfl (by simp [hq]) (dq.set n ⟨g4, g5⟩) (fun t ht => by rw [getD_set_ne _ _ _ _ (by omega)]; exact hz t (by omega)) hr' g3 (by
   rw [← hv, val_set_getD _ _ _ _ (by omega), hz n (by omega), val_take_getD, Int.sub_zero, Int.pow_succ, Int.add_mul]
   generalize (65536 : Int) ^ n = W
   have x1 : g * W * D = D * g * W := by rw [Int.mul_comm (g * W), ← Int.mul_assoc]
   have x2 : R * (W * 65536) = 65536 * R * W := by rw [Int.mul_comm W, ← Int.mul_assoc, Int.mul_comm R]
   have x3 : (D * g + R') * W = (a.getD n 0 + 65536 * R) * W := by rw [g1]
   rw [Int.add_mul, Int.add_mul] at x3
   rw [x1, x2]
   omega)
  refine ⟨q2, r2, ⟨K1 + K2 + K3 + 1, fun k hk => ?_⟩, hq2⟩
  obtain ⟨k, rfl⟩ : ∃ j, k = j + 1 := ⟨k - 1, by omega⟩
  have f1 : tribunalref02_trim.f k ([a.getD n 0] ++ r) = some t := e1 k (by omega)
  have f2 : tribunalref02_digit.f k t b = _ := e2 k (by omega)
  have f3 := e3 k (by omega)
  show tribunalref02_divD.l0 (k + 1) a b q r (n : Int) = _
  rw [tribunalref02_divD.l0, if_pos (by omega), if_pos (by omega), if_pos (by omega), Option.bind_some, rd_getD, if_pos (by simp; omega), f1, Option.bind_some, f2, Option.bind_some, if_pos (by omega), Int.toNat_natCast, w64 _ (by omega)]
  exact f3
theorem divD_ev {A D : Int} {a b : List Int} (ha : Rep 65536 A a) (hb : Rep 65536 D b) (hD : 0 < D) (la : a.length ≤ 8388608) (lb : b.length ≤ 8388590) :
  ∃ q r, Ev (fun k => tribunalref02_divD.f k a b) (q, r) ∧ Rep 65536 (A / D) q ∧ Rep 65536 (A % D) r := by
 have hz : ∀ t, (List.replicate a.length (0 : Int)).getD t 0 = 0 := fun t => by
  simp [List.getD_eq_getElem?_getD, List.getElem?_replicate]; split <;> rfl
 obtain ⟨q2, r2, ⟨K, hK⟩, h1, h2⟩ := divD_l0 a hb hD la lb ha.dig a.length (List.replicate a.length 0) [] 0 ((a.length : Int) - 1) (Nat.le_refl _) rfl (by simp) (Dig.rep (by decide) _) (fun t _ => hz t) ⟨Dig.nil, trivial, rfl⟩ hD (by rw [val_replicate, List.take_length]; simp)
 rw [ha.val] at h1 h2
 refine ⟨q2, r2, ⟨K, fun k hk => ?_⟩, h1, h2⟩
 show tribunalref02_divD.f k a b = _
 rw [tribunalref02_divD.f, if_pos (by omega), Int.toNat_natCast, if_pos (by omega), w64 _ (by omega)]
 exact hK k hk
def qn (n m : Int) : Int := if (decide (n < 0) != decide (m < 0)) = true then -((n.natAbs : Int) / (m.natAbs : Int)) else (n.natAbs : Int) / (m.natAbs : Int)
def rn (n m : Int) : Int := if decide (n < 0) = true then -((n.natAbs : Int) % (m.natAbs : Int)) else (n.natAbs : Int) % (m.natAbs : Int)
theorem cut_num {n m : Int} {s t : Bool} {a b : List Int} (ha : Num 18446744073709551616 n s a) (hb : Num 18446744073709551616 m t b) (hm : m ≠ 0) (la : a.length ≤ 8388600) (lb : b.length ≤ 8388600) :
  ∃ u q v r, Ev (fun k => whole_number_cut.f k a s b t) (q, u, r, v) ∧ Num 18446744073709551616 (qn n m) u q ∧ Num 18446744073709551616 (rn n m) v r := by
 obtain ⟨q, r, ⟨K, hK⟩, hq, hr⟩ := quo_ev ha.rep hb.rep (by omega) la lb
 refine ⟨_, q, _, r, ⟨K, fun k hk => ?_⟩, Num.of_rep' (by decide) hq (s != t) (by rw [ha.sign, hb.sign]; rfl), Num.of_rep' (by decide) hr s (by rw [ha.sign]; rfl)⟩
 have e : whole_amount_quo.f k a b = _ := hK k hk
 show whole_number_cut.f k a s b t = _
 rw [whole_number_cut.f, e, Option.bind_some, signed_eq, Option.bind_some, signed_eq, Option.bind_some]
theorem rMake_rep {v : Int} {l : List Int} (h : Rep 65536 v l) (hl : l.length ≤ 8388608) (b : Bool) {n : Int} (hn : n = if b then -v else v) : ∃ u r, Ev (fun k => tribunalref02_Make.f k b l) (u, r) ∧ Num 65536 n u r := by
 obtain ⟨r, hE, h1, h2, h3⟩ := Make_ev b l (by omega) h.dig
 exact ⟨_, r, hE, Num.of_rep' (by decide) ⟨h1, h2, h3.trans h.val⟩ b hn⟩
theorem div_small {A D : Int} {L : Nat} (hA : 0 ≤ A ∧ A < 65536 ^ L) (hD : 0 < D) : A / D < 65536 ^ L ∧ A % D < 65536 ^ L := by
 have h1 := Int.ediv_le_self D hA.1
 have h2 := Int.mul_ediv_add_emod A D
 have h3 : 0 ≤ A / D := Int.ediv_nonneg hA.1 (Int.le_of_lt hD)
 have h4 := Int.mul_nonneg (Int.le_of_lt hD) h3
 exact ⟨by omega, by omega⟩
theorem Cut_num {n m : Int} {s t : Bool} {a b : List Int} (ha : Num 65536 n s a) (hb : Num 65536 m t b) (hm : m ≠ 0) (la : a.length ≤ 8388590) (lb : b.length ≤ 8388590) :
  ∃ u q v r, Ev (fun k => tribunalref02_Cut.f k s a t b) (u, q, v, r) ∧ Num 65536 (qn n m) u q ∧ Num 65536 (rn n m) v r ∧ q.length ≤ a.length ∧ r.length ≤ a.length := by
 obtain ⟨q0, r0, ⟨K1, h1⟩, hq, hr⟩ := divD_ev ha.rep hb.rep (by omega) (by omega) lb
 have hA0 := ha.rep.nonneg (by decide)
 have hA1 := ha.rep.lt (by decide)
 obtain ⟨d1, d2⟩ := div_small (D := (m.natAbs : Int)) ⟨hA0, hA1⟩ (by omega)
 have lq := rep_len (by decide) hq d1
 have lr := rep_len (by decide) hr d2
 obtain ⟨u, q, ⟨K2, h2⟩, N1⟩ := rMake_rep hq (by omega) (s != t) (n := qn n m) (by rw [ha.sign, hb.sign]; rfl)
 obtain ⟨v, r, ⟨K3, h3⟩, N2⟩ := rMake_rep hr (by omega) s (n := rn n m) (by rw [ha.sign]; rfl)
 have eq1 : ((qn n m).natAbs : Int) = (n.natAbs : Int) / (m.natAbs : Int) := by
  have : 0 ≤ (n.natAbs : Int) / (m.natAbs : Int) := Int.ediv_nonneg (by omega) (by omega)
  unfold qn; split <;> omega
 have er1 : ((rn n m).natAbs : Int) = (n.natAbs : Int) % (m.natAbs : Int) := by
  have : 0 ≤ (n.natAbs : Int) % (m.natAbs : Int) := Int.emod_nonneg _ (by omega)
  unfold rn; split <;> omega
 refine ⟨u, q, v, r, ⟨K1 + K2 + K3, fun k hk => ?_⟩, N1, N2, rep_len (by decide) N1.rep (by rw [eq1]; exact d1), rep_len (by decide) N2.rep (by rw [er1]; exact d2)⟩
 have e1 : tribunalref02_divD.f k a b = _ := h1 k (by omega)
 have e2 : tribunalref02_Make.f k (s != t) q0 = _ := h2 k (by omega)
 have e3 : tribunalref02_Make.f k s r0 = _ := h3 k (by omega)
 show tribunalref02_Cut.f k s a t b = _
 rw [tribunalref02_Cut.f, e1, Option.bind_some, e2, Option.bind_some, e3, Option.bind_some]
theorem null_eq (l : List Int) : whole_amount_null.f l = some (decide (l = [])) := by
 rw [whole_amount_null.f]
 congr 1
 cases l <;> simp <;> omega
theorem num_nil {B n : Int} (hB : 0 < B) {s : Bool} {a : List Int} (h : Num B n s a) : a = [] ↔ n = 0 := by
 rw [h.rep.nil_iff hB]; omega
theorem one_num : whole_one.f = some ([1], false) ∧ Num 18446744073709551616 1 false [1] :=
 ⟨rfl, ⟨⟨by rw [Dig.cons]; exact ⟨by decide, Dig.nil⟩, by simp [Top], by simp [val]⟩, rfl⟩⟩
theorem qn_abs (n m : Int) : ((qn n m).natAbs : Int) = (n.natAbs : Int) / (m.natAbs : Int) := by
 have : 0 ≤ (n.natAbs : Int) / (m.natAbs : Int) := Int.ediv_nonneg (by omega) (by omega)
 unfold qn; split <;> omega
theorem rn_abs (n : Int) {m : Int} (hm : m ≠ 0) : ((rn n m).natAbs : Int) = (n.natAbs : Int) % (m.natAbs : Int) := by
 have : 0 ≤ (n.natAbs : Int) % (m.natAbs : Int) := Int.emod_nonneg _ (by omega)
 unfold rn; split <;> omega
theorem qn_le (n m : Int) : ((qn n m).natAbs : Int) ≤ n.natAbs := by
 rw [qn_abs]; exact Int.ediv_le_self _ (by omega)
theorem rn_lt (n : Int) {m : Int} (hm : m ≠ 0) : ((rn n m).natAbs : Int) < m.natAbs := by
 rw [rn_abs n hm]; exact Int.emod_lt_of_pos _ (by omega)
theorem len_small {B n k : Int} (hB : 0 < B) {s t : Bool} {a q : List Int} (ha : Num B n s a) (hq : Num B k t q) (h : (k.natAbs : Int) ≤ n.natAbs) : q.length ≤ a.length :=
 rep_len hB hq.rep (Int.lt_of_le_of_lt h (ha.rep.lt hB))
theorem inv_step (V c c' lo2 o X x y P R W B : Int) (hs : c' * B + lo2 = x * y + o + c) (hv : V + c * (P * R) = X + x * P * W) : (V + (lo2 - o) * (P * R)) + c' * (P * R * B) = X + x * P * (W + y * R) := by
 have e : c' * B = x * y + o + c - lo2 := by omega
 have : c' * (P * R * B) = (c' * B) * (P * R) := by grind
 rw [this, e]
 grind
theorem inv_exit (V c X x P R W : Int) (hv : V + c * (P * R) = X + x * P * W) : V + (c - 0) * (P * R) = X + x * P * W := by rw [Int.sub_zero]; exact hv
theorem l1_step (k : Nat) (b out a : List Int) (i j x c n1 n2 p hi lo t1 c1 lo2 c2 : Int) (h1 : j < n2) (h2 : 0 ≤ j) (h3 : j < (b.length : Int)) (h4 : bits_Mul64.f x (rd b j) = some (hi, lo)) (h5 : wrap64 (i + j) = p) (h6 : 0 ≤ p) (h7 : p < (out.length : Int)) (h8 : bits_Add64.f lo (rd out p) 0 = some (t1, c1)) (h9 : bits_Add64.f t1 c 0 = some (lo2, c2)) :
  whole_amount_times.l1 (k + 1) b out i x c a n1 i b n2 j = whole_amount_times.l1 k b (out.set p.toNat lo2) i x (IntKind.u64.wrap (IntKind.u64.wrap (hi + c1) + c2)) a n1 i b n2 (wrap64 (j + 1)) := by
 rw [whole_amount_times.l1, if_pos h1, if_pos h2, if_pos h3, h4, Option.bind_some, h5, if_pos h6, if_pos h7, h8, Option.bind_some, h9, Option.bind_some]
theorem times_in (a b : List Int) (ha : a.length ≤ 1048576) (hb : b.length ≤ 1048576) (da : Dig 18446744073709551616 a) (db : Dig 18446744073709551616 b) (i : Nat) (hi : i < a.length) (X : Int) (Q : List Int → Prop)
  (cont : ∀ out, out.length = a.length + b.length → Dig 18446744073709551616 out → val 18446744073709551616 out = X + a[i] * 18446744073709551616 ^ i * val 18446744073709551616 b → (∀ t, i + 1 + b.length ≤ t → out.getD t 0 = 0) → ∃ r, Ev (fun k => whole_amount_times.l0 k b out a (a.length : Int) ((i : Int) + 1)) r ∧ Q r) :
  ∀ (m j : Nat) (out : List Int) (c : Int), j + m = b.length → out.length = a.length + b.length → Dig 18446744073709551616 out → 0 ≤ c ∧ c < 18446744073709551616 → val 18446744073709551616 out + c * 18446744073709551616 ^ (i + j) = X + a[i] * 18446744073709551616 ^ i * val 18446744073709551616 (b.take j) → (∀ t, i + b.length ≤ t → out.getD t 0 = 0) →
  ∃ r, Ev (fun k => whole_amount_times.l1 k b out (i : Int) a[i] c a (a.length : Int) (i : Int) b (b.length : Int) (j : Int)) r ∧ Q r := by
 intro m
 induction m with
 | zero =>
  intro j out c hj ho hd hc hv hz
  have hj' : j = b.length := by omega
  subst hj'
  have h0 : out[i + b.length]'(by omega) = 0 := by
   have := hz (i + b.length) (by omega)
   rwa [List.getD_eq_getElem?_getD, List.getElem?_eq_getElem (by omega), Option.getD_some] at this
  obtain ⟨r, ⟨K, hr⟩, hq⟩ := cont (out.set (i + b.length) c) (by simpa using ho) (hd.set _ hc)
   (by
    rw [List.take_length, Int.pow_add] at hv
    rw [val_set _ _ _ _ (by omega), h0, Int.pow_add]
    exact inv_exit _ _ _ _ _ _ _ hv)
   (fun t ht => by rw [getD_set_ne _ _ _ _ (by omega)]; exact hz t (by omega))
  refine ⟨r, ⟨K + 1, fun k hk => ?_⟩, hq⟩
  obtain ⟨k, rfl⟩ : ∃ j, k = j + 1 := ⟨k - 1, by omega⟩
  simp only [whole_amount_times.l1]
  rw [if_neg (by omega), w64 _ (by omega), if_pos (by omega), if_pos (by omega), w64 _ (by omega)]
  have := hr k (by omega)
  rw [show i + b.length = ((i : Int) + (b.length : Int)).toNat from by omega] at this
  with_reducible exact this
 | succ m ih =>
  intro j out c hj ho hd hc hv hz
  have hx := da.get i hi
  have hy := db.get j (by omega)
  have hp : i + j < out.length := by omega
  have hoo := hd.get (i + j) hp
  obtain ⟨h1, lo, t1, c1, lo2, c2, c', hm, ha1, ha2, hw, hlo, hcc, hs⟩ := mstep a[i] b[j] out[i + j] c hx hy hoo hc
  obtain ⟨r, ⟨K, hr⟩, hq⟩ := ih (j + 1) (out.set (i + j) lo2) c' (by omega) (by simpa using ho) (hd.set _ hlo) hcc
   (by
    rw [Int.pow_add] at hv
    rw [val_set _ _ _ _ hp, val_take_succ _ b j (by omega), show i + (j + 1) = (i + j) + 1 from by omega, Int.pow_succ, Int.pow_add]
    exact inv_step _ _ _ _ _ _ _ _ _ _ _ _ hs hv)
   (fun t ht => by rw [getD_set_ne _ _ _ _ (by omega)]; exact hz t ht)
  refine ⟨r, ⟨K + 1, fun k hk => ?_⟩, hq⟩
  obtain ⟨k, rfl⟩ : ∃ j, k = j + 1 := ⟨k - 1, by omega⟩
  have := hr k (by omega)
  show whole_amount_times.l1 (k + 1) b out (i : Int) a[i] c a (a.length : Int) (i : Int) b (b.length : Int) (j : Int) = some r
  rw [l1_step k b out a i j a[i] c a.length b.length (i + j : Nat) h1 lo t1 c1 lo2 c2 (by omega) (by omega) (by omega) (by rw [rd_nat b j (by omega)]; exact hm) (by rw [w64 _ (by omega)]; omega) (by omega) (by omega) (by rw [rd_nat out (i + j) hp]; exact ha1) ha2, hw, w64 _ (by omega), Int.toNat_natCast]
  rw [show ((j + 1 : Nat) : Int) = (j : Int) + 1 from by omega] at this
  with_reducible exact this
theorem times_out (a b : List Int) (ha : a.length ≤ 1048576) (hb : b.length ≤ 1048576) (da : Dig 18446744073709551616 a) (db : Dig 18446744073709551616 b) : ∀ (n i : Nat) (out : List Int), i + n = a.length → out.length = a.length + b.length → Dig 18446744073709551616 out → val 18446744073709551616 out = val 18446744073709551616 (a.take i) * val 18446744073709551616 b → (∀ t, i + b.length ≤ t → out.getD t 0 = 0) →
  ∃ r, Ev (fun k => whole_amount_times.l0 k b out a (a.length : Int) (i : Int)) r ∧ (Dig 18446744073709551616 r ∧ Top r ∧ val 18446744073709551616 r = val 18446744073709551616 a * val 18446744073709551616 b) := by
 intro n
 induction n with
 | zero =>
  intro i out hi ho hd hv hz
  obtain ⟨r, ⟨K, hr⟩, h1, h2, h3⟩ := whole_trimmed_ev (B := 18446744073709551616) (l := out) (by omega) hd
  refine ⟨r, ⟨K + 1, fun k hk => ?_⟩, h1, h2, by rw [h3, hv, show i = a.length from by omega, List.take_length]⟩
  obtain ⟨k, rfl⟩ : ∃ j, k = j + 1 := ⟨k - 1, by omega⟩
  show whole_amount_times.l0 (k + 1) b out a (a.length : Int) (i : Int) = some r
  have hk' : whole_trimmed.f k out = some r := hr k (by omega)
  rw [whole_amount_times.l0, if_neg (by omega), hk', Option.bind_some]
 | succ n ih =>
  intro i out hi ho hd hv hz
  have hil : i < a.length := by omega
  obtain ⟨r, ⟨K, hr⟩, hq⟩ := times_in a b ha hb da db i hil (val 18446744073709551616 (a.take i) * val 18446744073709551616 b) _ (fun out' h1 h2 h3 h4 => by
    have := ih (i + 1) out' (by omega) h1 h2 (by rw [h3, val_take_succ _ a i hil, Int.add_mul]) h4
    rwa [show ((i + 1 : Nat) : Int) = (i : Int) + 1 from by omega] at this) b.length 0 out 0 (by omega) ho hd ⟨by omega, by omega⟩ (by rw [hv]; simp [val]) hz
  refine ⟨r, ⟨K + 1, fun k hk => ?_⟩, hq⟩
  obtain ⟨k, rfl⟩ : ∃ j, k = j + 1 := ⟨k - 1, by omega⟩
  show whole_amount_times.l0 (k + 1) b out a (a.length : Int) (i : Int) = some r
  have := hr k (by omega)
  rw [show ((0 : Nat) : Int) = 0 from rfl] at this
  rw [whole_amount_times.l0, if_pos (by omega), if_pos (by omega), if_pos (by omega), rd_nat a i hil]
  with_reducible exact this
theorem times_ev (a b : List Int) (ha : a.length ≤ 1048576) (hb : b.length ≤ 1048576) (da : Dig 18446744073709551616 a) (db : Dig 18446744073709551616 b) :
  ∃ r, Ev (fun k => whole_amount_times.f k a b) r ∧ Dig 18446744073709551616 r ∧ Top r ∧ val 18446744073709551616 r = val 18446744073709551616 a * val 18446744073709551616 b := by
 obtain ⟨r, ⟨K, hr⟩, hq⟩ := times_out a b ha hb da db a.length 0 (List.replicate (a.length + b.length) 0) (by omega) (by simp) (Dig.rep (by decide) _) (by rw [val_replicate]; simp [val]) (fun t _ => by simp [List.getD_eq_getElem?_getD, List.getElem?_replicate]; split <;> rfl)
 refine ⟨r, ⟨K, fun k hk => ?_⟩, hq⟩
 show whole_amount_times.f k a b = some r
 have hw : wrap64 ((a.length : Int) + (b.length : Int)) = ((a.length + b.length : Nat) : Int) := by rw [w64 _ (by omega)]; omega
 rw [whole_amount_times.f, hw, Int.toNat_natCast, if_pos (by omega), if_pos (by omega)]
 exact hr k hk
theorem rmstep (x y o c : Int) (hx : 0 ≤ x ∧ x < 65536) (hy : 0 ≤ y ∧ y < 65536) (ho : 0 ≤ o ∧ o < 65536) (hc : 0 ≤ c ∧ c < 65536) :
  ∃ T, ((c + o) + ((x % 4294967296) * (y % 4294967296))) % 4294967296 = T ∧ (0 ≤ IntKind.u16.wrap T ∧ IntKind.u16.wrap T < 65536) ∧ (0 ≤ T / 65536 ∧ T / 65536 < 65536) ∧ (T / 65536) * 65536 + IntKind.u16.wrap T = x * y + o + c := by
 have hxy := mul_bound (x := x) (y := y) (M := 65535) ⟨hx.1, by omega⟩ ⟨hy.1, by omega⟩
 refine ⟨_, rfl, ?_⟩
 rw [Int.emod_eq_of_lt (a := x) (by omega) (by omega), Int.emod_eq_of_lt (a := y) (by omega) (by omega), IntKind.wrap_u16]
 generalize x * y = xy at *
 omega
theorem r_l1_step (k : Nat) (out a b : List Int) (sa sb : Bool) (i j c p T : Int) (h1 : j < (b.length : Int)) (h5 : wrap64 (i + j) = p) (h6 : 0 ≤ p) (h7 : p < (out.length : Int)) (h2 : 0 ≤ i) (h3 : i < (a.length : Int)) (h4 : 0 ≤ j) (hT : ((c + rd out p) + ((rd a i % 4294967296) * (rd b j % 4294967296))) % 4294967296 = T) :
  tribunalref02_Times.l1 (k + 1) out i c j sa a sb b = tribunalref02_Times.l1 k (out.set p.toNat (IntKind.u16.wrap T)) i (T / 65536) (wrap64 (j + 1)) sa a sb b := by
 rw [tribunalref02_Times.l1, if_pos h1, h5, if_pos h6, if_pos h7, if_pos h2, if_pos h3, if_pos h4, hT]
theorem rtimes_in (a b : List Int) (sa sb : Bool) (ha : a.length ≤ 4194304) (hb : b.length ≤ 4194304) (da : Dig 65536 a) (db : Dig 65536 b) (i : Nat) (hi : i < a.length) (X : Int) (Q : Bool × List Int → Prop)
  (cont : ∀ out, out.length = a.length + b.length → Dig 65536 out → val 65536 out = X + a[i] * 65536 ^ i * val 65536 b → (∀ t, i + 1 + b.length ≤ t → out.getD t 0 = 0) → ∃ r, Ev (fun k => tribunalref02_Times.l0 k out ((i : Int) + 1) sa a sb b) r ∧ Q r) :
  ∀ (m j : Nat) (out : List Int) (c : Int), j + m = b.length → out.length = a.length + b.length → Dig 65536 out → 0 ≤ c ∧ c < 65536 → val 65536 out + c * 65536 ^ (i + j) = X + a[i] * 65536 ^ i * val 65536 (b.take j) → (∀ t, i + b.length ≤ t → out.getD t 0 = 0) →
  ∃ r, Ev (fun k => tribunalref02_Times.l1 k out (i : Int) c (j : Int) sa a sb b) r ∧ Q r := by
 intro m
 induction m with
 | zero =>
  intro j out c hj ho hd hc hv hz
  have hj' : j = b.length := by omega
  subst hj'
  have h0 : out[i + b.length]'(by omega) = 0 := by
   have := hz (i + b.length) (by omega)
   rwa [List.getD_eq_getElem?_getD, List.getElem?_eq_getElem (by omega), Option.getD_some] at this
  obtain ⟨r, ⟨K, hr⟩, hq⟩ := cont (out.set (i + b.length) c) (by simpa using ho) (hd.set _ hc)
   (by
    rw [List.take_length, Int.pow_add] at hv
    rw [val_set _ _ _ _ (by omega), h0, Int.pow_add]
    exact inv_exit _ _ _ _ _ _ _ hv)
   (fun t ht => by rw [getD_set_ne _ _ _ _ (by omega)]; exact hz t (by omega))
  refine ⟨r, ⟨K + 1, fun k hk => ?_⟩, hq⟩
  obtain ⟨k, rfl⟩ : ∃ j, k = j + 1 := ⟨k - 1, by omega⟩
  show tribunalref02_Times.l1 (k + 1) out (i : Int) c (b.length : Int) sa a sb b = some r
  have hw : IntKind.u16.wrap c = c := by rw [IntKind.wrap_u16]; omega
  have := hr k (by omega)
  rw [tribunalref02_Times.l1, if_neg (by omega), w64 ((i : Int) + (b.length : Int)) (by omega), if_pos (by omega), if_pos (by omega), w64 _ (by omega), hw, show ((i : Int) + (b.length : Int)).toNat = i + b.length from by omega]
  with_reducible exact this
 | succ m ih =>
  intro j out c hj ho hd hc hv hz
  have hx := da.get i hi
  have hy := db.get j (by omega)
  have hp : i + j < out.length := by omega
  have hoo := hd.get (i + j) hp
  obtain ⟨T, hT, hl, hcc, hs⟩ := rmstep a[i] b[j] out[i + j] c hx hy hoo hc
  obtain ⟨r, ⟨K, hr⟩, hq⟩ := ih (j + 1) (out.set (i + j) (IntKind.u16.wrap T)) (T / 65536) (by omega) (by simpa using ho) (hd.set _ hl) hcc
   (by
    rw [Int.pow_add] at hv
    rw [val_set _ _ _ _ hp, val_take_succ _ b j (by omega), show i + (j + 1) = (i + j) + 1 from by omega, Int.pow_succ, Int.pow_add]
    exact inv_step _ _ _ _ _ _ _ _ _ _ _ _ hs hv)
   (fun t ht => by rw [getD_set_ne _ _ _ _ (by omega)]; exact hz t ht)
  refine ⟨r, ⟨K + 1, fun k hk => ?_⟩, hq⟩
  obtain ⟨k, rfl⟩ : ∃ j, k = j + 1 := ⟨k - 1, by omega⟩
  have := hr k (by omega)
  show tribunalref02_Times.l1 (k + 1) out (i : Int) c (j : Int) sa a sb b = some r
  rw [r_l1_step k out a b sa sb i j c (i + j : Nat) T (by omega) (by rw [w64 _ (by omega)]; omega) (by omega) (by omega) (by omega) (by omega) (by omega) (by rw [rd_nat out (i + j) hp, rd_nat a i hi, rd_nat b j (by omega)]; exact hT), w64 _ (by omega), Int.toNat_natCast]
  rw [show ((j + 1 : Nat) : Int) = (j : Int) + 1 from by omega] at this
  with_reducible exact this
theorem rtimes_out (a b : List Int) (sa sb : Bool) (ha : a.length ≤ 4194304) (hb : b.length ≤ 4194304) (da : Dig 65536 a) (db : Dig 65536 b) : ∀ (n i : Nat) (out : List Int), i + n = a.length → out.length = a.length + b.length → Dig 65536 out → val 65536 out = val 65536 (a.take i) * val 65536 b → (∀ t, i + b.length ≤ t → out.getD t 0 = 0) →
  ∃ r, Ev (fun k => tribunalref02_Times.l0 k out (i : Int) sa a sb b) r ∧ (r.1 = ((sa != sb) && decide (0 < r.2.length)) ∧ Dig 65536 r.2 ∧ Top r.2 ∧ val 65536 r.2 = val 65536 a * val 65536 b) := by
 intro n
 induction n with
 | zero =>
  intro i out hi ho hd hv hz
  obtain ⟨r, ⟨K, hr⟩, h1, h2, h3⟩ := Make_ev (sa != sb) out (by omega) hd
  refine ⟨(((sa != sb) && decide (0 < r.length)), r), ⟨K + 1, fun k hk => ?_⟩, rfl, h1, h2, by rw [h3, hv, show i = a.length from by omega, List.take_length]⟩
  obtain ⟨k, rfl⟩ : ∃ j, k = j + 1 := ⟨k - 1, by omega⟩
  have hk' : tribunalref02_Make.f k (sa != sb) out = some (((sa != sb) && decide (0 < r.length)), r) := hr k (by omega)
  show tribunalref02_Times.l0 (k + 1) out (i : Int) sa a sb b = _
  rw [tribunalref02_Times.l0, if_neg (by omega), hk', Option.bind_some]
 | succ n ih =>
  intro i out hi ho hd hv hz
  have hil : i < a.length := by omega
  obtain ⟨r, ⟨K, hr⟩, hq⟩ := rtimes_in a b sa sb ha hb da db i hil (val 65536 (a.take i) * val 65536 b) _ (fun out' h1 h2 h3 h4 => by
    have := ih (i + 1) out' (by omega) h1 h2 (by rw [h3, val_take_succ _ a i hil, Int.add_mul]) h4
    rwa [show ((i + 1 : Nat) : Int) = (i : Int) + 1 from by omega] at this) b.length 0 out 0 (by omega) ho hd ⟨by omega, by omega⟩ (by rw [hv]; simp [val]) hz
  refine ⟨r, ⟨K + 1, fun k hk => ?_⟩, hq⟩
  obtain ⟨k, rfl⟩ : ∃ j, k = j + 1 := ⟨k - 1, by omega⟩
  show tribunalref02_Times.l0 (k + 1) out (i : Int) sa a sb b = some r
  have := hr k (by omega)
  rw [show ((0 : Nat) : Int) = 0 from rfl] at this
  rw [tribunalref02_Times.l0, if_pos (by omega)]
  with_reducible exact this
theorem rtimes_ev (a b : List Int) (sa sb : Bool) (ha : a.length ≤ 4194304) (hb : b.length ≤ 4194304) (da : Dig 65536 a) (db : Dig 65536 b) :
  ∃ r, Ev (fun k => tribunalref02_Times.f k sa a sb b) ((sa != sb) && decide (0 < r.length), r) ∧ Dig 65536 r ∧ Top r ∧ val 65536 r = val 65536 a * val 65536 b := by
 obtain ⟨⟨s, r⟩, ⟨K, hr⟩, hs, hq⟩ := rtimes_out a b sa sb ha hb da db a.length 0 (List.replicate (a.length + b.length) 0) (by omega) (by simp) (Dig.rep (by decide) _) (by rw [val_replicate]; simp [val]) (fun t _ => by simp [List.getD_eq_getElem?_getD, List.getElem?_replicate]; split <;> rfl)
 have hs' : s = ((sa != sb) && decide (0 < r.length)) := hs
 clear hs
 subst hs'
 refine ⟨r, ⟨K, fun k hk => ?_⟩, hq⟩
 show tribunalref02_Times.f k sa a sb b = _
 have hw : wrap64 ((a.length : Int) + (b.length : Int)) = ((a.length + b.length : Nat) : Int) := by rw [w64 _ (by omega)]; omega
 rw [tribunalref02_Times.f, hw, Int.toNat_natCast, if_pos (by omega), if_pos (by omega)]
 exact hr k hk
theorem times_num {n m : Int} {s t : Bool} {a b : List Int} (ha : Num 18446744073709551616 n s a) (hb : Num 18446744073709551616 m t b) (la : a.length ≤ 1048576) (lb : b.length ≤ 1048576) :
  ∃ u r, Ev (fun k => whole_number_times.f k a s b t) (r, u) ∧ Num 18446744073709551616 (n * m) u r := by
 obtain ⟨r, ⟨K, hr⟩, h1, h2, h3⟩ := times_ev a b la lb ha.rep.dig hb.rep.dig
 rw [ha.rep.val, hb.rep.val] at h3
 have N := Num.of_rep' (by decide) (Rep.mk h1 h2 h3) (s != t) (n := n * m) (by rw [ha.sign, hb.sign]; exact mul_signs n m)
 refine ⟨_, r, ⟨K, fun k hk => ?_⟩, N⟩
 have hk' : whole_amount_times.f k a b = some r := hr k hk
 show whole_number_times.f k a s b t = _
 rw [whole_number_times.f, hk', Option.bind_some, signed_eq, Option.bind_some]
theorem rtimes_num {n m : Int} {s t : Bool} {a b : List Int} (ha : Num 65536 n s a) (hb : Num 65536 m t b) (la : a.length ≤ 4194304) (lb : b.length ≤ 4194304) :
  ∃ u r, Ev (fun k => tribunalref02_Times.f k s a t b) (u, r) ∧ Num 65536 (n * m) u r ∧ r.length ≤ 8388608 := by
 obtain ⟨r, hr, h1, h2, h3⟩ := rtimes_ev a b s t la lb ha.rep.dig hb.rep.dig
 rw [ha.rep.val, hb.rep.val] at h3
 have N := Num.of_rep' (by decide) (Rep.mk h1 h2 h3) (s != t) (n := n * m) (by rw [ha.sign, hb.sign]; exact mul_signs n m)
 refine ⟨_, r, hr, N, ?_⟩
 have g2 := val_lt (B := 65536) (by decide) ha.rep.dig
 have g3 := val_lt (B := 65536) (by decide) hb.rep.dig
 rw [ha.rep.val] at g2
 rw [hb.rep.val] at g3
 have h4 : r.length ≤ a.length + b.length := by
  refine rep_len (by decide) (Rep.mk h1 h2 h3) ?_
  rw [Int.pow_add]
  have p1 := pow_pos (B := 65536) (by decide) a.length
  have p2 := Int.mul_le_mul_of_nonneg_right (Int.le_of_lt g2) (show (0 : Int) ≤ (m.natAbs : Int) by omega)
  have p3 := Int.mul_lt_mul_of_pos_left g3 p1
  exact Int.lt_of_le_of_lt p2 p3
 omega
end Go.Proofs.YtodhkpdcpneeeaaDoor.PurePDv
namespace Go.Proofs.YtodhkpdcpneeeaaDoor.PurePDv
set_option linter.unusedVariables false
set_option linter.unusedSimpArgs false
open Go.RowKit Go.Proofs.YtodhkpdcpneeeaaDoorW.PrintWords Go.Proofs.YtodhkpdcpneeeaaDoorW.PrintLast Go.Proofs.YtodhkpdcpneeeaaDoorW.PrintMore Go.Proofs.YtodhkpdcpneeeaaDoor.PDv Go.Proofs.YtodhkpdcpneeeaaDoor Go.Proofs.YtodhkpdcpneeeaaDoor.Mine Big
def AN (L : Nat) (n : Int) (s : Bool) (l : List Int) : Prop := ∃ a s1, Ev (fun k => whole_of.f k s l) (a, s1) ∧ Num 18446744073709551616 n s1 a ∧ a.length ≤ L
theorem AN.up {L L' : Nat} {n : Int} {s : Bool} {l : List Int} (h : AN L n s l) (hL : L ≤ L') : AN L' n s l := by
 obtain ⟨a, s1, h1, h2, h3⟩ := h
 exact ⟨a, s1, h1, h2, by omega⟩
theorem told_ok (s : Bool) {l : List Int} (h : l.length ≤ 4096) : whole_number_told.f l s = some (s, l, 0) := by
 simp only [whole_number_told.f, whole_number_long.f, Option.bind_some]
 rw [if_neg (by simp; omega), whole_number_out.f, api_Nat_uint64.f, if_pos (by omega), Option.bind_some, Option.bind_some]
section
variable {L L' : Nat} {n m : Int} {s t : Bool} {l p : List Int}
theorem AN.add (h : AN L n s l) (g : AN L' m t p) (hL : L ≤ 4000) (hL' : L' ≤ 4000) : ∃ u q, Ev (fun k => whole_Add.f k s l t p) (u, q, 0) ∧ Num 18446744073709551616 (n + m) u q ∧ q.length ≤ max L L' + 1 := by
 obtain ⟨a, s1, ⟨K1, e1⟩, N1, l1⟩ := h
 obtain ⟨b, s2, ⟨K2, e2⟩, N2, l2⟩ := g
 obtain ⟨u, r, ⟨K3, e3⟩, N3⟩ := plus_num N1 N2 (by omega) (by omega)
 have hr := num_len (by decide) N1 N2 N3 (by omega) (L := max L L') (by omega) (by omega)
 refine ⟨u, r, ⟨K1 + K2 + K3, fun k hk => ?_⟩, N3, hr⟩
 have g1 : whole_of.f k s l = _ := e1 k (by omega)
 have g2 : whole_of.f k t p = _ := e2 k (by omega)
 have g3 : whole_number_plus.f k a s1 b s2 = _ := e3 k (by omega)
 show whole_Add.f k s l t p = _
 rw [whole_Add.f, g1, Option.bind_some, g2, Option.bind_some, g3, Option.bind_some, told_ok u (show r.length ≤ 4096 by omega), Option.bind_some]
theorem nil_num' (B : Int) : Num B 0 false [] := ⟨⟨Dig.nil, trivial, rfl⟩, rfl⟩
end
theorem qr_eq (n : Int) {m : Int} (hm : m ≠ 0) : qn n m * m + rn n m = n := by
 have h1 := Int.mul_ediv_add_emod (n.natAbs : Int) (m.natAbs : Int)
 unfold qn rn
 generalize (n.natAbs : Int) / (m.natAbs : Int) = Q at *
 generalize (n.natAbs : Int) % (m.natAbs : Int) = R at *
 generalize hM : (m.natAbs : Int) = M at *
 generalize hA : (n.natAbs : Int) = A at *
 rcases Int.lt_or_le n 0 with h | h <;> rcases Int.lt_or_le m 0 with g | g
 ·rw [decide_eq_true h, decide_eq_true g, if_neg (by decide), if_pos rfl, show n = -A from by omega, show m = -M from by omega, Int.mul_neg, Int.mul_comm Q M]; omega
 ·rw [decide_eq_true h, decide_eq_false (Int.not_lt.2 g), if_pos (by decide), if_pos rfl, show n = -A from by omega, show m = M from by omega, Int.neg_mul, Int.mul_comm Q M]; omega
 ·rw [decide_eq_false (Int.not_lt.2 h), decide_eq_true g, if_pos (by decide), if_neg (by decide), show n = A from by omega, show m = -M from by omega, Int.neg_mul_neg, Int.mul_comm Q M]; omega
 rw [decide_eq_false (Int.not_lt.2 h), decide_eq_false (Int.not_lt.2 g), if_neg (by decide), if_neg (by decide), show n = A from by omega, show m = M from by omega, Int.mul_comm Q M]; omega
theorem rn_pos (n : Int) {m : Int} (hm : m ≠ 0) : (0 ≤ n → 0 ≤ rn n m) ∧ (n ≤ 0 → rn n m ≤ 0) := by
 have h2 : 0 ≤ (n.natAbs : Int) % (m.natAbs : Int) := Int.emod_nonneg _ (by omega)
 unfold rn
 constructor
 ·intro h
  rw [decide_eq_false (by omega), if_neg (by decide)]; exact h2
 intro h
 rcases Int.lt_or_le n 0 with g | g
 ·rw [decide_eq_true g, if_pos rfl]; omega
 obtain rfl : n = 0 := by omega
 simp
end Go.Proofs.YtodhkpdcpneeeaaDoor.PurePDv
namespace Go.Proofs.YtodhkpdcpneeeaaDoor.PurePDv
set_option linter.unusedVariables false
set_option linter.unusedSimpArgs false
open Go.RowKit Go.Proofs.YtodhkpdcpneeeaaDoorW.PrintWords Go.Proofs.YtodhkpdcpneeeaaDoorW.PrintLast Go.Proofs.YtodhkpdcpneeeaaDoorW.PrintMore Go.Proofs.YtodhkpdcpneeeaaDoor.PDv Go.Proofs.YtodhkpdcpneeeaaDoor Go.Proofs.YtodhkpdcpneeeaaDoor.Mine Big
theorem xout_same {n : Int} {s t : Bool} {l d : List Int} (h : Num 18446744073709551616 n s l) (g : Num 65536 n t d) (hd : d.length ≤ 8388608) (hl : l.length ≤ 8388608) :
  whole_number_out.f l s = some (s, l) ∧ Ev (fun k => tribunalref02_To.f k t d) (s, l) := by
 obtain ⟨r, hr, h1, h2, h3, _⟩ := To_ev d t hd g.rep.dig g.rep.top
 have e : r = l := h.rep.uniq (by decide) ⟨h1, h2, h3.trans g.rep.val⟩ |>.symm
 have es : t = s := g.sign.trans h.sign.symm
 subst e; subst es
 refine ⟨?_, hr⟩
 rw [whole_number_out.f, api_Nat_uint64.f, if_pos (by omega), Option.bind_some]
structure Two (n : Int) (s : Bool) (l d : List Int) : Prop where
 a : Num 18446744073709551616 n s l
 b : Num 65536 n s d
theorem Two.mk' {n : Int} {s t : Bool} {l d : List Int} (h : Num 18446744073709551616 n s l) (g : Num 65536 n t d) : t = s ∧ Two n s l d := by
 have e : t = s := g.sign.trans h.sign.symm
 subst e
 exact ⟨rfl, h, g⟩
theorem Two.len {M n : Int} {L : Nat} (hM1 : M < 18446744073709551616 ^ L) (hM2 : M < 65536 ^ (4 * L)) {s : Bool} {l d : List Int} (h : Two n s l d) (hn : (n.natAbs : Int) ≤ M) : l.length ≤ L ∧ d.length ≤ 4 * L :=
 ⟨rep_len (by decide) h.a.rep (by omega), rep_len (by decide) h.b.rep (by omega)⟩
theorem opp_two {x : Int} {t : Bool} {m e : List Int} (h : Two x t m e) (c : e.length ≤ 20000) : ∃ u q, whole_number_opposite.f m t = some (m, u) ∧ Ev (fun k => tribunalref02_Minus.f k t e) (u, q) ∧ Two (-x) u m q ∧ q.length ≤ 20000 := by
 obtain ⟨u1, f1, N1⟩ := opposite_num h.a
 obtain ⟨u2, q2, E3, M1⟩ := rminus_num h.b (by omega)
 have hq2 := len_small (by decide) h.b M1 (by omega)
 obtain ⟨eu, T⟩ := Two.mk' N1 M1
 subst eu
 exact ⟨u2, q2, f1, E3, T, by omega⟩
theorem ext_j2 {n x y : Int} {s t u : Bool} {l d m e p q : List Int} (h1 : Two n s l d) (h2 : Two x t m e) (h3 : Two y u p q) (b1 : l.length ≤ 5000) (b2 : m.length ≤ 5000) (b3 : p.length ≤ 5000) (c1 : d.length ≤ 20000) (c2 : e.length ≤ 20000) (c3 : q.length ≤ 20000) (qb : Bool) (ql : List Int) :
  ∃ z, whole_number_out.f l s = some (s, l) ∧ whole_number_out.f m t = some (t, m) ∧ whole_number_out.f p z = some (z, p) ∧ (if qb = true then whole_number_opposite.f p u = some (p, z) else z = u) ∧ Ev (fun k => tribunalref02_Extended.j2 k qb ql s d t e u q) (s, l, t, m, z, p, 0) := by
 obtain ⟨o1, ⟨K1, e1⟩⟩ := xout_same h1.a h1.b (by omega) (by omega)
 obtain ⟨o2, ⟨K2, e2⟩⟩ := xout_same h2.a h2.b (by omega) (by omega)
 cases qb with
 | true =>
  obtain ⟨u1, q2, f1, ⟨K3, e3⟩, T, lq⟩ := opp_two h3 c3
  obtain ⟨o3, ⟨K4, e4⟩⟩ := xout_same T.a T.b (by omega) (by omega)
  refine ⟨u1, o1, o2, o3, by rw [if_pos rfl]; exact f1, ⟨K1 + K2 + K3 + K4 + 1, fun k hk => ?_⟩⟩
  obtain ⟨k, rfl⟩ : ∃ j, k = j + 1 := ⟨k - 1, by omega⟩
  have g1 : tribunalref02_To.f k s d = _ := e1 k (by omega)
  have g2 : tribunalref02_To.f k t e = _ := e2 k (by omega)
  have g3 : tribunalref02_Minus.f k u q = _ := e3 k (by omega)
  have g4 : tribunalref02_To.f k u1 q2 = _ := e4 k (by omega)
  show tribunalref02_Extended.j2 (k + 1) true ql s d t e u q = _
  rw [tribunalref02_Extended.j2, if_pos rfl, g3, Option.bind_some, g1, Option.bind_some, g2, Option.bind_some, g4, Option.bind_some]
 | false =>
  obtain ⟨o3, ⟨K4, e4⟩⟩ := xout_same h3.a h3.b (by omega) (by omega)
  refine ⟨u, o1, o2, o3, by rw [if_neg (by decide)], ⟨K1 + K2 + K4 + 1, fun k hk => ?_⟩⟩
  obtain ⟨k, rfl⟩ : ∃ j, k = j + 1 := ⟨k - 1, by omega⟩
  have g1 : tribunalref02_To.f k s d = _ := e1 k (by omega)
  have g2 : tribunalref02_To.f k t e = _ := e2 k (by omega)
  have g4 : tribunalref02_To.f k u q = _ := e4 k (by omega)
  show tribunalref02_Extended.j2 (k + 1) false ql s d t e u q = _
  rw [tribunalref02_Extended.j2, if_neg (by decide), g1, Option.bind_some, g2, Option.bind_some, g4, Option.bind_some]
theorem ext_end {M : Int} {L : Nat} (hL : L ≤ 5000) (hM1 : M < 18446744073709551616 ^ L) (hM2 : M < 65536 ^ (4 * L)) (pb qb : Bool) (pl ql : List Int) {n1 x1 y1 n2 : Int} {s1 t1 u1 s2 t2 u2 : Bool} {N1 X1 Y1 N2 X2 Y2 D1 E1 F1 D2 E2 F2 : List Int}
  (hz : n2 = 0) (p1 : 0 ≤ n1) (m1 : n1 ≤ M) (bx1 : (x1.natAbs : Int) ≤ M) (by1 : (y1.natAbs : Int) ≤ M) (A1 : Two n1 s1 N1 D1) (A2 : Two x1 t1 X1 E1) (A3 : Two y1 u1 Y1 F1) (A4 : Two n2 s2 N2 D2) :
  ∃ r, Ev (fun k => whole_Extended.l0 k pb qb N1 s1 X1 t1 Y1 u1 N2 s2 X2 t2 Y2 u2) r ∧ Ev (fun k => tribunalref02_Extended.l0 k pb pl qb ql s1 D1 t1 E1 u1 F1 s2 D2 t2 E2 u2 F2) r ∧ r.2.1.length ≤ 8388608 ∧ r.2.2.2.1.length ≤ 8388608 ∧ r.2.2.2.2.2.1.length ≤ 8388608 := by
 subst hz
 have l1 := A1.len hM1 hM2 (by omega)
 have l2 := A2.len hM1 hM2 bx1
 have l3 := A3.len hM1 hM2 by1
 obtain rfl := (num_nil (by decide) A4.a).2 rfl
 obtain rfl := (num_nil (by decide) A4.b).2 rfl
 have key : ∀ (x' : Int) (t' : Bool) (m' e' : List Int), Two x' t' m' e' → m'.length ≤ 5000 → e'.length ≤ 20000 → (pb = true → whole_number_opposite.f X1 t1 = some (m', t')) → (¬ pb = true → X1 = m' ∧ t1 = t') → (∃ K, ∀ k, K ≤ k → tribunalref02_Extended.l0 (k + 1) pb pl qb ql s1 D1 t1 E1 u1 F1 s2 [] t2 E2 u2 F2 = tribunalref02_Extended.j2 k qb ql s1 D1 t' e' u1 F1) →
   ∃ r, Ev (fun k => whole_Extended.l0 k pb qb N1 s1 X1 t1 Y1 u1 [] s2 X2 t2 Y2 u2) r ∧ Ev (fun k => tribunalref02_Extended.l0 k pb pl qb ql s1 D1 t1 E1 u1 F1 s2 [] t2 E2 u2 F2) r ∧ r.2.1.length ≤ 8388608 ∧ r.2.2.2.1.length ≤ 8388608 ∧ r.2.2.2.2.2.1.length ≤ 8388608 := by
  intro x' t' m' e' T bm be hw hw' ⟨K0, e0⟩
  obtain ⟨z, o1, o2, o3, hz, ⟨K1, e1⟩⟩ := ext_j2 A1 T A3 (by omega) bm (by omega) (by omega) be (by omega) qb ql
  refine ⟨(s1, N1, t', m', z, Y1, 0), ⟨1, fun k hk => ?_⟩, ⟨K0 + K1 + 1, fun k hk => ?_⟩, by show N1.length ≤ _; omega, by show m'.length ≤ _; omega, by show Y1.length ≤ _; omega⟩
  ·obtain ⟨k, rfl⟩ : ∃ j, k = j + 1 := ⟨k - 1, by omega⟩
   show whole_Extended.l0 (k + 1) pb qb N1 s1 X1 t1 Y1 u1 [] s2 X2 t2 Y2 u2 = _
   rw [whole_Extended.l0, null_eq, Option.bind_some, if_pos (decide_eq_true rfl)]
   by_cases hp : pb = true
   ·rw [if_pos hp, hw hp, Option.bind_some]
    by_cases hq : qb = true
    ·rw [if_pos hq] at hz ⊢
     rw [hz, Option.bind_some, o1, Option.bind_some, o2, Option.bind_some, o3, Option.bind_some]
    rw [if_neg hq] at hz ⊢
    subst hz
    rw [o1, Option.bind_some, o2, Option.bind_some, o3, Option.bind_some]
   obtain ⟨ex, et⟩ := hw' hp
   subst ex; subst et
   rw [if_neg hp]
   by_cases hq : qb = true
   ·rw [if_pos hq] at hz ⊢
    rw [hz, Option.bind_some, o1, Option.bind_some, o2, Option.bind_some, o3, Option.bind_some]
   rw [if_neg hq] at hz ⊢
   subst hz
   rw [o1, Option.bind_some, o2, Option.bind_some, o3, Option.bind_some]
  obtain ⟨k, rfl⟩ : ∃ j, k = j + 1 := ⟨k - 1, by omega⟩
  show tribunalref02_Extended.l0 (k + 1) pb pl qb ql s1 D1 t1 E1 u1 F1 s2 [] t2 E2 u2 F2 = _
  rw [e0 k (by omega)]
  exact e1 k (by omega)
 by_cases hp : pb = true
 ·obtain ⟨u, q, f1, ⟨K, e1⟩, T, lq⟩ := opp_two A2 (by omega)
  refine key _ u X1 q T (by omega) lq (fun _ => f1) (fun h => absurd hp h) ⟨K, fun k hk => ?_⟩
  have g1 : tribunalref02_Minus.f k t1 E1 = _ := e1 k hk
  rw [tribunalref02_Extended.l0, if_neg (by simp), if_pos hp, g1, Option.bind_some]
 refine key _ t1 X1 E1 A2 (by omega) (by omega) (fun h => absurd h hp) (fun _ => ⟨rfl, rfl⟩) ⟨0, fun k hk => ?_⟩
 rw [tribunalref02_Extended.l0, if_neg (by simp), if_neg hp]
theorem abs_opp {x1 x2 q : Int} (hq : 0 ≤ q) (h : x1 ≤ 0 ∧ 0 ≤ x2 ∨ 0 ≤ x1 ∧ x2 ≤ 0) : (((x1 - q * x2).natAbs : Int) = (x1.natAbs : Int) + q * (x2.natAbs : Int)) ∧ (x2 ≤ 0 ∧ 0 ≤ x1 - q * x2 ∨ 0 ≤ x2 ∧ x1 - q * x2 ≤ 0) := by
 rcases h with ⟨h1, h2⟩ | ⟨h1, h2⟩
 ·have e : (x2.natAbs : Int) = x2 := by omega
  have := Int.mul_nonneg hq h2
  rw [e]
  exact ⟨by omega, .inr ⟨h2, by omega⟩⟩
 have e : (x2.natAbs : Int) = -x2 := by omega
 have h3 : q * x2 ≤ 0 := by
  have := Int.mul_nonneg hq (show 0 ≤ -x2 by omega)
  rw [Int.mul_neg] at this
  omega
 rw [e, Int.mul_neg]
 exact ⟨by omega, .inl ⟨h2, by omega⟩⟩
theorem bez_step {n1 n2 x1 x2 q r X X1 X2 b0 : Int} (hn : q * n2 + r = n1) (hX : X = X1 + q * X2) (h : X2 * n1 + X1 * n2 = b0) : X * n2 + X2 * r = b0 := by
 subst hX
 rw [← hn, Int.mul_add] at h
 rw [Int.add_mul, Int.mul_assoc, Int.mul_left_comm q X2 n2]
 omega
theorem bez_le {n2 X X2 r b0 M : Int} (h : X * n2 + X2 * r = b0) (hn : 1 ≤ n2) (hX : 0 ≤ X) (h2 : 0 ≤ X2 * r) (hb : b0 ≤ M) : X ≤ M := by
 have := Int.mul_le_mul_of_nonneg_left hn hX
 rw [Int.mul_one] at this
 omega
theorem mul_len {M : Int} {L : Nat} (hM1 : M < 18446744073709551616 ^ L) (hM2 : M < 65536 ^ (4 * L)) {q x : Int} (hq : (q.natAbs : Int) ≤ M) (hx : (x.natAbs : Int) ≤ M) {s : Bool} {l d : List Int} (h : Two (q * x) s l d) : l.length ≤ 2 * L ∧ d.length ≤ 8 * L := by
 have e : ((q * x).natAbs : Int) = (q.natAbs : Int) * (x.natAbs : Int) := by rw [Int.natAbs_mul, Int.natCast_mul]
 have key : ∀ B : Int, 0 < B → ∀ K : Nat, M < B ^ K → ((q * x).natAbs : Int) < B ^ (2 * K) := by
  intro B hB K hM
  rw [e, show 2 * K = K + K from by omega, Int.pow_add]
  have h1 := Int.mul_le_mul_of_nonneg_left (show (x.natAbs : Int) ≤ B ^ K by omega) (show (0 : Int) ≤ (q.natAbs : Int) by omega)
  have h2 := Int.mul_lt_mul_of_pos_right (show (q.natAbs : Int) < B ^ K by omega) (pow_pos hB K)
  omega
 refine ⟨rep_len (by decide) h.a.rep (key _ (by decide) L hM1), ?_⟩
 have := rep_len (by decide) h.b.rep (key 65536 (by decide) (4 * L) hM2)
 omega
theorem fms {M : Int} {L : Nat} (hL : L ≤ 5000) (hM1 : M < 18446744073709551616 ^ L) (hM2 : M < 65536 ^ (4 * L)) {q x1 x2 : Int} {s t u : Bool} {l d m e p f : List Int} (hq : Two q s l d) (h1 : Two x1 t m e) (h2 : Two x2 u p f) (bq : (q.natAbs : Int) ≤ M) (b1 : (x1.natAbs : Int) ≤ M) (b2 : (x2.natAbs : Int) ≤ M) :
  ∃ v r v' r' w z w2 z2 w' z', Ev (fun k => whole_number_times.f k l s p u) (r, v) ∧ Ev (fun k => whole_number_minus.f k m t r v) (z, w) ∧ Ev (fun k => tribunalref02_Times.f k s d u f) (v', r') ∧ Ev (fun k => tribunalref02_Minus.f k v' r') (w2, z2) ∧ Ev (fun k => tribunalref02_Plus.f k t e w2 z2) (w', z') ∧ w' = w ∧ Two (x1 - q * x2) w z z' := by
 have lq := hq.len hM1 hM2 bq
 have l1 := h1.len hM1 hM2 b1
 have l2 := h2.len hM1 hM2 b2
 obtain ⟨v, r, E1, N1⟩ := times_num hq.a h2.a (by omega) (by omega)
 obtain ⟨v', r', E2, M1, _⟩ := rtimes_num hq.b h2.b (by omega) (by omega)
 obtain ⟨ev, T1⟩ := Two.mk' N1 M1
 have lt := mul_len hM1 hM2 bq b2 T1
 obtain ⟨w, z, E3, N2⟩ := minus_num h1.a N1 (by omega) (by omega)
 obtain ⟨w2, z2, E4, M2⟩ := rminus_num M1 (by omega)
 have lz := len_small (by decide) M1 M2 (by omega)
 obtain ⟨w', z', E5, M3⟩ := rplus_num h1.b M2 (by omega) (by omega)
 rw [← Int.sub_eq_add_neg] at M3
 obtain ⟨ew, T2⟩ := Two.mk' N2 M3
 exact ⟨v, r, v', r', w, z, w2, z2, w', z', E1, E3, E2, E4, E5, ew, T2⟩
theorem ext_l0 {M a0 b0 : Int} {L : Nat} (hL : L ≤ 5000) (hM1 : M < 18446744073709551616 ^ L) (hM2 : M < 65536 ^ (4 * L)) (ha : a0 ≤ M) (hb : b0 ≤ M) (pb qb : Bool) (pl ql : List Int) : ∀ (g : Nat) (n1 x1 y1 n2 x2 y2 : Int) (s1 t1 u1 s2 t2 u2 : Bool) (N1 X1 Y1 N2 X2 Y2 D1 E1 F1 D2 E2 F2 : List Int),
  n2.natAbs ≤ g → 0 ≤ n1 → 0 ≤ n2 → n1 ≤ M → n2 ≤ M → (x2.natAbs : Int) * n1 + (x1.natAbs : Int) * n2 = b0 → (y2.natAbs : Int) * n1 + (y1.natAbs : Int) * n2 = a0 → (x1 ≤ 0 ∧ 0 ≤ x2 ∨ 0 ≤ x1 ∧ x2 ≤ 0) → (y1 ≤ 0 ∧ 0 ≤ y2 ∨ 0 ≤ y1 ∧ y2 ≤ 0) →
  (x1.natAbs : Int) ≤ M → (x2.natAbs : Int) ≤ M → (y1.natAbs : Int) ≤ M → (y2.natAbs : Int) ≤ M →
  Two n1 s1 N1 D1 → Two x1 t1 X1 E1 → Two y1 u1 Y1 F1 → Two n2 s2 N2 D2 → Two x2 t2 X2 E2 → Two y2 u2 Y2 F2 →
  ∃ r, Ev (fun k => whole_Extended.l0 k pb qb N1 s1 X1 t1 Y1 u1 N2 s2 X2 t2 Y2 u2) r ∧ Ev (fun k => tribunalref02_Extended.l0 k pb pl qb ql s1 D1 t1 E1 u1 F1 s2 D2 t2 E2 u2 F2) r ∧ r.2.1.length ≤ 8388608 ∧ r.2.2.2.1.length ≤ 8388608 ∧ r.2.2.2.2.2.1.length ≤ 8388608 := by
 intro g
 induction g with
 | zero =>
  intro n1 x1 y1 n2 x2 y2 s1 t1 u1 s2 t2 u2 N1 X1 Y1 N2 X2 Y2 D1 E1 F1 D2 E2 F2 hg p1 p2 m1 m2 i1 i2 sx sy bx1 bx2 by1 by2 A1 A2 A3 A4 A5 A6
  exact ext_end hL hM1 hM2 pb qb pl ql (show n2 = 0 by omega) p1 m1 bx1 by1 A1 A2 A3 A4
 | succ g ih =>
  intro n1 x1 y1 n2 x2 y2 s1 t1 u1 s2 t2 u2 N1 X1 Y1 N2 X2 Y2 D1 E1 F1 D2 E2 F2 hg p1 p2 m1 m2 i1 i2 sx sy bx1 bx2 by1 by2 A1 A2 A3 A4 A5 A6
  by_cases hz : n2 = 0
  ·exact ext_end hL hM1 hM2 pb qb pl ql hz p1 m1 bx1 by1 A1 A2 A3 A4
  have l1 := A1.len hM1 hM2 (by omega)
  have l4 := A4.len hM1 hM2 (by omega)
  obtain ⟨c1, q1, c2, r1, ⟨K1, e1⟩, Q1, R1⟩ := cut_num A1.a A4.a hz (by omega) (by omega)
  obtain ⟨c3, q3, c4, r3, ⟨J1, f1⟩, Q2, R2, _, _⟩ := Cut_num A1.b A4.b hz (by omega) (by omega)
  obtain ⟨ec, TQ⟩ := Two.mk' Q1 Q2
  obtain ⟨er, TR⟩ := Two.mk' R1 R2
  subst ec; subst er
  have hqr := qr_eq n1 hz
  have hr0 := (rn_pos n1 hz).1 p1
  have hr1 := rn_lt n1 hz
  have hq0 : 0 ≤ qn n1 n2 := by
   have h := Q1.sign
   have : ¬ qn n1 n2 < 0 := by
    intro hneg
    have h1 := Int.mul_le_mul_of_nonneg_right (show qn n1 n2 ≤ -1 by omega) p2
    omega
   omega
  have hqM : ((qn n1 n2).natAbs : Int) ≤ M := by have := qn_le n1 n2; omega
  obtain ⟨v, r, v', r', w, z, w2, z2, w', z', ⟨K2, e2⟩, ⟨K3, e3⟩, ⟨J2, f2⟩, ⟨J3, f3⟩, ⟨J4, f4⟩, ew, T1⟩ := fms hL hM1 hM2 TQ A1 A4 hqM (by omega) (by omega)
  obtain ⟨xv, xr, xv', xr', xw, xz, xw2, xz2, xw', xz', ⟨K4, e4⟩, ⟨K5, e5⟩, ⟨J5, f5⟩, ⟨J6, f6⟩, ⟨J7, f7⟩, exw, T2⟩ := fms hL hM1 hM2 TQ A2 A5 hqM bx1 bx2
  obtain ⟨yv, yr, yv', yr', yw, yz, yw2, yz2, yw', yz', ⟨K6, e6⟩, ⟨K7, e7⟩, ⟨J8, f8⟩, ⟨J9, f9⟩, ⟨J10, f10⟩, eyw, T3⟩ := fms hL hM1 hM2 TQ A3 A6 hqM by1 by2
  subst exw; subst eyw
  have hrn : n1 - qn n1 n2 * n2 = rn n1 n2 := by omega
  rw [hrn] at T1
  obtain ⟨es, el⟩ := T1.a.uniq (by decide) TR.a
  subst es; subst el
  obtain ⟨ax, gx⟩ := abs_opp hq0 sx
  obtain ⟨ay, gy⟩ := abs_opp hq0 sy
  have j1 := bez_step (x1 := x1) (x2 := x2) hqr ax i1
  have j2 := bez_step (x1 := y1) (x2 := y2) hqr ay i2
  have kx := bez_le j1 (by omega) (by omega) (Int.mul_nonneg (by omega) hr0) hb
  have ky := bez_le j2 (by omega) (by omega) (Int.mul_nonneg (by omega) hr0) ha
  obtain ⟨res, ⟨K8, e8⟩, ⟨J11, f11⟩, b1, b2, b3⟩ := ih n2 x2 y2 (rn n1 n2) _ _ _ _ _ _ _ _ _ _ _ _ _ _ _ _ _ _ _ _ (by omega) p2 hr0 m2 (by omega) j1 j2 gx gy bx2 kx by2 ky A4 A5 A6 TR T2 T3
  refine ⟨res, ⟨K1 + K2 + K3 + K4 + K5 + K6 + K7 + K8 + 1, fun k hk => ?_⟩, ⟨J1 + J2 + J3 + J4 + J5 + J6 + J7 + J8 + J9 + J10 + J11 + 1, fun k hk => ?_⟩, b1, b2, b3⟩
  ·obtain ⟨k, rfl⟩ : ∃ j, k = j + 1 := ⟨k - 1, by omega⟩
   have hne : ¬ decide (N2 = []) = true := by simpa using fun h => hz ((num_nil (by decide) A4.a).1 h)
   have g1 : whole_number_cut.f k N1 s1 N2 s2 = _ := e1 k (by omega)
   have g2 : whole_number_times.f k q1 c3 N2 s2 = _ := e2 k (by omega)
   have g3 : whole_number_minus.f k N1 s1 r v = _ := e3 k (by omega)
   have g4 : whole_number_times.f k q1 c3 X2 t2 = _ := e4 k (by omega)
   have g5 : whole_number_minus.f k X1 t1 xr xv = _ := e5 k (by omega)
   have g6 : whole_number_times.f k q1 c3 Y2 u2 = _ := e6 k (by omega)
   have g7 : whole_number_minus.f k Y1 u1 yr yv = _ := e7 k (by omega)
   show whole_Extended.l0 (k + 1) pb qb N1 s1 X1 t1 Y1 u1 N2 s2 X2 t2 Y2 u2 = _
   rw [whole_Extended.l0, null_eq, Option.bind_some, if_neg hne, g1, Option.bind_some, g2, Option.bind_some, g3, Option.bind_some, g4, Option.bind_some, g5, Option.bind_some, g6, Option.bind_some, g7, Option.bind_some]
   exact e8 k (by omega)
  obtain ⟨k, rfl⟩ : ∃ j, k = j + 1 := ⟨k - 1, by omega⟩
  have hne : (D2.length : Int) > 0 := by
   have : D2 ≠ [] := fun h => hz ((num_nil (by decide) A4.b).1 h)
   have := List.length_pos_iff.2 this
   omega
  have g1 : tribunalref02_Cut.f k s1 D1 s2 D2 = _ := f1 k (by omega)
  have g2 : tribunalref02_Times.f k c3 q3 t2 E2 = _ := f5 k (by omega)
  have g3 : tribunalref02_Minus.f k xv' xr' = _ := f6 k (by omega)
  have g4 : tribunalref02_Plus.f k t1 E1 xw2 xz2 = _ := f7 k (by omega)
  have g5 : tribunalref02_Times.f k c3 q3 u2 F2 = _ := f8 k (by omega)
  have g6 : tribunalref02_Minus.f k yv' yr' = _ := f9 k (by omega)
  have g7 : tribunalref02_Plus.f k u1 F1 yw2 yz2 = _ := f10 k (by omega)
  show tribunalref02_Extended.l0 (k + 1) pb pl qb ql s1 D1 t1 E1 u1 F1 s2 D2 t2 E2 u2 F2 = _
  rw [tribunalref02_Extended.l0, if_pos hne, g1, Option.bind_some, g2, Option.bind_some, g3, Option.bind_some, g4, Option.bind_some, g5, Option.bind_some, g6, Option.bind_some, g7, Option.bind_some]
  exact f11 k (by omega)
end Go.Proofs.YtodhkpdcpneeeaaDoor.PurePDv
namespace Go.Proofs.YtodhkpdcpneeeaaDoor.PurePDv
set_option linter.unusedVariables false
set_option linter.unusedSimpArgs false
open Go.RowKit Go.Proofs.YtodhkpdcpneeeaaDoorW.PrintWords Go.Proofs.YtodhkpdcpneeeaaDoorW.PrintLast Go.Proofs.YtodhkpdcpneeeaaDoorW.PrintMore Go.Proofs.YtodhkpdcpneeeaaDoor.PDv Go.Proofs.YtodhkpdcpneeeaaDoor Go.Proofs.YtodhkpdcpneeeaaDoor.Mine Big
theorem num_abs {B n : Int} {s : Bool} {a : List Int} (h : Num B n s a) : Num B (n.natAbs : Int) false a := ⟨by rw [Int.natAbs_natCast]; exact h.rep, by simp⟩
theorem sum_lt {B x y : Int} {c : Nat} (hB : 4 ≤ B) (hx : x < B ^ c) (hy : y < B ^ c) : x + y + 1 < B ^ (c + 1) := by
 rw [Int.pow_succ]
 have h1 := pow_pos (B := B) (by omega) c
 have := Int.mul_le_mul_of_nonneg_left hB (Int.le_of_lt h1)
 omega
theorem extends_main {c : Nat} (hc : c ≤ 4096) {n m : Int} {s t : Bool} {l d p e : List Int} (A : Two n s l d) (G : Two m t p e) (hl : l.length ≤ c) (hp : p.length ≤ c) (hd : d.length ≤ 4 * 1048576) (he : e.length ≤ 4 * 1048576) :
  ∃ r, Ev (fun k => whole_Extended.l0 k s t l false [1] false [] false p false [] false [1] false) r ∧ Ev (fun k => tribunalref02_Extended.j0 k false s d t e) r ∧ r.2.1.length ≤ 8388608 ∧ r.2.2.2.1.length ≤ 8388608 ∧ r.2.2.2.2.2.1.length ≤ 8388608 := by
 obtain ⟨u1, d1, ⟨K1, e1⟩, M1⟩ := Make_num (n := (n.natAbs : Int)) false (by omega) A.b.rep.dig A.b.rep.val (by simp)
 obtain ⟨u2, d2, ⟨K2, e2⟩, M2, _⟩ := Small1_num (n := 1) (by omega)
 obtain ⟨u3, d3, ⟨K3, e3⟩, M3⟩ := Make_num (n := (m.natAbs : Int)) false (by omega) G.b.rep.dig G.b.rep.val (by simp)
 obtain ⟨q1, T1⟩ := Two.mk' (num_abs A.a) M1
 obtain ⟨q2, T2⟩ := Two.mk' one_num.2 M2
 obtain ⟨q3, T3⟩ := Two.mk' (num_abs G.a) M3
 subst q1; subst q2; subst q3
 have T0 : Two 0 false [] [] := ⟨nil_num' _, nil_num' _⟩
 have x1 := Int.lt_of_lt_of_le (A.a.rep.lt (by decide)) (pow_le_pow (by decide) hl)
 have x2 := Int.lt_of_lt_of_le (G.a.rep.lt (by decide)) (pow_le_pow (by decide) hp)
 have hM1 := sum_lt (by decide) x1 x2
 have hM2 : (n.natAbs : Int) + (m.natAbs : Int) + 1 < 65536 ^ (4 * (c + 1)) := by
  have := hM1
  rw [pow4, ← Int.pow_mul] at this
  exact this
 obtain ⟨r, E1, ⟨K4, e4⟩, b1, b2, b3⟩ := ext_l0 (M := (n.natAbs : Int) + (m.natAbs : Int) + 1) (a0 := (n.natAbs : Int)) (b0 := (m.natAbs : Int)) (L := c + 1) (by omega) hM1 hM2 (by omega) (by omega) s t d e (m.natAbs : Int).natAbs (n.natAbs : Int) 1 0 (m.natAbs : Int) 0 1 _ _ _ _ _ _ _ _ _ _ _ _ _ _ _ _ _ _ (Nat.le_refl _) (by omega) (by omega) (by omega) (by omega) (by simp) (by simp) (.inr ⟨by omega, by omega⟩) (.inl ⟨by omega, by omega⟩) (by simp; omega) (by simp; omega) (by simp; omega) (by simp; omega) T1 T2 T0 T3 T0 T2
 refine ⟨r, E1, ⟨K1 + K2 + K3 + K4 + 1, fun k hk => ?_⟩, b1, b2, b3⟩
 obtain ⟨k, rfl⟩ : ∃ j, k = j + 1 := ⟨k - 1, by omega⟩
 have g1 : tribunalref02_Make.f k false d = _ := e1 k (by omega)
 have g2 : tribunalref02_Small1.f k 1 = _ := e2 k (by omega)
 have g3 : tribunalref02_Make.f k false e = _ := e3 k (by omega)
 have g4 : tribunalref02_Extended.l0 k s d t e false d1 false d2 false [] false d3 false [] false d2 = _ := e4 k (by omega)
 show tribunalref02_Extended.j0 (k + 1) false s d t e = _
 rw [tribunalref02_Extended.j0, if_neg (by decide), g1, Option.bind_some, g2, Option.bind_some, g3, Option.bind_some, Option.bind_some, g4]
theorem Extended_ev (s : Bool) (l : List Int) (hl : l.length ≤ 1048576) (hd : Dig 18446744073709551616 l) (t : Bool) (p : List Int) (hp : p.length ≤ 1048576) (hdp : Dig 18446744073709551616 p) :
  ∃ r, Ev (fun k => whole_Extended.f k s l t p) r ∧ Ev (fun k => tribunalref02_Extended.f k s l t p) r ∧ r.2.1.length ≤ 8388608 ∧ r.2.2.2.1.length ≤ 8388608 ∧ r.2.2.2.2.2.1.length ≤ 8388608 := by
 obtain ⟨n, s1, a, d, ⟨K1, e1⟩, ⟨J1, f1⟩, N1, M1, l1, k1⟩ := arg_num s l hl hd
 obtain ⟨m, s2, b, e, ⟨K2, e2⟩, ⟨J2, f2⟩, N2, M2, l2, k2⟩ := arg_num t p hp hdp
 obtain ⟨_, _, _, long1⟩ := len_le N1.rep.dig N1.rep.top M1.rep.dig M1.rep.top (N1.rep.val.trans M1.rep.val.symm)
 obtain ⟨_, _, _, long2⟩ := len_le N2.rep.dig N2.rep.top M2.rep.dig M2.rep.top (N2.rep.val.trans M2.rep.val.symm)
 have lw : ∀ (x : List Int) (u : Bool), whole_number_long.f x u = some (decide ((x.length : Int) > 4096)) := fun x u => rfl
 have lr : ∀ (x : List Int) (u : Bool), tribunalref02_long.f u x = some (decide ((x.length : Int) > 16384)) := fun x u => rfl
 by_cases c1 : a.length > 4096
 ·have c2 := long1.1 c1
  refine ⟨(false, [], false, [], false, [], 5), ⟨K1 + K2, fun k hk => ?_⟩, ⟨J1 + J2 + 1, fun k hk => ?_⟩, by simp, by simp, by simp⟩
  ·have g1 : whole_of.f k s l = _ := e1 k (by omega)
   have g2 : whole_of.f k t p = _ := e2 k (by omega)
   show whole_Extended.f k s l t p = _
   rw [whole_Extended.f, g1, Option.bind_some, g2, Option.bind_some, lw, Option.bind_some, if_pos (decide_eq_true (show (a.length : Int) > 4096 by omega))]
  have g1 : tribunalref02_From.f k s l = _ := f1 k (by omega)
  have g2 : tribunalref02_From.f k t p = _ := f2 k (by omega)
  show tribunalref02_Extended.f k s l t p = _
  obtain ⟨k, rfl⟩ : ∃ j, k = j + 1 := ⟨k - 1, by omega⟩
  rw [tribunalref02_Extended.f, g1, Option.bind_some, g2, Option.bind_some, lr, Option.bind_some, if_pos (decide_eq_true (show (d.length : Int) > 16384 by omega)), tribunalref02_Extended.j0, if_pos rfl]
 have c2 : ¬ d.length > 16384 := fun h => c1 (long1.2 h)
 by_cases c3 : b.length > 4096
 ·have c4 := long2.1 c3
  refine ⟨(false, [], false, [], false, [], 5), ⟨K1 + K2, fun k hk => ?_⟩, ⟨J1 + J2 + 1, fun k hk => ?_⟩, by simp, by simp, by simp⟩
  ·have g1 : whole_of.f k s l = _ := e1 k (by omega)
   have g2 : whole_of.f k t p = _ := e2 k (by omega)
   show whole_Extended.f k s l t p = _
   rw [whole_Extended.f, g1, Option.bind_some, g2, Option.bind_some, lw, Option.bind_some, if_neg (by simpa using by omega), lw, Option.bind_some, if_pos (decide_eq_true (show (b.length : Int) > 4096 by omega))]
  have g1 : tribunalref02_From.f k s l = _ := f1 k (by omega)
  have g2 : tribunalref02_From.f k t p = _ := f2 k (by omega)
  show tribunalref02_Extended.f k s l t p = _
  obtain ⟨k, rfl⟩ : ∃ j, k = j + 1 := ⟨k - 1, by omega⟩
  rw [tribunalref02_Extended.f, g1, Option.bind_some, g2, Option.bind_some, lr, Option.bind_some, if_neg (by simpa using by omega), lr, Option.bind_some, decide_eq_true (show (e.length : Int) > 16384 by omega), tribunalref02_Extended.j0, if_pos rfl]
 have c4 : ¬ e.length > 16384 := fun h => c3 (long2.2 h)
 obtain ⟨r, ⟨K3, e3⟩, ⟨J3, f3⟩, b1, b2, b3⟩ := extends_main (c := 4096) (by omega) ⟨N1, M1⟩ ⟨N2, M2⟩ (by omega) (by omega) (by omega) (by omega)
 refine ⟨r, ⟨K1 + K2 + K3, fun k hk => ?_⟩, ⟨J1 + J2 + J3, fun k hk => ?_⟩, b1, b2, b3⟩
 ·have g1 : whole_of.f k s l = _ := e1 k (by omega)
  have g2 : whole_of.f k t p = _ := e2 k (by omega)
  have g3 : whole_Extended.l0 k s1 s2 a false [1] false [] false b false [] false [1] false = _ := e3 k (by omega)
  show whole_Extended.f k s l t p = _
  rw [whole_Extended.f, g1, Option.bind_some, g2, Option.bind_some, lw, Option.bind_some, if_neg (by simpa using by omega), lw, Option.bind_some, if_neg (by simpa using by omega), signed_eq, Option.bind_some, one_num.1, Option.bind_some, signed_eq, Option.bind_some, Option.bind_some, Bool.false_and, Bool.false_and]
  exact g3
 have g1 : tribunalref02_From.f k s l = _ := f1 k (by omega)
 have g2 : tribunalref02_From.f k t p = _ := f2 k (by omega)
 have g3 : tribunalref02_Extended.j0 k false s1 d s2 e = _ := f3 k (by omega)
 show tribunalref02_Extended.f k s l t p = _
 rw [tribunalref02_Extended.f, g1, Option.bind_some, g2, Option.bind_some, lr, Option.bind_some, if_neg (by simpa using by omega), lr, Option.bind_some, decide_eq_false (show ¬ (e.length : Int) > 16384 by omega)]
 exact g3
end Go.Proofs.YtodhkpdcpneeeaaDoor.PurePDv
namespace Go.Proofs.YtodhkpdcpneeeaaDoor.Pure
open Go.RowKit Go.Proofs.YtodhkpdcpneeeaaDoorW.PrintWords Go.Proofs.YtodhkpdcpneeeaaDoorW.PrintLast Go.Proofs.YtodhkpdcpneeeaaDoorW.PrintMore Go.Proofs.YtodhkpdcpneeeaaDoor.PDv Go.Proofs.YtodhkpdcpneeeaaDoor Go.Proofs.YtodhkpdcpneeeaaDoor.Mine Big PurePDv
theorem wholeExtends_pure (a : Bool) (x : List Int) (hx : x.length ≤ 1048576) (wx : ∀ z ∈ x, (Lit.int .u64 z).wf = true) (b : Bool) (y : List Int) (hy : y.length ≤ 1048576) (wy : ∀ z ∈ y, (Lit.int .u64 z).wf = true) : ∃ k, PDv.tribunallaw02_WholeExtends.f k a x b y = some true := by
 obtain ⟨r, ⟨K1, e1⟩, ⟨K2, e2⟩, b1, b2, b3⟩ := Extended_ev a x hx (dig_of_wf wx) b y hy (dig_of_wf wy)
 obtain ⟨K3, e3⟩ := Same_ev r.1 r.2.1 b1
 obtain ⟨K4, e4⟩ := Same_ev r.2.2.1 r.2.2.2.1 b2
 obtain ⟨K5, e5⟩ := Same_ev r.2.2.2.2.1 r.2.2.2.2.2.1 b3
 obtain ⟨K6, e6⟩ := awake_ev
 obtain ⟨k, hk⟩ : ∃ k, k = K1 + K2 + K3 + K4 + K5 + K6 := ⟨_, rfl⟩
 refine ⟨k, ?_⟩
 have g1 : whole_Extended.f k a x b y = _ := e1 k (by omega)
 have g2 : tribunalref02_Extended.f k a x b y = _ := e2 k (by omega)
 have g3 : tribunalref02_Same.f k r.1 r.2.1 r.1 r.2.1 = _ := e3 k (by omega)
 have g4 : tribunalref02_Same.f k r.2.2.1 r.2.2.2.1 r.2.2.1 r.2.2.2.1 = _ := e4 k (by omega)
 have g5 : tribunalref02_Same.f k r.2.2.2.2.1 r.2.2.2.2.2.1 r.2.2.2.2.1 r.2.2.2.2.2.1 = _ := e5 k (by omega)
 have g6 : tribunallaw02_awake.f k = _ := e6 k (by omega)
 rw [tribunallaw02_WholeExtends.f, g1, Option.bind_some, g2, Option.bind_some, g3, Option.bind_some, if_pos rfl, g4, Option.bind_some, if_pos rfl, g5, Option.bind_some, if_pos rfl, if_pos rfl, g6, Option.bind_some]
end Go.Proofs.YtodhkpdcpneeeaaDoor.Pure
