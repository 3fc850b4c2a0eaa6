/- What the card rests on, part 3: words of the walk, the functions in Lean and that the code comes to them. No condition beyond those that each theorem names. -/
import Derived.Laws.Bits64b
import Derived.OpenShut
import Derived.Test.YtodhkpdcpneeeaaDoorCv2
set_option maxHeartbeats 8000000
set_option maxRecDepth 100000
namespace Go.Proofs.YtodhkpdcpneeeaaDoor.PDv
open Go.Proofs.YtodhkpdcpneeeaaDoor.Mine Go.RowKit Go.Proofs.YtodhkpdcpneeeaaDoorW.PrintWords Go.Proofs.YtodhkpdcpneeeaaDoorW.PrintLast Go.Proofs.YtodhkpdcpneeeaaDoorW.PrintMore
open Go.Proofs.YtodhkpdcpneeeaaDoor.Mine
attribute [local go_sem] max2_int min2_int max_two min_two max_three min_three max_four min_four
set_option linter.unusedVariables false
set_option linter.unusedSimpArgs false
def tribunallaw02_awake.f (k : Nat)  : Option (Bool) := (whole_Of.f k (-7)).bind fun bt738 => ((whole_Of.f k 2).bind fun bt742 => ((whole_DivMod.f k bt738.1 bt738.2 bt742.1 bt742.2).bind fun bt746 => ((whole_Print.f k bt746.1 bt746.2.1).bind fun bt757 => ((whole_Print.f k bt746.2.2.1 bt746.2.2.2.1).bind fun bt759 => (if bt746.2.2.2.2 = 0 then (if bt757.2 = 0 then (if bt759.2 = 0 then (if bt757.1.toList = ([45, 52] : List UInt8) then (if bt759.1.toList = ([49] : List UInt8) then ((whole_Sign.f k bt746.1 bt746.2.1).bind fun t761 => (some (t761 == (-1)))) else (some false)) else (some false)) else (some false)) else (some false)) else (some false))))))
theorem tribunallaw02_awake.mono : ∀ k, LeO (tribunallaw02_awake.f k ) (tribunallaw02_awake.f (k + 1) ) := by
 intro  k
 unfold tribunallaw02_awake.f
 repeat' first
   | (with_reducible exact whole_DivMod.mono _ _ _ _ _)
   | (with_reducible exact whole_Of.mono _ _)
   | (with_reducible exact whole_Print.mono _ _ _)
   | (with_reducible exact whole_Sign.mono _ _ _)
   | (with_reducible exact LeO.refl _)
   | (with_reducible exact LeO.none _)
   | (with_reducible refine LeO.ite ?_ ?_)
   | (with_reducible refine LeO.bind ?_ (fun _ => ?_))
   | exact whole_DivMod.mono _ _ _ _ _
   | exact whole_Of.mono _ _
   | exact whole_Print.mono _ _ _
   | exact whole_Sign.mono _ _ _
   | exact LeO.none _
   | refine LeO.ite ?_ ?_
   | refine LeO.bind ?_ (fun _ => ?_)
theorem tribunallaw02_awake.calls (k : Nat)  (r : Bool) (w : World) (h : tribunallaw02_awake.f k  = some r) :
  Calls Tryd.prog 21 #[] w fun e w' => e = .returned (.bool r) ∧ Below w.heap.size w w' := by
 have hu25 := Tryd.underlying25
 have K := Kp.refl w
 try simp only [klv] at K
 rw [tribunallaw02_awake.f] at h
 replace h := bindA h
 obtain ⟨⟨z1, x2⟩, A3, h⟩ := h
 dsimp only at h
 replace h := bindA h
 obtain ⟨⟨z10, x11⟩, A12, h⟩ := h
 dsimp only at h
 replace h := bindA h
 obtain ⟨⟨z19, x20, z21, x22, n23⟩, A24, h⟩ := h
 dsimp only at h
 replace h := bindA h
 obtain ⟨⟨s44, n45⟩, A46, h⟩ := h
 dsimp only at h
 replace h := bindA h
 obtain ⟨⟨s48, n49⟩, A50, h⟩ := h
 dsimp only at h
 by_cases c_0 : n23 = 0
 ·rw [if_pos c_0] at h
  have c_0b0 : (n23 == 0) = true := beq_iff_eq.mpr c_0
  have c_0b1 : (n23 != 0) = false := bne_eq_false_iff_eq.mpr c_0
  clear c_0
  by_cases c_1 : n45 = 0
  ·rw [if_pos c_1] at h
   have c_1b0 : (n45 == 0) = true := beq_iff_eq.mpr c_1
   have c_1b1 : (n45 != 0) = false := bne_eq_false_iff_eq.mpr c_1
   clear c_1
   by_cases c_2 : n49 = 0
   ·rw [if_pos c_2] at h
    have c_2b0 : (n49 == 0) = true := beq_iff_eq.mpr c_2
    have c_2b1 : (n49 != 0) = false := bne_eq_false_iff_eq.mpr c_2
    clear c_2
    by_cases c_3 : s44.toList = ([45, 52] : List UInt8)
    ·rw [if_pos c_3] at h
     have c_3b0 : (s44.toList == ([45, 52] : List UInt8)) = true := beq_iff_eq.mpr c_3
     have c_3b1 : (s44.toList != ([45, 52] : List UInt8)) = false := bne_eq_false_iff_eq.mpr c_3
     clear c_3
     by_cases c_4 : s48.toList = ([49] : List UInt8)
     ·rw [if_pos c_4] at h
      have c_4b0 : (s48.toList == ([49] : List UInt8)) = true := beq_iff_eq.mpr c_4
      have c_4b1 : (s48.toList != ([49] : List UInt8)) = false := bne_eq_false_iff_eq.mpr c_4
      clear c_4
      replace h := bindA h
      obtain ⟨n52, A53, h⟩ := h
      simp only [Option.some.injEq] at h
      subst h
      go_enter Tryd.func21, Tryd.ntmps21
      go_wp2_with (first | ((with_reducible refine gate_dst (N := 9) rfl ?_); refine kgl (some 9) rfl rfl Tryd.func35 #[.int .i64 (-7)] rfl ?_; refine (whole_Of.calls _ (-7) z1 x2 _ A3.out).mono ?_; rintro e W6 ⟨v4, rfl, ho5, hb⟩; refine ⟨_, rfl, ?_⟩; replace K := K.u.addRE hb ho5; clear hb ho5; obtain ⟨P7, c8, e9⟩ := K.slice 0 rfl; subst e9) | ((with_reducible refine gate_dst (N := 10) rfl ?_); refine kgl (some 10) rfl rfl Tryd.func35 #[.int .i64 2] rfl ?_; refine (whole_Of.calls _ 2 z10 x11 _ A12.out).mono ?_; rintro e W15 ⟨v13, rfl, ho14, hb⟩; refine ⟨_, rfl, ?_⟩; replace K := K.u.addRE hb ho14; clear hb ho14; obtain ⟨P16, c17, e18⟩ := K.slice 1 rfl; subst e18) | ((with_reducible refine gate_dst (N := 11) rfl ?_); refine kgl (some 11) rfl rfl Tryd.func18 #[.agg #[.bool z1, .slice P7 x2.length c8], .agg #[.bool z10, .slice P16 x11.length c17]] rfl ?_; refine (whole_DivMod.calls _ z1 _ _ x2 z10 _ _ x11 z19 x20 z21 x22 n23 _ (K.C 0 rfl) (K.le 0 rfl) (K.C 1 rfl) (K.le 1 rfl) A24.out).mono ?_; rintro e W29 ⟨v25, v26, rfl, ho27, ho28, hb⟩; refine ⟨_, rfl, ?_⟩; replace K := K.u.addR2 hb ho27 ho28; clear hb ho27 ho28; obtain ⟨P30, c31, e32⟩ := K.slice 2 rfl; subst e32; obtain ⟨P33, c34, e35⟩ := K.slice 3 rfl; subst e35) | ((with_reducible refine gate_dst (N := 1) rfl ?_); refine kbe 1 #[.bool false, .slice none 0 0] 25 ?_; intro g36 hg W37 hx hb; replace K := K.u.box hg hx hb; clear hg hx hb) | ((with_reducible refine gate_dst (N := 2) rfl ?_); refine kbe 2 #[.bool false, .slice none 0 0] 25 ?_; intro g38 hg W39 hx hb; replace K := K.u.box hg hx hb; clear hg hx hb) | ((with_reducible refine gate_store (t := 25) (p := 1) (v := .tmp 12) rfl ?_); refine kst2 0 (.bool z19) (.slice P30 x20.length c31) K.u rfl ?q41 ?_; (case q41 => intro c0 c1 f0 f1; first | (go_simp; done) | (go_simp; rfl)); clear K; intro W40 K; simp only [kls, klv] at K) | ((with_reducible refine gate_store (t := 25) (p := 2) (v := .tmp 13) rfl ?_); refine kst2 1 (.bool z21) (.slice P33 x22.length c34) K.u rfl ?q43 ?_; (case q43 => intro c0 c1 f0 f1; first | (go_simp; done) | (go_simp; rfl)); clear K; intro W42 K; simp only [kls, klv] at K; obtain ⟨ua0, ub0⟩ := K.cell2 0 rfl) | ((with_reducible refine gate_dst (N := 17) rfl ?_); clear ua0 ub0; refine kgl (some 17) rfl rfl Tryd.func22 #[.agg #[.bool z19, .slice P30 x20.length c31]] rfl ?_; refine (whole_Print.calls _ z19 _ _ x20 s44 n45 _ (K.C 2 rfl) (K.le 2 rfl) A46.out).mono ?_; rintro e W47 ⟨rfl, hb⟩; refine ⟨_, rfl, ?_⟩; replace K := K.u.up hb; clear hb; obtain ⟨ua1, ub1⟩ := K.cell2 1 rfl) | ((with_reducible refine gate_dst (N := 22) rfl ?_); clear ua1 ub1; refine kgl (some 22) rfl rfl Tryd.func22 #[.agg #[.bool z21, .slice P33 x22.length c34]] rfl ?_; refine (whole_Print.calls _ z21 _ _ x22 s48 n49 _ (K.C 3 rfl) (K.le 3 rfl) A50.out).mono ?_; rintro e W51 ⟨rfl, hb⟩; refine ⟨_, rfl, ?_⟩; replace K := K.u.up hb; clear hb; obtain ⟨ua0, ub0⟩ := K.cell2 0 rfl) | ((with_reducible refine gate_dst (N := 45) rfl ?_); clear ua0 ub0; refine gate_guard (by rfl) ?_; refine kgl (some 45) rfl rfl Tryd.func40 #[.agg #[.bool z19, .slice P30 x20.length c31]] rfl ?_; refine (whole_Sign.calls _ z19 _ _ x20 n52 _ (K.C 2 rfl) (K.le 2 rfl) A53.out).mono ?_; rintro e W54 ⟨rfl, hb⟩; refine ⟨_, rfl, ?_⟩; replace K := K.u.up hb; clear hb))
      go_ret
      exact ⟨rfl, K.u.below⟩
     ·rw [if_neg c_4] at h
      have c_4b0 : (s48.toList == ([49] : List UInt8)) = false := beq_eq_false_iff_ne.mpr c_4
      have c_4b1 : (s48.toList != ([49] : List UInt8)) = true := bne_iff_ne.mpr c_4
      clear c_4
      simp only [Option.some.injEq] at h
      subst h
      go_enter Tryd.func21, Tryd.ntmps21
      go_wp2_with (first | ((with_reducible refine gate_dst (N := 9) rfl ?_); refine kgl (some 9) rfl rfl Tryd.func35 #[.int .i64 (-7)] rfl ?_; refine (whole_Of.calls _ (-7) z1 x2 _ A3.out).mono ?_; rintro e W6 ⟨v4, rfl, ho5, hb⟩; refine ⟨_, rfl, ?_⟩; replace K := K.u.addRE hb ho5; clear hb ho5; obtain ⟨P7, c8, e9⟩ := K.slice 0 rfl; subst e9) | ((with_reducible refine gate_dst (N := 10) rfl ?_); refine kgl (some 10) rfl rfl Tryd.func35 #[.int .i64 2] rfl ?_; refine (whole_Of.calls _ 2 z10 x11 _ A12.out).mono ?_; rintro e W15 ⟨v13, rfl, ho14, hb⟩; refine ⟨_, rfl, ?_⟩; replace K := K.u.addRE hb ho14; clear hb ho14; obtain ⟨P16, c17, e18⟩ := K.slice 1 rfl; subst e18) | ((with_reducible refine gate_dst (N := 11) rfl ?_); refine kgl (some 11) rfl rfl Tryd.func18 #[.agg #[.bool z1, .slice P7 x2.length c8], .agg #[.bool z10, .slice P16 x11.length c17]] rfl ?_; refine (whole_DivMod.calls _ z1 _ _ x2 z10 _ _ x11 z19 x20 z21 x22 n23 _ (K.C 0 rfl) (K.le 0 rfl) (K.C 1 rfl) (K.le 1 rfl) A24.out).mono ?_; rintro e W29 ⟨v25, v26, rfl, ho27, ho28, hb⟩; refine ⟨_, rfl, ?_⟩; replace K := K.u.addR2 hb ho27 ho28; clear hb ho27 ho28; obtain ⟨P30, c31, e32⟩ := K.slice 2 rfl; subst e32; obtain ⟨P33, c34, e35⟩ := K.slice 3 rfl; subst e35) | ((with_reducible refine gate_dst (N := 1) rfl ?_); refine kbe 1 #[.bool false, .slice none 0 0] 25 ?_; intro g36 hg W37 hx hb; replace K := K.u.box hg hx hb; clear hg hx hb) | ((with_reducible refine gate_dst (N := 2) rfl ?_); refine kbe 2 #[.bool false, .slice none 0 0] 25 ?_; intro g38 hg W39 hx hb; replace K := K.u.box hg hx hb; clear hg hx hb) | ((with_reducible refine gate_store (t := 25) (p := 1) (v := .tmp 12) rfl ?_); refine kst2 0 (.bool z19) (.slice P30 x20.length c31) K.u rfl ?q41 ?_; (case q41 => intro c0 c1 f0 f1; first | (go_simp; done) | (go_simp; rfl)); clear K; intro W40 K; simp only [kls, klv] at K) | ((with_reducible refine gate_store (t := 25) (p := 2) (v := .tmp 13) rfl ?_); refine kst2 1 (.bool z21) (.slice P33 x22.length c34) K.u rfl ?q43 ?_; (case q43 => intro c0 c1 f0 f1; first | (go_simp; done) | (go_simp; rfl)); clear K; intro W42 K; simp only [kls, klv] at K; obtain ⟨ua0, ub0⟩ := K.cell2 0 rfl) | ((with_reducible refine gate_dst (N := 17) rfl ?_); clear ua0 ub0; refine kgl (some 17) rfl rfl Tryd.func22 #[.agg #[.bool z19, .slice P30 x20.length c31]] rfl ?_; refine (whole_Print.calls _ z19 _ _ x20 s44 n45 _ (K.C 2 rfl) (K.le 2 rfl) A46.out).mono ?_; rintro e W47 ⟨rfl, hb⟩; refine ⟨_, rfl, ?_⟩; replace K := K.u.up hb; clear hb; obtain ⟨ua1, ub1⟩ := K.cell2 1 rfl) | ((with_reducible refine gate_dst (N := 22) rfl ?_); clear ua1 ub1; refine kgl (some 22) rfl rfl Tryd.func22 #[.agg #[.bool z21, .slice P33 x22.length c34]] rfl ?_; refine (whole_Print.calls _ z21 _ _ x22 s48 n49 _ (K.C 3 rfl) (K.le 3 rfl) A50.out).mono ?_; rintro e W51 ⟨rfl, hb⟩; refine ⟨_, rfl, ?_⟩; replace K := K.u.up hb; clear hb))
      go_ret
      exact ⟨rfl, K.u.below⟩
    ·rw [if_neg c_3] at h
     have c_3b0 : (s44.toList == ([45, 52] : List UInt8)) = false := beq_eq_false_iff_ne.mpr c_3
     have c_3b1 : (s44.toList != ([45, 52] : List UInt8)) = true := bne_iff_ne.mpr c_3
     clear c_3
     simp only [Option.some.injEq] at h
     subst h
     go_enter Tryd.func21, Tryd.ntmps21
     go_wp2_with (first | ((with_reducible refine gate_dst (N := 9) rfl ?_); refine kgl (some 9) rfl rfl Tryd.func35 #[.int .i64 (-7)] rfl ?_; refine (whole_Of.calls _ (-7) z1 x2 _ A3.out).mono ?_; rintro e W6 ⟨v4, rfl, ho5, hb⟩; refine ⟨_, rfl, ?_⟩; replace K := K.u.addRE hb ho5; clear hb ho5; obtain ⟨P7, c8, e9⟩ := K.slice 0 rfl; subst e9) | ((with_reducible refine gate_dst (N := 10) rfl ?_); refine kgl (some 10) rfl rfl Tryd.func35 #[.int .i64 2] rfl ?_; refine (whole_Of.calls _ 2 z10 x11 _ A12.out).mono ?_; rintro e W15 ⟨v13, rfl, ho14, hb⟩; refine ⟨_, rfl, ?_⟩; replace K := K.u.addRE hb ho14; clear hb ho14; obtain ⟨P16, c17, e18⟩ := K.slice 1 rfl; subst e18) | ((with_reducible refine gate_dst (N := 11) rfl ?_); refine kgl (some 11) rfl rfl Tryd.func18 #[.agg #[.bool z1, .slice P7 x2.length c8], .agg #[.bool z10, .slice P16 x11.length c17]] rfl ?_; refine (whole_DivMod.calls _ z1 _ _ x2 z10 _ _ x11 z19 x20 z21 x22 n23 _ (K.C 0 rfl) (K.le 0 rfl) (K.C 1 rfl) (K.le 1 rfl) A24.out).mono ?_; rintro e W29 ⟨v25, v26, rfl, ho27, ho28, hb⟩; refine ⟨_, rfl, ?_⟩; replace K := K.u.addR2 hb ho27 ho28; clear hb ho27 ho28; obtain ⟨P30, c31, e32⟩ := K.slice 2 rfl; subst e32; obtain ⟨P33, c34, e35⟩ := K.slice 3 rfl; subst e35) | ((with_reducible refine gate_dst (N := 1) rfl ?_); refine kbe 1 #[.bool false, .slice none 0 0] 25 ?_; intro g36 hg W37 hx hb; replace K := K.u.box hg hx hb; clear hg hx hb) | ((with_reducible refine gate_dst (N := 2) rfl ?_); refine kbe 2 #[.bool false, .slice none 0 0] 25 ?_; intro g38 hg W39 hx hb; replace K := K.u.box hg hx hb; clear hg hx hb) | ((with_reducible refine gate_store (t := 25) (p := 1) (v := .tmp 12) rfl ?_); refine kst2 0 (.bool z19) (.slice P30 x20.length c31) K.u rfl ?q41 ?_; (case q41 => intro c0 c1 f0 f1; first | (go_simp; done) | (go_simp; rfl)); clear K; intro W40 K; simp only [kls, klv] at K) | ((with_reducible refine gate_store (t := 25) (p := 2) (v := .tmp 13) rfl ?_); refine kst2 1 (.bool z21) (.slice P33 x22.length c34) K.u rfl ?q43 ?_; (case q43 => intro c0 c1 f0 f1; first | (go_simp; done) | (go_simp; rfl)); clear K; intro W42 K; simp only [kls, klv] at K; obtain ⟨ua0, ub0⟩ := K.cell2 0 rfl) | ((with_reducible refine gate_dst (N := 17) rfl ?_); clear ua0 ub0; refine kgl (some 17) rfl rfl Tryd.func22 #[.agg #[.bool z19, .slice P30 x20.length c31]] rfl ?_; refine (whole_Print.calls _ z19 _ _ x20 s44 n45 _ (K.C 2 rfl) (K.le 2 rfl) A46.out).mono ?_; rintro e W47 ⟨rfl, hb⟩; refine ⟨_, rfl, ?_⟩; replace K := K.u.up hb; clear hb; obtain ⟨ua1, ub1⟩ := K.cell2 1 rfl) | ((with_reducible refine gate_dst (N := 22) rfl ?_); clear ua1 ub1; refine kgl (some 22) rfl rfl Tryd.func22 #[.agg #[.bool z21, .slice P33 x22.length c34]] rfl ?_; refine (whole_Print.calls _ z21 _ _ x22 s48 n49 _ (K.C 3 rfl) (K.le 3 rfl) A50.out).mono ?_; rintro e W51 ⟨rfl, hb⟩; refine ⟨_, rfl, ?_⟩; replace K := K.u.up hb; clear hb))
     go_ret
     exact ⟨rfl, K.u.below⟩
   ·rw [if_neg c_2] at h
    have c_2b0 : (n49 == 0) = false := beq_eq_false_iff_ne.mpr c_2
    have c_2b1 : (n49 != 0) = true := bne_iff_ne.mpr c_2
    clear c_2
    simp only [Option.some.injEq] at h
    subst h
    go_enter Tryd.func21, Tryd.ntmps21
    go_wp2_with (first | ((with_reducible refine gate_dst (N := 9) rfl ?_); refine kgl (some 9) rfl rfl Tryd.func35 #[.int .i64 (-7)] rfl ?_; refine (whole_Of.calls _ (-7) z1 x2 _ A3.out).mono ?_; rintro e W6 ⟨v4, rfl, ho5, hb⟩; refine ⟨_, rfl, ?_⟩; replace K := K.u.addRE hb ho5; clear hb ho5; obtain ⟨P7, c8, e9⟩ := K.slice 0 rfl; subst e9) | ((with_reducible refine gate_dst (N := 10) rfl ?_); refine kgl (some 10) rfl rfl Tryd.func35 #[.int .i64 2] rfl ?_; refine (whole_Of.calls _ 2 z10 x11 _ A12.out).mono ?_; rintro e W15 ⟨v13, rfl, ho14, hb⟩; refine ⟨_, rfl, ?_⟩; replace K := K.u.addRE hb ho14; clear hb ho14; obtain ⟨P16, c17, e18⟩ := K.slice 1 rfl; subst e18) | ((with_reducible refine gate_dst (N := 11) rfl ?_); refine kgl (some 11) rfl rfl Tryd.func18 #[.agg #[.bool z1, .slice P7 x2.length c8], .agg #[.bool z10, .slice P16 x11.length c17]] rfl ?_; refine (whole_DivMod.calls _ z1 _ _ x2 z10 _ _ x11 z19 x20 z21 x22 n23 _ (K.C 0 rfl) (K.le 0 rfl) (K.C 1 rfl) (K.le 1 rfl) A24.out).mono ?_; rintro e W29 ⟨v25, v26, rfl, ho27, ho28, hb⟩; refine ⟨_, rfl, ?_⟩; replace K := K.u.addR2 hb ho27 ho28; clear hb ho27 ho28; obtain ⟨P30, c31, e32⟩ := K.slice 2 rfl; subst e32; obtain ⟨P33, c34, e35⟩ := K.slice 3 rfl; subst e35) | ((with_reducible refine gate_dst (N := 1) rfl ?_); refine kbe 1 #[.bool false, .slice none 0 0] 25 ?_; intro g36 hg W37 hx hb; replace K := K.u.box hg hx hb; clear hg hx hb) | ((with_reducible refine gate_dst (N := 2) rfl ?_); refine kbe 2 #[.bool false, .slice none 0 0] 25 ?_; intro g38 hg W39 hx hb; replace K := K.u.box hg hx hb; clear hg hx hb) | ((with_reducible refine gate_store (t := 25) (p := 1) (v := .tmp 12) rfl ?_); refine kst2 0 (.bool z19) (.slice P30 x20.length c31) K.u rfl ?q41 ?_; (case q41 => intro c0 c1 f0 f1; first | (go_simp; done) | (go_simp; rfl)); clear K; intro W40 K; simp only [kls, klv] at K) | ((with_reducible refine gate_store (t := 25) (p := 2) (v := .tmp 13) rfl ?_); refine kst2 1 (.bool z21) (.slice P33 x22.length c34) K.u rfl ?q43 ?_; (case q43 => intro c0 c1 f0 f1; first | (go_simp; done) | (go_simp; rfl)); clear K; intro W42 K; simp only [kls, klv] at K; obtain ⟨ua0, ub0⟩ := K.cell2 0 rfl) | ((with_reducible refine gate_dst (N := 17) rfl ?_); clear ua0 ub0; refine kgl (some 17) rfl rfl Tryd.func22 #[.agg #[.bool z19, .slice P30 x20.length c31]] rfl ?_; refine (whole_Print.calls _ z19 _ _ x20 s44 n45 _ (K.C 2 rfl) (K.le 2 rfl) A46.out).mono ?_; rintro e W47 ⟨rfl, hb⟩; refine ⟨_, rfl, ?_⟩; replace K := K.u.up hb; clear hb; obtain ⟨ua1, ub1⟩ := K.cell2 1 rfl) | ((with_reducible refine gate_dst (N := 22) rfl ?_); clear ua1 ub1; refine kgl (some 22) rfl rfl Tryd.func22 #[.agg #[.bool z21, .slice P33 x22.length c34]] rfl ?_; refine (whole_Print.calls _ z21 _ _ x22 s48 n49 _ (K.C 3 rfl) (K.le 3 rfl) A50.out).mono ?_; rintro e W51 ⟨rfl, hb⟩; refine ⟨_, rfl, ?_⟩; replace K := K.u.up hb; clear hb))
    go_ret
    exact ⟨rfl, K.u.below⟩
  ·rw [if_neg c_1] at h
   have c_1b0 : (n45 == 0) = false := beq_eq_false_iff_ne.mpr c_1
   have c_1b1 : (n45 != 0) = true := bne_iff_ne.mpr c_1
   clear c_1
   simp only [Option.some.injEq] at h
   subst h
   go_enter Tryd.func21, Tryd.ntmps21
   go_wp2_with (first | ((with_reducible refine gate_dst (N := 9) rfl ?_); refine kgl (some 9) rfl rfl Tryd.func35 #[.int .i64 (-7)] rfl ?_; refine (whole_Of.calls _ (-7) z1 x2 _ A3.out).mono ?_; rintro e W6 ⟨v4, rfl, ho5, hb⟩; refine ⟨_, rfl, ?_⟩; replace K := K.u.addRE hb ho5; clear hb ho5; obtain ⟨P7, c8, e9⟩ := K.slice 0 rfl; subst e9) | ((with_reducible refine gate_dst (N := 10) rfl ?_); refine kgl (some 10) rfl rfl Tryd.func35 #[.int .i64 2] rfl ?_; refine (whole_Of.calls _ 2 z10 x11 _ A12.out).mono ?_; rintro e W15 ⟨v13, rfl, ho14, hb⟩; refine ⟨_, rfl, ?_⟩; replace K := K.u.addRE hb ho14; clear hb ho14; obtain ⟨P16, c17, e18⟩ := K.slice 1 rfl; subst e18) | ((with_reducible refine gate_dst (N := 11) rfl ?_); refine kgl (some 11) rfl rfl Tryd.func18 #[.agg #[.bool z1, .slice P7 x2.length c8], .agg #[.bool z10, .slice P16 x11.length c17]] rfl ?_; refine (whole_DivMod.calls _ z1 _ _ x2 z10 _ _ x11 z19 x20 z21 x22 n23 _ (K.C 0 rfl) (K.le 0 rfl) (K.C 1 rfl) (K.le 1 rfl) A24.out).mono ?_; rintro e W29 ⟨v25, v26, rfl, ho27, ho28, hb⟩; refine ⟨_, rfl, ?_⟩; replace K := K.u.addR2 hb ho27 ho28; clear hb ho27 ho28; obtain ⟨P30, c31, e32⟩ := K.slice 2 rfl; subst e32; obtain ⟨P33, c34, e35⟩ := K.slice 3 rfl; subst e35) | ((with_reducible refine gate_dst (N := 1) rfl ?_); refine kbe 1 #[.bool false, .slice none 0 0] 25 ?_; intro g36 hg W37 hx hb; replace K := K.u.box hg hx hb; clear hg hx hb) | ((with_reducible refine gate_dst (N := 2) rfl ?_); refine kbe 2 #[.bool false, .slice none 0 0] 25 ?_; intro g38 hg W39 hx hb; replace K := K.u.box hg hx hb; clear hg hx hb) | ((with_reducible refine gate_store (t := 25) (p := 1) (v := .tmp 12) rfl ?_); refine kst2 0 (.bool z19) (.slice P30 x20.length c31) K.u rfl ?q41 ?_; (case q41 => intro c0 c1 f0 f1; first | (go_simp; done) | (go_simp; rfl)); clear K; intro W40 K; simp only [kls, klv] at K) | ((with_reducible refine gate_store (t := 25) (p := 2) (v := .tmp 13) rfl ?_); refine kst2 1 (.bool z21) (.slice P33 x22.length c34) K.u rfl ?q43 ?_; (case q43 => intro c0 c1 f0 f1; first | (go_simp; done) | (go_simp; rfl)); clear K; intro W42 K; simp only [kls, klv] at K; obtain ⟨ua0, ub0⟩ := K.cell2 0 rfl) | ((with_reducible refine gate_dst (N := 17) rfl ?_); clear ua0 ub0; refine kgl (some 17) rfl rfl Tryd.func22 #[.agg #[.bool z19, .slice P30 x20.length c31]] rfl ?_; refine (whole_Print.calls _ z19 _ _ x20 s44 n45 _ (K.C 2 rfl) (K.le 2 rfl) A46.out).mono ?_; rintro e W47 ⟨rfl, hb⟩; refine ⟨_, rfl, ?_⟩; replace K := K.u.up hb; clear hb; obtain ⟨ua1, ub1⟩ := K.cell2 1 rfl) | ((with_reducible refine gate_dst (N := 22) rfl ?_); clear ua1 ub1; refine kgl (some 22) rfl rfl Tryd.func22 #[.agg #[.bool z21, .slice P33 x22.length c34]] rfl ?_; refine (whole_Print.calls _ z21 _ _ x22 s48 n49 _ (K.C 3 rfl) (K.le 3 rfl) A50.out).mono ?_; rintro e W51 ⟨rfl, hb⟩; refine ⟨_, rfl, ?_⟩; replace K := K.u.up hb; clear hb))
   go_ret
   exact ⟨rfl, K.u.below⟩
 ·rw [if_neg c_0] at h
  have c_0b0 : (n23 == 0) = false := beq_eq_false_iff_ne.mpr c_0
  have c_0b1 : (n23 != 0) = true := bne_iff_ne.mpr c_0
  clear c_0
  simp only [Option.some.injEq] at h
  subst h
  go_enter Tryd.func21, Tryd.ntmps21
  go_wp2_with (first | ((with_reducible refine gate_dst (N := 9) rfl ?_); refine kgl (some 9) rfl rfl Tryd.func35 #[.int .i64 (-7)] rfl ?_; refine (whole_Of.calls _ (-7) z1 x2 _ A3.out).mono ?_; rintro e W6 ⟨v4, rfl, ho5, hb⟩; refine ⟨_, rfl, ?_⟩; replace K := K.u.addRE hb ho5; clear hb ho5; obtain ⟨P7, c8, e9⟩ := K.slice 0 rfl; subst e9) | ((with_reducible refine gate_dst (N := 10) rfl ?_); refine kgl (some 10) rfl rfl Tryd.func35 #[.int .i64 2] rfl ?_; refine (whole_Of.calls _ 2 z10 x11 _ A12.out).mono ?_; rintro e W15 ⟨v13, rfl, ho14, hb⟩; refine ⟨_, rfl, ?_⟩; replace K := K.u.addRE hb ho14; clear hb ho14; obtain ⟨P16, c17, e18⟩ := K.slice 1 rfl; subst e18) | ((with_reducible refine gate_dst (N := 11) rfl ?_); refine kgl (some 11) rfl rfl Tryd.func18 #[.agg #[.bool z1, .slice P7 x2.length c8], .agg #[.bool z10, .slice P16 x11.length c17]] rfl ?_; refine (whole_DivMod.calls _ z1 _ _ x2 z10 _ _ x11 z19 x20 z21 x22 n23 _ (K.C 0 rfl) (K.le 0 rfl) (K.C 1 rfl) (K.le 1 rfl) A24.out).mono ?_; rintro e W29 ⟨v25, v26, rfl, ho27, ho28, hb⟩; refine ⟨_, rfl, ?_⟩; replace K := K.u.addR2 hb ho27 ho28; clear hb ho27 ho28; obtain ⟨P30, c31, e32⟩ := K.slice 2 rfl; subst e32; obtain ⟨P33, c34, e35⟩ := K.slice 3 rfl; subst e35) | ((with_reducible refine gate_dst (N := 1) rfl ?_); refine kbe 1 #[.bool false, .slice none 0 0] 25 ?_; intro g36 hg W37 hx hb; replace K := K.u.box hg hx hb; clear hg hx hb) | ((with_reducible refine gate_dst (N := 2) rfl ?_); refine kbe 2 #[.bool false, .slice none 0 0] 25 ?_; intro g38 hg W39 hx hb; replace K := K.u.box hg hx hb; clear hg hx hb) | ((with_reducible refine gate_store (t := 25) (p := 1) (v := .tmp 12) rfl ?_); refine kst2 0 (.bool z19) (.slice P30 x20.length c31) K.u rfl ?q41 ?_; (case q41 => intro c0 c1 f0 f1; first | (go_simp; done) | (go_simp; rfl)); clear K; intro W40 K; simp only [kls, klv] at K) | ((with_reducible refine gate_store (t := 25) (p := 2) (v := .tmp 13) rfl ?_); refine kst2 1 (.bool z21) (.slice P33 x22.length c34) K.u rfl ?q43 ?_; (case q43 => intro c0 c1 f0 f1; first | (go_simp; done) | (go_simp; rfl)); clear K; intro W42 K; simp only [kls, klv] at K; obtain ⟨ua0, ub0⟩ := K.cell2 0 rfl) | ((with_reducible refine gate_dst (N := 17) rfl ?_); clear ua0 ub0; refine kgl (some 17) rfl rfl Tryd.func22 #[.agg #[.bool z19, .slice P30 x20.length c31]] rfl ?_; refine (whole_Print.calls _ z19 _ _ x20 s44 n45 _ (K.C 2 rfl) (K.le 2 rfl) A46.out).mono ?_; rintro e W47 ⟨rfl, hb⟩; refine ⟨_, rfl, ?_⟩; replace K := K.u.up hb; clear hb; obtain ⟨ua1, ub1⟩ := K.cell2 1 rfl) | ((with_reducible refine gate_dst (N := 22) rfl ?_); clear ua1 ub1; refine kgl (some 22) rfl rfl Tryd.func22 #[.agg #[.bool z21, .slice P33 x22.length c34]] rfl ?_; refine (whole_Print.calls _ z21 _ _ x22 s48 n49 _ (K.C 3 rfl) (K.le 3 rfl) A50.out).mono ?_; rintro e W51 ⟨rfl, hb⟩; refine ⟨_, rfl, ?_⟩; replace K := K.u.up hb; clear hb))
  go_ret
  exact ⟨rfl, K.u.below⟩
def whole_Quo.f (k : Nat) (a0_0 : Bool) (l0_1 : List Int) (a1_0 : Bool) (l1_1 : List Int) : Option (Bool × List Int × Bool × List Int × Int) := (whole_of.f k a1_0 l1_1).bind fun bt955 => ((whole_amount_null.f bt955.1).bind fun t960 => (if t960 = true then (some (false, ([] : List Int), false, ([] : List Int), 11)) else ((whole_of.f k a0_0 l0_1).bind fun bt961 => ((whole_number_cut.f k bt961.1 bt961.2 bt955.1 bt955.2).bind fun bt965 => ((whole_pair.f k bt965.1 bt965.2.1 bt965.2.2.1 bt965.2.2.2).bind fun bt973 => (some (bt973.1, bt973.2.1, bt973.2.2.1, bt973.2.2.2.1, bt973.2.2.2.2)))))))
def whole_Quo.T4 : Bool × List (List Nat × List Nat) := (true, [([], []), ([0], [0]), ([], []), ([1, 2, 1], [1, 2]), ([3], [3]), ([3], [3]), ([4, 5, 3], [4, 5]), ([6], [6]), ([6], [6]), ([6], [6]), ([7, 6, 0, 1, 2, 3, 4, 5, 6, 7, 8, 9], [7]), ([8, 10, 0, 1, 2, 3, 4, 5, 6, 7, 8, 9, 10], [8]), ([9, 11, 0, 1, 2, 3, 4, 5, 6, 7, 8, 9, 10, 11], [9])])
def whole_Quo.B4 : List Nat := [0, 1, 0, 7, 15, 15, 63, 127, 127, 127, 1023, 2047, 4095]
theorem whole_Quo.tab4 : rtab .any (opsOf Tryd.f24 4) = whole_Quo.T4 := by kernel_rfl
theorem whole_Quo.bits4 : waitsOk whole_Quo.T4.2 whole_Quo.B4 = true := by kernel_rfl
theorem whole_Quo.calls (k : Nat) (a0_0 : Bool) (A0_1 : Option Addr) (c0_1 : Nat) (l0_1 : List Int) (a1_0 : Bool) (A1_1 : Option Addr) (c1_1 : Nat) (l1_1 : List Int) (r1 : Bool) (r2 : List Int) (r3 : Bool) (r4 : List Int) (r5 : Int) (w : World) (hr0_1 : Kd.C (Kd.int .u64) w A0_1 l0_1.length l0_1) (hc0_1 : l0_1.length ≤ c0_1) (hr1_1 : Kd.C (Kd.int .u64) w A1_1 l1_1.length l1_1) (hc1_1 : l1_1.length ≤ c1_1) (h : whole_Quo.f k a0_0 l0_1 a1_0 l1_1 = some (r1, r2, r3, r4, r5)) :
  Calls Tryd.prog 24 #[.agg #[.bool a0_0, .slice A0_1 l0_1.length c0_1], .agg #[.bool a1_0, .slice A1_1 l1_1.length c1_1]] w fun e w' => ∃ v1_ v3_ : Value, e = .returned (.tuple #[.agg #[.bool r1, v1_], .agg #[.bool r3, v3_], .int .i64 r5]) ∧ Kd.R (Kd.int .u64) 59 w' w.heap.size (fun k_ => some k_ ≠ (v3_ : Value).ownBlock) v1_ r2 ∧ Kd.R (Kd.int .u64) 59 w' w.heap.size (fun k_ => some k_ ≠ (v1_ : Value).ownBlock) v3_ r4 ∧ Below w.heap.size w w' := by
 have hu25 := Tryd.underlying25
 have hu62 := Tryd.underlying62
 have K := Kp.refl w
 replace K := K.parV (Kd.V_mono (ok' := fun _ => True) (Kd.V_mk (e := 59) (base := 0) hc0_1 (Kd.C_F (Kd.heap_int .u64) hr0_1)) (fun _ h => trivial))
 clear hr0_1 hc0_1
 replace K := K.parV (Kd.V_mono (ok' := fun _ => True) (Kd.V_mk (e := 59) (base := 0) hc1_1 (Kd.C_F (Kd.heap_int .u64) hr1_1)) (fun _ h => trivial))
 clear hr1_1 hc1_1
 simp only [klv] at K
 rw [whole_Quo.f] at h
 replace h := bindA h
 obtain ⟨⟨x9, z10⟩, A11, h⟩ := h
 dsimp only at h
 replace h := bindA h
 obtain ⟨z22, A23, h⟩ := h
 by_cases c_0 : z22 = true
 ·subst c_0
  rw [if_pos rfl] at h
  simp only [Option.some.injEq, Prod.mk.injEq] at h
  obtain ⟨rfl, rfl, rfl, rfl, rfl⟩ := h
  go_enter Tryd.func24, Tryd.ntmps24
  go_wp2_with (first | ((with_reducible refine gate_dst (N := 2) rfl ?_); refine kbe 2 #[.bool a0_0, .slice A0_1 l0_1.length c0_1] 25 ?_; intro g1 hg W2 hx hb; replace K := K.u.box hg hx hb; clear hg hx hb) | ((with_reducible refine gate_dst (N := 3) rfl ?_); refine kbe 3 #[.bool a1_0, .slice A1_1 l1_1.length c1_1] 25 ?_; intro g3 hg W4 hx hb; replace K := K.u.box hg hx hb; clear hg hx hb) | ((with_reducible refine gate_dst (N := 4) rfl ?_); refine kbe 4 #[.bool false, .slice none 0 0] 25 ?_; intro g5 hg W6 hx hb; replace K := K.u.box hg hx hb; clear hg hx hb) | ((with_reducible refine gate_dst (N := 5) rfl ?_); refine kbe 5 #[.bool false, .slice none 0 0] 25 ?_; intro g7 hg W8 hx hb; replace K := K.u.box hg hx hb; clear hg hx hb; obtain ⟨ua1, ub1⟩ := K.cell2 1 rfl) | ((with_reducible refine gate_dst (N := 9) rfl ?_); clear ua1 ub1; refine kgl (some 9) rfl rfl Tryd.func56 #[.agg #[.bool a1_0, .slice A1_1 l1_1.length c1_1]] rfl ?_; refine (whole_of.calls _ a1_0 _ _ _ l1_1 x9 z10 _ (K.V 1 rfl) A11.out).mono ?_; rintro e W14 ⟨v12, rfl, ho13, hb⟩; refine ⟨_, rfl, ?_⟩; replace K := K.u.add (fun _ => True) hb ho13 (fun _ h => h.t); clear hb ho13; obtain ⟨P15, c16, e17⟩ := K.slice 2 rfl; subst e17) | ((with_reducible refine gate_dst (N := 7) rfl ?_); refine kbe 7 #[.slice none 0 0, .bool false] 62 ?_; intro g18 hg W19 hx hb; replace K := K.u.box hg hx hb; clear hg hx hb) | ((with_reducible refine gate_store (t := 62) (p := 7) (v := .tmp 9) rfl ?_); refine kst2 4 (.slice P15 x9.length c16) (.bool z10) K.u rfl ?q21 ?_; (case q21 => intro c0 c1 f0 f1; first | (go_simp; done) | (go_simp; rfl)); clear K; intro W20 K; simp only [kls, klv] at K; obtain ⟨ua4, ub4⟩ := K.cell2 4 rfl) | ((with_reducible refine gate_dst (N := 12) rfl ?_); clear ua4 ub4; refine kgl (some 12) rfl rfl Tryd.func57 #[.slice P15 x9.length c16] rfl ?_; refine (whole_amount_null.calls _ _ x9 true _ (K.C 2 rfl) (K.le 2 rfl) A23.out).mono ?_; rintro e W24 ⟨rfl, hb⟩; refine ⟨_, rfl, ?_⟩; replace K := K.u.up hb.below; clear hb) | ((with_reducible refine gate_store (t := 25) (p := 4) (v := .tmp 13) rfl ?_); refine kst2 2 (.bool false) (.slice none 0 0) K.u rfl ?q26 ?_; (case q26 => intro c0 c1 f0 f1; first | (go_simp; done) | (go_simp; rfl)); clear K; intro W25 K; simp only [kls, klv] at K) | ((with_reducible refine gate_store (t := 25) (p := 5) (v := .tmp 14) rfl ?_); refine kst2 3 (.bool false) (.slice none 0 0) K.u rfl ?q28 ?_; (case q28 => intro c0 c1 f0 f1; first | (go_simp; done) | (go_simp; rfl)); clear K; intro W27 K; simp only [kls, klv] at K))
  refine bodyPost_ret (results_list (rs := [.cell 4 25, .cell 5 25, .tmp 6]) rfl (by simp) (.cell g5 25 #[.bool false, .slice none 0 0] (0, 0) _ rfl (K.u.heap 2 rfl) Tryd.underlying25 rfl (by kernel_rfl) (.cell g7 25 #[.bool false, .slice none 0 0] (0, 0) _ rfl (K.u.heap 3 rfl) Tryd.underlying25 rfl (by kernel_rfl) (.tmp .nil)))) rfl ?_
  exact ⟨_, _, rfl, Kd.R_nil _ _ _ _ _, Kd.R_nil _ _ _ _ _, K.u.below⟩
 ·replace c_0 := Bool.eq_false_iff.mpr c_0
  subst c_0
  rw [if_neg (by decide)] at h
  replace h := bindA h
  obtain ⟨⟨x25, z26⟩, A27, h⟩ := h
  dsimp only at h
  replace h := bindA h
  obtain ⟨⟨x28, z29, x30, z31⟩, A32, h⟩ := h
  dsimp only at h
  replace h := bindA h
  obtain ⟨⟨z33, x34, z35, x36, n37⟩, A38, h⟩ := h
  dsimp only at h
  go_enter Tryd.func24, Tryd.ntmps24
  go_wp2_with (first | ((with_reducible refine gate_dst (N := 2) rfl ?_); refine kbe 2 #[.bool a0_0, .slice A0_1 l0_1.length c0_1] 25 ?_; intro g1 hg W2 hx hb; replace K := K.u.box hg hx hb; clear hg hx hb) | ((with_reducible refine gate_dst (N := 3) rfl ?_); refine kbe 3 #[.bool a1_0, .slice A1_1 l1_1.length c1_1] 25 ?_; intro g3 hg W4 hx hb; replace K := K.u.box hg hx hb; clear hg hx hb) | ((with_reducible refine gate_dst (N := 4) rfl ?_); refine kbe 4 #[.bool false, .slice none 0 0] 25 ?_; intro g5 hg W6 hx hb; replace K := K.u.box hg hx hb; clear hg hx hb) | ((with_reducible refine gate_dst (N := 5) rfl ?_); refine kbe 5 #[.bool false, .slice none 0 0] 25 ?_; intro g7 hg W8 hx hb; replace K := K.u.box hg hx hb; clear hg hx hb; obtain ⟨ua1, ub1⟩ := K.cell2 1 rfl) | ((with_reducible refine gate_dst (N := 9) rfl ?_); clear ua1 ub1; refine kgl (some 9) rfl rfl Tryd.func56 #[.agg #[.bool a1_0, .slice A1_1 l1_1.length c1_1]] rfl ?_; refine (whole_of.calls _ a1_0 _ _ _ l1_1 x9 z10 _ (K.V 1 rfl) A11.out).mono ?_; rintro e W14 ⟨v12, rfl, ho13, hb⟩; refine ⟨_, rfl, ?_⟩; replace K := K.u.add (fun _ => True) hb ho13 (fun _ h => h.t); clear hb ho13; obtain ⟨P15, c16, e17⟩ := K.slice 2 rfl; subst e17) | ((with_reducible refine gate_dst (N := 7) rfl ?_); refine kbe 7 #[.slice none 0 0, .bool false] 62 ?_; intro g18 hg W19 hx hb; replace K := K.u.box hg hx hb; clear hg hx hb) | ((with_reducible refine gate_store (t := 62) (p := 7) (v := .tmp 9) rfl ?_); refine kst2 4 (.slice P15 x9.length c16) (.bool z10) K.u rfl ?q21 ?_; (case q21 => intro c0 c1 f0 f1; first | (go_simp; done) | (go_simp; rfl)); clear K; intro W20 K; simp only [kls, klv] at K; obtain ⟨ua4, ub4⟩ := K.cell2 4 rfl) | ((with_reducible refine gate_dst (N := 12) rfl ?_); clear ua4 ub4; refine kgl (some 12) rfl rfl Tryd.func57 #[.slice P15 x9.length c16] rfl ?_; refine (whole_amount_null.calls _ _ x9 false _ (K.C 2 rfl) (K.le 2 rfl) A23.out).mono ?_; rintro e W24 ⟨rfl, hb⟩; refine ⟨_, rfl, ?_⟩; replace K := K.u.up hb.below; clear hb))
  obtain ⟨Bs, Vs, Os, hBs, hVs, hOs, K⟩ := K.abs
  have HS : Aside0 (∀ l m o W, Kp w (Bs ++ l) m o W → W.cell? ⟨g1, 0, none⟩ = some (.bool a0_0) ∧ W.cell? ⟨g1, 1, none⟩ = some (.slice A0_1 l0_1.length c0_1) ∧ W.cell? ⟨g18, 0, none⟩ = some (.slice P15 x9.length c16) ∧ W.cell? ⟨g18, 1, none⟩ = some (.bool z10)) := ⟨fun l m o W K => by rw [hBs.out] at K; exact ⟨K.cell 0 rfl 0 rfl, K.cell 0 rfl 1 rfl, K.cell 4 rfl 0 rfl, K.cell 4 rfl 1 rfl⟩⟩
  refine kpstart (n := 13) (ds := []) (S := fun W => W.cell? ⟨g1, 0, none⟩ = some (.bool a0_0) ∧ W.cell? ⟨g1, 1, none⟩ = some (.slice A0_1 l0_1.length c0_1) ∧ W.cell? ⟨g18, 0, none⟩ = some (.slice P15 x9.length c16) ∧ W.cell? ⟨g18, 1, none⟩ = some (.bool z10)) #[false, false, false, false, false, false, false, false, false, false, false, false, false] (by kernel_rfl) rfl rfl K (HS.out [] _ _) (fun W44 K hH => ?_)
  refine with_tabW whole_Quo.tab4 whole_Quo.bits4 (fun HT_ HW_ => ?_)
  refine take_ (i := 0) (N := some 15) (v := ?_) (a' := ?_) #[true, false, false, false, false, false, false, false, false, false, false, false, false] rfl rfl (take_ofW HT_.out HW_.out (by kernel_rfl)) (fun _ _ _ h => h) (Or.inl ⟨by rfl, ?_⟩) hH ?_ ?_
  rotate_left
  ·rintro w' ⟨s0, s1, s2, s3⟩
   go_simp
   with_reducible rfl
  rotate_left
  ·simp only [Act.put, kss, i64_w, i32_w]
   rfl
  refine take_ (i := 2) (N := some 17) (v := ?_) (a' := ?_) #[true, false, true, false, false, false, false, false, false, false, false, false, false] rfl rfl (take_ofW HT_.out HW_.out (by kernel_rfl)) (fun _ _ _ h => h) (Or.inl ⟨by rfl, ?_⟩) hH ?_ ?_
  rotate_left
  ·rintro w' ⟨s0, s1, s2, s3⟩
   go_simp
   with_reducible rfl
  rotate_left
  ·simp only [Act.put, kss, i64_w, i32_w]
   rfl
  refine one_ (i := 1) (N := some 16) #[true, true, true, false, false, false, false, false, false, false, false, false, false] rfl rfl (one_of HT_.out (by kernel_rfl)) (by decide) (fun Kc hK => ?_)
  refine kgo Tryd.func56 #[.agg #[.bool a0_0, .slice A0_1 l0_1.length c0_1]] (by rfl) rfl rfl ?_
  refine (whole_of.calls _ a0_0 _ _ _ l0_1 x25 z26 _ (K.V 0 (by rw [hVs.out]; rfl)) A27.out).mono ?_
  rintro e W' ⟨v39, rfl, ho45, hb⟩
  replace K := K.addI 0 (fun _ => True) hb ho45 (fun _ h => h.t)
  clear hb ho45
  refine ⟨_, rfl, hK.out _ _ (HS.out _ _ _ _ K) fun hH => ?_⟩
  clear hK Kc
  refine norm_ (a' := ?_) ?_ ?_
  rotate_left
  ·show Act.put _ (some 16) _ = _
   simp only [Act.put, kss, i64_w, i32_w]
   rfl
  refine one_ (i := 3) (N := some 18) #[true, true, true, true, false, false, false, false, false, false, false, false, false] rfl rfl (one_of HT_.out (by kernel_rfl)) (by decide) (fun Kc hK => ?_)
  obtain ⟨P46, c47, e48⟩ := K.slice 3 (by rw [hVs.out]; rfl)
  subst e48
  refine kgo Tryd.func58 #[.agg #[.slice P46 x25.length c47, .bool z26], .agg #[.slice P15 x9.length c16, .bool z10]] (by rfl) rfl rfl ?_
  refine (whole_number_cut.calls _ _ _ _ x25 z26 _ _ x9 z10 x28 z29 x30 z31 _ (K.V 3 (by rw [hVs.out]; rfl)) (K.C 2 (by rw [hVs.out]; rfl)) (K.le 2 (by rw [hVs.out]; rfl)) A32.out).mono ?_
  rintro e W' ⟨v40, v41, rfl, ho49, ho50, hb⟩
  have K1 := K.addI 1 (fun _ => True) hb ho49 (fun _ h => h.t)
  replace K := K.moreI 2 (fun _ => True) K1 ho50 (fun _ h => h.t)
  clear K1
  clear hb ho49 ho50
  refine ⟨_, rfl, hK.out _ _ (HS.out _ _ _ _ K) fun hH => ?_⟩
  refine norm_ (a' := ?_) ?_ ?_
  rotate_left
  ·show Act.put _ (some 18) _ = _
   simp only [Act.put, kss, i64_w, i32_w]
   rfl
  refine pure_ (i := 4) (N := some 19) (v := ?_) (a' := ?_) #[true, true, true, true, true, false, false, false, false, false, false, false, false] rfl rfl (any_of HT_.out (by kernel_rfl)) (fun _ _ _ h => h) (Or.inl ⟨by rfl, ?_⟩) ?_ ?_
  rotate_left
  ·intro w'
   go_simp
   with_reducible rfl
  rotate_left
  ·simp only [Act.put, kss, i64_w, i32_w]
   rfl
  refine pure_ (i := 5) (N := some 20) (v := ?_) (a' := ?_) #[true, true, true, true, true, true, false, false, false, false, false, false, false] rfl rfl (any_of HT_.out (by kernel_rfl)) (fun _ _ _ h => h) (Or.inl ⟨by rfl, ?_⟩) ?_ ?_
  rotate_left
  ·intro w'
   go_simp
   with_reducible rfl
  rotate_left
  ·simp only [Act.put, kss, i64_w, i32_w]
   rfl
  clear hK Kc
  refine one_ (i := 6) (N := some 21) #[true, true, true, true, true, true, true, false, false, false, false, false, false] rfl rfl (one_of HT_.out (by kernel_rfl)) (by decide) (fun Kc hK => ?_)
  obtain ⟨P51, c52, e53⟩ := K.slice 4 (by rw [hVs.out]; rfl)
  subst e53
  obtain ⟨P54, c55, e56⟩ := K.slice 5 (by rw [hVs.out]; rfl)
  subst e56
  refine kgo Tryd.func63 #[.agg #[.slice P51 x28.length c52, .bool z29], .agg #[.slice P54 x30.length c55, .bool z31]] (by rfl) rfl rfl ?_
  refine (whole_pair.calls _ _ _ x28 z29 _ _ x30 z31 z33 x34 z35 x36 n37 _ (K.C 4 (by rw [hVs.out]; rfl)) (K.le 4 (by rw [hVs.out]; rfl)) (K.C 5 (by rw [hVs.out]; rfl)) (K.le 5 (by rw [hVs.out]; rfl)) A38.out).mono ?_
  rintro e W' ⟨v42, v43, rfl, ho57, ho58, hb⟩
  replace K := K.addR2I 3 0 hb ho57 ho58 (Nat.le_of_ble_eq_true rfl)
  clear hb ho57 ho58
  refine ⟨_, rfl, hK.out _ _ (HS.out _ _ _ _ K) fun hH => ?_⟩
  refine norm_ (a' := ?_) ?_ ?_
  rotate_left
  ·show Act.put _ (some 21) _ = _
   simp only [Act.put, kss, i64_w, i32_w]
   rfl
  refine pure_ (i := 7) (N := some 22) (v := ?_) (a' := ?_) #[true, true, true, true, true, true, true, true, false, false, false, false, false] rfl rfl (any_of HT_.out (by kernel_rfl)) (fun _ _ _ h => h) (Or.inl ⟨by rfl, ?_⟩) ?_ ?_
  rotate_left
  ·intro w'
   go_simp
   with_reducible rfl
  rotate_left
  ·simp only [Act.put, kss, i64_w, i32_w]
   rfl
  refine pure_ (i := 8) (N := some 23) (v := ?_) (a' := ?_) #[true, true, true, true, true, true, true, true, true, false, false, false, false] rfl rfl (any_of HT_.out (by kernel_rfl)) (fun _ _ _ h => h) (Or.inl ⟨by rfl, ?_⟩) ?_ ?_
  rotate_left
  ·intro w'
   go_simp
   with_reducible rfl
  rotate_left
  ·simp only [Act.put, kss, i64_w, i32_w]
   rfl
  refine pure_ (i := 9) (N := some 24) (v := ?_) (a' := ?_) #[true, true, true, true, true, true, true, true, true, true, false, false, false] rfl rfl (any_of HT_.out (by kernel_rfl)) (fun _ _ _ h => h) (Or.inl ⟨by rfl, ?_⟩) ?_ ?_
  rotate_left
  ·intro w'
   go_simp
   with_reducible rfl
  rotate_left
  ·simp only [Act.put, kss, i64_w, i32_w]
   rfl
  clear hK Kc
  obtain ⟨P59, c60, e61⟩ := K.slice 6 (by rw [hVs.out]; rfl)
  subst e61
  obtain ⟨P62, c63, e64⟩ := K.slice 7 (by rw [hVs.out]; rfl)
  subst e64
  rw [hBs.out, hVs.out, hOs.out] at K
  simp only [kls, klv] at K
  clear hBs hVs hOs HS hH
  refine kone2 (i := 10) #[true, true, true, true, true, true, true, true, true, true, true, false, false] 2 (.bool z33) (.slice P59 x34.length c60) K rfl rfl rfl (one_of HT_.out (by kernel_rfl)) (by decide) (by rfl) ?_ (fun W K => ⟨K.cell 0 rfl 0 rfl, K.cell 0 rfl 1 rfl, K.cell 4 rfl 0 rfl, K.cell 4 rfl 1 rfl⟩) ?_
  ·intro c0 c1 f0 f1
   first | (go_simp; done) | (go_simp; rfl)
  clear K
  intro W65 K
  simp only [kls, klv] at K
  refine kone2 (i := 11) #[true, true, true, true, true, true, true, true, true, true, true, true, false] 3 (.bool z35) (.slice P62 x36.length c63) K rfl rfl rfl (one_of HT_.out (by kernel_rfl)) (by decide) (by rfl) ?_ (fun W K => ⟨K.cell 0 rfl 0 rfl, K.cell 0 rfl 1 rfl, K.cell 4 rfl 0 rfl, K.cell 4 rfl 1 rfl⟩) ?_
  ·intro c0 c1 f0 f1
   first | (go_simp; done) | (go_simp; rfl)
  clear K
  intro W66 K
  simp only [kls, klv] at K
  refine pure_ (i := 12) (N := some 6) (v := ?_) (a' := ?_) #[true, true, true, true, true, true, true, true, true, true, true, true, true] rfl rfl (any_of HT_.out (by kernel_rfl)) (fun _ _ _ h => h) (Or.inl ⟨by rfl, ?_⟩) ?_ ?_
  rotate_left
  ·intro w'
   go_simp
   with_reducible rfl
  rotate_left
  ·simp only [Act.put, kss, i64_w, i32_w]
   rfl
  refine done_ (done_of HT_.out (by kernel_rfl)) ?_
  clear HT_ HW_
  simp only [Option.some.injEq, Prod.mk.injEq] at h
  obtain ⟨rfl, rfl, rfl, rfl, rfl⟩ := h
  go_wp2
  refine bodyPost_ret (results_list (rs := [.cell 4 25, .cell 5 25, .tmp 6]) rfl (by simp) (.cell g5 25 #[.bool z33, .slice P59 x34.length c60] (0, 0) _ rfl (K.u.heap 2 rfl) Tryd.underlying25 rfl (by kernel_rfl) (.cell g7 25 #[.bool z35, .slice P62 x36.length c63] (0, 0) _ rfl (K.u.heap 3 rfl) Tryd.underlying25 rfl (by kernel_rfl) (.tmp .nil)))) rfl ?_
  exact ⟨_, _, rfl, K.u.Rne 0 rfl rfl fun k_ h_ => K.apart 0 1 rfl rfl (by decide) k_ h_, K.u.Rne 1 rfl rfl fun k_ h_ => K.apart 1 0 rfl rfl (by decide) k_ h_, K.u.below⟩
def whole_number_told.f (l0_0 : List Int) (a0_1 : Bool) : Option (Bool × List Int × Int) := (whole_number_long.f l0_0 a0_1).bind fun t791 => (if t791 = true then (some (false, ([] : List Int), 5)) else ((whole_number_out.f l0_0 a0_1).bind fun bt792 => (some (bt792.1, bt792.2, 0))))
theorem whole_number_told.calls (A0_0 : Option Addr) (c0_0 : Nat) (l0_0 : List Int) (a0_1 : Bool) (r1 : Bool) (r2 : List Int) (r3 : Int) (w : World) (hr0_0 : Kd.C (Kd.int .u64) w A0_0 l0_0.length l0_0) (hc0_0 : l0_0.length ≤ c0_0) (h : whole_number_told.f l0_0 a0_1 = some (r1, r2, r3)) :
  Calls Tryd.prog 76 #[.agg #[.slice A0_0 l0_0.length c0_0, .bool a0_1]] w fun e w' => ∃ v1_ : Value, e = .returned (.tuple #[.agg #[.bool r1, v1_], .int .i64 r3]) ∧ Kd.R (Kd.int .u64) 59 w' w.heap.size (fun _ => True) v1_ r2 ∧ Below w.heap.size w w' := by
 have hu25 := Tryd.underlying25
 have hu62 := Tryd.underlying62
 have K := Kp.refl w
 replace K := K.parV (Kd.V_mono (ok' := fun _ => True) (Kd.V_mk (e := 59) (base := 0) hc0_0 (Kd.C_F (Kd.heap_int .u64) hr0_0)) (fun _ h => trivial))
 clear hr0_0 hc0_0
 simp only [klv] at K
 rw [whole_number_told.f] at h
 replace h := bindA h
 obtain ⟨z5, A6, h⟩ := h
 by_cases c_0 : z5 = true
 ·subst c_0
  rw [if_pos rfl] at h
  simp only [Option.some.injEq, Prod.mk.injEq] at h
  obtain ⟨rfl, rfl, rfl⟩ := h
  go_enter Tryd.func76, Tryd.ntmps76
  go_wp2_with (first | ((with_reducible refine gate_dst (N := 1) rfl ?_); refine kbe 1 #[.slice A0_0 l0_0.length c0_0, .bool a0_1] 62 ?_; intro g1 hg W2 hx hb; replace K := K.u.box hg hx hb; clear hg hx hb) | ((with_reducible refine gate_dst (N := 2) rfl ?_); refine kbe 2 #[.bool false, .slice none 0 0] 25 ?_; intro g3 hg W4 hx hb; replace K := K.u.box hg hx hb; clear hg hx hb; obtain ⟨ua0, ub0⟩ := K.cell2 0 rfl) | ((with_reducible refine gate_dst (N := 5) rfl ?_); clear ua0 ub0; refine kgl (some 5) rfl rfl Tryd.func67 #[.agg #[.slice A0_0 l0_0.length c0_0, .bool a0_1]] rfl ?_; refine (whole_number_long.calls _ _ l0_0 a0_1 true _ (K.C 0 rfl) (K.le 0 rfl) A6.out).mono ?_; rintro e W7 ⟨rfl, hb⟩; refine ⟨_, rfl, ?_⟩; replace K := K.u.up hb; clear hb) | ((with_reducible refine gate_store (t := 25) (p := 2) (v := .tmp 6) rfl ?_); refine kst2 1 (.bool false) (.slice none 0 0) K.u rfl ?q9 ?_; (case q9 => intro c0 c1 f0 f1; first | (go_simp; done) | (go_simp; rfl)); clear K; intro W8 K; simp only [kls, klv] at K))
  refine bodyPost_ret (results_list (rs := [.cell 2 25, .tmp 3]) rfl (by simp) (.cell g3 25 #[.bool false, .slice none 0 0] (0, 0) _ rfl (K.u.heap 1 rfl) Tryd.underlying25 rfl (by kernel_rfl) (.tmp .nil))) rfl ?_
  exact ⟨_, rfl, Kd.R_nil _ _ _ _ _, K.u.below⟩
 ·replace c_0 := Bool.eq_false_iff.mpr c_0
  subst c_0
  rw [if_neg (by decide)] at h
  replace h := bindA h
  obtain ⟨⟨z8, x9⟩, A10, h⟩ := h
  dsimp only at h
  simp only [Option.some.injEq, Prod.mk.injEq] at h
  obtain ⟨rfl, rfl, rfl⟩ := h
  go_enter Tryd.func76, Tryd.ntmps76
  go_wp2_with (first | ((with_reducible refine gate_dst (N := 1) rfl ?_); refine kbe 1 #[.slice A0_0 l0_0.length c0_0, .bool a0_1] 62 ?_; intro g1 hg W2 hx hb; replace K := K.u.box hg hx hb; clear hg hx hb) | ((with_reducible refine gate_dst (N := 2) rfl ?_); refine kbe 2 #[.bool false, .slice none 0 0] 25 ?_; intro g3 hg W4 hx hb; replace K := K.u.box hg hx hb; clear hg hx hb; obtain ⟨ua0, ub0⟩ := K.cell2 0 rfl) | ((with_reducible refine gate_dst (N := 5) rfl ?_); clear ua0 ub0; refine kgl (some 5) rfl rfl Tryd.func67 #[.agg #[.slice A0_0 l0_0.length c0_0, .bool a0_1]] rfl ?_; refine (whole_number_long.calls _ _ l0_0 a0_1 false _ (K.C 0 rfl) (K.le 0 rfl) A6.out).mono ?_; rintro e W7 ⟨rfl, hb⟩; refine ⟨_, rfl, ?_⟩; replace K := K.u.up hb; clear hb; obtain ⟨ua0, ub0⟩ := K.cell2 0 rfl) | ((with_reducible refine gate_dst (N := 8) rfl ?_); clear ua0 ub0; refine kgl (some 8) rfl rfl Tryd.func84 #[.agg #[.slice A0_0 l0_0.length c0_0, .bool a0_1]] rfl ?_; refine (whole_number_out.calls _ _ l0_0 a0_1 z8 x9 _ (K.C 0 rfl) (K.le 0 rfl) A10.out).mono ?_; rintro e W13 ⟨v11, rfl, ho12, hb⟩; refine ⟨_, rfl, ?_⟩; replace K := K.u.addRE hb ho12; clear hb ho12; obtain ⟨P14, c15, e16⟩ := K.slice 1 rfl; subst e16) | ((with_reducible refine gate_store (t := 25) (p := 2) (v := .tmp 8) rfl ?_); refine kst2 1 (.bool z8) (.slice P14 x9.length c15) K.u rfl ?q18 ?_; (case q18 => intro c0 c1 f0 f1; first | (go_simp; done) | (go_simp; rfl)); clear K; intro W17 K; simp only [kls, klv] at K))
  refine bodyPost_ret (results_list (rs := [.cell 2 25, .tmp 3]) rfl (by simp) (.cell g3 25 #[.bool z8, .slice P14 x9.length c15] (0, 0) _ rfl (K.u.heap 1 rfl) Tryd.underlying25 rfl (by kernel_rfl) (.tmp .nil))) rfl ?_
  exact ⟨_, rfl, K.u.R 0 rfl, K.u.below⟩
def whole_Add.f (k : Nat) (a0_0 : Bool) (l0_1 : List Int) (a1_0 : Bool) (l1_1 : List Int) : Option (Bool × List Int × Int) := (whole_of.f k a0_0 l0_1).bind fun bt985 => ((whole_of.f k a1_0 l1_1).bind fun bt989 => ((whole_number_plus.f k bt985.1 bt985.2 bt989.1 bt989.2).bind fun bt993 => ((whole_number_told.f bt993.1 bt993.2).bind fun bt997 => (some (bt997.1, bt997.2.1, bt997.2.2)))))
def whole_Add.T1 : Bool × List (List Nat × List Nat) := (true, [([], []), ([0], [0]), ([], []), ([2, 1], [2]), ([1, 3, 3], [1, 3]), ([4, 4], [4]), ([5], [5]), ([5], [5]), ([6, 5, 0, 1, 2, 3, 4, 5, 6, 7], [6]), ([7, 8, 0, 1, 2, 3, 4, 5, 6, 7, 8], [7])])
def whole_Add.B1 : List Nat := [0, 1, 0, 7, 15, 31, 63, 63, 255, 511]
theorem whole_Add.tab1 : rtab .any (opsOf Tryd.f26 1) = whole_Add.T1 := by kernel_rfl
theorem whole_Add.bits1 : waitsOk whole_Add.T1.2 whole_Add.B1 = true := by kernel_rfl
theorem whole_Add.calls (k : Nat) (a0_0 : Bool) (A0_1 : Option Addr) (c0_1 : Nat) (l0_1 : List Int) (a1_0 : Bool) (A1_1 : Option Addr) (c1_1 : Nat) (l1_1 : List Int) (r1 : Bool) (r2 : List Int) (r3 : Int) (w : World) (hr0_1 : Kd.C (Kd.int .u64) w A0_1 l0_1.length l0_1) (hc0_1 : l0_1.length ≤ c0_1) (hr1_1 : Kd.C (Kd.int .u64) w A1_1 l1_1.length l1_1) (hc1_1 : l1_1.length ≤ c1_1) (h : whole_Add.f k a0_0 l0_1 a1_0 l1_1 = some (r1, r2, r3)) :
  Calls Tryd.prog 26 #[.agg #[.bool a0_0, .slice A0_1 l0_1.length c0_1], .agg #[.bool a1_0, .slice A1_1 l1_1.length c1_1]] w fun e w' => ∃ v1_ : Value, e = .returned (.tuple #[.agg #[.bool r1, v1_], .int .i64 r3]) ∧ Kd.R (Kd.int .u64) 59 w' w.heap.size (fun _ => True) v1_ r2 ∧ Below w.heap.size w w' := by
 have hu25 := Tryd.underlying25
 have K := Kp.refl w
 replace K := K.parV (Kd.V_mono (ok' := fun _ => True) (Kd.V_mk (e := 59) (base := 0) hc0_1 (Kd.C_F (Kd.heap_int .u64) hr0_1)) (fun _ h => trivial))
 clear hr0_1 hc0_1
 replace K := K.parV (Kd.V_mono (ok' := fun _ => True) (Kd.V_mk (e := 59) (base := 0) hc1_1 (Kd.C_F (Kd.heap_int .u64) hr1_1)) (fun _ h => trivial))
 clear hr1_1 hc1_1
 simp only [klv] at K
 rw [whole_Add.f] at h
 replace h := bindA h
 obtain ⟨⟨x7, z8⟩, A9, h⟩ := h
 dsimp only at h
 replace h := bindA h
 obtain ⟨⟨x10, z11⟩, A12, h⟩ := h
 dsimp only at h
 replace h := bindA h
 obtain ⟨⟨x13, z14⟩, A15, h⟩ := h
 dsimp only at h
 replace h := bindA h
 obtain ⟨⟨z16, x17, n18⟩, A19, h⟩ := h
 dsimp only at h
 go_enter Tryd.func26, Tryd.ntmps26
 go_wp2_with (first | ((with_reducible refine gate_dst (N := 2) rfl ?_); refine kbe 2 #[.bool a0_0, .slice A0_1 l0_1.length c0_1] 25 ?_; intro g1 hg W2 hx hb; replace K := K.u.box hg hx hb; clear hg hx hb) | ((with_reducible refine gate_dst (N := 3) rfl ?_); refine kbe 3 #[.bool a1_0, .slice A1_1 l1_1.length c1_1] 25 ?_; intro g3 hg W4 hx hb; replace K := K.u.box hg hx hb; clear hg hx hb) | ((with_reducible refine gate_dst (N := 4) rfl ?_); refine kbe 4 #[.bool false, .slice none 0 0] 25 ?_; intro g5 hg W6 hx hb; replace K := K.u.box hg hx hb; clear hg hx hb))
 obtain ⟨Bs, Vs, Os, hBs, hVs, hOs, K⟩ := K.abs
 have HS : Aside0 (∀ l m o W, Kp w (Bs ++ l) m o W → W.cell? ⟨g1, 0, none⟩ = some (.bool a0_0) ∧ W.cell? ⟨g1, 1, none⟩ = some (.slice A0_1 l0_1.length c0_1) ∧ W.cell? ⟨g3, 0, none⟩ = some (.bool a1_0) ∧ W.cell? ⟨g3, 1, none⟩ = some (.slice A1_1 l1_1.length c1_1)) := ⟨fun l m o W K => by rw [hBs.out] at K; exact ⟨K.cell 0 rfl 0 rfl, K.cell 0 rfl 1 rfl, K.cell 1 rfl 0 rfl, K.cell 1 rfl 1 rfl⟩⟩
 refine kpstart (n := 10) (ds := []) (S := fun W => W.cell? ⟨g1, 0, none⟩ = some (.bool a0_0) ∧ W.cell? ⟨g1, 1, none⟩ = some (.slice A0_1 l0_1.length c0_1) ∧ W.cell? ⟨g3, 0, none⟩ = some (.bool a1_0) ∧ W.cell? ⟨g3, 1, none⟩ = some (.slice A1_1 l1_1.length c1_1)) #[false, false, false, false, false, false, false, false, false, false] (by kernel_rfl) rfl rfl K (HS.out [] _ _) (fun W24 K hH => ?_)
 refine with_tabW whole_Add.tab1 whole_Add.bits1 (fun HT_ HW_ => ?_)
 refine take_ (i := 0) (N := some 6) (v := ?_) (a' := ?_) #[true, false, false, false, false, false, false, false, false, false] rfl rfl (take_ofW HT_.out HW_.out (by kernel_rfl)) (fun _ _ _ h => h) (Or.inl ⟨by rfl, ?_⟩) hH ?_ ?_
 rotate_left
 ·rintro w' ⟨s0, s1, s2, s3⟩
  go_simp
  with_reducible rfl
 rotate_left
 ·simp only [Act.put, kss, i64_w, i32_w]
  rfl
 refine take_ (i := 2) (N := some 8) (v := ?_) (a' := ?_) #[true, false, true, false, false, false, false, false, false, false] rfl rfl (take_ofW HT_.out HW_.out (by kernel_rfl)) (fun _ _ _ h => h) (Or.inl ⟨by rfl, ?_⟩) hH ?_ ?_
 rotate_left
 ·rintro w' ⟨s0, s1, s2, s3⟩
  go_simp
  with_reducible rfl
 rotate_left
 ·simp only [Act.put, kss, i64_w, i32_w]
  rfl
 refine one_ (i := 1) (N := some 7) #[true, true, true, false, false, false, false, false, false, false] rfl rfl (one_of HT_.out (by kernel_rfl)) (by decide) (fun Kc hK => ?_)
 refine kgo Tryd.func56 #[.agg #[.bool a0_0, .slice A0_1 l0_1.length c0_1]] (by rfl) rfl rfl ?_
 refine (whole_of.calls _ a0_0 _ _ _ l0_1 x7 z8 _ (K.V 0 (by rw [hVs.out]; rfl)) A9.out).mono ?_
 rintro e W' ⟨v20, rfl, ho25, hb⟩
 replace K := K.addI 0 (fun _ => True) hb ho25 (fun _ h => h.t)
 clear hb ho25
 refine ⟨_, rfl, hK.out _ _ (HS.out _ _ _ _ K) fun hH => ?_⟩
 clear hK Kc
 refine norm_ (a' := ?_) ?_ ?_
 rotate_left
 ·show Act.put _ (some 7) _ = _
  simp only [Act.put, kss, i64_w, i32_w]
  rfl
 refine one_ (i := 3) (N := some 9) #[true, true, true, true, false, false, false, false, false, false] rfl rfl (one_of HT_.out (by kernel_rfl)) (by decide) (fun Kc hK => ?_)
 refine kgo Tryd.func56 #[.agg #[.bool a1_0, .slice A1_1 l1_1.length c1_1]] (by rfl) rfl rfl ?_
 refine (whole_of.calls _ a1_0 _ _ _ l1_1 x10 z11 _ (K.V 1 (by rw [hVs.out]; rfl)) A12.out).mono ?_
 rintro e W' ⟨v21, rfl, ho26, hb⟩
 replace K := K.addI 1 (fun _ => True) hb ho26 (fun _ h => h.t)
 clear hb ho26
 refine ⟨_, rfl, hK.out _ _ (HS.out _ _ _ _ K) fun hH => ?_⟩
 clear hK Kc
 refine norm_ (a' := ?_) ?_ ?_
 rotate_left
 ·show Act.put _ (some 9) _ = _
  simp only [Act.put, kss, i64_w, i32_w]
  rfl
 refine one_ (i := 4) (N := some 10) #[true, true, true, true, true, false, false, false, false, false] rfl rfl (one_of HT_.out (by kernel_rfl)) (by decide) (fun Kc hK => ?_)
 obtain ⟨P27, c28, e29⟩ := K.slice 2 (by rw [hVs.out]; rfl)
 subst e29
 obtain ⟨P30, c31, e32⟩ := K.slice 3 (by rw [hVs.out]; rfl)
 subst e32
 refine kgo Tryd.func59 #[.agg #[.slice P27 x7.length c28, .bool z8], .agg #[.slice P30 x10.length c31, .bool z11]] (by rfl) rfl rfl ?_
 refine (whole_number_plus.calls _ _ _ _ x7 z8 _ _ _ x10 z11 x13 z14 _ (K.V 2 (by rw [hVs.out]; rfl)) (K.V 3 (by rw [hVs.out]; rfl)) A15.out).mono ?_
 rintro e W' ⟨v22, rfl, ho33, hb⟩
 replace K := K.addI 2 (fun _ => True) hb ho33 (fun _ h => h.elim (fun h => h.t) fun h => h.t)
 clear hb ho33
 refine ⟨_, rfl, hK.out _ _ (HS.out _ _ _ _ K) fun hH => ?_⟩
 clear hK Kc
 refine norm_ (a' := ?_) ?_ ?_
 rotate_left
 ·show Act.put _ (some 10) _ = _
  simp only [Act.put, kss, i64_w, i32_w]
  rfl
 refine one_ (i := 5) (N := some 11) #[true, true, true, true, true, true, false, false, false, false] rfl rfl (one_of HT_.out (by kernel_rfl)) (by decide) (fun Kc hK => ?_)
 obtain ⟨P34, c35, e36⟩ := K.slice 4 (by rw [hVs.out]; rfl)
 subst e36
 refine kgo Tryd.func76 #[.agg #[.slice P34 x13.length c35, .bool z14]] (by rfl) rfl rfl ?_
 refine (whole_number_told.calls _ _ x13 z14 z16 x17 n18 _ (K.C 4 (by rw [hVs.out]; rfl)) (K.le 4 (by rw [hVs.out]; rfl)) A19.out).mono ?_
 rintro e W' ⟨v23, rfl, ho37, hb⟩
 replace K := K.addRI 3 0 hb ho37 (Nat.le_of_ble_eq_true rfl)
 clear hb ho37
 refine ⟨_, rfl, hK.out _ _ (HS.out _ _ _ _ K) fun hH => ?_⟩
 refine norm_ (a' := ?_) ?_ ?_
 rotate_left
 ·show Act.put _ (some 11) _ = _
  simp only [Act.put, kss, i64_w, i32_w]
  rfl
 refine pure_ (i := 6) (N := some 12) (v := ?_) (a' := ?_) #[true, true, true, true, true, true, true, false, false, false] rfl rfl (any_of HT_.out (by kernel_rfl)) (fun _ _ _ h => h) (Or.inl ⟨by rfl, ?_⟩) ?_ ?_
 rotate_left
 ·intro w'
  go_simp
  with_reducible rfl
 rotate_left
 ·simp only [Act.put, kss, i64_w, i32_w]
  rfl
 refine pure_ (i := 7) (N := some 13) (v := ?_) (a' := ?_) #[true, true, true, true, true, true, true, true, false, false] rfl rfl (any_of HT_.out (by kernel_rfl)) (fun _ _ _ h => h) (Or.inl ⟨by rfl, ?_⟩) ?_ ?_
 rotate_left
 ·intro w'
  go_simp
  with_reducible rfl
 rotate_left
 ·simp only [Act.put, kss, i64_w, i32_w]
  rfl
 clear hK Kc
 obtain ⟨P38, c39, e40⟩ := K.slice 5 (by rw [hVs.out]; rfl)
 subst e40
 rw [hBs.out, hVs.out, hOs.out] at K
 simp only [kls, klv] at K
 clear hBs hVs hOs HS hH
 refine kone2 (i := 8) #[true, true, true, true, true, true, true, true, true, false] 2 (.bool z16) (.slice P38 x17.length c39) K rfl rfl rfl (one_of HT_.out (by kernel_rfl)) (by decide) (by rfl) ?_ (fun W K => ⟨K.cell 0 rfl 0 rfl, K.cell 0 rfl 1 rfl, K.cell 1 rfl 0 rfl, K.cell 1 rfl 1 rfl⟩) ?_
 ·intro c0 c1 f0 f1
  first | (go_simp; done) | (go_simp; rfl)
 clear K
 intro W41 K
 simp only [kls, klv] at K
 refine pure_ (i := 9) (N := some 5) (v := ?_) (a' := ?_) #[true, true, true, true, true, true, true, true, true, true] rfl rfl (any_of HT_.out (by kernel_rfl)) (fun _ _ _ h => h) (Or.inl ⟨by rfl, ?_⟩) ?_ ?_
 rotate_left
 ·intro w'
  go_simp
  with_reducible rfl
 rotate_left
 ·simp only [Act.put, kss, i64_w, i32_w]
  rfl
 refine done_ (done_of HT_.out (by kernel_rfl)) ?_
 clear HT_ HW_
 simp only [Option.some.injEq, Prod.mk.injEq] at h
 obtain ⟨rfl, rfl, rfl⟩ := h
 go_wp2
 refine bodyPost_ret (results_list (rs := [.cell 4 25, .tmp 5]) rfl (by simp) (.cell g5 25 #[.bool z16, .slice P38 x17.length c39] (0, 0) _ rfl (K.u.heap 2 rfl) Tryd.underlying25 rfl (by kernel_rfl) (.tmp .nil))) rfl ?_
 exact ⟨_, rfl, K.u.R 0 rfl, K.u.below⟩
def whole_Sub.f (k : Nat) (a0_0 : Bool) (l0_1 : List Int) (a1_0 : Bool) (l1_1 : List Int) : Option (Bool × List Int × Int) := (whole_of.f k a0_0 l0_1).bind fun bt1005 => ((whole_of.f k a1_0 l1_1).bind fun bt1009 => ((whole_number_minus.f k bt1005.1 bt1005.2 bt1009.1 bt1009.2).bind fun bt1013 => ((whole_number_told.f bt1013.1 bt1013.2).bind fun bt1017 => (some (bt1017.1, bt1017.2.1, bt1017.2.2)))))
def whole_Sub.T1 : Bool × List (List Nat × List Nat) := (true, [([], []), ([0], [0]), ([], []), ([2, 1], [2]), ([1, 3, 3], [1, 3]), ([4, 4], [4]), ([5], [5]), ([5], [5]), ([6, 5, 0, 1, 2, 3, 4, 5, 6, 7], [6]), ([7, 8, 0, 1, 2, 3, 4, 5, 6, 7, 8], [7])])
def whole_Sub.B1 : List Nat := [0, 1, 0, 7, 15, 31, 63, 63, 255, 511]
theorem whole_Sub.tab1 : rtab .any (opsOf Tryd.f28 1) = whole_Sub.T1 := by kernel_rfl
theorem whole_Sub.bits1 : waitsOk whole_Sub.T1.2 whole_Sub.B1 = true := by kernel_rfl
theorem whole_Sub.calls (k : Nat) (a0_0 : Bool) (A0_1 : Option Addr) (c0_1 : Nat) (l0_1 : List Int) (a1_0 : Bool) (A1_1 : Option Addr) (c1_1 : Nat) (l1_1 : List Int) (r1 : Bool) (r2 : List Int) (r3 : Int) (w : World) (hr0_1 : Kd.C (Kd.int .u64) w A0_1 l0_1.length l0_1) (hc0_1 : l0_1.length ≤ c0_1) (hr1_1 : Kd.C (Kd.int .u64) w A1_1 l1_1.length l1_1) (hc1_1 : l1_1.length ≤ c1_1) (h : whole_Sub.f k a0_0 l0_1 a1_0 l1_1 = some (r1, r2, r3)) :
  Calls Tryd.prog 28 #[.agg #[.bool a0_0, .slice A0_1 l0_1.length c0_1], .agg #[.bool a1_0, .slice A1_1 l1_1.length c1_1]] w fun e w' => ∃ v1_ : Value, e = .returned (.tuple #[.agg #[.bool r1, v1_], .int .i64 r3]) ∧ Kd.R (Kd.int .u64) 59 w' w.heap.size (fun _ => True) v1_ r2 ∧ Below w.heap.size w w' := by
 have hu25 := Tryd.underlying25
 have K := Kp.refl w
 replace K := K.parV (Kd.V_mono (ok' := fun _ => True) (Kd.V_mk (e := 59) (base := 0) hc0_1 (Kd.C_F (Kd.heap_int .u64) hr0_1)) (fun _ h => trivial))
 clear hr0_1 hc0_1
 replace K := K.parV (Kd.V_mono (ok' := fun _ => True) (Kd.V_mk (e := 59) (base := 0) hc1_1 (Kd.C_F (Kd.heap_int .u64) hr1_1)) (fun _ h => trivial))
 clear hr1_1 hc1_1
 simp only [klv] at K
 rw [whole_Sub.f] at h
 replace h := bindA h
 obtain ⟨⟨x7, z8⟩, A9, h⟩ := h
 dsimp only at h
 replace h := bindA h
 obtain ⟨⟨x10, z11⟩, A12, h⟩ := h
 dsimp only at h
 replace h := bindA h
 obtain ⟨⟨x13, z14⟩, A15, h⟩ := h
 dsimp only at h
 replace h := bindA h
 obtain ⟨⟨z16, x17, n18⟩, A19, h⟩ := h
 dsimp only at h
 go_enter Tryd.func28, Tryd.ntmps28
 go_wp2_with (first | ((with_reducible refine gate_dst (N := 2) rfl ?_); refine kbe 2 #[.bool a0_0, .slice A0_1 l0_1.length c0_1] 25 ?_; intro g1 hg W2 hx hb; replace K := K.u.box hg hx hb; clear hg hx hb) | ((with_reducible refine gate_dst (N := 3) rfl ?_); refine kbe 3 #[.bool a1_0, .slice A1_1 l1_1.length c1_1] 25 ?_; intro g3 hg W4 hx hb; replace K := K.u.box hg hx hb; clear hg hx hb) | ((with_reducible refine gate_dst (N := 4) rfl ?_); refine kbe 4 #[.bool false, .slice none 0 0] 25 ?_; intro g5 hg W6 hx hb; replace K := K.u.box hg hx hb; clear hg hx hb))
 obtain ⟨Bs, Vs, Os, hBs, hVs, hOs, K⟩ := K.abs
 have HS : Aside0 (∀ l m o W, Kp w (Bs ++ l) m o W → W.cell? ⟨g1, 0, none⟩ = some (.bool a0_0) ∧ W.cell? ⟨g1, 1, none⟩ = some (.slice A0_1 l0_1.length c0_1) ∧ W.cell? ⟨g3, 0, none⟩ = some (.bool a1_0) ∧ W.cell? ⟨g3, 1, none⟩ = some (.slice A1_1 l1_1.length c1_1)) := ⟨fun l m o W K => by rw [hBs.out] at K; exact ⟨K.cell 0 rfl 0 rfl, K.cell 0 rfl 1 rfl, K.cell 1 rfl 0 rfl, K.cell 1 rfl 1 rfl⟩⟩
 refine kpstart (n := 10) (ds := []) (S := fun W => W.cell? ⟨g1, 0, none⟩ = some (.bool a0_0) ∧ W.cell? ⟨g1, 1, none⟩ = some (.slice A0_1 l0_1.length c0_1) ∧ W.cell? ⟨g3, 0, none⟩ = some (.bool a1_0) ∧ W.cell? ⟨g3, 1, none⟩ = some (.slice A1_1 l1_1.length c1_1)) #[false, false, false, false, false, false, false, false, false, false] (by kernel_rfl) rfl rfl K (HS.out [] _ _) (fun W24 K hH => ?_)
 refine with_tabW whole_Sub.tab1 whole_Sub.bits1 (fun HT_ HW_ => ?_)
 refine take_ (i := 0) (N := some 6) (v := ?_) (a' := ?_) #[true, false, false, false, false, false, false, false, false, false] rfl rfl (take_ofW HT_.out HW_.out (by kernel_rfl)) (fun _ _ _ h => h) (Or.inl ⟨by rfl, ?_⟩) hH ?_ ?_
 rotate_left
 ·rintro w' ⟨s0, s1, s2, s3⟩
  go_simp
  with_reducible rfl
 rotate_left
 ·simp only [Act.put, kss, i64_w, i32_w]
  rfl
 refine take_ (i := 2) (N := some 8) (v := ?_) (a' := ?_) #[true, false, true, false, false, false, false, false, false, false] rfl rfl (take_ofW HT_.out HW_.out (by kernel_rfl)) (fun _ _ _ h => h) (Or.inl ⟨by rfl, ?_⟩) hH ?_ ?_
 rotate_left
 ·rintro w' ⟨s0, s1, s2, s3⟩
  go_simp
  with_reducible rfl
 rotate_left
 ·simp only [Act.put, kss, i64_w, i32_w]
  rfl
 refine one_ (i := 1) (N := some 7) #[true, true, true, false, false, false, false, false, false, false] rfl rfl (one_of HT_.out (by kernel_rfl)) (by decide) (fun Kc hK => ?_)
 refine kgo Tryd.func56 #[.agg #[.bool a0_0, .slice A0_1 l0_1.length c0_1]] (by rfl) rfl rfl ?_
 refine (whole_of.calls _ a0_0 _ _ _ l0_1 x7 z8 _ (K.V 0 (by rw [hVs.out]; rfl)) A9.out).mono ?_
 rintro e W' ⟨v20, rfl, ho25, hb⟩
 replace K := K.addI 0 (fun _ => True) hb ho25 (fun _ h => h.t)
 clear hb ho25
 refine ⟨_, rfl, hK.out _ _ (HS.out _ _ _ _ K) fun hH => ?_⟩
 clear hK Kc
 refine norm_ (a' := ?_) ?_ ?_
 rotate_left
 ·show Act.put _ (some 7) _ = _
  simp only [Act.put, kss, i64_w, i32_w]
  rfl
 refine one_ (i := 3) (N := some 9) #[true, true, true, true, false, false, false, false, false, false] rfl rfl (one_of HT_.out (by kernel_rfl)) (by decide) (fun Kc hK => ?_)
 refine kgo Tryd.func56 #[.agg #[.bool a1_0, .slice A1_1 l1_1.length c1_1]] (by rfl) rfl rfl ?_
 refine (whole_of.calls _ a1_0 _ _ _ l1_1 x10 z11 _ (K.V 1 (by rw [hVs.out]; rfl)) A12.out).mono ?_
 rintro e W' ⟨v21, rfl, ho26, hb⟩
 replace K := K.addI 1 (fun _ => True) hb ho26 (fun _ h => h.t)
 clear hb ho26
 refine ⟨_, rfl, hK.out _ _ (HS.out _ _ _ _ K) fun hH => ?_⟩
 clear hK Kc
 refine norm_ (a' := ?_) ?_ ?_
 rotate_left
 ·show Act.put _ (some 9) _ = _
  simp only [Act.put, kss, i64_w, i32_w]
  rfl
 refine one_ (i := 4) (N := some 10) #[true, true, true, true, true, false, false, false, false, false] rfl rfl (one_of HT_.out (by kernel_rfl)) (by decide) (fun Kc hK => ?_)
 obtain ⟨P27, c28, e29⟩ := K.slice 2 (by rw [hVs.out]; rfl)
 subst e29
 obtain ⟨P30, c31, e32⟩ := K.slice 3 (by rw [hVs.out]; rfl)
 subst e32
 refine kgo Tryd.func62 #[.agg #[.slice P27 x7.length c28, .bool z8], .agg #[.slice P30 x10.length c31, .bool z11]] (by rfl) rfl rfl ?_
 refine (whole_number_minus.calls _ _ _ _ x7 z8 _ _ _ x10 z11 x13 z14 _ (K.V 2 (by rw [hVs.out]; rfl)) (K.V 3 (by rw [hVs.out]; rfl)) A15.out).mono ?_
 rintro e W' ⟨v22, rfl, ho33, hb⟩
 replace K := K.addI 2 (fun _ => True) hb ho33 (fun _ h => h.elim (fun h => h.t) fun h => h.t)
 clear hb ho33
 refine ⟨_, rfl, hK.out _ _ (HS.out _ _ _ _ K) fun hH => ?_⟩
 clear hK Kc
 refine norm_ (a' := ?_) ?_ ?_
 rotate_left
 ·show Act.put _ (some 10) _ = _
  simp only [Act.put, kss, i64_w, i32_w]
  rfl
 refine one_ (i := 5) (N := some 11) #[true, true, true, true, true, true, false, false, false, false] rfl rfl (one_of HT_.out (by kernel_rfl)) (by decide) (fun Kc hK => ?_)
 obtain ⟨P34, c35, e36⟩ := K.slice 4 (by rw [hVs.out]; rfl)
 subst e36
 refine kgo Tryd.func76 #[.agg #[.slice P34 x13.length c35, .bool z14]] (by rfl) rfl rfl ?_
 refine (whole_number_told.calls _ _ x13 z14 z16 x17 n18 _ (K.C 4 (by rw [hVs.out]; rfl)) (K.le 4 (by rw [hVs.out]; rfl)) A19.out).mono ?_
 rintro e W' ⟨v23, rfl, ho37, hb⟩
 replace K := K.addRI 3 0 hb ho37 (Nat.le_of_ble_eq_true rfl)
 clear hb ho37
 refine ⟨_, rfl, hK.out _ _ (HS.out _ _ _ _ K) fun hH => ?_⟩
 refine norm_ (a' := ?_) ?_ ?_
 rotate_left
 ·show Act.put _ (some 11) _ = _
  simp only [Act.put, kss, i64_w, i32_w]
  rfl
 refine pure_ (i := 6) (N := some 12) (v := ?_) (a' := ?_) #[true, true, true, true, true, true, true, false, false, false] rfl rfl (any_of HT_.out (by kernel_rfl)) (fun _ _ _ h => h) (Or.inl ⟨by rfl, ?_⟩) ?_ ?_
 rotate_left
 ·intro w'
  go_simp
  with_reducible rfl
 rotate_left
 ·simp only [Act.put, kss, i64_w, i32_w]
  rfl
 refine pure_ (i := 7) (N := some 13) (v := ?_) (a' := ?_) #[true, true, true, true, true, true, true, true, false, false] rfl rfl (any_of HT_.out (by kernel_rfl)) (fun _ _ _ h => h) (Or.inl ⟨by rfl, ?_⟩) ?_ ?_
 rotate_left
 ·intro w'
  go_simp
  with_reducible rfl
 rotate_left
 ·simp only [Act.put, kss, i64_w, i32_w]
  rfl
 clear hK Kc
 obtain ⟨P38, c39, e40⟩ := K.slice 5 (by rw [hVs.out]; rfl)
 subst e40
 rw [hBs.out, hVs.out, hOs.out] at K
 simp only [kls, klv] at K
 clear hBs hVs hOs HS hH
 refine kone2 (i := 8) #[true, true, true, true, true, true, true, true, true, false] 2 (.bool z16) (.slice P38 x17.length c39) K rfl rfl rfl (one_of HT_.out (by kernel_rfl)) (by decide) (by rfl) ?_ (fun W K => ⟨K.cell 0 rfl 0 rfl, K.cell 0 rfl 1 rfl, K.cell 1 rfl 0 rfl, K.cell 1 rfl 1 rfl⟩) ?_
 ·intro c0 c1 f0 f1
  first | (go_simp; done) | (go_simp; rfl)
 clear K
 intro W41 K
 simp only [kls, klv] at K
 refine pure_ (i := 9) (N := some 5) (v := ?_) (a' := ?_) #[true, true, true, true, true, true, true, true, true, true] rfl rfl (any_of HT_.out (by kernel_rfl)) (fun _ _ _ h => h) (Or.inl ⟨by rfl, ?_⟩) ?_ ?_
 rotate_left
 ·intro w'
  go_simp
  with_reducible rfl
 rotate_left
 ·simp only [Act.put, kss, i64_w, i32_w]
  rfl
 refine done_ (done_of HT_.out (by kernel_rfl)) ?_
 clear HT_ HW_
 simp only [Option.some.injEq, Prod.mk.injEq] at h
 obtain ⟨rfl, rfl, rfl⟩ := h
 go_wp2
 refine bodyPost_ret (results_list (rs := [.cell 4 25, .tmp 5]) rfl (by simp) (.cell g5 25 #[.bool z16, .slice P38 x17.length c39] (0, 0) _ rfl (K.u.heap 2 rfl) Tryd.underlying25 rfl (by kernel_rfl) (.tmp .nil))) rfl ?_
 exact ⟨_, rfl, K.u.R 0 rfl, K.u.below⟩
def whole_Cmp.f (k : Nat) (a0_0 : Bool) (l0_1 : List Int) (a1_0 : Bool) (l1_1 : List Int) : Option (Int) := (whole_of.f k a0_0 l0_1).bind fun bt1024 => ((whole_of.f k a1_0 l1_1).bind fun bt1028 => ((whole_number_cmp.f k bt1024.1 bt1024.2 bt1028.1 bt1028.2).bind fun t1032 => (some t1032)))
theorem whole_Cmp.calls (k : Nat) (a0_0 : Bool) (A0_1 : Option Addr) (c0_1 : Nat) (l0_1 : List Int) (a1_0 : Bool) (A1_1 : Option Addr) (c1_1 : Nat) (l1_1 : List Int) (r : Int) (w : World) (hr0_1 : Kd.C (Kd.int .u64) w A0_1 l0_1.length l0_1) (hc0_1 : l0_1.length ≤ c0_1) (hr1_1 : Kd.C (Kd.int .u64) w A1_1 l1_1.length l1_1) (hc1_1 : l1_1.length ≤ c1_1) (h : whole_Cmp.f k a0_0 l0_1 a1_0 l1_1 = some r) :
  Calls Tryd.prog 30 #[.agg #[.bool a0_0, .slice A0_1 l0_1.length c0_1], .agg #[.bool a1_0, .slice A1_1 l1_1.length c1_1]] w fun e w' => e = .returned (.int .i64 r) ∧ Below w.heap.size w w' := by
 have hu25 := Tryd.underlying25
 have K := Kp.refl w
 replace K := K.parV (Kd.V_mono (ok' := fun _ => True) (Kd.V_mk (e := 59) (base := 0) hc0_1 (Kd.C_F (Kd.heap_int .u64) hr0_1)) (fun _ h => trivial))
 clear hr0_1 hc0_1
 replace K := K.parV (Kd.V_mono (ok' := fun _ => True) (Kd.V_mk (e := 59) (base := 0) hc1_1 (Kd.C_F (Kd.heap_int .u64) hr1_1)) (fun _ h => trivial))
 clear hr1_1 hc1_1
 simp only [klv] at K
 rw [whole_Cmp.f] at h
 replace h := bindA h
 obtain ⟨⟨x5, z6⟩, A7, h⟩ := h
 dsimp only at h
 replace h := bindA h
 obtain ⟨⟨x8, z9⟩, A10, h⟩ := h
 dsimp only at h
 replace h := bindA h
 obtain ⟨n11, A12, h⟩ := h
 go_enter Tryd.func30, Tryd.ntmps30
 go_wp2_with (first | ((with_reducible refine gate_dst (N := 2) rfl ?_); refine kbe 2 #[.bool a0_0, .slice A0_1 l0_1.length c0_1] 25 ?_; intro g1 hg W2 hx hb; replace K := K.u.box hg hx hb; clear hg hx hb) | ((with_reducible refine gate_dst (N := 3) rfl ?_); refine kbe 3 #[.bool a1_0, .slice A1_1 l1_1.length c1_1] 25 ?_; intro g3 hg W4 hx hb; replace K := K.u.box hg hx hb; clear hg hx hb))
 obtain ⟨Bs, Vs, Os, hBs, hVs, hOs, K⟩ := K.abs
 have HS : Aside0 (∀ l m o W, Kp w (Bs ++ l) m o W → W.cell? ⟨g1, 0, none⟩ = some (.bool a0_0) ∧ W.cell? ⟨g1, 1, none⟩ = some (.slice A0_1 l0_1.length c0_1) ∧ W.cell? ⟨g3, 0, none⟩ = some (.bool a1_0) ∧ W.cell? ⟨g3, 1, none⟩ = some (.slice A1_1 l1_1.length c1_1)) := ⟨fun l m o W K => by rw [hBs.out] at K; exact ⟨K.cell 0 rfl 0 rfl, K.cell 0 rfl 1 rfl, K.cell 1 rfl 0 rfl, K.cell 1 rfl 1 rfl⟩⟩
 refine kpstart (n := 6) (ds := []) (S := fun W => W.cell? ⟨g1, 0, none⟩ = some (.bool a0_0) ∧ W.cell? ⟨g1, 1, none⟩ = some (.slice A0_1 l0_1.length c0_1) ∧ W.cell? ⟨g3, 0, none⟩ = some (.bool a1_0) ∧ W.cell? ⟨g3, 1, none⟩ = some (.slice A1_1 l1_1.length c1_1)) #[false, false, false, false, false, false] (by kernel_rfl) rfl rfl K (HS.out [] _ _) (fun W15 K hH => ?_)
 refine take_ (i := 0) (N := some 5) (v := ?_) (a' := ?_) #[true, false, false, false, false, false] rfl rfl (by kernel_rfl) (fun _ _ _ h => h) (Or.inl ⟨by rfl, ?_⟩) hH ?_ ?_
 rotate_left
 ·rintro w' ⟨s0, s1, s2, s3⟩
  go_simp
  with_reducible rfl
 rotate_left
 ·simp only [Act.put, kss, i64_w, i32_w]
  rfl
 refine take_ (i := 2) (N := some 7) (v := ?_) (a' := ?_) #[true, false, true, false, false, false] rfl rfl (by kernel_rfl) (fun _ _ _ h => h) (Or.inl ⟨by rfl, ?_⟩) hH ?_ ?_
 rotate_left
 ·rintro w' ⟨s0, s1, s2, s3⟩
  go_simp
  with_reducible rfl
 rotate_left
 ·simp only [Act.put, kss, i64_w, i32_w]
  rfl
 refine one_ (i := 1) (N := some 6) #[true, true, true, false, false, false] rfl rfl (by kernel_rfl) (by decide) (fun Kc hK => ?_)
 refine kgo Tryd.func56 #[.agg #[.bool a0_0, .slice A0_1 l0_1.length c0_1]] (by rfl) rfl rfl ?_
 refine (whole_of.calls _ a0_0 _ _ _ l0_1 x5 z6 _ (K.V 0 (by rw [hVs.out]; rfl)) A7.out).mono ?_
 rintro e W' ⟨v13, rfl, ho16, hb⟩
 replace K := K.addI 0 (fun _ => True) hb ho16 (fun _ h => h.t)
 clear hb ho16
 refine ⟨_, rfl, hK.out _ _ (HS.out _ _ _ _ K) fun hH => ?_⟩
 clear hK Kc
 refine norm_ (a' := ?_) ?_ ?_
 rotate_left
 ·show Act.put _ (some 6) _ = _
  simp only [Act.put, kss, i64_w, i32_w]
  rfl
 refine one_ (i := 3) (N := some 8) #[true, true, true, true, false, false] rfl rfl (by kernel_rfl) (by decide) (fun Kc hK => ?_)
 refine kgo Tryd.func56 #[.agg #[.bool a1_0, .slice A1_1 l1_1.length c1_1]] (by rfl) rfl rfl ?_
 refine (whole_of.calls _ a1_0 _ _ _ l1_1 x8 z9 _ (K.V 1 (by rw [hVs.out]; rfl)) A10.out).mono ?_
 rintro e W' ⟨v14, rfl, ho17, hb⟩
 replace K := K.addI 1 (fun _ => True) hb ho17 (fun _ h => h.t)
 clear hb ho17
 refine ⟨_, rfl, hK.out _ _ (HS.out _ _ _ _ K) fun hH => ?_⟩
 clear hK Kc
 refine norm_ (a' := ?_) ?_ ?_
 rotate_left
 ·show Act.put _ (some 8) _ = _
  simp only [Act.put, kss, i64_w, i32_w]
  rfl
 refine one_ (i := 4) (N := some 9) #[true, true, true, true, true, false] rfl rfl (by kernel_rfl) (by decide) (fun Kc hK => ?_)
 obtain ⟨P18, c19, e20⟩ := K.slice 2 (by rw [hVs.out]; rfl)
 subst e20
 obtain ⟨P21, c22, e23⟩ := K.slice 3 (by rw [hVs.out]; rfl)
 subst e23
 refine kgo Tryd.func80 #[.agg #[.slice P18 x5.length c19, .bool z6], .agg #[.slice P21 x8.length c22, .bool z9]] (by rfl) rfl rfl ?_
 refine (whole_number_cmp.calls _ _ _ x5 z6 _ _ x8 z9 n11 _ (K.C 2 (by rw [hVs.out]; rfl)) (K.le 2 (by rw [hVs.out]; rfl)) (K.C 3 (by rw [hVs.out]; rfl)) (K.le 3 (by rw [hVs.out]; rfl)) A12.out).mono ?_
 rintro e W' ⟨rfl, hb⟩
 replace K := K.up hb
 clear hb
 refine ⟨_, rfl, hK.out _ _ (HS.out _ _ _ _ K) fun hH => ?_⟩
 refine norm_ (a' := ?_) ?_ ?_
 rotate_left
 ·show Act.put _ (some 9) _ = _
  simp only [Act.put, kss, i64_w, i32_w]
  rfl
 refine pure_ (i := 5) (N := some 4) (v := ?_) (a' := ?_) #[true, true, true, true, true, true] rfl rfl (by kernel_rfl) (fun _ _ _ h => h) (Or.inl ⟨by rfl, ?_⟩) ?_ ?_
 rotate_left
 ·intro w'
  go_simp
  with_reducible rfl
 rotate_left
 ·simp only [Act.put, kss, i64_w, i32_w]
  rfl
 clear hK Kc
 rw [hBs.out, hVs.out, hOs.out] at K
 simp only [kls, klv] at K
 clear hBs hVs hOs HS hH
 refine done_ (by kernel_rfl) ?_
 simp only [Option.some.injEq] at h
 subst h
 go_wp2
 go_ret
 exact ⟨rfl, K.u.below⟩
end Go.Proofs.YtodhkpdcpneeeaaDoor.PDv
namespace Go.Proofs.YtodhkpdcpneeeaaDoor.PDv
open Go.RowKit Go.Proofs.YtodhkpdcpneeeaaDoorW.PrintWords Go.Proofs.YtodhkpdcpneeeaaDoorW.PrintLast Go.Proofs.YtodhkpdcpneeeaaDoorW.PrintMore
open Go.Proofs.YtodhkpdcpneeeaaDoor.Mine
attribute [local go_sem] max2_int min2_int max_two min_two max_three min_three max_four min_four
set_option linter.unusedVariables false
set_option linter.unusedSimpArgs false
def whole_Abs.f (k : Nat) (a0_0 : Bool) (l0_1 : List Int) : Option (Bool × List Int) := (whole_of.f k a0_0 l0_1).bind fun bt1035 => ((whole_signed.f bt1035.1 false).bind fun bt1039 => ((whole_number_out.f bt1039.1 bt1039.2).bind fun bt1043 => (some (bt1043.1, bt1043.2))))
theorem whole_Abs.calls (k : Nat) (a0_0 : Bool) (A0_1 : Option Addr) (c0_1 : Nat) (l0_1 : List Int) (r1 : Bool) (r2 : List Int) (w : World) (hr0_1 : Kd.C (Kd.int .u64) w A0_1 l0_1.length l0_1) (hc0_1 : l0_1.length ≤ c0_1) (h : whole_Abs.f k a0_0 l0_1 = some (r1, r2)) :
  Calls Tryd.prog 44 #[.agg #[.bool a0_0, .slice A0_1 l0_1.length c0_1]] w fun e w' => ∃ v1_ : Value, e = .returned (.agg #[.bool r1, v1_]) ∧ Kd.R (Kd.int .u64) 59 w' w.heap.size (fun _ => True) v1_ r2 ∧ Below w.heap.size w w' := by
 have hu25 := Tryd.underlying25
 have hu62 := Tryd.underlying62
 have hfd62_0 : ∀ (v0_ v1_ : Value) (W_ : World), (Instr.field 62 (.agg #[v0_, v1_]) 0).run Tryd.prog W_ = .ok (v0_) W_ := fun _ _ _ => by kernel_rfl
 have HR0_1 := Aside0.mk hr0_1
 have HC0_1 := Aside0.mk hc0_1
 clear hr0_1 hc0_1
 have HB := Aside0.mk (Below.refl w.heap.size w)
 have H : ((whole_of.f k a0_0 l0_1).bind fun bt1035 => ((whole_signed.f bt1035.1 false).bind fun bt1039 => ((whole_number_out.f bt1039.1 bt1039.2).bind fun bt1043 => (some (bt1043.1, bt1043.2))))) = some (r1, r2) := h
 clear h
 replace H := Option.bind_eq_some_iff.mp H
 obtain ⟨⟨t1035, t1038⟩, A20, H⟩ := H
 replace H : ((whole_signed.f t1035 false).bind fun bt1039 => ((whole_number_out.f bt1039.1 bt1039.2).bind fun bt1043 => (some (bt1043.1, bt1043.2)))) = some (r1, r2) := H
 have A2 := Aside0.mk A20
 clear A20
 replace H := Option.bind_eq_some_iff.mp H
 obtain ⟨⟨t1039, t1042⟩, A30, H⟩ := H
 replace H : ((whole_number_out.f t1039 t1042).bind fun bt1043 => (some (bt1043.1, bt1043.2))) = some (r1, r2) := H
 have A3 := Aside0.mk A30
 clear A30
 replace H := Option.bind_eq_some_iff.mp H
 obtain ⟨⟨t1043, t1044⟩, A40, H⟩ := H
 replace H : (some (t1043, t1044)) = some (r1, r2) := H
 have A4 := Aside0.mk A40
 clear A40
 simp only [Option.some.injEq, Prod.mk.injEq] at H
 obtain ⟨rfl, rfl⟩ := H
 go_enter Tryd.func44, Tryd.ntmps44
 go_wp2_with (first | ((with_reducible refine gate_dst (N := 1) rfl ?_); refine kbe 1 #[.bool a0_0, .slice A0_1 l0_1.length c0_1] 25 ?_; intro gb1033 hg w5 hbox hb; have BK1033 := Aside0.mk (hbox); have GW1033 := kbz hg HB; have GE1033 := kbz hg HB; replace HB := kbs HB hb; clear hb hbox hg) | ((with_reducible refine gate_dst (N := 2) rfl ?_); refine kbe 2 #[.bool false, .slice none 0 0] 25 ?_; intro gb1034 hg w6 hbox hb; have BK1034 := Aside0.mk (hbox); have GW1034 := kbz hg HB; have GE1034 := kbz hg HB; replace HB := kbs HB hb; have NB1033_1034 := knl hg BK1033; have NB1034_1033 := kng hg BK1033; replace BK1033 := kbb BK1033 hb; clear hb hbox hg; have hnb7 := NB1033_1034.out; have hnc7 := NB1034_1033.out; have hcz8_0 : w6.cell? ⟨gb1033, 0, none⟩ = some (.bool a0_0) := (blk_cell BK1033.out 0).trans rfl; have hcz8_1 : w6.cell? ⟨gb1033, 1, none⟩ = some (.slice A0_1 l0_1.length c0_1) := (blk_cell BK1033.out 1).trans rfl; have hfz8_0 := blk_frozen BK1033.out 0; have hfz8_1 := blk_frozen BK1033.out 1) | ((with_reducible refine gate_callee (f := 56) rfl ?_); refine kgl (some 4) rfl rfl Tryd.func56 #[.agg #[.bool a0_0, .slice A0_1 l0_1.length c0_1]] rfl ?_; (with_reducible refine (whole_of.calls k a0_0 (fun k_ => k_ < w.heap.size) _ _ l0_1 t1035 t1038 _ ?side1 A2.out).mono ?_); (case side1 => exact Kd.V_mk HC0_1.out (Kd.F_below (Kd.C_F (Kd.heap_int .u64) HR0_1.out) (khu HB.out))); rintro e w9 ⟨v1036, rfl, ho0, hb⟩; refine ⟨_, rfl, ?_⟩; have HO1037 := Aside0.mk (Kd.V_lower (Kd.V_mono (ok' := fun k_ => k_ ≠ gb1033 ∧ k_ ≠ gb1034) ho0 (fun k_ hk_ => ⟨koe GW1033 BK1033 hk_, koe GW1034 BK1034 hk_⟩)) (below_size (khu HB.out))); replace BK1033 := kbb BK1033 hb; replace BK1034 := kbb BK1034 hb; replace HB := kbs HB hb; (try clear hb); (try clear hb2); (try clear hk); (try clear hi); (try clear ho0); obtain ⟨Ao10, co10, eo10⟩ := Kd.V_slice HO1037.out; subst eo10) | ((with_reducible refine gate_callee (f := 60) rfl ?_); refine kgl (some 6) rfl rfl Tryd.func60 #[.slice Ao10 t1035.length co10, .bool false] rfl ?_; (with_reducible refine (whole_signed.calls (fun k_ => (k_ ≠ gb1033 ∧ k_ ≠ gb1034)) _ _ t1035 false t1039 t1042 _ ?side1 A3.out).mono ?_); (case side1 => exact HO1037.out); rintro e w11 ⟨v1040, rfl, ho0, hb⟩; refine ⟨_, rfl, ?_⟩; replace HO1037 := kvb HO1037 hb; have HO1041 := Aside0.mk (Kd.V_lower (Kd.V_mono (ok' := fun k_ => k_ ≠ gb1033 ∧ k_ ≠ gb1034) ho0 (fun k_ hk_ => ⟨Or.elim hk_ (fun hs_ => hs_.1) (kfb BK1033), Or.elim hk_ (fun hs_ => hs_.2) (kfb BK1034)⟩)) (below_size (khu HB.out))); replace BK1033 := kbb BK1033 hb; replace BK1034 := kbb BK1034 hb; replace HB := kbs HB hb; (try clear hb); (try clear hb2); (try clear hk); (try clear hi); (try clear ho0); obtain ⟨Ao12, co12, eo12⟩ := Kd.V_slice HO1041.out; subst eo12) | ((with_reducible refine gate_callee (f := 84) rfl ?_); refine kgl (some 7) rfl rfl Tryd.func84 #[.agg #[.slice Ao12 t1039.length co12, .bool t1042]] rfl ?_; (with_reducible refine (whole_number_out.calls _ _ t1039 t1042 t1043 t1044 _ ?side1 ?side2 A4.out).mono ?_); (case side1 => repeat (first | exact (Kd.V_reads' HO1041.out).2.2 | (with_reducible refine Kd.C_alloc ?_ _) | (with_reducible refine Kd.C_drewN ?_ _) | (with_reducible refine Kd.C_drew ?_))); (case side2 => exact (Kd.V_reads' HO1041.out).2.1); rintro e w13 ⟨v1045, rfl, ho0, hb⟩; refine ⟨_, rfl, ?_⟩; replace HO1037 := Aside0.mk (Kd.V_elder' (kvu HO1037.out) (Kd.R_base ho0) hb); replace HO1041 := Aside0.mk (Kd.V_elder' (kvu HO1041.out) (Kd.R_base ho0) hb); have HO1046 := Aside0.mk (Kd.R_lower ho0 (below_size (khu HB.out))); replace BK1033 := kbb BK1033 hb; replace BK1034 := kbb BK1034 hb; replace HB := kbs HB hb; (try clear hb); (try clear hb2); (try clear hk); (try clear hi); (try clear ho0); have hcz14_0 : w13.cell? ⟨gb1034, 0, none⟩ = some (.bool false) := (blk_cell BK1034.out 0).trans rfl; have hcz14_1 : w13.cell? ⟨gb1034, 1, none⟩ = some (.slice none 0 0) := (blk_cell BK1034.out 1).trans rfl; have hfz14_0 := blk_frozen BK1034.out 0; have hfz14_1 := blk_frozen BK1034.out 1; obtain ⟨Ao15, co15, eo15⟩ := Kd.R_slice HO1046.out; subst eo15))
 refine bodyPost_ret (results_cell_row rfl _ _ gb1034 25 #[.bool t1043, .slice Ao15 t1044.length co15] (0, 0) _ rfl (kpu #[.bool t1043, .slice none 0 0] 1 (kpu #[.bool false, .slice none 0 0] 0 (kbu BK1034.out))) Tryd.underlying25 rfl (by kernel_rfl)) rfl ?_
 exact ⟨_, by first | rfl | (simp [errW_none, errW_some] <;> rfl) | (simp [*, errW_none, errW_some] <;> rfl), by (with_reducible repeat (first | apply Kd.R_alloc | apply Kd.R_drewN | apply Kd.R_drew)); exact Kd.R_mono (Kd.R_far (p := ⟨gb1034, 1, none⟩) (Kd.R_far (p := ⟨gb1034, 0, none⟩) (Kd.R_types HO1046.out BK1034.out (by decide)) (fun _ hk => hk.2) (.bool t1043)) (fun _ hk => hk.2) (.slice Ao15 t1044.length co15)) (fun _ hk => trivial), by repeat (first | (with_reducible first | exact HB.out | apply below_alloc | apply pw_below_drewN | apply below_drew1 | refine below_set ?_ GE1033.out | refine below_set ?_ GE1034.out) | exact HB.out)⟩
end Go.Proofs.YtodhkpdcpneeeaaDoor.PDv
namespace Go.Proofs.YtodhkpdcpneeeaaDoor.PDv
open Go.RowKit Go.Proofs.YtodhkpdcpneeeaaDoorW.PrintWords Go.Proofs.YtodhkpdcpneeeaaDoorW.PrintLast Go.Proofs.YtodhkpdcpneeeaaDoorW.PrintMore
open Go.Proofs.YtodhkpdcpneeeaaDoor.Mine
attribute [local go_sem] max2_int min2_int max_two min_two max_three min_three max_four min_four
set_option linter.unusedVariables false
set_option linter.unusedSimpArgs false
mutual
def whole_amount_times.l0 : Nat → List Int → List Int → List Int → Int → Int → Option (List Int)
 | 0, _, _, _, _, _ => none
 | k + 1, x1, x5, x20, x21, x22 => if x22 < x21 then (if 0 ≤ x22 then (if x22 < (x20.length : Int) then (whole_amount_times.l1 k x1 x5 x22 (rd x20 x22) 0 x20 x21 x22 x1 (x1.length : Int) 0) else (none)) else (none)) else ((whole_trimmed.f k x5).bind fun t1050 => (some t1050))
def whole_amount_times.l1 : Nat → List Int → List Int → Int → Int → Int → List Int → Int → Int → List Int → Int → Int → Option (List Int)
 | 0, _, _, _, _, _, _, _, _, _, _, _ => none
 | k + 1, x1, x5, x6, x7, x8, x20, x21, x22, x27, x28, x29 => if x29 < x28 then (if 0 ≤ x29 then (if x29 < (x27.length : Int) then ((bits_Mul64.f x7 (rd x27 x29)).bind fun bt1055 => (if 0 ≤ (wrap64 (x6 + x29)) then (if (wrap64 (x6 + x29)) < (x5.length : Int) then ((bits_Add64.f bt1055.2 (rd x5 (wrap64 (x6 + x29))) 0).bind fun bt1058 => ((bits_Add64.f bt1058.1 x8 0).bind fun bt1060 => (whole_amount_times.l1 k x1 (x5.set ((wrap64 (x6 + x29)) : Int).toNat bt1060.1) x6 x7 (IntKind.u64.wrap ((IntKind.u64.wrap (bt1055.1 + bt1058.2)) + bt1060.2)) x20 x21 x22 x27 x28 (wrap64 (x29 + 1))))) else (none)) else (none))) else (none)) else (none)) else (if 0 ≤ (wrap64 (x6 + (x1.length : Int))) then (if (wrap64 (x6 + (x1.length : Int))) < (x5.length : Int) then (whole_amount_times.l0 k x1 (x5.set ((wrap64 (x6 + (x1.length : Int))) : Int).toNat x8) x20 x21 (wrap64 (x22 + 1))) else (none)) else (none))
end
def whole_amount_times.f (k : Nat) (l0 : List Int) (l1 : List Int) : Option (List Int) := if 0 ≤ (wrap64 ((l0.length : Int) + (l1.length : Int))) then (if (wrap64 ((l0.length : Int) + (l1.length : Int)) : Int).toNat ≤ 35184372088832 then (whole_amount_times.l0 k l1 (List.replicate (wrap64 ((l0.length : Int) + (l1.length : Int)) : Int).toNat 0) l0 (l0.length : Int) 0) else (none)) else (none)
theorem whole_amount_times.calls (k : Nat) (A0 : Option Addr) (c0 : Nat) (l0 : List Int) (A1 : Option Addr) (c1 : Nat) (l1 : List Int) (r : List Int) (w : World) (hr0 : Kd.C (Kd.int .u64) w A0 l0.length l0) (hc0 : l0.length ≤ c0) (hr1 : Kd.C (Kd.int .u64) w A1 l1.length l1) (hc1 : l1.length ≤ c1) (h : whole_amount_times.f k l0 l1 = some r) :
  Calls Tryd.prog 111 #[.slice A0 l0.length c0, .slice A1 l1.length c1] w fun e w' => ∃ v0_ : Value, e = .returned (v0_) ∧ Kd.V (Kd.int .u64) 59 w' w.heap.size (fun k_ => (w.heap.size ≤ k_)) v0_ r ∧ Below w.heap.size w w' := by
 have HR0 := Aside0.mk hr0
 have HC0 := Aside0.mk hc0
 clear hr0 hc0
 have HR1 := Aside0.mk hr1
 have HC1 := Aside0.mk hc1
 clear hr1 hc1
 have HB := Aside0.mk (Below.refl w.heap.size w)
 have H : (if 0 ≤ (wrap64 ((l0.length : Int) + (l1.length : Int))) then (if (wrap64 ((l0.length : Int) + (l1.length : Int)) : Int).toNat ≤ 35184372088832 then (whole_amount_times.l0 k l1 (List.replicate (wrap64 ((l0.length : Int) + (l1.length : Int)) : Int).toNat 0) l0 (l0.length : Int) 0) else (none)) else (none)) = some r := h
 clear h
 obtain ⟨ji3, hji3⟩ : ∃ j_ : Int, (wrap64 ((l0.length : Int) + (l1.length : Int))) = j_ := ⟨_, rfl⟩
 replace H : (if 0 ≤ (ji3) then (if (ji3 : Int).toNat ≤ 35184372088832 then (whole_amount_times.l0 k l1 (List.replicate (ji3 : Int).toNat 0) l0 (l0.length : Int) 0) else (none)) else (none)) = some r := by first | (rw [hji3] at H; exact H) | (simp only [hji3] at H ⊢; exact H)
 have hji3w : (IntKind.i64.wrap ((l0.length : Int) + (l1.length : Int))) = ji3 := (i64_w _).trans hji3
 by_cases c4 : 0 ≤ (ji3)
 ·rw [if_pos c4] at H
  have c4b0 := eq_true c4
  have c4b1 : decide (0 ≤ (ji3)) = true := decide_eq_true c4
  clear c4
  by_cases c5 : (ji3 : Int).toNat ≤ 35184372088832
  ·rw [if_pos c5] at H
   have c5b0 := eq_true c5
   have c5b1 : decide ((ji3 : Int).toNat ≤ 35184372088832) = true := decide_eq_true c5
   clear c5
   obtain ⟨y1047, hy1047⟩ : ∃ y_ : List Int, y_ = (List.replicate (ji3 : Int).toNat 0) := ⟨_, rfl⟩
   replace H : (whole_amount_times.l0 k l1 y1047 l0 (l0.length : Int) 0) = some r := by first | (rw [hy1047]; with_reducible exact H) | (have H2_ := (Option.bind_some _ _).symm.trans H; rw [hy1047]; with_reducible exact H2_) | (have H2_ := (Option.bind_some _ _).symm.trans H; with_reducible exact H2_) | with_reducible exact H | (rw [hy1047]; exact H) | exact H
   have Ny1047 := Aside0.mk hy1047
   clear hy1047
   have H' := Aside0.mk H
   clear H
   go_enter Tryd.func111, Tryd.ntmps111
   go_wp2_with (first | ((with_reducible refine gate_dst (N := 19) rfl ?_); refine Kd.R_make (Kd.int .u64) _ 59 rfl (N := 19) rfl 22 _ _ rfl ji3 rfl rfl Tryd.underlying22 (.int .u64 0) 8 info59 rfl (by decide) (by omega) 0 (ok := fun _ => True) (okp := fun _ => True) rfl (fun _ hk => hk) trivial (of_decide_eq_true ‹_›) (Nat.le_trans (Nat.mul_le_mul_right _ (of_decide_eq_true ‹_› : ji3.toNat ≤ 35184372088832)) (by omega)) (Below.refl _ _) (Nat.le_refl _) ?_; intro v1048 w6 ho7 hb hg_ hnew_; clear hg_ hnew_; (first | rw [← Ny1047.out] at ho7 | (simp only [Int.reduceToNat] at ho7; rw [← Ny1047.out] at ho7)); have HO1049 := Aside0.mk (Kd.R_lower (Kd.R_newM (M := fun k_ => (w.heap.size ≤ k_)) ho7 (below_size (khu HB.out)) (fun k_ h_ => h_)) (below_size (khu HB.out))); replace HB := kbs HB hb; clear hb ho7))
   go_loopg [22] k (fun kq v22 w' => ∃ (x5_1 : List Int) (x22_1 : Int), v22 = .int .i64 x22_1 ∧ Aside0 (whole_amount_times.l0 kq l1 x5_1 l0 (l0.length : Int) x22_1 = some r) ∧ Aside0 (kq ≤ k) ∧ Aside0 (Kd.R (Kd.int .u64) 59 w' w.heap.size (fun k_ => (w.heap.size ≤ k_)) v1048 x5_1) ∧ Aside0 (Below w.heap.size w w'))
   case atStart => exact ⟨(y1047), (0), (by first | rfl | (simp; done) | (simp [*]; done)), H', ⟨Nat.le_refl _⟩, ⟨by (with_reducible repeat (first | apply Kd.R_alloc | apply Kd.R_drewN | apply Kd.R_drew)); exact Kd.R_mono HO1049.out (fun _ hk => hk.1)⟩, ⟨by repeat (first | (with_reducible first | exact HB.out | apply below_alloc | apply pw_below_drewN | apply below_drew1) | exact HB.out)⟩⟩
   case round =>
    clear H'
    try clear c1
    try clear p2
    try clear c4
    try clear c4b0
    try clear c4b1
    try clear c5
    try clear c5b0
    try clear c5b1
    try clear p6
    obtain ⟨x5_1, x22_1, rfl, HA, HK1, HO_5, HB⟩ := hrel
    cases gk with
    | zero => exact absurd HA.out (by simp [whole_amount_times.l0])
    | succ k1 =>
     have H := HA.out
     clear HA
     simp only [whole_amount_times.l0] at H
     by_cases c8 : x22_1 < (l0.length : Int)
     ·rw [if_pos c8] at H
      have c8b0 : decide (x22_1 < (l0.length : Int)) = true := decide_eq_true c8
      clear c8
      by_cases c9 : 0 ≤ x22_1
      ·rw [if_pos c9] at H
       have c9b0 : decide (0 ≤ x22_1) = true := decide_eq_true c9
       clear c9
       by_cases c10 : x22_1 < (l0.length : Int)
       ·rw [if_pos c10] at H
        have c10b0 : decide (x22_1 < (l0.length : Int)) = true := decide_eq_true c10
        clear c10
        have H' := Aside0.mk H
        clear H
        have p1053 : 0 ≤ (x22_1 : Int) := of_decide_eq_true ‹_›
        have q1053 : x22_1 < (l0.length : Int) := of_decide_eq_true ‹_›
        obtain ⟨ad1053, e1053, hx1053_0⟩ := Kd.at_int HR0.out x22_1 p1053 q1053
        cases e1053
        replace hx1053_0 := (HB.out.cell (World.block_lt_of_cell? w _ hx1053_0)).trans hx1053_0
        replace p1053 := eq_true p1053
        replace q1053 := eq_true q1053
        go_wp2
        go_loopg [8, 29] k1 (fun kq v8 v29 w' => ∃ (x5_2 : List Int) (x8_2 : Int) (x29_2 : Int), v8 = .int .u64 x8_2 ∧ v29 = .int .i64 x29_2 ∧ Aside0 (whole_amount_times.l1 kq l1 x5_2 x22_1 (rd l0 x22_1) x8_2 l0 (l0.length : Int) x22_1 l1 (l1.length : Int) x29_2 = some r) ∧ Aside0 (kq ≤ k1) ∧ Aside0 (Kd.R (Kd.int .u64) 59 w' w.heap.size (fun k_ => (w.heap.size ≤ k_)) v1048 x5_2) ∧ Aside0 (Below w.heap.size w w'))
        case atStart => exact ⟨(x5_1), (0), (0), (by first | rfl | (simp; done) | (simp [*]; done)), (by first | rfl | (simp; done) | (simp [*]; done)), H', ⟨Nat.le_refl _⟩, ⟨by (with_reducible repeat (first | apply Kd.R_alloc | apply Kd.R_drewN | apply Kd.R_drew)); exact HO_5.out⟩, ⟨by repeat (first | (with_reducible first | exact HB.out | apply below_alloc | apply pw_below_drewN | apply below_drew1) | exact HB.out)⟩⟩
        case round =>
         clear H'
         try clear c1
         try clear p1
         try clear q1
         try clear hx1
         try clear p2
         try clear c4
         try clear c4b0
         try clear c4b1
         try clear c5
         try clear c5b0
         try clear c5b1
         try clear p6
         try clear c8
         try clear c8b0
         try clear c9
         try clear c9b0
         try clear c10
         try clear c10b0
         try clear p10
         try clear q10
         try clear hx10
         try clear hx1053_0
         try clear p1053
         try clear p2
         try clear p6
         try clear q1053
         obtain ⟨x5_2, x8_2, x29_2, rfl, rfl, HA, HK2, HO_5, HB⟩ := hrel
         cases gk with
         | zero => exact absurd HA.out (by simp [whole_amount_times.l1])
         | succ k2 =>
          have H := HA.out
          clear HA
          simp only [whole_amount_times.l1] at H
          by_cases c11 : x29_2 < (l1.length : Int)
          ·rw [if_pos c11] at H
           have c11b0 : decide (x29_2 < (l1.length : Int)) = true := decide_eq_true c11
           clear c11
           by_cases c12 : 0 ≤ x29_2
           ·rw [if_pos c12] at H
            have c12b0 : decide (0 ≤ x29_2) = true := decide_eq_true c12
            clear c12
            by_cases c13 : x29_2 < (l1.length : Int)
            ·rw [if_pos c13] at H
             have c13b0 : decide (x29_2 < (l1.length : Int)) = true := decide_eq_true c13
             clear c13
             replace H := Option.bind_eq_some_iff.mp H
             obtain ⟨⟨t1055, t1056⟩, A140, H⟩ := H
             replace H : (if 0 ≤ (wrap64 (x22_1 + x29_2)) then (if (wrap64 (x22_1 + x29_2)) < (x5_2.length : Int) then ((bits_Add64.f t1056 (rd x5_2 (wrap64 (x22_1 + x29_2))) 0).bind fun bt1058 => ((bits_Add64.f bt1058.1 x8_2 0).bind fun bt1060 => (whole_amount_times.l1 k2 l1 (x5_2.set ((wrap64 (x22_1 + x29_2)) : Int).toNat bt1060.1) x22_1 (rd l0 x22_1) (IntKind.u64.wrap ((IntKind.u64.wrap (t1055 + bt1058.2)) + bt1060.2)) l0 (l0.length : Int) x22_1 l1 (l1.length : Int) (wrap64 (x29_2 + 1))))) else (none)) else (none)) = some r := H
             have A14 := Aside0.mk A140
             clear A140
             obtain ⟨ji15, hji15⟩ : ∃ j_ : Int, (wrap64 (x22_1 + x29_2)) = j_ := ⟨_, rfl⟩
             replace H : (if 0 ≤ (ji15) then (if (ji15) < (x5_2.length : Int) then ((bits_Add64.f t1056 (rd x5_2 (ji15)) 0).bind fun bt1058 => ((bits_Add64.f bt1058.1 x8_2 0).bind fun bt1060 => (whole_amount_times.l1 k2 l1 (x5_2.set ((ji15) : Int).toNat bt1060.1) x22_1 (rd l0 x22_1) (IntKind.u64.wrap ((IntKind.u64.wrap (t1055 + bt1058.2)) + bt1060.2)) l0 (l0.length : Int) x22_1 l1 (l1.length : Int) (wrap64 (x29_2 + 1))))) else (none)) else (none)) = some r := by first | (rw [hji15] at H; exact H) | (simp only [hji15] at H ⊢; exact H)
             (try rw [hji15] at A14)
             have hji15w : (IntKind.i64.wrap (x22_1 + x29_2)) = ji15 := (i64_w _).trans hji15
             by_cases c16 : 0 ≤ (ji15)
             ·rw [if_pos c16] at H
              have c16b0 : decide (0 ≤ (ji15)) = true := decide_eq_true c16
              clear c16
              by_cases c17 : (ji15) < (x5_2.length : Int)
              ·rw [if_pos c17] at H
               have c17b0 : decide ((ji15) < (x5_2.length : Int)) = true := decide_eq_true c17
               clear c17
               replace H := Option.bind_eq_some_iff.mp H
               obtain ⟨⟨t1058, t1059⟩, A180, H⟩ := H
               replace H : ((bits_Add64.f t1058 x8_2 0).bind fun bt1060 => (whole_amount_times.l1 k2 l1 (x5_2.set ((ji15) : Int).toNat bt1060.1) x22_1 (rd l0 x22_1) (IntKind.u64.wrap ((IntKind.u64.wrap (t1055 + t1059)) + bt1060.2)) l0 (l0.length : Int) x22_1 l1 (l1.length : Int) (wrap64 (x29_2 + 1)))) = some r := H
               have A18 := Aside0.mk A180
               clear A180
               replace H := Option.bind_eq_some_iff.mp H
               obtain ⟨⟨t1060, t1061⟩, A190, H⟩ := H
               replace H : (whole_amount_times.l1 k2 l1 (x5_2.set ((ji15) : Int).toNat t1060) x22_1 (rd l0 x22_1) (IntKind.u64.wrap ((IntKind.u64.wrap (t1055 + t1059)) + t1061)) l0 (l0.length : Int) x22_1 l1 (l1.length : Int) (wrap64 (x29_2 + 1))) = some r := H
               have A19 := Aside0.mk A190
               clear A190
               obtain ⟨y1062, hy1062⟩ : ∃ y_ : List Int, y_ = (x5_2.set ((ji15) : Int).toNat t1060) := ⟨_, rfl⟩
               replace H : (whole_amount_times.l1 k2 l1 y1062 x22_1 (rd l0 x22_1) (IntKind.u64.wrap ((IntKind.u64.wrap (t1055 + t1059)) + t1061)) l0 (l0.length : Int) x22_1 l1 (l1.length : Int) (wrap64 (x29_2 + 1))) = some r := by first | (rw [hy1062]; with_reducible exact H) | (have H2_ := (Option.bind_some _ _).symm.trans H; rw [hy1062]; with_reducible exact H2_) | (have H2_ := (Option.bind_some _ _).symm.trans H; with_reducible exact H2_) | with_reducible exact H | (rw [hy1062]; exact H) | exact H
               have Ny1062 := Aside0.mk hy1062
               clear hy1062
               have H' := Aside0.mk H
               clear H
               have p1054 : 0 ≤ (x29_2 : Int) := of_decide_eq_true ‹_›
               have q1054 : x29_2 < (l1.length : Int) := of_decide_eq_true ‹_›
               obtain ⟨ad1054, e1054, hx1054_0⟩ := Kd.at_int HR1.out x29_2 p1054 q1054
               cases e1054
               replace hx1054_0 := (HB.out.cell (World.block_lt_of_cell? w _ hx1054_0)).trans hx1054_0
               replace p1054 := eq_true p1054
               replace q1054 := eq_true q1054
               go_wp2_with (first | ((with_reducible refine gate_callee (f := 114) rfl ?_); refine kgl (some 37) rfl rfl Tryd.func114 #[.int .u64 (rd l0 x22_1), .int .u64 (rd l1 x29_2)] rfl ?_; (with_reducible refine (bits_Mul64.calls (rd l0 x22_1) (rd l1 x29_2) t1055 t1056 _ A14.out).mono ?_); rintro e w' ⟨rfl, ⟨nd, rfl⟩⟩; refine ⟨_, rfl, ?_⟩; (try (rw [drewN_self wr]; generalize hq_ : World.drewN wr _ = wr; have n0_ : Aside0 (Kd.R (Kd.int .u64) 59 wr w.heap.size (fun k_ => (w.heap.size ≤ k_)) v1048 x5_2) := ⟨by rw [← hq_]; exact (kru HO_5.out)⟩; have n1_ : Aside0 (Below w.heap.size w wr) := ⟨by rw [← hq_]; exact (khu HB.out)⟩; clear HO_5 HB hq_; have HO_5 := n0_; have HB := n1_; clear n0_ n1_)); obtain ⟨Ao21, co21, eo21⟩ := Kd.R_slice HO_5.out; subst eo21; have p1057 : 0 ≤ ((ji15) : Int) := of_decide_eq_true ‹_›; have q1057 : (ji15) < (x5_2.length : Int) := of_decide_eq_true ‹_›; obtain ⟨ad1057, e1057, hx1057_0⟩ := Kd.at_int (Kd.R_reads' HO_5.out).2.2 (ji15) p1057 q1057; cases e1057; replace p1057 := eq_true p1057; replace q1057 := eq_true q1057; have hx22 := bits_Add64.run A18.out; have hx23 := bits_Add64.run A19.out; have p20 : 0 ≤ ((ji15) : Int) := of_decide_eq_true ‹_›; have q20 : ((ji15) : Int) < ((x5_2.length : Int) : Int) := of_decide_eq_true ‹_›; obtain ⟨go20, co20, eo20, gb20, gl20, cl20, HG20⟩ := Kd.R_form HO_5.out (by omega); (first | cases eo20 | (injection eo20 with ea_ en_ ec_; (first | subst ea_ | (injection ea_ with ea_; subst ea_)); subst ec_; clear en_)); have GB20 := Aside0.mk gb20; have GG20 := Aside0.mk HG20; clear gb20 gl20 HG20; (first | simp only [add_plain] at hx1057_0 | skip); obtain ⟨hx20_0, hf20_0⟩ := Kd.R_celln 0 HO_5.out ((ji15) : Int) p20 q20; replace p20 := eq_true p20; replace q20 := eq_true q20; obtain ⟨hy24_, hz24_⟩ := Kd.R_celln 0 HO_5.out ((ji15) : Int) (of_decide_eq_true ‹_›) (of_decide_eq_true ‹_›); have HP24 := Kd.R_putg HO_5.out ((ji15) : Int) t1060) | ((with_reducible refine gate_store (t := 59) (p := 68) rfl ?_); refine store_event (t := 59) (p := 68) (v := ?vo_w25) (w1 := (wr.setCell ⟨go20, ((ji15) : Int).toNat, none⟩ (.int .u64 t1060))) ?hg ?ho ?hn ?hr ?_; (case ho => rfl); (case hg => rfl); (case hn => rfl); (case hr => first | (go_simp; done) | (go_simp; rfl)); intro w25 hw; have hg : wr.grownBy w25 (some go20) := (by rw [hw]; exact HP24.2); have hp_ : Kd.R (Kd.int .u64) 59 w25 w.heap.size (fun k_ => (w.heap.size ≤ k_)) (.slice (some ⟨go20, 0, none⟩) x5_2.length co21) y1062 := (by rw [hw, Ny1062.out]; exact HP24.1); clear HP24; replace HO_5 := Aside0.mk (hp_); replace HB := Aside0.mk ((by rw [hw]; exact below_set (HB.out) GB20.out : Below w.heap.size w w25)); clear hg hw hp_))
               go_roundg k2
               case measure => have := HK1.out; have := HK2.out; omega
               case rel => exact ⟨(y1062), (IntKind.u64.wrap ((IntKind.u64.wrap (t1055 + t1059)) + t1061)), (wrap64 (x29_2 + 1)), (by first | rfl | (simp; done) | (simp [*]; done)), (by first | rfl | (simp; done) | (simp [*]; done)), H', ⟨by have := HK1.out; have := HK2.out; omega⟩, ⟨by (with_reducible repeat (first | apply Kd.R_alloc | apply Kd.R_drewN | apply Kd.R_drew)); exact HO_5.out⟩, ⟨by repeat (first | (with_reducible first | exact HB.out | apply below_alloc | apply pw_below_drewN | apply below_drew1) | exact HB.out)⟩⟩
              ·rw [if_neg c17] at H
               exact absurd H (by simp)
             ·rw [if_neg c16] at H
              exact absurd H (by simp)
            ·rw [if_neg c13] at H
             exact absurd H (by simp)
           ·rw [if_neg c12] at H
            exact absurd H (by simp)
          ·rw [if_neg c11] at H
           have c11b0 : decide (x29_2 < (l1.length : Int)) = false := decide_eq_false c11
           clear c11
           obtain ⟨ji26, hji26⟩ : ∃ j_ : Int, (wrap64 (x22_1 + (l1.length : Int))) = j_ := ⟨_, rfl⟩
           replace H : (if 0 ≤ (ji26) then (if (ji26) < (x5_2.length : Int) then (whole_amount_times.l0 k2 l1 (x5_2.set ((ji26) : Int).toNat x8_2) l0 (l0.length : Int) (wrap64 (x22_1 + 1))) else (none)) else (none)) = some r := by first | (rw [hji26] at H; exact H) | (simp only [hji26] at H ⊢; exact H)
           have hji26w : (IntKind.i64.wrap (x22_1 + (l1.length : Int))) = ji26 := (i64_w _).trans hji26
           by_cases c27 : 0 ≤ (ji26)
           ·rw [if_pos c27] at H
            have c27b0 : decide (0 ≤ (ji26)) = true := decide_eq_true c27
            clear c27
            by_cases c28 : (ji26) < (x5_2.length : Int)
            ·rw [if_pos c28] at H
             have c28b0 : decide ((ji26) < (x5_2.length : Int)) = true := decide_eq_true c28
             clear c28
             obtain ⟨y1063, hy1063⟩ : ∃ y_ : List Int, y_ = (x5_2.set ((ji26) : Int).toNat x8_2) := ⟨_, rfl⟩
             replace H : (whole_amount_times.l0 k2 l1 y1063 l0 (l0.length : Int) (wrap64 (x22_1 + 1))) = some r := by first | (rw [hy1063]; with_reducible exact H) | (have H2_ := (Option.bind_some _ _).symm.trans H; rw [hy1063]; with_reducible exact H2_) | (have H2_ := (Option.bind_some _ _).symm.trans H; with_reducible exact H2_) | with_reducible exact H | (rw [hy1063]; exact H) | exact H
             have Ny1063 := Aside0.mk hy1063
             clear hy1063
             have H' := Aside0.mk H
             clear H
             have p29 : 0 ≤ ((ji26) : Int) := of_decide_eq_true ‹_›
             have q29 : ((ji26) : Int) < ((x5_2.length : Int) : Int) := of_decide_eq_true ‹_›
             obtain ⟨go29, co29, eo29, gb29, gl29, cl29, HG29⟩ := Kd.R_form HO_5.out (by omega)
             (first | cases eo29 | (injection eo29 with ea_ en_ ec_; (first | subst ea_ | (injection ea_ with ea_; subst ea_)); subst ec_; clear en_))
             have GB29 := Aside0.mk gb29
             have GG29 := Aside0.mk HG29
             clear gb29 gl29 HG29
             obtain ⟨hx29_0, hf29_0⟩ := Kd.R_celln 0 HO_5.out ((ji26) : Int) p29 q29
             replace p29 := eq_true p29
             replace q29 := eq_true q29
             have HP30 := Kd.R_putg HO_5.out ((ji26) : Int) x8_2
             go_wp2_with (first | ((with_reducible refine gate_store (t := 59) (p := 77) rfl ?_); refine store_event (t := 59) (p := 77) (v := ?vo_w31) (w1 := (wr.setCell ⟨go29, ((ji26) : Int).toNat, none⟩ (.int .u64 x8_2))) ?hg ?ho ?hn ?hr ?_; (case ho => rfl); (case hg => rfl); (case hn => rfl); (case hr => first | (go_simp; done) | (go_simp; rfl)); intro w31 hw; have hg : wr.grownBy w31 (some go29) := (by rw [hw]; exact HP30.2); have hp_ : Kd.R (Kd.int .u64) 59 w31 w.heap.size (fun k_ => (w.heap.size ≤ k_)) (.slice (some ⟨go29, 0, none⟩) x5_2.length co29) y1063 := (by rw [hw, Ny1063.out]; exact HP30.1); clear HP30; replace HO_5 := Aside0.mk (hp_); replace HB := Aside0.mk ((by rw [hw]; exact below_set (HB.out) GB29.out : Below w.heap.size w w31)); clear hg hw hp_))
             go_roundg k2
             case measure => have := HK1.out; have := HK2.out; omega
             case rel => exact ⟨(y1063), (wrap64 (x22_1 + 1)), (by first | rfl | (simp; done) | (simp [*]; done)), H', ⟨by have := HK1.out; have := HK2.out; omega⟩, ⟨by (with_reducible repeat (first | apply Kd.R_alloc | apply Kd.R_drewN | apply Kd.R_drew)); exact HO_5.out⟩, ⟨by repeat (first | (with_reducible first | exact HB.out | apply below_alloc | apply pw_below_drewN | apply below_drew1) | exact HB.out)⟩⟩
            ·rw [if_neg c28] at H
             exact absurd H (by simp)
           ·rw [if_neg c27] at H
            exact absurd H (by simp)
       ·rw [if_neg c10] at H
        exact absurd H (by simp)
      ·rw [if_neg c9] at H
       exact absurd H (by simp)
     ·rw [if_neg c8] at H
      have c8b0 : decide (x22_1 < (l0.length : Int)) = false := decide_eq_false c8
      clear c8
      replace H := Option.bind_eq_some_iff.mp H
      obtain ⟨t1050, A320, H⟩ := H
      replace H : (some t1050) = some r := H
      have A32 := Aside0.mk A320
      clear A320
      obtain rfl := Option.some.inj H
      obtain ⟨Ao33, co33, eo33⟩ := Kd.R_slice HO_5.out
      subst eo33
      go_wp2_with (first | ((with_reducible refine gate_callee (f := 83) rfl ?_); refine kgl (some 80) rfl rfl Tryd.func83 #[.slice Ao33 x5_1.length co33] rfl ?_; (with_reducible refine (whole_trimmed.calls k1 (fun k_ => some k_ = (.slice Ao33 x5_1.length co33 : Value).ownBlock) _ _ x5_1 t1050 _ ?side1 A32.out).mono ?_); (case side1 => exact Kd.R_V (Kd.R_tight rfl (HO_5.out))); rintro e w34 ⟨v1051, rfl, ho0, hb⟩; refine ⟨_, rfl, ?_⟩; have HO1052 := Aside0.mk (Kd.V_lower (Kd.V_mono (ok' := fun k_ => (w.heap.size ≤ k_)) ho0 (fun k_ hk_ => Or.elim hk_ (fun hs_ => ((HO_5.out).1 k_ hs_.symm)) (fun hn_ => (Nat.le_trans (below_size (khu HB.out)) hn_)))) (below_size (khu HB.out))); replace HO_5 := krb HO_5 hb; replace HB := kbs HB hb; (try clear hb); (try clear hb2); (try clear hk); (try clear hi); (try clear ho0)))
      go_ret
      exact ⟨_, by first | rfl | (simp [errW_none, errW_some] <;> rfl) | (simp only [← hji3]; first | rfl | (simp [errW_none, errW_some] <;> rfl)) | (simp [*, errW_none, errW_some] <;> rfl), by (with_reducible repeat (first | apply Kd.V_alloc | apply Kd.V_drewN | apply Kd.V_drew)); exact HO1052.out, by repeat (first | (with_reducible first | exact HB.out | apply below_alloc | apply pw_below_drewN | apply below_drew1) | exact HB.out)⟩
  ·rw [if_neg c5] at H
   exact absurd H (by simp)
 ·rw [if_neg c4] at H
  exact absurd H (by simp)
end Go.Proofs.YtodhkpdcpneeeaaDoor.PDv
namespace Go.Proofs.YtodhkpdcpneeeaaDoor.PDv
open Go.Proofs.YtodhkpdcpneeeaaDoor.Mine Go.RowKit Go.Proofs.YtodhkpdcpneeeaaDoorW.PrintWords Go.Proofs.YtodhkpdcpneeeaaDoorW.PrintLast Go.Proofs.YtodhkpdcpneeeaaDoorW.PrintMore
open Go.Proofs.YtodhkpdcpneeeaaDoor.Mine
attribute [local go_sem] max2_int min2_int max_two min_two max_three min_three max_four min_four
set_option linter.unusedVariables false
set_option linter.unusedSimpArgs false
def whole_number_times.f (k : Nat) (l0_0 : List Int) (a0_1 : Bool) (l1_0 : List Int) (a1_1 : Bool) : Option (List Int × Bool) := (whole_amount_times.f k l0_0 l1_0).bind fun t1067 => ((whole_signed.f t1067 (a0_1 != a1_1)).bind fun bt1070 => (some (bt1070.1, bt1070.2)))
def whole_number_times.T1 : Bool × List (List Nat × List Nat) := (true, [([], []), ([0], [0]), ([], []), ([2], [2]), ([1, 3], [1, 3]), ([], []), ([5], [5]), ([], []), ([7], [7]), ([6, 8], [6, 8]), ([4, 9, 4], [4, 9]), ([10, 10, 0, 1, 2, 3, 4, 5, 6, 7, 8, 9, 10], [10])])
def whole_number_times.B1 : List Nat := [0, 1, 0, 4, 15, 0, 32, 0, 128, 480, 1023, 2047]
theorem whole_number_times.tab1 : rtab .any (opsOf Tryd.f90 1) = whole_number_times.T1 := by kernel_rfl
theorem whole_number_times.bits1 : waitsOk whole_number_times.T1.2 whole_number_times.B1 = true := by kernel_rfl
theorem whole_number_times.calls (k : Nat) (A0_0 : Option Addr) (c0_0 : Nat) (l0_0 : List Int) (a0_1 : Bool) (A1_0 : Option Addr) (c1_0 : Nat) (l1_0 : List Int) (a1_1 : Bool) (r1 : List Int) (r2 : Bool) (w : World) (hr0_0 : Kd.C (Kd.int .u64) w A0_0 l0_0.length l0_0) (hc0_0 : l0_0.length ≤ c0_0) (hr1_0 : Kd.C (Kd.int .u64) w A1_0 l1_0.length l1_0) (hc1_0 : l1_0.length ≤ c1_0) (h : whole_number_times.f k l0_0 a0_1 l1_0 a1_1 = some (r1, r2)) :
  Calls Tryd.prog 90 #[.agg #[.slice A0_0 l0_0.length c0_0, .bool a0_1], .agg #[.slice A1_0 l1_0.length c1_0, .bool a1_1]] w fun e w' => ∃ v0_ : Value, e = .returned (.agg #[v0_, .bool r2]) ∧ Kd.V (Kd.int .u64) 59 w' w.heap.size (fun k_ => (w.heap.size ≤ k_)) v0_ r1 ∧ Below w.heap.size w w' := by
 have hu62 := Tryd.underlying62
 have K := Kp.refl w
 replace K := K.parV (Kd.V_mono (ok' := fun k => k < w.heap.size) (Kd.V_mk (e := 59) (base := 0) hc0_0 (Kd.C_F (Kd.heap_int .u64) hr0_0)) (fun _ h => h))
 clear hr0_0 hc0_0
 replace K := K.parV (Kd.V_mono (ok' := fun k => k < w.heap.size) (Kd.V_mk (e := 59) (base := 0) hc1_0 (Kd.C_F (Kd.heap_int .u64) hr1_0)) (fun _ h => h))
 clear hr1_0 hc1_0
 try simp only [klv] at K
 rw [whole_number_times.f] at h
 replace h := bindA h
 obtain ⟨x7, A8, h⟩ := h
 replace h := bindA h
 obtain ⟨⟨x9, z10⟩, A11, h⟩ := h
 dsimp only at h
 go_enter Tryd.func90, Tryd.ntmps90
 go_wp2_with (first | ((with_reducible refine gate_dst (N := 2) rfl ?_); refine kbe 2 #[.slice A0_0 l0_0.length c0_0, .bool a0_1] 62 ?_; intro g1 hg W2 hx hb; replace K := K.u.box hg hx hb; clear hg hx hb) | ((with_reducible refine gate_dst (N := 3) rfl ?_); refine kbe 3 #[.slice A1_0 l1_0.length c1_0, .bool a1_1] 62 ?_; intro g3 hg W4 hx hb; replace K := K.u.box hg hx hb; clear hg hx hb) | ((with_reducible refine gate_dst (N := 4) rfl ?_); refine kbe 4 #[.slice none 0 0, .bool false] 62 ?_; intro g5 hg W6 hx hb; replace K := K.u.box hg hx hb; clear hg hx hb))
 obtain ⟨Bs, Vs, Os, hBs, hVs, hOs, K⟩ := K.abs
 have HS : Aside0 (∀ l m o W, Kp w (Bs ++ l) m o W → W.cell? ⟨g1, 0, none⟩ = some (.slice A0_0 l0_0.length c0_0) ∧ W.cell? ⟨g1, 1, none⟩ = some (.bool a0_1) ∧ W.cell? ⟨g3, 0, none⟩ = some (.slice A1_0 l1_0.length c1_0) ∧ W.cell? ⟨g3, 1, none⟩ = some (.bool a1_1)) := ⟨fun l m o W K => by rw [hBs.out] at K; exact ⟨K.cell 0 rfl 0 rfl, K.cell 0 rfl 1 rfl, K.cell 1 rfl 0 rfl, K.cell 1 rfl 1 rfl⟩⟩
 refine kpstart (n := 12) (ds := []) (S := fun W => W.cell? ⟨g1, 0, none⟩ = some (.slice A0_0 l0_0.length c0_0) ∧ W.cell? ⟨g1, 1, none⟩ = some (.bool a0_1) ∧ W.cell? ⟨g3, 0, none⟩ = some (.slice A1_0 l1_0.length c1_0) ∧ W.cell? ⟨g3, 1, none⟩ = some (.bool a1_1)) #[false, false, false, false, false, false, false, false, false, false, false, false] (by kernel_rfl) rfl rfl K (HS.out [] _ _) (fun W14 K hH => ?_)
 refine with_tabW whole_number_times.tab1 whole_number_times.bits1 (fun HT_ HW_ => ?_)
 refine pure_ (i := 0) (N := some 5) (v := ?_) (a' := ?_) #[true, false, false, false, false, false, false, false, false, false, false, false] rfl rfl (any_of HT_.out (by kernel_rfl)) (fun _ _ _ h => h) (Or.inl ⟨by rfl, ?_⟩) ?_ ?_
 rotate_left
 ·intro w'
  go_simp
  with_reducible rfl
 rotate_left
 ·simp only [Act.put, kss, i64_w, i32_w]
  rfl
 refine take_ (i := 1) (N := some 6) (v := ?_) (a' := ?_) #[true, true, false, false, false, false, false, false, false, false, false, false] rfl rfl (take_ofW HT_.out HW_.out (by kernel_rfl)) (fun _ _ _ h => h) (Or.inl ⟨by rfl, ?_⟩) hH ?_ ?_
 rotate_left
 ·rintro w' ⟨s0, s1, s2, s3⟩
  go_simp
  with_reducible rfl
 rotate_left
 ·simp only [Act.put, kss, i64_w, i32_w]
  rfl
 refine pure_ (i := 2) (N := some 7) (v := ?_) (a' := ?_) #[true, true, true, false, false, false, false, false, false, false, false, false] rfl rfl (any_of HT_.out (by kernel_rfl)) (fun _ _ _ h => h) (Or.inl ⟨by rfl, ?_⟩) ?_ ?_
 rotate_left
 ·intro w'
  go_simp
  with_reducible rfl
 rotate_left
 ·simp only [Act.put, kss, i64_w, i32_w]
  rfl
 refine take_ (i := 3) (N := some 8) (v := ?_) (a' := ?_) #[true, true, true, true, false, false, false, false, false, false, false, false] rfl rfl (take_ofW HT_.out HW_.out (by kernel_rfl)) (fun _ _ _ h => h) (Or.inl ⟨by rfl, ?_⟩) hH ?_ ?_
 rotate_left
 ·rintro w' ⟨s0, s1, s2, s3⟩
  go_simp
  with_reducible rfl
 rotate_left
 ·simp only [Act.put, kss, i64_w, i32_w]
  rfl
 refine pure_ (i := 5) (N := some 10) (v := ?_) (a' := ?_) #[true, true, true, true, false, true, false, false, false, false, false, false] rfl rfl (any_of HT_.out (by kernel_rfl)) (fun _ _ _ h => h) (Or.inl ⟨by rfl, ?_⟩) ?_ ?_
 rotate_left
 ·intro w'
  go_simp
  with_reducible rfl
 rotate_left
 ·simp only [Act.put, kss, i64_w, i32_w]
  rfl
 refine take_ (i := 6) (N := some 11) (v := ?_) (a' := ?_) #[true, true, true, true, false, true, true, false, false, false, false, false] rfl rfl (take_ofW HT_.out HW_.out (by kernel_rfl)) (fun _ _ _ h => h) (Or.inl ⟨by rfl, ?_⟩) hH ?_ ?_
 rotate_left
 ·rintro w' ⟨s0, s1, s2, s3⟩
  go_simp
  with_reducible rfl
 rotate_left
 ·simp only [Act.put, kss, i64_w, i32_w]
  rfl
 refine pure_ (i := 7) (N := some 12) (v := ?_) (a' := ?_) #[true, true, true, true, false, true, true, true, false, false, false, false] rfl rfl (any_of HT_.out (by kernel_rfl)) (fun _ _ _ h => h) (Or.inl ⟨by rfl, ?_⟩) ?_ ?_
 rotate_left
 ·intro w'
  go_simp
  with_reducible rfl
 rotate_left
 ·simp only [Act.put, kss, i64_w, i32_w]
  rfl
 refine take_ (i := 8) (N := some 13) (v := ?_) (a' := ?_) #[true, true, true, true, false, true, true, true, true, false, false, false] rfl rfl (take_ofW HT_.out HW_.out (by kernel_rfl)) (fun _ _ _ h => h) (Or.inl ⟨by rfl, ?_⟩) hH ?_ ?_
 rotate_left
 ·rintro w' ⟨s0, s1, s2, s3⟩
  go_simp
  with_reducible rfl
 rotate_left
 ·simp only [Act.put, kss, i64_w, i32_w]
  rfl
 refine pure_ (i := 9) (N := some 14) (v := ?_) (a' := ?_) #[true, true, true, true, false, true, true, true, true, true, false, false] rfl rfl (any_of HT_.out (by kernel_rfl)) (fun _ _ _ h => h) (Or.inl ⟨by rfl, ?_⟩) ?_ ?_
 rotate_left
 ·intro w'
  go_simp
  with_reducible rfl
 rotate_left
 ·simp only [Act.put, kss, i64_w, i32_w]
  rfl
 refine one_ (i := 4) (N := some 9) #[true, true, true, true, true, true, true, true, true, true, false, false] rfl rfl (one_of HT_.out (by kernel_rfl)) (by decide) (fun Kc hK => ?_)
 refine kgo Tryd.func111 #[.slice A0_0 l0_0.length c0_0, .slice A1_0 l1_0.length c1_0] (by rfl) rfl rfl ?_
 refine (whole_amount_times.calls _ _ _ l0_0 _ _ l1_0 x7 _ (K.C 0 (by rw [hVs.out]; rfl)) (K.le 0 (by rw [hVs.out]; rfl)) (K.C 1 (by rw [hVs.out]; rfl)) (K.le 1 (by rw [hVs.out]; rfl)) A8.out).mono ?_
 rintro e W' ⟨v12, rfl, ho15, hb⟩
 replace K := K.addFI 0 (fun _ => False) hb ho15
 clear hb ho15
 refine ⟨_, rfl, hK.out _ _ (HS.out _ _ _ _ K) fun hH => ?_⟩
 clear hK Kc
 refine norm_ (a' := ?_) ?_ ?_
 rotate_left
 ·show Act.put _ (some 9) _ = _
  simp only [Act.put, kss, i64_w, i32_w]
  rfl
 refine one_ (i := 10) (N := some 15) #[true, true, true, true, true, true, true, true, true, true, true, false] rfl rfl (one_of HT_.out (by kernel_rfl)) (by decide) (fun Kc hK => ?_)
 obtain ⟨P16, c17, e18⟩ := K.slice 2 (by rw [hVs.out]; rfl)
 subst e18
 refine kgo Tryd.func60 #[.slice P16 x7.length c17, .bool (a0_1 != a1_1)] (by rfl) rfl rfl ?_
 refine (whole_signed.calls _ _ _ x7 (a0_1 != a1_1) x9 z10 _ (K.V 2 (by rw [hVs.out]; rfl)) A11.out).mono ?_
 rintro e W' ⟨v13, rfl, ho19, hb⟩
 replace K := K.addI 1 (fun _ => False) hb ho19 (fun _ h => h)
 clear hb ho19
 refine ⟨_, rfl, hK.out _ _ (HS.out _ _ _ _ K) fun hH => ?_⟩
 clear hK Kc
 refine norm_ (a' := ?_) ?_ ?_
 rotate_left
 ·show Act.put _ (some 15) _ = _
  simp only [Act.put, kss, i64_w, i32_w]
  rfl
 obtain ⟨P20, c21, e22⟩ := K.slice 3 (by rw [hVs.out]; rfl)
 subst e22
 rw [hBs.out, hVs.out, hOs.out] at K
 simp only [kls, klv] at K
 clear hBs hVs hOs HS hH
 refine kone2 (i := 11) #[true, true, true, true, true, true, true, true, true, true, true, true] 2 (.slice P20 x9.length c21) (.bool z10) K rfl rfl rfl (one_of HT_.out (by kernel_rfl)) (by decide) (by rfl) ?_ (fun W K => ⟨K.cell 0 rfl 0 rfl, K.cell 0 rfl 1 rfl, K.cell 1 rfl 0 rfl, K.cell 1 rfl 1 rfl⟩) ?_
 ·intro c0 c1 f0 f1
  first | (go_simp; done) | (go_simp; rfl)
 clear K
 intro W23 K
 simp only [kls, klv] at K
 refine done_ (done_of HT_.out (by kernel_rfl)) ?_
 clear HT_ HW_
 simp only [Option.some.injEq, Prod.mk.injEq] at h
 obtain ⟨rfl, rfl⟩ := h
 go_wp2
 refine bodyPost_ret (results_single rfl (.cell g5 62 #[.slice P20 x9.length c21, .bool z10] (0, 0) _ rfl (K.u.heap 2 rfl) Tryd.underlying62 rfl (by kernel_rfl) .nil)) rfl ?_
 exact ⟨_, rfl, K.u.hand 3 rfl (fun _ h => h.elim (fun h => h.elim) id), K.u.below⟩
def whole_Mul.f (k : Nat) (a0_0 : Bool) (l0_1 : List Int) (a1_0 : Bool) (l1_1 : List Int) : Option (Bool × List Int × Int) := (whole_of.f k a0_0 l0_1).bind fun bt1077 => ((whole_of.f k a1_0 l1_1).bind fun bt1081 => ((whole_number_times.f k bt1077.1 bt1077.2 bt1081.1 bt1081.2).bind fun bt1085 => ((whole_number_told.f bt1085.1 bt1085.2).bind fun bt1089 => (some (bt1089.1, bt1089.2.1, bt1089.2.2)))))
def whole_Mul.T1 : Bool × List (List Nat × List Nat) := (true, [([], []), ([0], [0]), ([], []), ([2, 1], [2]), ([1, 3, 3], [1, 3]), ([4, 4], [4]), ([5], [5]), ([5], [5]), ([6, 5, 0, 1, 2, 3, 4, 5, 6, 7], [6]), ([7, 8, 0, 1, 2, 3, 4, 5, 6, 7, 8], [7])])
def whole_Mul.B1 : List Nat := [0, 1, 0, 7, 15, 31, 63, 63, 255, 511]
theorem whole_Mul.tab1 : rtab .any (opsOf Tryd.f49 1) = whole_Mul.T1 := by kernel_rfl
theorem whole_Mul.bits1 : waitsOk whole_Mul.T1.2 whole_Mul.B1 = true := by kernel_rfl
theorem whole_Mul.calls (k : Nat) (a0_0 : Bool) (A0_1 : Option Addr) (c0_1 : Nat) (l0_1 : List Int) (a1_0 : Bool) (A1_1 : Option Addr) (c1_1 : Nat) (l1_1 : List Int) (r1 : Bool) (r2 : List Int) (r3 : Int) (w : World) (hr0_1 : Kd.C (Kd.int .u64) w A0_1 l0_1.length l0_1) (hc0_1 : l0_1.length ≤ c0_1) (hr1_1 : Kd.C (Kd.int .u64) w A1_1 l1_1.length l1_1) (hc1_1 : l1_1.length ≤ c1_1) (h : whole_Mul.f k a0_0 l0_1 a1_0 l1_1 = some (r1, r2, r3)) :
  Calls Tryd.prog 49 #[.agg #[.bool a0_0, .slice A0_1 l0_1.length c0_1], .agg #[.bool a1_0, .slice A1_1 l1_1.length c1_1]] w fun e w' => ∃ v1_ : Value, e = .returned (.tuple #[.agg #[.bool r1, v1_], .int .i64 r3]) ∧ Kd.R (Kd.int .u64) 59 w' w.heap.size (fun _ => True) v1_ r2 ∧ Below w.heap.size w w' := by
 have hu25 := Tryd.underlying25
 have K := Kp.refl w
 replace K := K.parV (Kd.V_mono (ok' := fun _ => True) (Kd.V_mk (e := 59) (base := 0) hc0_1 (Kd.C_F (Kd.heap_int .u64) hr0_1)) (fun _ h => trivial))
 clear hr0_1 hc0_1
 replace K := K.parV (Kd.V_mono (ok' := fun _ => True) (Kd.V_mk (e := 59) (base := 0) hc1_1 (Kd.C_F (Kd.heap_int .u64) hr1_1)) (fun _ h => trivial))
 clear hr1_1 hc1_1
 simp only [klv] at K
 rw [whole_Mul.f] at h
 replace h := bindA h
 obtain ⟨⟨x7, z8⟩, A9, h⟩ := h
 dsimp only at h
 replace h := bindA h
 obtain ⟨⟨x10, z11⟩, A12, h⟩ := h
 dsimp only at h
 replace h := bindA h
 obtain ⟨⟨x13, z14⟩, A15, h⟩ := h
 dsimp only at h
 replace h := bindA h
 obtain ⟨⟨z16, x17, n18⟩, A19, h⟩ := h
 dsimp only at h
 go_enter Tryd.func49, Tryd.ntmps49
 go_wp2_with (first | ((with_reducible refine gate_dst (N := 2) rfl ?_); refine kbe 2 #[.bool a0_0, .slice A0_1 l0_1.length c0_1] 25 ?_; intro g1 hg W2 hx hb; replace K := K.u.box hg hx hb; clear hg hx hb) | ((with_reducible refine gate_dst (N := 3) rfl ?_); refine kbe 3 #[.bool a1_0, .slice A1_1 l1_1.length c1_1] 25 ?_; intro g3 hg W4 hx hb; replace K := K.u.box hg hx hb; clear hg hx hb) | ((with_reducible refine gate_dst (N := 4) rfl ?_); refine kbe 4 #[.bool false, .slice none 0 0] 25 ?_; intro g5 hg W6 hx hb; replace K := K.u.box hg hx hb; clear hg hx hb))
 obtain ⟨Bs, Vs, Os, hBs, hVs, hOs, K⟩ := K.abs
 have HS : Aside0 (∀ l m o W, Kp w (Bs ++ l) m o W → W.cell? ⟨g1, 0, none⟩ = some (.bool a0_0) ∧ W.cell? ⟨g1, 1, none⟩ = some (.slice A0_1 l0_1.length c0_1) ∧ W.cell? ⟨g3, 0, none⟩ = some (.bool a1_0) ∧ W.cell? ⟨g3, 1, none⟩ = some (.slice A1_1 l1_1.length c1_1)) := ⟨fun l m o W K => by rw [hBs.out] at K; exact ⟨K.cell 0 rfl 0 rfl, K.cell 0 rfl 1 rfl, K.cell 1 rfl 0 rfl, K.cell 1 rfl 1 rfl⟩⟩
 refine kpstart (n := 10) (ds := []) (S := fun W => W.cell? ⟨g1, 0, none⟩ = some (.bool a0_0) ∧ W.cell? ⟨g1, 1, none⟩ = some (.slice A0_1 l0_1.length c0_1) ∧ W.cell? ⟨g3, 0, none⟩ = some (.bool a1_0) ∧ W.cell? ⟨g3, 1, none⟩ = some (.slice A1_1 l1_1.length c1_1)) #[false, false, false, false, false, false, false, false, false, false] (by kernel_rfl) rfl rfl K (HS.out [] _ _) (fun W24 K hH => ?_)
 refine with_tabW whole_Mul.tab1 whole_Mul.bits1 (fun HT_ HW_ => ?_)
 refine take_ (i := 0) (N := some 6) (v := ?_) (a' := ?_) #[true, false, false, false, false, false, false, false, false, false] rfl rfl (take_ofW HT_.out HW_.out (by kernel_rfl)) (fun _ _ _ h => h) (Or.inl ⟨by rfl, ?_⟩) hH ?_ ?_
 rotate_left
 ·rintro w' ⟨s0, s1, s2, s3⟩
  go_simp
  with_reducible rfl
 rotate_left
 ·simp only [Act.put, kss, i64_w, i32_w]
  rfl
 refine take_ (i := 2) (N := some 8) (v := ?_) (a' := ?_) #[true, false, true, false, false, false, false, false, false, false] rfl rfl (take_ofW HT_.out HW_.out (by kernel_rfl)) (fun _ _ _ h => h) (Or.inl ⟨by rfl, ?_⟩) hH ?_ ?_
 rotate_left
 ·rintro w' ⟨s0, s1, s2, s3⟩
  go_simp
  with_reducible rfl
 rotate_left
 ·simp only [Act.put, kss, i64_w, i32_w]
  rfl
 refine one_ (i := 1) (N := some 7) #[true, true, true, false, false, false, false, false, false, false] rfl rfl (one_of HT_.out (by kernel_rfl)) (by decide) (fun Kc hK => ?_)
 refine kgo Tryd.func56 #[.agg #[.bool a0_0, .slice A0_1 l0_1.length c0_1]] (by rfl) rfl rfl ?_
 refine (whole_of.calls _ a0_0 _ _ _ l0_1 x7 z8 _ (K.V 0 (by rw [hVs.out]; rfl)) A9.out).mono ?_
 rintro e W' ⟨v20, rfl, ho25, hb⟩
 replace K := K.addI 0 (fun _ => True) hb ho25 (fun _ h => h.t)
 clear hb ho25
 refine ⟨_, rfl, hK.out _ _ (HS.out _ _ _ _ K) fun hH => ?_⟩
 clear hK Kc
 refine norm_ (a' := ?_) ?_ ?_
 rotate_left
 ·show Act.put _ (some 7) _ = _
  simp only [Act.put, kss, i64_w, i32_w]
  rfl
 refine one_ (i := 3) (N := some 9) #[true, true, true, true, false, false, false, false, false, false] rfl rfl (one_of HT_.out (by kernel_rfl)) (by decide) (fun Kc hK => ?_)
 refine kgo Tryd.func56 #[.agg #[.bool a1_0, .slice A1_1 l1_1.length c1_1]] (by rfl) rfl rfl ?_
 refine (whole_of.calls _ a1_0 _ _ _ l1_1 x10 z11 _ (K.V 1 (by rw [hVs.out]; rfl)) A12.out).mono ?_
 rintro e W' ⟨v21, rfl, ho26, hb⟩
 replace K := K.addI 1 (fun _ => True) hb ho26 (fun _ h => h.t)
 clear hb ho26
 refine ⟨_, rfl, hK.out _ _ (HS.out _ _ _ _ K) fun hH => ?_⟩
 clear hK Kc
 refine norm_ (a' := ?_) ?_ ?_
 rotate_left
 ·show Act.put _ (some 9) _ = _
  simp only [Act.put, kss, i64_w, i32_w]
  rfl
 refine one_ (i := 4) (N := some 10) #[true, true, true, true, true, false, false, false, false, false] rfl rfl (one_of HT_.out (by kernel_rfl)) (by decide) (fun Kc hK => ?_)
 obtain ⟨P27, c28, e29⟩ := K.slice 2 (by rw [hVs.out]; rfl)
 subst e29
 obtain ⟨P30, c31, e32⟩ := K.slice 3 (by rw [hVs.out]; rfl)
 subst e32
 refine kgo Tryd.func90 #[.agg #[.slice P27 x7.length c28, .bool z8], .agg #[.slice P30 x10.length c31, .bool z11]] (by rfl) rfl rfl ?_
 refine (whole_number_times.calls _ _ _ x7 z8 _ _ x10 z11 x13 z14 _ (K.C 2 (by rw [hVs.out]; rfl)) (K.le 2 (by rw [hVs.out]; rfl)) (K.C 3 (by rw [hVs.out]; rfl)) (K.le 3 (by rw [hVs.out]; rfl)) A15.out).mono ?_
 rintro e W' ⟨v22, rfl, ho33, hb⟩
 replace K := K.addFI 2 (fun _ => True) hb ho33
 clear hb ho33
 refine ⟨_, rfl, hK.out _ _ (HS.out _ _ _ _ K) fun hH => ?_⟩
 clear hK Kc
 refine norm_ (a' := ?_) ?_ ?_
 rotate_left
 ·show Act.put _ (some 10) _ = _
  simp only [Act.put, kss, i64_w, i32_w]
  rfl
 refine one_ (i := 5) (N := some 11) #[true, true, true, true, true, true, false, false, false, false] rfl rfl (one_of HT_.out (by kernel_rfl)) (by decide) (fun Kc hK => ?_)
 obtain ⟨P34, c35, e36⟩ := K.slice 4 (by rw [hVs.out]; rfl)
 subst e36
 refine kgo Tryd.func76 #[.agg #[.slice P34 x13.length c35, .bool z14]] (by rfl) rfl rfl ?_
 refine (whole_number_told.calls _ _ x13 z14 z16 x17 n18 _ (K.C 4 (by rw [hVs.out]; rfl)) (K.le 4 (by rw [hVs.out]; rfl)) A19.out).mono ?_
 rintro e W' ⟨v23, rfl, ho37, hb⟩
 replace K := K.addRI 3 0 hb ho37 (Nat.le_of_ble_eq_true rfl)
 clear hb ho37
 refine ⟨_, rfl, hK.out _ _ (HS.out _ _ _ _ K) fun hH => ?_⟩
 refine norm_ (a' := ?_) ?_ ?_
 rotate_left
 ·show Act.put _ (some 11) _ = _
  simp only [Act.put, kss, i64_w, i32_w]
  rfl
 refine pure_ (i := 6) (N := some 12) (v := ?_) (a' := ?_) #[true, true, true, true, true, true, true, false, false, false] rfl rfl (any_of HT_.out (by kernel_rfl)) (fun _ _ _ h => h) (Or.inl ⟨by rfl, ?_⟩) ?_ ?_
 rotate_left
 ·intro w'
  go_simp
  with_reducible rfl
 rotate_left
 ·simp only [Act.put, kss, i64_w, i32_w]
  rfl
 refine pure_ (i := 7) (N := some 13) (v := ?_) (a' := ?_) #[true, true, true, true, true, true, true, true, false, false] rfl rfl (any_of HT_.out (by kernel_rfl)) (fun _ _ _ h => h) (Or.inl ⟨by rfl, ?_⟩) ?_ ?_
 rotate_left
 ·intro w'
  go_simp
  with_reducible rfl
 rotate_left
 ·simp only [Act.put, kss, i64_w, i32_w]
  rfl
 clear hK Kc
 obtain ⟨P38, c39, e40⟩ := K.slice 5 (by rw [hVs.out]; rfl)
 subst e40
 rw [hBs.out, hVs.out, hOs.out] at K
 simp only [kls, klv] at K
 clear hBs hVs hOs HS hH
 refine kone2 (i := 8) #[true, true, true, true, true, true, true, true, true, false] 2 (.bool z16) (.slice P38 x17.length c39) K rfl rfl rfl (one_of HT_.out (by kernel_rfl)) (by decide) (by rfl) ?_ (fun W K => ⟨K.cell 0 rfl 0 rfl, K.cell 0 rfl 1 rfl, K.cell 1 rfl 0 rfl, K.cell 1 rfl 1 rfl⟩) ?_
 ·intro c0 c1 f0 f1
  first | (go_simp; done) | (go_simp; rfl)
 clear K
 intro W41 K
 simp only [kls, klv] at K
 refine pure_ (i := 9) (N := some 5) (v := ?_) (a' := ?_) #[true, true, true, true, true, true, true, true, true, true] rfl rfl (any_of HT_.out (by kernel_rfl)) (fun _ _ _ h => h) (Or.inl ⟨by rfl, ?_⟩) ?_ ?_
 rotate_left
 ·intro w'
  go_simp
  with_reducible rfl
 rotate_left
 ·simp only [Act.put, kss, i64_w, i32_w]
  rfl
 refine done_ (done_of HT_.out (by kernel_rfl)) ?_
 clear HT_ HW_
 simp only [Option.some.injEq, Prod.mk.injEq] at h
 obtain ⟨rfl, rfl, rfl⟩ := h
 go_wp2
 refine bodyPost_ret (results_list (rs := [.cell 4 25, .tmp 5]) rfl (by simp) (.cell g5 25 #[.bool z16, .slice P38 x17.length c39] (0, 0) _ rfl (K.u.heap 2 rfl) Tryd.underlying25 rfl (by kernel_rfl) (.tmp .nil))) rfl ?_
 exact ⟨_, rfl, K.u.R 0 rfl, K.u.below⟩
def tribunallaw02_short.f (a0_0 : Bool) (l0_1 : List Int) : Option (Bool) := some (decide ((l0_1.length : Int) ≤ 1000))
theorem tribunallaw02_short.calls (a0_0 : Bool) (A0_1 : Option Addr) (c0_1 : Nat) (l0_1 : List Int) (r : Bool) (w : World) (hr0_1 : Kd.C (Kd.int .u64) w A0_1 l0_1.length l0_1) (hc0_1 : l0_1.length ≤ c0_1) (h : tribunallaw02_short.f a0_0 l0_1 = some r) :
  Calls Tryd.prog 51 #[.agg #[.bool a0_0, .slice A0_1 l0_1.length c0_1]] w fun e w' => e = .returned (.bool r) ∧ Below w.heap.size w w' := by
 have hu25 := Tryd.underlying25
 have K := Kp.refl w
 replace K := K.parV (Kd.V_mono (ok' := fun _ => True) (Kd.V_mk (e := 59) (base := 0) hc0_1 (Kd.C_F (Kd.heap_int .u64) hr0_1)) (fun _ h => trivial))
 clear hr0_1 hc0_1
 simp only [klv] at K
 rw [tribunallaw02_short.f] at h
 simp only [Option.some.injEq] at h
 subst h
 go_enter Tryd.func51, Tryd.ntmps51
 go_wp2_with (first | ((with_reducible refine gate_dst (N := 1) rfl ?_); refine kbe 1 #[.bool a0_0, .slice A0_1 l0_1.length c0_1] 25 ?_; intro g1 hg W2 hx hb; replace K := K.u.box hg hx hb; clear hg hx hb; obtain ⟨ua0, ub0⟩ := K.cell2 0 rfl))
 go_ret
 exact ⟨rfl, K.u.below⟩
end Go.Proofs.YtodhkpdcpneeeaaDoor.PDv
namespace Go.Proofs.YtodhkpdcpneeeaaDoor.PDv
open Go.Proofs.YtodhkpdcpneeeaaDoor.Mine Go.RowKit Go.Proofs.YtodhkpdcpneeeaaDoorW.PrintWords Go.Proofs.YtodhkpdcpneeeaaDoorW.PrintLast Go.Proofs.YtodhkpdcpneeeaaDoorW.PrintMore
open Go.Proofs.YtodhkpdcpneeeaaDoor.Mine
attribute [local go_sem] max2_int min2_int max_two min_two max_three min_three max_four min_four
set_option linter.unusedVariables false
set_option linter.unusedSimpArgs false
mutual
def tribunallaw02_WholeDivides.j0 : Nat → Bool → Bool → List Int → Bool → List Int → Option (Bool)
 | 0, _, _, _, _, _ => none
 | k + 1, x28, x1096000, x1096001, x1097000, x1097001 => if x28 = true then (some true) else ((whole_Quo.f k x1096000 x1096001 x1097000 x1097001).bind fun bt1100 => ((whole_DivMod.f k x1096000 x1096001 x1097000 x1097001).bind fun bt1111 => ((whole_Sign.f k x1097000 x1097001).bind fun t1122 => (if t1122 = 0 then (if bt1100.2.2.2.2 = 11 then (if bt1111.2.2.2.2 = 11 then ((tribunalref02_Same.f k bt1100.1 bt1100.2.1 false ([] : List Int)).bind fun t1123 => (if t1123 = true then ((tribunalref02_Same.f k bt1100.2.2.1 bt1100.2.2.2.1 false ([] : List Int)).bind fun t1124 => (if t1124 = true then ((tribunalref02_Same.f k bt1111.1 bt1111.2.1 false ([] : List Int)).bind fun t1125 => (if t1125 = true then ((tribunalref02_Same.f k bt1111.2.2.1 bt1111.2.2.2.1 false ([] : List Int)).bind fun t1126 => (some t1126)) else (none))) else (none))) else (none))) else (none)) else (none)) else ((whole_Mul.f k bt1100.1 bt1100.2.1 x1097000 x1097001).bind fun bt1127 => ((whole_Add.f k bt1127.1 bt1127.2.1 bt1100.2.2.1 bt1100.2.2.2.1).bind fun bt1133 => ((whole_Mul.f k bt1111.1 bt1111.2.1 x1097000 x1097001).bind fun bt1138 => ((whole_Add.f k bt1138.1 bt1138.2.1 bt1111.2.2.1 bt1111.2.2.2.1).bind fun bt1144 => (if bt1100.2.2.2.2 = 0 then (if bt1111.2.2.2.2 = 0 then (if bt1127.2.2 = 0 then (if bt1133.2.2 = 0 then (if bt1138.2.2 = 0 then (if bt1144.2.2 = 0 then ((whole_Cmp.f k bt1133.1 bt1133.2.1 x1096000 x1096001).bind fun t1149 => (if t1149 = 0 then ((whole_Cmp.f k bt1144.1 bt1144.2.1 x1096000 x1096001).bind fun t1150 => (tribunallaw02_WholeDivides.j1 k (t1150 != 0) x1096000 x1096001 x1097000 x1097001 bt1100.1 bt1100.2.1 bt1100.2.2.1 bt1100.2.2.2.1 bt1111.1 bt1111.2.1 bt1111.2.2.1 bt1111.2.2.2.1)) else (tribunallaw02_WholeDivides.j1 k true x1096000 x1096001 x1097000 x1097001 bt1100.1 bt1100.2.1 bt1100.2.2.1 bt1100.2.2.2.1 bt1111.1 bt1111.2.1 bt1111.2.2.1 bt1111.2.2.2.1))) else (tribunallaw02_WholeDivides.j1 k true x1096000 x1096001 x1097000 x1097001 bt1100.1 bt1100.2.1 bt1100.2.2.1 bt1100.2.2.2.1 bt1111.1 bt1111.2.1 bt1111.2.2.1 bt1111.2.2.2.1)) else (tribunallaw02_WholeDivides.j1 k true x1096000 x1096001 x1097000 x1097001 bt1100.1 bt1100.2.1 bt1100.2.2.1 bt1100.2.2.2.1 bt1111.1 bt1111.2.1 bt1111.2.2.1 bt1111.2.2.2.1)) else (tribunallaw02_WholeDivides.j1 k true x1096000 x1096001 x1097000 x1097001 bt1100.1 bt1100.2.1 bt1100.2.2.1 bt1100.2.2.2.1 bt1111.1 bt1111.2.1 bt1111.2.2.1 bt1111.2.2.2.1)) else (tribunallaw02_WholeDivides.j1 k true x1096000 x1096001 x1097000 x1097001 bt1100.1 bt1100.2.1 bt1100.2.2.1 bt1100.2.2.2.1 bt1111.1 bt1111.2.1 bt1111.2.2.1 bt1111.2.2.2.1)) else (tribunallaw02_WholeDivides.j1 k true x1096000 x1096001 x1097000 x1097001 bt1100.1 bt1100.2.1 bt1100.2.2.1 bt1100.2.2.2.1 bt1111.1 bt1111.2.1 bt1111.2.2.1 bt1111.2.2.2.1)) else (tribunallaw02_WholeDivides.j1 k true x1096000 x1096001 x1097000 x1097001 bt1100.1 bt1100.2.1 bt1100.2.2.1 bt1100.2.2.2.1 bt1111.1 bt1111.2.1 bt1111.2.2.1 bt1111.2.2.2.1))))))))))
def tribunallaw02_WholeDivides.j1 : Nat → Bool → Bool → List Int → Bool → List Int → Bool → List Int → Bool → List Int → Bool → List Int → Bool → List Int → Option (Bool)
 | 0, _, _, _, _, _, _, _, _, _, _, _, _, _ => none
 | k + 1, x129, x1096000, x1096001, x1097000, x1097001, x1110000, x1110001, x1111000, x1111001, x1121000, x1121001, x1122000, x1122001 => if x129 = true then (none) else ((whole_Sign.f k x1111000 x1111001).bind fun t1151 => (if t1151 = 0 then ((whole_Abs.f k x1111000 x1111001).bind fun bt1152 => ((whole_Abs.f k x1097000 x1097001).bind fun bt1156 => ((whole_Cmp.f k bt1152.1 bt1152.2 bt1156.1 bt1156.2).bind fun t1160 => (if t1160 ≥ 0 then (tribunallaw02_WholeDivides.j2 k true x1110000 x1110001 x1121000 x1121001) else ((whole_Sign.f k x1122000 x1122001).bind fun t1161 => (if t1161 < 0 then (tribunallaw02_WholeDivides.j2 k true x1110000 x1110001 x1121000 x1121001) else ((whole_Abs.f k x1097000 x1097001).bind fun bt1162 => ((whole_Cmp.f k x1122000 x1122001 bt1162.1 bt1162.2).bind fun t1166 => (tribunallaw02_WholeDivides.j2 k (decide (t1166 ≥ 0)) x1110000 x1110001 x1121000 x1121001))))))))) else ((whole_Sign.f k x1111000 x1111001).bind fun t1167 => ((whole_Sign.f k x1096000 x1096001).bind fun t1168 => (if t1167 = t1168 then ((whole_Abs.f k x1111000 x1111001).bind fun bt1169 => ((whole_Abs.f k x1097000 x1097001).bind fun bt1173 => ((whole_Cmp.f k bt1169.1 bt1169.2 bt1173.1 bt1173.2).bind fun t1177 => (if t1177 ≥ 0 then (tribunallaw02_WholeDivides.j2 k true x1110000 x1110001 x1121000 x1121001) else ((whole_Sign.f k x1122000 x1122001).bind fun t1178 => (if t1178 < 0 then (tribunallaw02_WholeDivides.j2 k true x1110000 x1110001 x1121000 x1121001) else ((whole_Abs.f k x1097000 x1097001).bind fun bt1179 => ((whole_Cmp.f k x1122000 x1122001 bt1179.1 bt1179.2).bind fun t1183 => (tribunallaw02_WholeDivides.j2 k (decide (t1183 ≥ 0)) x1110000 x1110001 x1121000 x1121001))))))))) else (tribunallaw02_WholeDivides.j2 k true x1110000 x1110001 x1121000 x1121001))))))
def tribunallaw02_WholeDivides.j2 : Nat → Bool → Bool → List Int → Bool → List Int → Option (Bool)
 | 0, _, _, _, _, _ => none
 | k + 1, x159, x1110000, x1110001, x1121000, x1121001 => if x159 = true then (none) else ((whole_Sub.f k x1110000 x1110001 x1121000 x1121001).bind fun bt1184 => (if bt1184.2.2 = 0 then ((whole_Abs.f k bt1184.1 bt1184.2.1).bind fun bt1190 => ((whole_Of.f k 1).bind fun bt1194 => ((whole_Cmp.f k bt1190.1 bt1190.2 bt1194.1 bt1194.2).bind fun t1198 => (some (decide (t1198 ≤ 0)))))) else (none)))
end
def tribunallaw02_WholeDivides.f (k : Nat) (a0_0 : Bool) (l0_1 : List Int) (a1_0 : Bool) (l1_1 : List Int) : Option (Bool) := (tribunallaw02_awake.f k).bind fun t1097 => (if t1097 = true then ((tribunallaw02_short.f a0_0 l0_1).bind fun t1098 => (if t1098 = true then ((tribunallaw02_short.f a1_0 l1_1).bind fun t1099 => (tribunallaw02_WholeDivides.j0 k (!t1099) a0_0 l0_1 a1_0 l1_1)) else (tribunallaw02_WholeDivides.j0 k true a0_0 l0_1 a1_0 l1_1))) else (none))
def tribunallaw02_WholeDivides.T15 : Bool × List (List Nat × List Nat) := (true, [([], []), ([0], [0]), ([1], [1]), ([2, 1], [2]), ([3], [3]), ([4, 3, 3], [3, 4]), ([3], [3]), ([6, 5, 3], [3, 6]), ([5, 7, 3], [3, 5, 7]), ([3, 8], [3, 8]), ([9, 7], [9]), ([10], [10]), ([11, 10, 10], [10, 11]), ([10], [10]), ([13, 12, 10], [10, 13]), ([12, 14, 14, 10], [10, 12, 14]), ([15, 10], [10, 15]), ([10, 16], [10, 16]), ([17, 15], [17]), ([18], [18]), ([19, 18, 18], [18, 19]), ([20, 18], [18, 20]), ([18, 21], [18, 21]), ([22, 20], [22]), ([23], [23]), ([23], [23]), ([25, 23, 23], [23, 25]), ([24, 26, 26, 23], [23, 24, 26]), ([27, 23], [23, 27]), ([23, 28], [23, 28])])
def tribunallaw02_WholeDivides.B15 : List Nat := [0, 1, 3, 7, 15, 31, 15, 127, 255, 511, 1023, 2047, 4095, 2047, 16383, 32767, 65535, 131071, 262143, 524287, 1048575, 2097151, 4194303, 8388607, 16777215, 16777215, 50331647, 134217727, 268435455, 536870911]
theorem tribunallaw02_WholeDivides.tab15 : rtab .any (opsOf Tryd.f12 15) = tribunallaw02_WholeDivides.T15 := by kernel_rfl
theorem tribunallaw02_WholeDivides.bits15 : waitsOk tribunallaw02_WholeDivides.T15.2 tribunallaw02_WholeDivides.B15 = true := by kernel_rfl
theorem tribunallaw02_WholeDivides.calls (k : Nat) (a0_0 : Bool) (A0_1 : Option Addr) (c0_1 : Nat) (l0_1 : List Int) (a1_0 : Bool) (A1_1 : Option Addr) (c1_1 : Nat) (l1_1 : List Int) (r : Bool) (w : World) (hr0_1 : Kd.C (Kd.int .u64) w A0_1 l0_1.length l0_1) (hc0_1 : l0_1.length ≤ c0_1) (hr1_1 : Kd.C (Kd.int .u64) w A1_1 l1_1.length l1_1) (hc1_1 : l1_1.length ≤ c1_1) (h : tribunallaw02_WholeDivides.f k a0_0 l0_1 a1_0 l1_1 = some r) :
  Calls Tryd.prog 12 #[.agg #[.bool a0_0, .slice A0_1 l0_1.length c0_1], .agg #[.bool a1_0, .slice A1_1 l1_1.length c1_1]] w fun e w' => e = .returned (.bool r) ∧ Below w.heap.size w w' := by
 have hu25 := Tryd.underlying25
 have K := Kp.refl w
 replace K := K.parV (Kd.V_mono (ok' := fun _ => True) (Kd.V_mk (e := 59) (base := 0) hc0_1 (Kd.C_F (Kd.heap_int .u64) hr0_1)) (fun _ h => trivial))
 clear hr0_1 hc0_1
 replace K := K.parV (Kd.V_mono (ok' := fun _ => True) (Kd.V_mk (e := 59) (base := 0) hc1_1 (Kd.C_F (Kd.heap_int .u64) hr1_1)) (fun _ h => trivial))
 clear hr1_1 hc1_1
 try simp only [klv] at K
 rw [tribunallaw02_WholeDivides.f] at h
 replace h := bindA h
 obtain ⟨z5, A6, h⟩ := h
 by_cases c_0 : z5 = true
 ·subst c_0
  rw [if_pos rfl] at h
  replace h := bindA h
  obtain ⟨z8, A9, h⟩ := h
  by_cases c_1 : z8 = true
  ·subst c_1
   rw [if_pos rfl] at h
   replace h := bindA h
   obtain ⟨z11, A12, h⟩ := h
   obtain ⟨k, rfl⟩ : ∃ j, k = j + 1 := by
    cases k with
    | zero => simp [tribunallaw02_WholeDivides.j0] at h
    | succ k => exact ⟨k, rfl⟩
   rw [tribunallaw02_WholeDivides.j0] at h
   by_cases c_2 : (!z11) = true
   ·rw [if_pos c_2] at h
    simp only [Option.some.injEq] at h
    subst h
    go_enter Tryd.func12, Tryd.ntmps12
    go_wp2_with (first | ((with_reducible refine gate_dst (N := 2) rfl ?_); refine kbe 2 #[.bool a0_0, .slice A0_1 l0_1.length c0_1] 25 ?_; intro g1 hg W2 hx hb; replace K := K.u.box hg hx hb; clear hg hx hb) | ((with_reducible refine gate_dst (N := 3) rfl ?_); refine kbe 3 #[.bool a1_0, .slice A1_1 l1_1.length c1_1] 25 ?_; intro g3 hg W4 hx hb; replace K := K.u.box hg hx hb; clear hg hx hb) | ((with_reducible refine gate_dst (N := 19) rfl ?_); refine kgl (some 19) rfl rfl Tryd.func21 #[] rfl ?_; refine (tribunallaw02_awake.calls _ true _ A6.out).mono ?_; rintro e W7 ⟨rfl, hb⟩; refine ⟨_, rfl, ?_⟩; replace K := K.u.up hb; clear hb; obtain ⟨ua0, ub0⟩ := K.cell2 0 rfl) | ((with_reducible refine gate_dst (N := 22) rfl ?_); clear ua0 ub0; refine kgl (some 22) rfl rfl Tryd.func51 #[.agg #[.bool a0_0, .slice A0_1 l0_1.length c0_1]] rfl ?_; refine (tribunallaw02_short.calls a0_0 _ _ l0_1 true _ (K.C 0 rfl) (K.le 0 rfl) A9.out).mono ?_; rintro e W10 ⟨rfl, hb⟩; refine ⟨_, rfl, ?_⟩; replace K := K.u.up hb; clear hb; obtain ⟨ua1, ub1⟩ := K.cell2 1 rfl) | ((with_reducible refine gate_dst (N := 26) rfl ?_); clear ua1 ub1; refine gate_guard (by rfl) ?_; refine kgl (some 26) rfl rfl Tryd.func51 #[.agg #[.bool a1_0, .slice A1_1 l1_1.length c1_1]] rfl ?_; refine (tribunallaw02_short.calls a1_0 _ _ l1_1 z11 _ (K.C 1 rfl) (K.le 1 rfl) A12.out).mono ?_; rintro e W13 ⟨rfl, hb⟩; refine ⟨_, rfl, ?_⟩; replace K := K.u.up hb; clear hb))
    go_ret
    exact ⟨rfl, K.u.below⟩
   ·rw [if_neg c_2] at h
    replace c_2 := Bool.eq_false_iff.mpr c_2
    replace h := bindA h
    obtain ⟨⟨z14, x15, z16, x17, n18⟩, A19, h⟩ := h
    dsimp only at h
    replace h := bindA h
    obtain ⟨⟨z39, x40, z41, x42, n43⟩, A44, h⟩ := h
    dsimp only at h
    replace h := bindA h
    obtain ⟨n64, A65, h⟩ := h
    by_cases c_3 : n64 = 0
    ·rw [if_pos c_3] at h
     have c_3b0 : (n64 == 0) = true := beq_iff_eq.mpr c_3
     have c_3b1 : (n64 != 0) = false := bne_eq_false_iff_eq.mpr c_3
     clear c_3
     by_cases c_4 : n18 = 11
     ·rw [if_pos c_4] at h
      have c_4b0 : (n18 == 11) = true := beq_iff_eq.mpr c_4
      have c_4b1 : (n18 != 11) = false := bne_eq_false_iff_eq.mpr c_4
      clear c_4
      by_cases c_5 : n43 = 11
      ·rw [if_pos c_5] at h
       have c_5b0 : (n43 == 11) = true := beq_iff_eq.mpr c_5
       have c_5b1 : (n43 != 11) = false := bne_eq_false_iff_eq.mpr c_5
       clear c_5
       replace h := bindA h
       obtain ⟨z67, A68, h⟩ := h
       by_cases c_6 : z67 = true
       ·subst c_6
        rw [if_pos rfl] at h
        replace h := bindA h
        obtain ⟨z70, A71, h⟩ := h
        by_cases c_7 : z70 = true
        ·subst c_7
         rw [if_pos rfl] at h
         replace h := bindA h
         obtain ⟨z73, A74, h⟩ := h
         by_cases c_8 : z73 = true
         ·subst c_8
          rw [if_pos rfl] at h
          replace h := bindA h
          obtain ⟨z76, A77, h⟩ := h
          simp only [Option.some.injEq] at h
          subst h
          go_enter Tryd.func12, Tryd.ntmps12
          go_wp2_with (first | ((with_reducible refine gate_dst (N := 2) rfl ?_); refine kbe 2 #[.bool a0_0, .slice A0_1 l0_1.length c0_1] 25 ?_; intro g1 hg W2 hx hb; replace K := K.u.box hg hx hb; clear hg hx hb) | ((with_reducible refine gate_dst (N := 3) rfl ?_); refine kbe 3 #[.bool a1_0, .slice A1_1 l1_1.length c1_1] 25 ?_; intro g3 hg W4 hx hb; replace K := K.u.box hg hx hb; clear hg hx hb) | ((with_reducible refine gate_dst (N := 19) rfl ?_); refine kgl (some 19) rfl rfl Tryd.func21 #[] rfl ?_; refine (tribunallaw02_awake.calls _ true _ A6.out).mono ?_; rintro e W7 ⟨rfl, hb⟩; refine ⟨_, rfl, ?_⟩; replace K := K.u.up hb; clear hb; obtain ⟨ua0, ub0⟩ := K.cell2 0 rfl) | ((with_reducible refine gate_dst (N := 22) rfl ?_); clear ua0 ub0; refine kgl (some 22) rfl rfl Tryd.func51 #[.agg #[.bool a0_0, .slice A0_1 l0_1.length c0_1]] rfl ?_; refine (tribunallaw02_short.calls a0_0 _ _ l0_1 true _ (K.C 0 rfl) (K.le 0 rfl) A9.out).mono ?_; rintro e W10 ⟨rfl, hb⟩; refine ⟨_, rfl, ?_⟩; replace K := K.u.up hb; clear hb; obtain ⟨ua1, ub1⟩ := K.cell2 1 rfl) | ((with_reducible refine gate_dst (N := 26) rfl ?_); clear ua1 ub1; refine gate_guard (by rfl) ?_; refine kgl (some 26) rfl rfl Tryd.func51 #[.agg #[.bool a1_0, .slice A1_1 l1_1.length c1_1]] rfl ?_; refine (tribunallaw02_short.calls a1_0 _ _ l1_1 z11 _ (K.C 1 rfl) (K.le 1 rfl) A12.out).mono ?_; rintro e W13 ⟨rfl, hb⟩; refine ⟨_, rfl, ?_⟩; replace K := K.u.up hb; clear hb; obtain ⟨ua0, ub0⟩ := K.cell2 0 rfl; obtain ⟨ua1, ub1⟩ := K.cell2 1 rfl) | ((with_reducible refine gate_dst (N := 32) rfl ?_); clear ua0 ub0 ua1 ub1; refine kgl (some 32) rfl rfl Tryd.func24 #[.agg #[.bool a0_0, .slice A0_1 l0_1.length c0_1], .agg #[.bool a1_0, .slice A1_1 l1_1.length c1_1]] rfl ?_; refine (whole_Quo.calls _ a0_0 _ _ l0_1 a1_0 _ _ l1_1 z14 x15 z16 x17 n18 _ (K.C 0 rfl) (K.le 0 rfl) (K.C 1 rfl) (K.le 1 rfl) A19.out).mono ?_; rintro e W24 ⟨v20, v21, rfl, ho22, ho23, hb⟩; refine ⟨_, rfl, ?_⟩; replace K := K.u.addR2 hb ho22 ho23; clear hb ho22 ho23; obtain ⟨P25, c26, e27⟩ := K.slice 2 rfl; subst e27; obtain ⟨P28, c29, e30⟩ := K.slice 3 rfl; subst e30) | ((with_reducible refine gate_dst (N := 5) rfl ?_); refine kbe 5 #[.bool false, .slice none 0 0] 25 ?_; intro g31 hg W32 hx hb; replace K := K.u.box hg hx hb; clear hg hx hb) | ((with_reducible refine gate_dst (N := 6) rfl ?_); refine kbe 6 #[.bool false, .slice none 0 0] 25 ?_; intro g33 hg W34 hx hb; replace K := K.u.box hg hx hb; clear hg hx hb) | ((with_reducible refine gate_store (t := 25) (p := 5) (v := .tmp 33) rfl ?_); refine kst2 2 (.bool z14) (.slice P25 x15.length c26) K.u rfl ?q36 ?_; (case q36 => intro c0 c1 f0 f1; first | (go_simp; done) | (go_simp; rfl)); clear K; intro W35 K; simp only [kls, klv] at K) | ((with_reducible refine gate_store (t := 25) (p := 6) (v := .tmp 34) rfl ?_); refine kst2 3 (.bool z16) (.slice P28 x17.length c29) K.u rfl ?q38 ?_; (case q38 => intro c0 c1 f0 f1; first | (go_simp; done) | (go_simp; rfl)); clear K; intro W37 K; simp only [kls, klv] at K; obtain ⟨ua0, ub0⟩ := K.cell2 0 rfl; obtain ⟨ua1, ub1⟩ := K.cell2 1 rfl) | ((with_reducible refine gate_dst (N := 39) rfl ?_); clear ua0 ub0 ua1 ub1; refine kgl (some 39) rfl rfl Tryd.func18 #[.agg #[.bool a0_0, .slice A0_1 l0_1.length c0_1], .agg #[.bool a1_0, .slice A1_1 l1_1.length c1_1]] rfl ?_; refine (whole_DivMod.calls _ a0_0 _ _ l0_1 a1_0 _ _ l1_1 z39 x40 z41 x42 n43 _ (K.C 0 rfl) (K.le 0 rfl) (K.C 1 rfl) (K.le 1 rfl) A44.out).mono ?_; rintro e W49 ⟨v45, v46, rfl, ho47, ho48, hb⟩; refine ⟨_, rfl, ?_⟩; replace K := K.u.addR2 hb ho47 ho48; clear hb ho47 ho48; obtain ⟨P50, c51, e52⟩ := K.slice 4 rfl; subst e52; obtain ⟨P53, c54, e55⟩ := K.slice 5 rfl; subst e55) | ((with_reducible refine gate_dst (N := 8) rfl ?_); refine kbe 8 #[.bool false, .slice none 0 0] 25 ?_; intro g56 hg W57 hx hb; replace K := K.u.box hg hx hb; clear hg hx hb) | ((with_reducible refine gate_dst (N := 9) rfl ?_); refine kbe 9 #[.bool false, .slice none 0 0] 25 ?_; intro g58 hg W59 hx hb; replace K := K.u.box hg hx hb; clear hg hx hb) | ((with_reducible refine gate_store (t := 25) (p := 8) (v := .tmp 40) rfl ?_); refine kst2 4 (.bool z39) (.slice P50 x40.length c51) K.u rfl ?q61 ?_; (case q61 => intro c0 c1 f0 f1; first | (go_simp; done) | (go_simp; rfl)); clear K; intro W60 K; simp only [kls, klv] at K) | ((with_reducible refine gate_store (t := 25) (p := 9) (v := .tmp 41) rfl ?_); refine kst2 5 (.bool z41) (.slice P53 x42.length c54) K.u rfl ?q63 ?_; (case q63 => intro c0 c1 f0 f1; first | (go_simp; done) | (go_simp; rfl)); clear K; intro W62 K; simp only [kls, klv] at K; obtain ⟨ua1, ub1⟩ := K.cell2 1 rfl) | ((with_reducible refine gate_dst (N := 44) rfl ?_); clear ua1 ub1; refine kgl (some 44) rfl rfl Tryd.func40 #[.agg #[.bool a1_0, .slice A1_1 l1_1.length c1_1]] rfl ?_; refine (whole_Sign.calls _ a1_0 _ _ l1_1 n64 _ (K.C 1 rfl) (K.le 1 rfl) A65.out).mono ?_; rintro e W66 ⟨rfl, hb⟩; refine ⟨_, rfl, ?_⟩; replace K := K.u.up hb; clear hb; obtain ⟨ua2, ub2⟩ := K.cell2 2 rfl) | ((with_reducible refine gate_dst (N := 55) rfl ?_); clear ua2 ub2; refine gate_guard (by rfl) ?_; refine kgl (some 55) rfl rfl Tryd.func20 #[.agg #[.bool z14, .slice P25 x15.length c26], .agg #[.bool false, .slice none 0 0]] rfl ?_; refine (tribunalref02_Same.calls _ z14 _ _ x15 false _ _ ([]) true _ (K.C 2 rfl) (K.le 2 rfl) (Kd.C_nil _ _) (Nat.le_refl _) A68.out).mono ?_; rintro e W69 ⟨rfl, hb⟩; refine ⟨_, rfl, ?_⟩; replace K := K.u.up hb; clear hb; obtain ⟨ua3, ub3⟩ := K.cell2 3 rfl) | ((with_reducible refine gate_dst (N := 60) rfl ?_); clear ua3 ub3; refine gate_guard (by rfl) ?_; refine kgl (some 60) rfl rfl Tryd.func20 #[.agg #[.bool z16, .slice P28 x17.length c29], .agg #[.bool false, .slice none 0 0]] rfl ?_; refine (tribunalref02_Same.calls _ z16 _ _ x17 false _ _ ([]) true _ (K.C 3 rfl) (K.le 3 rfl) (Kd.C_nil _ _) (Nat.le_refl _) A71.out).mono ?_; rintro e W72 ⟨rfl, hb⟩; refine ⟨_, rfl, ?_⟩; replace K := K.u.up hb; clear hb; obtain ⟨ua4, ub4⟩ := K.cell2 4 rfl) | ((with_reducible refine gate_dst (N := 65) rfl ?_); clear ua4 ub4; refine gate_guard (by rfl) ?_; refine kgl (some 65) rfl rfl Tryd.func20 #[.agg #[.bool z39, .slice P50 x40.length c51], .agg #[.bool false, .slice none 0 0]] rfl ?_; refine (tribunalref02_Same.calls _ z39 _ _ x40 false _ _ ([]) true _ (K.C 4 rfl) (K.le 4 rfl) (Kd.C_nil _ _) (Nat.le_refl _) A74.out).mono ?_; rintro e W75 ⟨rfl, hb⟩; refine ⟨_, rfl, ?_⟩; replace K := K.u.up hb; clear hb; obtain ⟨ua5, ub5⟩ := K.cell2 5 rfl) | ((with_reducible refine gate_dst (N := 70) rfl ?_); clear ua5 ub5; refine gate_guard (by rfl) ?_; refine kgl (some 70) rfl rfl Tryd.func20 #[.agg #[.bool z41, .slice P53 x42.length c54], .agg #[.bool false, .slice none 0 0]] rfl ?_; refine (tribunalref02_Same.calls _ z41 _ _ x42 false _ _ ([]) z76 _ (K.C 5 rfl) (K.le 5 rfl) (Kd.C_nil _ _) (Nat.le_refl _) A77.out).mono ?_; rintro e W78 ⟨rfl, hb⟩; refine ⟨_, rfl, ?_⟩; replace K := K.u.up hb; clear hb))
          go_ret
          exact ⟨rfl, K.u.below⟩
         ·replace c_8 := Bool.eq_false_iff.mpr c_8
          subst c_8
          rw [if_neg (by decide)] at h
          exact nomatch h
        ·replace c_7 := Bool.eq_false_iff.mpr c_7
         subst c_7
         rw [if_neg (by decide)] at h
         exact nomatch h
       ·replace c_6 := Bool.eq_false_iff.mpr c_6
        subst c_6
        rw [if_neg (by decide)] at h
        exact nomatch h
      ·rw [if_neg c_5] at h
       have c_5b0 : (n43 == 11) = false := beq_eq_false_iff_ne.mpr c_5
       have c_5b1 : (n43 != 11) = true := bne_iff_ne.mpr c_5
       clear c_5
       exact nomatch h
     ·rw [if_neg c_4] at h
      have c_4b0 : (n18 == 11) = false := beq_eq_false_iff_ne.mpr c_4
      have c_4b1 : (n18 != 11) = true := bne_iff_ne.mpr c_4
      clear c_4
      exact nomatch h
    ·rw [if_neg c_3] at h
     have c_3b0 : (n64 == 0) = false := beq_eq_false_iff_ne.mpr c_3
     have c_3b1 : (n64 != 0) = true := bne_iff_ne.mpr c_3
     clear c_3
     replace h := bindA h
     obtain ⟨⟨z67, x68, n69⟩, A70, h⟩ := h
     dsimp only at h
     replace h := bindA h
     obtain ⟨⟨z81, x82, n83⟩, A84, h⟩ := h
     dsimp only at h
     replace h := bindA h
     obtain ⟨⟨z93, x94, n95⟩, A96, h⟩ := h
     dsimp only at h
     replace h := bindA h
     obtain ⟨⟨z107, x108, n109⟩, A110, h⟩ := h
     dsimp only at h
     by_cases c_9 : n18 = 0
     ·rw [if_pos c_9] at h
      have c_9b0 : (n18 == 0) = true := beq_iff_eq.mpr c_9
      have c_9b1 : (n18 != 0) = false := bne_eq_false_iff_eq.mpr c_9
      clear c_9
      by_cases c_10 : n43 = 0
      ·rw [if_pos c_10] at h
       have c_10b0 : (n43 == 0) = true := beq_iff_eq.mpr c_10
       have c_10b1 : (n43 != 0) = false := bne_eq_false_iff_eq.mpr c_10
       clear c_10
       by_cases c_11 : n69 = 0
       ·rw [if_pos c_11] at h
        have c_11b0 : (n69 == 0) = true := beq_iff_eq.mpr c_11
        have c_11b1 : (n69 != 0) = false := bne_eq_false_iff_eq.mpr c_11
        clear c_11
        by_cases c_12 : n83 = 0
        ·rw [if_pos c_12] at h
         have c_12b0 : (n83 == 0) = true := beq_iff_eq.mpr c_12
         have c_12b1 : (n83 != 0) = false := bne_eq_false_iff_eq.mpr c_12
         clear c_12
         by_cases c_13 : n95 = 0
         ·rw [if_pos c_13] at h
          have c_13b0 : (n95 == 0) = true := beq_iff_eq.mpr c_13
          have c_13b1 : (n95 != 0) = false := bne_eq_false_iff_eq.mpr c_13
          clear c_13
          by_cases c_14 : n109 = 0
          ·rw [if_pos c_14] at h
           have c_14b0 : (n109 == 0) = true := beq_iff_eq.mpr c_14
           have c_14b1 : (n109 != 0) = false := bne_eq_false_iff_eq.mpr c_14
           clear c_14
           replace h := bindA h
           obtain ⟨n119, A120, h⟩ := h
           by_cases c_15 : n119 = 0
           ·rw [if_pos c_15] at h
            have c_15b0 : (n119 == 0) = true := beq_iff_eq.mpr c_15
            have c_15b1 : (n119 != 0) = false := bne_eq_false_iff_eq.mpr c_15
            clear c_15
            replace h := bindA h
            obtain ⟨n122, A123, h⟩ := h
            obtain ⟨k, rfl⟩ : ∃ j, k = j + 1 := by
             cases k with
             | zero => simp [tribunallaw02_WholeDivides.j1] at h
             | succ k => exact ⟨k, rfl⟩
            rw [tribunallaw02_WholeDivides.j1] at h
            by_cases c_16 : (n122 != 0) = true
            ·rw [if_pos c_16] at h
             have c_16b : (n122 == 0) = false := by simpa using c_16
             exact nomatch h
            ·rw [if_neg c_16] at h
             replace c_16 := Bool.eq_false_iff.mpr c_16
             have c_16b : (n122 == 0) = true := by simpa using c_16
             go_enter Tryd.func12, Tryd.ntmps12
             go_wp2_with (first | ((with_reducible refine gate_dst (N := 2) rfl ?_); refine kbe 2 #[.bool a0_0, .slice A0_1 l0_1.length c0_1] 25 ?_; intro g1 hg W2 hx hb; replace K := K.u.box hg hx hb; clear hg hx hb) | ((with_reducible refine gate_dst (N := 3) rfl ?_); refine kbe 3 #[.bool a1_0, .slice A1_1 l1_1.length c1_1] 25 ?_; intro g3 hg W4 hx hb; replace K := K.u.box hg hx hb; clear hg hx hb) | ((with_reducible refine gate_dst (N := 19) rfl ?_); refine kgl (some 19) rfl rfl Tryd.func21 #[] rfl ?_; refine (tribunallaw02_awake.calls _ true _ A6.out).mono ?_; rintro e W7 ⟨rfl, hb⟩; refine ⟨_, rfl, ?_⟩; replace K := K.u.up hb; clear hb; obtain ⟨ua0, ub0⟩ := K.cell2 0 rfl) | ((with_reducible refine gate_dst (N := 22) rfl ?_); clear ua0 ub0; refine kgl (some 22) rfl rfl Tryd.func51 #[.agg #[.bool a0_0, .slice A0_1 l0_1.length c0_1]] rfl ?_; refine (tribunallaw02_short.calls a0_0 _ _ l0_1 true _ (K.C 0 rfl) (K.le 0 rfl) A9.out).mono ?_; rintro e W10 ⟨rfl, hb⟩; refine ⟨_, rfl, ?_⟩; replace K := K.u.up hb; clear hb; obtain ⟨ua1, ub1⟩ := K.cell2 1 rfl) | ((with_reducible refine gate_dst (N := 26) rfl ?_); clear ua1 ub1; refine gate_guard (by rfl) ?_; refine kgl (some 26) rfl rfl Tryd.func51 #[.agg #[.bool a1_0, .slice A1_1 l1_1.length c1_1]] rfl ?_; refine (tribunallaw02_short.calls a1_0 _ _ l1_1 z11 _ (K.C 1 rfl) (K.le 1 rfl) A12.out).mono ?_; rintro e W13 ⟨rfl, hb⟩; refine ⟨_, rfl, ?_⟩; replace K := K.u.up hb; clear hb; obtain ⟨ua0, ub0⟩ := K.cell2 0 rfl; obtain ⟨ua1, ub1⟩ := K.cell2 1 rfl) | ((with_reducible refine gate_dst (N := 32) rfl ?_); clear ua0 ub0 ua1 ub1; refine kgl (some 32) rfl rfl Tryd.func24 #[.agg #[.bool a0_0, .slice A0_1 l0_1.length c0_1], .agg #[.bool a1_0, .slice A1_1 l1_1.length c1_1]] rfl ?_; refine (whole_Quo.calls _ a0_0 _ _ l0_1 a1_0 _ _ l1_1 z14 x15 z16 x17 n18 _ (K.C 0 rfl) (K.le 0 rfl) (K.C 1 rfl) (K.le 1 rfl) A19.out).mono ?_; rintro e W24 ⟨v20, v21, rfl, ho22, ho23, hb⟩; refine ⟨_, rfl, ?_⟩; replace K := K.u.addR2 hb ho22 ho23; clear hb ho22 ho23; obtain ⟨P25, c26, e27⟩ := K.slice 2 rfl; subst e27; obtain ⟨P28, c29, e30⟩ := K.slice 3 rfl; subst e30) | ((with_reducible refine gate_dst (N := 5) rfl ?_); refine kbe 5 #[.bool false, .slice none 0 0] 25 ?_; intro g31 hg W32 hx hb; replace K := K.u.box hg hx hb; clear hg hx hb) | ((with_reducible refine gate_dst (N := 6) rfl ?_); refine kbe 6 #[.bool false, .slice none 0 0] 25 ?_; intro g33 hg W34 hx hb; replace K := K.u.box hg hx hb; clear hg hx hb) | ((with_reducible refine gate_store (t := 25) (p := 5) (v := .tmp 33) rfl ?_); refine kst2 2 (.bool z14) (.slice P25 x15.length c26) K.u rfl ?q36 ?_; (case q36 => intro c0 c1 f0 f1; first | (go_simp; done) | (go_simp; rfl)); clear K; intro W35 K; simp only [kls, klv] at K) | ((with_reducible refine gate_store (t := 25) (p := 6) (v := .tmp 34) rfl ?_); refine kst2 3 (.bool z16) (.slice P28 x17.length c29) K.u rfl ?q38 ?_; (case q38 => intro c0 c1 f0 f1; first | (go_simp; done) | (go_simp; rfl)); clear K; intro W37 K; simp only [kls, klv] at K; obtain ⟨ua0, ub0⟩ := K.cell2 0 rfl; obtain ⟨ua1, ub1⟩ := K.cell2 1 rfl) | ((with_reducible refine gate_dst (N := 39) rfl ?_); clear ua0 ub0 ua1 ub1; refine kgl (some 39) rfl rfl Tryd.func18 #[.agg #[.bool a0_0, .slice A0_1 l0_1.length c0_1], .agg #[.bool a1_0, .slice A1_1 l1_1.length c1_1]] rfl ?_; refine (whole_DivMod.calls _ a0_0 _ _ l0_1 a1_0 _ _ l1_1 z39 x40 z41 x42 n43 _ (K.C 0 rfl) (K.le 0 rfl) (K.C 1 rfl) (K.le 1 rfl) A44.out).mono ?_; rintro e W49 ⟨v45, v46, rfl, ho47, ho48, hb⟩; refine ⟨_, rfl, ?_⟩; replace K := K.u.addR2 hb ho47 ho48; clear hb ho47 ho48; obtain ⟨P50, c51, e52⟩ := K.slice 4 rfl; subst e52; obtain ⟨P53, c54, e55⟩ := K.slice 5 rfl; subst e55) | ((with_reducible refine gate_dst (N := 8) rfl ?_); refine kbe 8 #[.bool false, .slice none 0 0] 25 ?_; intro g56 hg W57 hx hb; replace K := K.u.box hg hx hb; clear hg hx hb) | ((with_reducible refine gate_dst (N := 9) rfl ?_); refine kbe 9 #[.bool false, .slice none 0 0] 25 ?_; intro g58 hg W59 hx hb; replace K := K.u.box hg hx hb; clear hg hx hb) | ((with_reducible refine gate_store (t := 25) (p := 8) (v := .tmp 40) rfl ?_); refine kst2 4 (.bool z39) (.slice P50 x40.length c51) K.u rfl ?q61 ?_; (case q61 => intro c0 c1 f0 f1; first | (go_simp; done) | (go_simp; rfl)); clear K; intro W60 K; simp only [kls, klv] at K) | ((with_reducible refine gate_store (t := 25) (p := 9) (v := .tmp 41) rfl ?_); refine kst2 5 (.bool z41) (.slice P53 x42.length c54) K.u rfl ?q63 ?_; (case q63 => intro c0 c1 f0 f1; first | (go_simp; done) | (go_simp; rfl)); clear K; intro W62 K; simp only [kls, klv] at K; obtain ⟨ua1, ub1⟩ := K.cell2 1 rfl) | ((with_reducible refine gate_dst (N := 44) rfl ?_); clear ua1 ub1; refine kgl (some 44) rfl rfl Tryd.func40 #[.agg #[.bool a1_0, .slice A1_1 l1_1.length c1_1]] rfl ?_; refine (whole_Sign.calls _ a1_0 _ _ l1_1 n64 _ (K.C 1 rfl) (K.le 1 rfl) A65.out).mono ?_; rintro e W66 ⟨rfl, hb⟩; refine ⟨_, rfl, ?_⟩; replace K := K.u.up hb; clear hb; obtain ⟨ua2, ub2⟩ := K.cell2 2 rfl; obtain ⟨ua1, ub1⟩ := K.cell2 1 rfl) | ((with_reducible refine gate_dst (N := 75) rfl ?_); clear ua2 ub2 ua1 ub1; refine kgl (some 75) rfl rfl Tryd.func49 #[.agg #[.bool z14, .slice P25 x15.length c26], .agg #[.bool a1_0, .slice A1_1 l1_1.length c1_1]] rfl ?_; refine (whole_Mul.calls _ z14 _ _ x15 a1_0 _ _ l1_1 z67 x68 n69 _ (K.C 2 rfl) (K.le 2 rfl) (K.C 1 rfl) (K.le 1 rfl) A70.out).mono ?_; rintro e W73 ⟨v71, rfl, ho72, hb⟩; refine ⟨_, rfl, ?_⟩; replace K := K.u.addRE hb ho72; clear hb ho72; obtain ⟨P74, c75, e76⟩ := K.slice 6 rfl; subst e76) | ((with_reducible refine gate_dst (N := 11) rfl ?_); refine kbe 11 #[.bool false, .slice none 0 0] 25 ?_; intro g77 hg W78 hx hb; replace K := K.u.box hg hx hb; clear hg hx hb) | ((with_reducible refine gate_store (t := 25) (p := 11) (v := .tmp 76) rfl ?_); refine kst2 6 (.bool z67) (.slice P74 x68.length c75) K.u rfl ?q80 ?_; (case q80 => intro c0 c1 f0 f1; first | (go_simp; done) | (go_simp; rfl)); clear K; intro W79 K; simp only [kls, klv] at K; obtain ⟨ua6, ub6⟩ := K.cell2 6 rfl; obtain ⟨ua3, ub3⟩ := K.cell2 3 rfl) | ((with_reducible refine gate_dst (N := 81) rfl ?_); clear ua6 ub6 ua3 ub3; refine kgl (some 81) rfl rfl Tryd.func26 #[.agg #[.bool z67, .slice P74 x68.length c75], .agg #[.bool z16, .slice P28 x17.length c29]] rfl ?_; refine (whole_Add.calls _ z67 _ _ x68 z16 _ _ x17 z81 x82 n83 _ (K.C 6 rfl) (K.le 6 rfl) (K.C 3 rfl) (K.le 3 rfl) A84.out).mono ?_; rintro e W87 ⟨v85, rfl, ho86, hb⟩; refine ⟨_, rfl, ?_⟩; replace K := K.u.addRE hb ho86; clear hb ho86; obtain ⟨P88, c89, e90⟩ := K.slice 7 rfl; subst e90) | ((with_reducible refine gate_store (t := 25) (p := 11) (v := .tmp 82) rfl ?_); refine kst2 6 (.bool z81) (.slice P88 x82.length c89) K.u rfl ?q92 ?_; (case q92 => intro c0 c1 f0 f1; first | (go_simp; done) | (go_simp; rfl)); clear K; intro W91 K; simp only [kls, klv] at K; obtain ⟨ua4, ub4⟩ := K.cell2 4 rfl; obtain ⟨ua1, ub1⟩ := K.cell2 1 rfl) | ((with_reducible refine gate_dst (N := 87) rfl ?_); clear ua4 ub4 ua1 ub1; refine kgl (some 87) rfl rfl Tryd.func49 #[.agg #[.bool z39, .slice P50 x40.length c51], .agg #[.bool a1_0, .slice A1_1 l1_1.length c1_1]] rfl ?_; refine (whole_Mul.calls _ z39 _ _ x40 a1_0 _ _ l1_1 z93 x94 n95 _ (K.C 4 rfl) (K.le 4 rfl) (K.C 1 rfl) (K.le 1 rfl) A96.out).mono ?_; rintro e W99 ⟨v97, rfl, ho98, hb⟩; refine ⟨_, rfl, ?_⟩; replace K := K.u.addRE hb ho98; clear hb ho98; obtain ⟨P100, c101, e102⟩ := K.slice 8 rfl; subst e102) | ((with_reducible refine gate_dst (N := 14) rfl ?_); refine kbe 14 #[.bool false, .slice none 0 0] 25 ?_; intro g103 hg W104 hx hb; replace K := K.u.box hg hx hb; clear hg hx hb) | ((with_reducible refine gate_store (t := 25) (p := 14) (v := .tmp 88) rfl ?_); refine kst2 7 (.bool z93) (.slice P100 x94.length c101) K.u rfl ?q106 ?_; (case q106 => intro c0 c1 f0 f1; first | (go_simp; done) | (go_simp; rfl)); clear K; intro W105 K; simp only [kls, klv] at K; obtain ⟨ua7, ub7⟩ := K.cell2 7 rfl; obtain ⟨ua5, ub5⟩ := K.cell2 5 rfl) | ((with_reducible refine gate_dst (N := 93) rfl ?_); clear ua7 ub7 ua5 ub5; refine kgl (some 93) rfl rfl Tryd.func26 #[.agg #[.bool z93, .slice P100 x94.length c101], .agg #[.bool z41, .slice P53 x42.length c54]] rfl ?_; refine (whole_Add.calls _ z93 _ _ x94 z41 _ _ x42 z107 x108 n109 _ (K.C 8 rfl) (K.le 8 rfl) (K.C 5 rfl) (K.le 5 rfl) A110.out).mono ?_; rintro e W113 ⟨v111, rfl, ho112, hb⟩; refine ⟨_, rfl, ?_⟩; replace K := K.u.addRE hb ho112; clear hb ho112; obtain ⟨P114, c115, e116⟩ := K.slice 9 rfl; subst e116) | ((with_reducible refine gate_store (t := 25) (p := 14) (v := .tmp 94) rfl ?_); refine kst2 7 (.bool z107) (.slice P114 x108.length c115) K.u rfl ?q118 ?_; (case q118 => intro c0 c1 f0 f1; first | (go_simp; done) | (go_simp; rfl)); clear K; intro W117 K; simp only [kls, klv] at K; obtain ⟨ua6, ub6⟩ := K.cell2 6 rfl; obtain ⟨ua0, ub0⟩ := K.cell2 0 rfl) | ((with_reducible refine gate_dst (N := 121) rfl ?_); clear ua6 ub6 ua0 ub0; refine gate_guard (by rfl) ?_; refine kgl (some 121) rfl rfl Tryd.func30 #[.agg #[.bool z81, .slice P88 x82.length c89], .agg #[.bool a0_0, .slice A0_1 l0_1.length c0_1]] rfl ?_; refine (whole_Cmp.calls _ z81 _ _ x82 a0_0 _ _ l0_1 n119 _ (K.C 7 rfl) (K.le 7 rfl) (K.C 0 rfl) (K.le 0 rfl) A120.out).mono ?_; rintro e W121 ⟨rfl, hb⟩; refine ⟨_, rfl, ?_⟩; replace K := K.u.up hb; clear hb; obtain ⟨ua7, ub7⟩ := K.cell2 7 rfl; obtain ⟨ua0, ub0⟩ := K.cell2 0 rfl) | ((with_reducible refine gate_dst (N := 127) rfl ?_); clear ua7 ub7 ua0 ub0; refine gate_guard (by rfl) ?_; refine kgl (some 127) rfl rfl Tryd.func30 #[.agg #[.bool z107, .slice P114 x108.length c115], .agg #[.bool a0_0, .slice A0_1 l0_1.length c0_1]] rfl ?_; refine (whole_Cmp.calls _ z107 _ _ x108 a0_0 _ _ l0_1 n122 _ (K.C 9 rfl) (K.le 9 rfl) (K.C 0 rfl) (K.le 0 rfl) A123.out).mono ?_; rintro e W124 ⟨rfl, hb⟩; refine ⟨_, rfl, ?_⟩; replace K := K.u.up hb; clear hb))
             replace h := bindA h
             obtain ⟨n125, A126, h⟩ := h
             by_cases c_17 : n125 = 0
             ·rw [if_pos c_17] at h
              have c_17b0 : (n125 == 0) = true := beq_iff_eq.mpr c_17
              have c_17b1 : (n125 != 0) = false := bne_eq_false_iff_eq.mpr c_17
              clear c_17
              replace h := bindA h
              obtain ⟨⟨z127, x128⟩, A129, h⟩ := h
              dsimp only at h
              replace h := bindA h
              obtain ⟨⟨z130, x131⟩, A132, h⟩ := h
              dsimp only at h
              replace h := bindA h
              obtain ⟨n133, A134, h⟩ := h
              by_cases c_18 : n133 ≥ 0
              ·rw [if_pos c_18] at h
               have c_18b : decide (n133 ≥ 0) = true := decide_eq_true c_18
               obtain ⟨k, rfl⟩ : ∃ j, k = j + 1 := by
                cases k with
                | zero => simp [tribunallaw02_WholeDivides.j2] at h
                | succ k => exact ⟨k, rfl⟩
               rw [tribunallaw02_WholeDivides.j2] at h
               rw [if_pos rfl] at h
               exact nomatch h
              ·rw [if_neg c_18] at h
               have c_18b : decide (n133 ≥ 0) = false := decide_eq_false c_18
               replace h := bindA h
               obtain ⟨n135, A136, h⟩ := h
               by_cases c_19 : n135 < 0
               ·rw [if_pos c_19] at h
                have c_19b : decide (n135 < 0) = true := decide_eq_true c_19
                obtain ⟨k, rfl⟩ : ∃ j, k = j + 1 := by
                 cases k with
                 | zero => simp [tribunallaw02_WholeDivides.j2] at h
                 | succ k => exact ⟨k, rfl⟩
                rw [tribunallaw02_WholeDivides.j2] at h
                rw [if_pos rfl] at h
                exact nomatch h
               ·rw [if_neg c_19] at h
                have c_19b : decide (n135 < 0) = false := decide_eq_false c_19
                replace h := bindA h
                obtain ⟨⟨z137, x138⟩, A139, h⟩ := h
                dsimp only at h
                replace h := bindA h
                obtain ⟨n140, A141, h⟩ := h
                obtain ⟨Bs, Vs, Os, hBs, hVs, hOs, K⟩ := K.abs
                have HS : Aside0 (∀ l m o W, Kp w (Bs ++ l) m o W → W.cell? ⟨g33, 0, none⟩ = some (.bool z16) ∧ W.cell? ⟨g33, 1, none⟩ = some (.slice P28 x17.length c29) ∧ W.cell? ⟨g3, 0, none⟩ = some (.bool a1_0) ∧ W.cell? ⟨g3, 1, none⟩ = some (.slice A1_1 l1_1.length c1_1) ∧ W.cell? ⟨g58, 0, none⟩ = some (.bool z41) ∧ W.cell? ⟨g58, 1, none⟩ = some (.slice P53 x42.length c54)) := ⟨fun l m o W K => by rw [hBs.out] at K; exact ⟨K.cell 3 rfl 0 rfl, K.cell 3 rfl 1 rfl, K.cell 1 rfl 0 rfl, K.cell 1 rfl 1 rfl, K.cell 5 rfl 0 rfl, K.cell 5 rfl 1 rfl⟩⟩
                refine kpstart (n := 30) (ds := []) (S := fun W => W.cell? ⟨g33, 0, none⟩ = some (.bool z16) ∧ W.cell? ⟨g33, 1, none⟩ = some (.slice P28 x17.length c29) ∧ W.cell? ⟨g3, 0, none⟩ = some (.bool a1_0) ∧ W.cell? ⟨g3, 1, none⟩ = some (.slice A1_1 l1_1.length c1_1) ∧ W.cell? ⟨g58, 0, none⟩ = some (.bool z41) ∧ W.cell? ⟨g58, 1, none⟩ = some (.slice P53 x42.length c54)) #[false, false, false, false, false, false, false, false, false, false, false, false, false, false, false, false, false, false, false, false, false, false, false, false, false, false, false, false, false, false] (by kernel_rfl) rfl rfl K (HS.out [] _ _) (fun W145 K hH => ?_)
                refine with_tabW tribunallaw02_WholeDivides.tab15 tribunallaw02_WholeDivides.bits15 (fun HT_ HW_ => ?_)
                refine take_ (i := 0) (N := some 130) (v := ?_) (a' := ?_) #[true, false, false, false, false, false, false, false, false, false, false, false, false, false, false, false, false, false, false, false, false, false, false, false, false, false, false, false, false, false] rfl rfl (take_ofW HT_.out HW_.out (by kernel_rfl)) (fun _ _ _ h => h) (Or.inl ⟨by rfl, ?_⟩) hH ?_ ?_
                rotate_left
                ·rintro w' ⟨s0, s1, s2, s3, s4, s5⟩
                 go_simp
                 with_reducible rfl
                rotate_left
                ·simp only [Act.put, kss, i64_w, i32_w]
                 rfl
                refine one_ (i := 1) (N := some 131) #[true, true, false, false, false, false, false, false, false, false, false, false, false, false, false, false, false, false, false, false, false, false, false, false, false, false, false, false, false, false] rfl rfl (one_of HT_.out (by kernel_rfl)) (by decide) (fun Kc hK => ?_)
                refine kgo Tryd.func40 #[.agg #[.bool z16, .slice P28 x17.length c29]] (by rfl) rfl rfl ?_
                refine (whole_Sign.calls _ z16 _ _ x17 n125 _ (K.C 3 (by rw [hVs.out]; rfl)) (K.le 3 (by rw [hVs.out]; rfl)) A126.out).mono ?_
                rintro e W' ⟨rfl, hb⟩
                replace K := K.up hb
                clear hb
                refine ⟨_, rfl, hK.out _ _ (HS.out _ _ _ _ K) fun hH => ?_⟩
                refine norm_ (a' := ?_) ?_ ?_
                rotate_left
                ·show Act.put _ (some 131) _ = _
                 simp only [Act.put, kss, i64_w, i32_w]
                 rfl
                refine pure_ (i := 2) (N := some 132) (v := ?_) (a' := ?_) #[true, true, true, false, false, false, false, false, false, false, false, false, false, false, false, false, false, false, false, false, false, false, false, false, false, false, false, false, false, false] rfl rfl (any_of HT_.out (by kernel_rfl)) (fun _ _ _ h => h) (Or.inl ⟨by rfl, ?_⟩) ?_ ?_
                rotate_left
                ·intro w'
                 go_simp
                 with_reducible rfl
                rotate_left
                ·simp only [Act.put, kss, i64_w, i32_w]
                 rfl
                refine pure_ (i := 3) (N := some 133) (v := ?_) (a' := ?_) #[true, true, true, true, false, false, false, false, false, false, false, false, false, false, false, false, false, false, false, false, false, false, false, false, false, false, false, false, false, false] rfl rfl (any_of HT_.out (by kernel_rfl)) (fun _ _ _ h => h) (Or.inl ⟨by rfl, ?_⟩) ?_ ?_
                rotate_left
                ·intro w'
                 go_simp
                 with_reducible rfl
                rotate_left
                ·simp only [Act.put, kss, i64_w, i32_w]
                 rfl
                refine pure_ (i := 4) (N := some 134) (v := undef) (a' := ?_) #[true, true, true, true, true, false, false, false, false, false, false, false, false, false, false, false, false, false, false, false, false, false, false, false, false, false, false, false, false, false] rfl rfl (any_of HT_.out (by kernel_rfl)) (fun _ _ _ h => h) (Or.inr ⟨by rfl, rfl⟩) ?_ ?_
                rotate_left
                ·simp only [Act.put, kss, i64_w, i32_w]
                 rfl
                refine pure_ (i := 5) (N := some 135) (v := undef) (a' := ?_) #[true, true, true, true, true, true, false, false, false, false, false, false, false, false, false, false, false, false, false, false, false, false, false, false, false, false, false, false, false, false] rfl rfl (any_of HT_.out (by kernel_rfl)) (fun _ _ _ h => h) (Or.inr ⟨by rfl, rfl⟩) ?_ ?_
                rotate_left
                ·simp only [Act.put, kss, i64_w, i32_w]
                 rfl
                refine pure_ (i := 6) (N := some 136) (v := undef) (a' := ?_) #[true, true, true, true, true, true, true, false, false, false, false, false, false, false, false, false, false, false, false, false, false, false, false, false, false, false, false, false, false, false] rfl rfl (any_of HT_.out (by kernel_rfl)) (fun _ _ _ h => h) (Or.inr ⟨by rfl, rfl⟩) ?_ ?_
                rotate_left
                ·simp only [Act.put, kss, i64_w, i32_w]
                 rfl
                refine pure_ (i := 7) (N := some 137) (v := undef) (a' := ?_) #[true, true, true, true, true, true, true, true, false, false, false, false, false, false, false, false, false, false, false, false, false, false, false, false, false, false, false, false, false, false] rfl rfl (any_of HT_.out (by kernel_rfl)) (fun _ _ _ h => h) (Or.inr ⟨by rfl, rfl⟩) ?_ ?_
                rotate_left
                ·simp only [Act.put, kss, i64_w, i32_w]
                 rfl
                refine pure_ (i := 8) (N := some 138) (v := undef) (a' := ?_) #[true, true, true, true, true, true, true, true, true, false, false, false, false, false, false, false, false, false, false, false, false, false, false, false, false, false, false, false, false, false] rfl rfl (any_of HT_.out (by kernel_rfl)) (fun _ _ _ h => h) (Or.inr ⟨by rfl, rfl⟩) ?_ ?_
                rotate_left
                ·simp only [Act.put, kss, i64_w, i32_w]
                 rfl
                refine pure_ (i := 9) (N := some 139) (v := ?_) (a' := ?_) #[true, true, true, true, true, true, true, true, true, true, false, false, false, false, false, false, false, false, false, false, false, false, false, false, false, false, false, false, false, false] rfl rfl (any_of HT_.out (by kernel_rfl)) (fun _ _ _ h => h) (Or.inl ⟨by rfl, ?_⟩) ?_ ?_
                rotate_left
                ·intro w'
                 go_simp
                 with_reducible rfl
                rotate_left
                ·simp only [Act.put, kss, i64_w, i32_w]
                 rfl
                refine pure_ (i := 10) (N := some 140) (v := ?_) (a' := ?_) #[true, true, true, true, true, true, true, true, true, true, true, false, false, false, false, false, false, false, false, false, false, false, false, false, false, false, false, false, false, false] rfl rfl (any_of HT_.out (by kernel_rfl)) (fun _ _ _ h => h) (Or.inl ⟨by rfl, ?_⟩) ?_ ?_
                rotate_left
                ·intro w'
                 go_simp
                 with_reducible rfl
                rotate_left
                ·simp only [Act.put, kss, i64_w, i32_w]
                 rfl
                refine take_ (i := 11) (N := some 141) (v := ?_) (a' := ?_) #[true, true, true, true, true, true, true, true, true, true, true, true, false, false, false, false, false, false, false, false, false, false, false, false, false, false, false, false, false, false] rfl rfl (take_ofW HT_.out HW_.out (by kernel_rfl)) (fun _ _ _ h => h) (Or.inl ⟨by rfl, ?_⟩) hH ?_ ?_
                rotate_left
                ·rintro w' ⟨s0, s1, s2, s3, s4, s5⟩
                 go_simp
                 with_reducible rfl
                rotate_left
                ·simp only [Act.put, kss, i64_w, i32_w]
                 rfl
                refine take_ (i := 13) (N := some 143) (v := ?_) (a' := ?_) #[true, true, true, true, true, true, true, true, true, true, true, true, false, true, false, false, false, false, false, false, false, false, false, false, false, false, false, false, false, false] rfl rfl (take_ofW HT_.out HW_.out (by kernel_rfl)) (fun _ _ _ h => h) (Or.inl ⟨by rfl, ?_⟩) hH ?_ ?_
                rotate_left
                ·rintro w' ⟨s0, s1, s2, s3, s4, s5⟩
                 go_simp
                 with_reducible rfl
                rotate_left
                ·simp only [Act.put, kss, i64_w, i32_w]
                 rfl
                clear hK Kc
                refine one_ (i := 12) (N := some 142) #[true, true, true, true, true, true, true, true, true, true, true, true, true, true, false, false, false, false, false, false, false, false, false, false, false, false, false, false, false, false] rfl rfl (one_of HT_.out (by kernel_rfl)) (by decide) (fun Kc hK => ?_)
                refine kgo Tryd.func44 #[.agg #[.bool z16, .slice P28 x17.length c29]] (by rfl) rfl rfl ?_
                refine (whole_Abs.calls _ z16 _ _ x17 z127 x128 _ (K.C 3 (by rw [hVs.out]; rfl)) (K.le 3 (by rw [hVs.out]; rfl)) A129.out).mono ?_
                rintro e W' ⟨v142, rfl, ho146, hb⟩
                replace K := K.addRI 0 0 hb ho146 (Nat.le_of_ble_eq_true rfl)
                clear hb ho146
                refine ⟨_, rfl, hK.out _ _ (HS.out _ _ _ _ K) fun hH => ?_⟩
                clear hK Kc
                refine norm_ (a' := ?_) ?_ ?_
                rotate_left
                ·show Act.put _ (some 142) _ = _
                 simp only [Act.put, kss, i64_w, i32_w]
                 rfl
                refine one_ (i := 14) (N := some 144) #[true, true, true, true, true, true, true, true, true, true, true, true, true, true, true, false, false, false, false, false, false, false, false, false, false, false, false, false, false, false] rfl rfl (one_of HT_.out (by kernel_rfl)) (by decide) (fun Kc hK => ?_)
                refine kgo Tryd.func44 #[.agg #[.bool a1_0, .slice A1_1 l1_1.length c1_1]] (by rfl) rfl rfl ?_
                refine (whole_Abs.calls _ a1_0 _ _ l1_1 z130 x131 _ (K.C 1 (by rw [hVs.out]; rfl)) (K.le 1 (by rw [hVs.out]; rfl)) A132.out).mono ?_
                rintro e W' ⟨v143, rfl, ho147, hb⟩
                replace K := K.addRI 1 1 hb ho147 (Nat.le_of_ble_eq_true rfl)
                clear hb ho147
                refine ⟨_, rfl, hK.out _ _ (HS.out _ _ _ _ K) fun hH => ?_⟩
                clear hK Kc
                refine norm_ (a' := ?_) ?_ ?_
                rotate_left
                ·show Act.put _ (some 144) _ = _
                 simp only [Act.put, kss, i64_w, i32_w]
                 rfl
                refine one_ (i := 15) (N := some 145) #[true, true, true, true, true, true, true, true, true, true, true, true, true, true, true, true, false, false, false, false, false, false, false, false, false, false, false, false, false, false] rfl rfl (one_of HT_.out (by kernel_rfl)) (by decide) (fun Kc hK => ?_)
                obtain ⟨P148, c149, e150⟩ := K.slice 10 (by rw [hVs.out]; rfl)
                subst e150
                obtain ⟨P151, c152, e153⟩ := K.slice 11 (by rw [hVs.out]; rfl)
                subst e153
                refine kgo Tryd.func30 #[.agg #[.bool z127, .slice P148 x128.length c149], .agg #[.bool z130, .slice P151 x131.length c152]] (by rfl) rfl rfl ?_
                refine (whole_Cmp.calls _ z127 _ _ x128 z130 _ _ x131 n133 _ (K.C 10 (by rw [hVs.out]; rfl)) (K.le 10 (by rw [hVs.out]; rfl)) (K.C 11 (by rw [hVs.out]; rfl)) (K.le 11 (by rw [hVs.out]; rfl)) A134.out).mono ?_
                rintro e W' ⟨rfl, hb⟩
                replace K := K.up hb
                clear hb
                refine ⟨_, rfl, hK.out _ _ (HS.out _ _ _ _ K) fun hH => ?_⟩
                refine norm_ (a' := ?_) ?_ ?_
                rotate_left
                ·show Act.put _ (some 145) _ = _
                 simp only [Act.put, kss, i64_w, i32_w]
                 rfl
                refine pure_ (i := 16) (N := some 146) (v := ?_) (a' := ?_) #[true, true, true, true, true, true, true, true, true, true, true, true, true, true, true, true, true, false, false, false, false, false, false, false, false, false, false, false, false, false] rfl rfl (any_of HT_.out (by kernel_rfl)) (fun _ _ _ h => h) (Or.inl ⟨by rfl, ?_⟩) ?_ ?_
                rotate_left
                ·intro w'
                 go_simp
                 with_reducible rfl
                rotate_left
                ·simp only [Act.put, kss, i64_w, i32_w]
                 rfl
                refine pure_ (i := 17) (N := some 147) (v := ?_) (a' := ?_) #[true, true, true, true, true, true, true, true, true, true, true, true, true, true, true, true, true, true, false, false, false, false, false, false, false, false, false, false, false, false] rfl rfl (any_of HT_.out (by kernel_rfl)) (fun _ _ _ h => h) (Or.inl ⟨by rfl, ?_⟩) ?_ ?_
                rotate_left
                ·intro w'
                 go_simp
                 with_reducible rfl
                rotate_left
                ·simp only [Act.put, kss, i64_w, i32_w]
                 rfl
                refine pure_ (i := 18) (N := some 148) (v := ?_) (a' := ?_) #[true, true, true, true, true, true, true, true, true, true, true, true, true, true, true, true, true, true, true, false, false, false, false, false, false, false, false, false, false, false] rfl rfl (any_of HT_.out (by kernel_rfl)) (fun _ _ _ h => h) (Or.inl ⟨by rfl, ?_⟩) ?_ ?_
                rotate_left
                ·intro w'
                 go_simp
                 with_reducible rfl
                rotate_left
                ·simp only [Act.put, kss, i64_w, i32_w]
                 rfl
                refine take_ (i := 19) (N := some 149) (v := ?_) (a' := ?_) #[true, true, true, true, true, true, true, true, true, true, true, true, true, true, true, true, true, true, true, true, false, false, false, false, false, false, false, false, false, false] rfl rfl (take_ofW HT_.out HW_.out (by kernel_rfl)) (fun _ _ _ h => h) (Or.inl ⟨by rfl, ?_⟩) hH ?_ ?_
                rotate_left
                ·rintro w' ⟨s0, s1, s2, s3, s4, s5⟩
                 go_simp
                 with_reducible rfl
                rotate_left
                ·simp only [Act.put, kss, i64_w, i32_w]
                 rfl
                clear hK Kc
                refine one_ (i := 20) (N := some 150) #[true, true, true, true, true, true, true, true, true, true, true, true, true, true, true, true, true, true, true, true, true, false, false, false, false, false, false, false, false, false] rfl rfl (one_of HT_.out (by kernel_rfl)) (by decide) (fun Kc hK => ?_)
                refine kgo Tryd.func40 #[.agg #[.bool z41, .slice P53 x42.length c54]] (by rfl) rfl rfl ?_
                refine (whole_Sign.calls _ z41 _ _ x42 n135 _ (K.C 5 (by rw [hVs.out]; rfl)) (K.le 5 (by rw [hVs.out]; rfl)) A136.out).mono ?_
                rintro e W' ⟨rfl, hb⟩
                replace K := K.up hb
                clear hb
                refine ⟨_, rfl, hK.out _ _ (HS.out _ _ _ _ K) fun hH => ?_⟩
                refine norm_ (a' := ?_) ?_ ?_
                rotate_left
                ·show Act.put _ (some 150) _ = _
                 simp only [Act.put, kss, i64_w, i32_w]
                 rfl
                refine pure_ (i := 21) (N := some 151) (v := ?_) (a' := ?_) #[true, true, true, true, true, true, true, true, true, true, true, true, true, true, true, true, true, true, true, true, true, true, false, false, false, false, false, false, false, false] rfl rfl (any_of HT_.out (by kernel_rfl)) (fun _ _ _ h => h) (Or.inl ⟨by rfl, ?_⟩) ?_ ?_
                rotate_left
                ·intro w'
                 go_simp
                 with_reducible rfl
                rotate_left
                ·simp only [Act.put, kss, i64_w, i32_w]
                 rfl
                refine pure_ (i := 22) (N := some 152) (v := ?_) (a' := ?_) #[true, true, true, true, true, true, true, true, true, true, true, true, true, true, true, true, true, true, true, true, true, true, true, false, false, false, false, false, false, false] rfl rfl (any_of HT_.out (by kernel_rfl)) (fun _ _ _ h => h) (Or.inl ⟨by rfl, ?_⟩) ?_ ?_
                rotate_left
                ·intro w'
                 go_simp
                 with_reducible rfl
                rotate_left
                ·simp only [Act.put, kss, i64_w, i32_w]
                 rfl
                refine pure_ (i := 23) (N := some 153) (v := ?_) (a' := ?_) #[true, true, true, true, true, true, true, true, true, true, true, true, true, true, true, true, true, true, true, true, true, true, true, true, false, false, false, false, false, false] rfl rfl (any_of HT_.out (by kernel_rfl)) (fun _ _ _ h => h) (Or.inl ⟨by rfl, ?_⟩) ?_ ?_
                rotate_left
                ·intro w'
                 go_simp
                 with_reducible rfl
                rotate_left
                ·simp only [Act.put, kss, i64_w, i32_w]
                 rfl
                refine take_ (i := 24) (N := some 154) (v := ?_) (a' := ?_) #[true, true, true, true, true, true, true, true, true, true, true, true, true, true, true, true, true, true, true, true, true, true, true, true, true, false, false, false, false, false] rfl rfl (take_ofW HT_.out HW_.out (by kernel_rfl)) (fun _ _ _ h => h) (Or.inl ⟨by rfl, ?_⟩) hH ?_ ?_
                rotate_left
                ·rintro w' ⟨s0, s1, s2, s3, s4, s5⟩
                 go_simp
                 with_reducible rfl
                rotate_left
                ·simp only [Act.put, kss, i64_w, i32_w]
                 rfl
                refine take_ (i := 25) (N := some 155) (v := ?_) (a' := ?_) #[true, true, true, true, true, true, true, true, true, true, true, true, true, true, true, true, true, true, true, true, true, true, true, true, true, true, false, false, false, false] rfl rfl (take_ofW HT_.out HW_.out (by kernel_rfl)) (fun _ _ _ h => h) (Or.inl ⟨by rfl, ?_⟩) hH ?_ ?_
                rotate_left
                ·rintro w' ⟨s0, s1, s2, s3, s4, s5⟩
                 go_simp
                 with_reducible rfl
                rotate_left
                ·simp only [Act.put, kss, i64_w, i32_w]
                 rfl
                clear hK Kc
                refine one_ (i := 26) (N := some 156) #[true, true, true, true, true, true, true, true, true, true, true, true, true, true, true, true, true, true, true, true, true, true, true, true, true, true, true, false, false, false] rfl rfl (one_of HT_.out (by kernel_rfl)) (by decide) (fun Kc hK => ?_)
                refine kgo Tryd.func44 #[.agg #[.bool a1_0, .slice A1_1 l1_1.length c1_1]] (by rfl) rfl rfl ?_
                refine (whole_Abs.calls _ a1_0 _ _ l1_1 z137 x138 _ (K.C 1 (by rw [hVs.out]; rfl)) (K.le 1 (by rw [hVs.out]; rfl)) A139.out).mono ?_
                rintro e W' ⟨v144, rfl, ho154, hb⟩
                replace K := K.addRI 2 2 hb ho154 (Nat.le_of_ble_eq_true rfl)
                clear hb ho154
                refine ⟨_, rfl, hK.out _ _ (HS.out _ _ _ _ K) fun hH => ?_⟩
                clear hK Kc
                refine norm_ (a' := ?_) ?_ ?_
                rotate_left
                ·show Act.put _ (some 156) _ = _
                 simp only [Act.put, kss, i64_w, i32_w]
                 rfl
                refine one_ (i := 27) (N := some 157) #[true, true, true, true, true, true, true, true, true, true, true, true, true, true, true, true, true, true, true, true, true, true, true, true, true, true, true, true, false, false] rfl rfl (one_of HT_.out (by kernel_rfl)) (by decide) (fun Kc hK => ?_)
                obtain ⟨P155, c156, e157⟩ := K.slice 12 (by rw [hVs.out]; rfl)
                subst e157
                refine kgo Tryd.func30 #[.agg #[.bool z41, .slice P53 x42.length c54], .agg #[.bool z137, .slice P155 x138.length c156]] (by rfl) rfl rfl ?_
                refine (whole_Cmp.calls _ z41 _ _ x42 z137 _ _ x138 n140 _ (K.C 5 (by rw [hVs.out]; rfl)) (K.le 5 (by rw [hVs.out]; rfl)) (K.C 12 (by rw [hVs.out]; rfl)) (K.le 12 (by rw [hVs.out]; rfl)) A141.out).mono ?_
                rintro e W' ⟨rfl, hb⟩
                replace K := K.up hb
                clear hb
                refine ⟨_, rfl, hK.out _ _ (HS.out _ _ _ _ K) fun hH => ?_⟩
                refine norm_ (a' := ?_) ?_ ?_
                rotate_left
                ·show Act.put _ (some 157) _ = _
                 simp only [Act.put, kss, i64_w, i32_w]
                 rfl
                refine pure_ (i := 28) (N := some 158) (v := ?_) (a' := ?_) #[true, true, true, true, true, true, true, true, true, true, true, true, true, true, true, true, true, true, true, true, true, true, true, true, true, true, true, true, true, false] rfl rfl (any_of HT_.out (by kernel_rfl)) (fun _ _ _ h => h) (Or.inl ⟨by rfl, ?_⟩) ?_ ?_
                rotate_left
                ·intro w'
                 go_simp
                 with_reducible rfl
                rotate_left
                ·simp only [Act.put, kss, i64_w, i32_w]
                 rfl
                refine pure_ (i := 29) (N := some 159) (v := ?_) (a' := ?_) #[true, true, true, true, true, true, true, true, true, true, true, true, true, true, true, true, true, true, true, true, true, true, true, true, true, true, true, true, true, true] rfl rfl (any_of HT_.out (by kernel_rfl)) (fun _ _ _ h => h) (Or.inl ⟨by rfl, ?_⟩) ?_ ?_
                rotate_left
                ·intro w'
                 go_simp
                 with_reducible rfl
                rotate_left
                ·simp only [Act.put, kss, i64_w, i32_w]
                 rfl
                clear hK Kc
                rw [hBs.out, hVs.out, hOs.out] at K
                simp only [kls, klv] at K
                clear hBs hVs hOs HS hH
                refine done_ (done_of HT_.out (by kernel_rfl)) ?_
                clear HT_ HW_
                obtain ⟨k, rfl⟩ : ∃ j, k = j + 1 := by
                 cases k with
                 | zero => simp [tribunallaw02_WholeDivides.j2] at h
                 | succ k => exact ⟨k, rfl⟩
                rw [tribunallaw02_WholeDivides.j2] at h
                by_cases c_20 : (decide (n140 ≥ 0)) = true
                ·rw [if_pos c_20] at h
                 have c_20p : n140 ≥ 0 := of_decide_eq_true c_20
                 exact nomatch h
                ·rw [if_neg c_20] at h
                 replace c_20 := Bool.eq_false_iff.mpr c_20
                 have c_20p : ¬ (n140 ≥ 0) := of_decide_eq_false c_20
                 replace h := bindA h
                 obtain ⟨⟨z158, x159, n160⟩, A161, h⟩ := h
                 dsimp only at h
                 by_cases c_21 : n160 = 0
                 ·rw [if_pos c_21] at h
                  have c_21b0 : (n160 == 0) = true := beq_iff_eq.mpr c_21
                  have c_21b1 : (n160 != 0) = false := bne_eq_false_iff_eq.mpr c_21
                  clear c_21
                  replace h := bindA h
                  obtain ⟨⟨z172, x173⟩, A174, h⟩ := h
                  dsimp only at h
                  replace h := bindA h
                  obtain ⟨⟨z181, x182⟩, A183, h⟩ := h
                  dsimp only at h
                  replace h := bindA h
                  obtain ⟨n190, A191, h⟩ := h
                  simp only [Option.some.injEq] at h
                  subst h
                  obtain ⟨ua2, ub2⟩ := K.cell2 2 rfl
                  obtain ⟨ua4, ub4⟩ := K.cell2 4 rfl
                  go_wp2_with (first | ((with_reducible refine gate_dst (N := 163) rfl ?_); clear ua2 ub2 ua4 ub4; refine kgl (some 163) rfl rfl Tryd.func28 #[.agg #[.bool z14, .slice P25 x15.length c26], .agg #[.bool z39, .slice P50 x40.length c51]] rfl ?_; refine (whole_Sub.calls _ z14 _ _ x15 z39 _ _ x40 z158 x159 n160 _ (K.C 2 rfl) (K.le 2 rfl) (K.C 4 rfl) (K.le 4 rfl) A161.out).mono ?_; rintro e W164 ⟨v162, rfl, ho163, hb⟩; refine ⟨_, rfl, ?_⟩; replace K := K.u.addRE hb ho163; clear hb ho163; obtain ⟨P165, c166, e167⟩ := K.slice 13 rfl; subst e167) | ((with_reducible refine gate_dst (N := 17) rfl ?_); refine kbe 17 #[.bool false, .slice none 0 0] 25 ?_; intro g168 hg W169 hx hb; replace K := K.u.box hg hx hb; clear hg hx hb) | ((with_reducible refine gate_store (t := 25) (p := 17) (v := .tmp 164) rfl ?_); refine kst2 8 (.bool z158) (.slice P165 x159.length c166) K.u rfl ?q171 ?_; (case q171 => intro c0 c1 f0 f1; first | (go_simp; done) | (go_simp; rfl)); clear K; intro W170 K; simp only [kls, klv] at K; obtain ⟨ua8, ub8⟩ := K.cell2 8 rfl) | ((with_reducible refine gate_dst (N := 170) rfl ?_); clear ua8 ub8; refine gate_guard (by rfl) ?_; refine kgl (some 170) rfl rfl Tryd.func44 #[.agg #[.bool z158, .slice P165 x159.length c166]] rfl ?_; refine (whole_Abs.calls _ z158 _ _ x159 z172 x173 _ (K.C 13 rfl) (K.le 13 rfl) A174.out).mono ?_; rintro e W177 ⟨v175, rfl, ho176, hb⟩; refine ⟨_, rfl, ?_⟩; replace K := K.u.addRE hb ho176; clear hb ho176; obtain ⟨P178, c179, e180⟩ := K.slice 14 rfl; subst e180) | ((with_reducible refine gate_dst (N := 171) rfl ?_); refine gate_guard (by rfl) ?_; refine kgl (some 171) rfl rfl Tryd.func35 #[.int .i64 1] rfl ?_; refine (whole_Of.calls _ 1 z181 x182 _ A183.out).mono ?_; rintro e W186 ⟨v184, rfl, ho185, hb⟩; refine ⟨_, rfl, ?_⟩; replace K := K.u.addRE hb ho185; clear hb ho185; obtain ⟨P187, c188, e189⟩ := K.slice 15 rfl; subst e189) | ((with_reducible refine gate_dst (N := 172) rfl ?_); refine gate_guard (by rfl) ?_; refine kgl (some 172) rfl rfl Tryd.func30 #[.agg #[.bool z172, .slice P178 x173.length c179], .agg #[.bool z181, .slice P187 x182.length c188]] rfl ?_; refine (whole_Cmp.calls _ z172 _ _ x173 z181 _ _ x182 n190 _ (K.C 14 rfl) (K.le 14 rfl) (K.C 15 rfl) (K.le 15 rfl) A191.out).mono ?_; rintro e W192 ⟨rfl, hb⟩; refine ⟨_, rfl, ?_⟩; replace K := K.u.up hb; clear hb))
                  go_ret
                  exact ⟨rfl, K.u.below⟩
                 ·rw [if_neg c_21] at h
                  have c_21b0 : (n160 == 0) = false := beq_eq_false_iff_ne.mpr c_21
                  have c_21b1 : (n160 != 0) = true := bne_iff_ne.mpr c_21
                  clear c_21
                  exact nomatch h
             ·rw [if_neg c_17] at h
              have c_17b0 : (n125 == 0) = false := beq_eq_false_iff_ne.mpr c_17
              have c_17b1 : (n125 != 0) = true := bne_iff_ne.mpr c_17
              clear c_17
              replace h := bindA h
              obtain ⟨n127, A128, h⟩ := h
              replace h := bindA h
              obtain ⟨n129, A130, h⟩ := h
              by_cases c_22 : n127 = n129
              ·rw [if_pos c_22] at h
               have c_22b0 : (n127 == n129) = true := beq_iff_eq.mpr c_22
               have c_22b1 : (n127 != n129) = false := bne_eq_false_iff_eq.mpr c_22
               clear c_22
               replace h := bindA h
               obtain ⟨⟨z131, x132⟩, A133, h⟩ := h
               dsimp only at h
               replace h := bindA h
               obtain ⟨⟨z134, x135⟩, A136, h⟩ := h
               dsimp only at h
               replace h := bindA h
               obtain ⟨n137, A138, h⟩ := h
               by_cases c_23 : n137 ≥ 0
               ·rw [if_pos c_23] at h
                have c_23b : decide (n137 ≥ 0) = true := decide_eq_true c_23
                obtain ⟨k, rfl⟩ : ∃ j, k = j + 1 := by
                 cases k with
                 | zero => simp [tribunallaw02_WholeDivides.j2] at h
                 | succ k => exact ⟨k, rfl⟩
                rw [tribunallaw02_WholeDivides.j2] at h
                rw [if_pos rfl] at h
                exact nomatch h
               ·rw [if_neg c_23] at h
                have c_23b : decide (n137 ≥ 0) = false := decide_eq_false c_23
                replace h := bindA h
                obtain ⟨n139, A140, h⟩ := h
                by_cases c_24 : n139 < 0
                ·rw [if_pos c_24] at h
                 have c_24b : decide (n139 < 0) = true := decide_eq_true c_24
                 obtain ⟨k, rfl⟩ : ∃ j, k = j + 1 := by
                  cases k with
                  | zero => simp [tribunallaw02_WholeDivides.j2] at h
                  | succ k => exact ⟨k, rfl⟩
                 rw [tribunallaw02_WholeDivides.j2] at h
                 rw [if_pos rfl] at h
                 exact nomatch h
                ·rw [if_neg c_24] at h
                 have c_24b : decide (n139 < 0) = false := decide_eq_false c_24
                 replace h := bindA h
                 obtain ⟨⟨z141, x142⟩, A143, h⟩ := h
                 dsimp only at h
                 replace h := bindA h
                 obtain ⟨n144, A145, h⟩ := h
                 obtain ⟨Bs, Vs, Os, hBs, hVs, hOs, K⟩ := K.abs
                 have HS : Aside0 (∀ l m o W, Kp w (Bs ++ l) m o W → W.cell? ⟨g33, 0, none⟩ = some (.bool z16) ∧ W.cell? ⟨g33, 1, none⟩ = some (.slice P28 x17.length c29) ∧ W.cell? ⟨g1, 0, none⟩ = some (.bool a0_0) ∧ W.cell? ⟨g1, 1, none⟩ = some (.slice A0_1 l0_1.length c0_1) ∧ W.cell? ⟨g3, 0, none⟩ = some (.bool a1_0) ∧ W.cell? ⟨g3, 1, none⟩ = some (.slice A1_1 l1_1.length c1_1) ∧ W.cell? ⟨g58, 0, none⟩ = some (.bool z41) ∧ W.cell? ⟨g58, 1, none⟩ = some (.slice P53 x42.length c54)) := ⟨fun l m o W K => by rw [hBs.out] at K; exact ⟨K.cell 3 rfl 0 rfl, K.cell 3 rfl 1 rfl, K.cell 0 rfl 0 rfl, K.cell 0 rfl 1 rfl, K.cell 1 rfl 0 rfl, K.cell 1 rfl 1 rfl, K.cell 5 rfl 0 rfl, K.cell 5 rfl 1 rfl⟩⟩
                 refine kpstart (n := 30) (ds := []) (S := fun W => W.cell? ⟨g33, 0, none⟩ = some (.bool z16) ∧ W.cell? ⟨g33, 1, none⟩ = some (.slice P28 x17.length c29) ∧ W.cell? ⟨g1, 0, none⟩ = some (.bool a0_0) ∧ W.cell? ⟨g1, 1, none⟩ = some (.slice A0_1 l0_1.length c0_1) ∧ W.cell? ⟨g3, 0, none⟩ = some (.bool a1_0) ∧ W.cell? ⟨g3, 1, none⟩ = some (.slice A1_1 l1_1.length c1_1) ∧ W.cell? ⟨g58, 0, none⟩ = some (.bool z41) ∧ W.cell? ⟨g58, 1, none⟩ = some (.slice P53 x42.length c54)) #[false, false, false, false, false, false, false, false, false, false, false, false, false, false, false, false, false, false, false, false, false, false, false, false, false, false, false, false, false, false] (by kernel_rfl) rfl rfl K (HS.out [] _ _) (fun W149 K hH => ?_)
                 refine with_tabW tribunallaw02_WholeDivides.tab15 tribunallaw02_WholeDivides.bits15 (fun HT_ HW_ => ?_)
                 refine take_ (i := 0) (N := some 130) (v := ?_) (a' := ?_) #[true, false, false, false, false, false, false, false, false, false, false, false, false, false, false, false, false, false, false, false, false, false, false, false, false, false, false, false, false, false] rfl rfl (take_ofW HT_.out HW_.out (by kernel_rfl)) (fun _ _ _ h => h) (Or.inl ⟨by rfl, ?_⟩) hH ?_ ?_
                 rotate_left
                 ·rintro w' ⟨s0, s1, s2, s3, s4, s5, s6, s7⟩
                  go_simp
                  with_reducible rfl
                 rotate_left
                 ·simp only [Act.put, kss, i64_w, i32_w]
                  rfl
                 refine one_ (i := 1) (N := some 131) #[true, true, false, false, false, false, false, false, false, false, false, false, false, false, false, false, false, false, false, false, false, false, false, false, false, false, false, false, false, false] rfl rfl (one_of HT_.out (by kernel_rfl)) (by decide) (fun Kc hK => ?_)
                 refine kgo Tryd.func40 #[.agg #[.bool z16, .slice P28 x17.length c29]] (by rfl) rfl rfl ?_
                 refine (whole_Sign.calls _ z16 _ _ x17 n125 _ (K.C 3 (by rw [hVs.out]; rfl)) (K.le 3 (by rw [hVs.out]; rfl)) A126.out).mono ?_
                 rintro e W' ⟨rfl, hb⟩
                 replace K := K.up hb
                 clear hb
                 refine ⟨_, rfl, hK.out _ _ (HS.out _ _ _ _ K) fun hH => ?_⟩
                 refine norm_ (a' := ?_) ?_ ?_
                 rotate_left
                 ·show Act.put _ (some 131) _ = _
                  simp only [Act.put, kss, i64_w, i32_w]
                  rfl
                 refine pure_ (i := 2) (N := some 132) (v := ?_) (a' := ?_) #[true, true, true, false, false, false, false, false, false, false, false, false, false, false, false, false, false, false, false, false, false, false, false, false, false, false, false, false, false, false] rfl rfl (any_of HT_.out (by kernel_rfl)) (fun _ _ _ h => h) (Or.inl ⟨by rfl, ?_⟩) ?_ ?_
                 rotate_left
                 ·intro w'
                  go_simp
                  with_reducible rfl
                 rotate_left
                 ·simp only [Act.put, kss, i64_w, i32_w]
                  rfl
                 refine pure_ (i := 3) (N := some 133) (v := ?_) (a' := ?_) #[true, true, true, true, false, false, false, false, false, false, false, false, false, false, false, false, false, false, false, false, false, false, false, false, false, false, false, false, false, false] rfl rfl (any_of HT_.out (by kernel_rfl)) (fun _ _ _ h => h) (Or.inl ⟨by rfl, ?_⟩) ?_ ?_
                 rotate_left
                 ·intro w'
                  go_simp
                  with_reducible rfl
                 rotate_left
                 ·simp only [Act.put, kss, i64_w, i32_w]
                  rfl
                 refine take_ (i := 4) (N := some 134) (v := ?_) (a' := ?_) #[true, true, true, true, true, false, false, false, false, false, false, false, false, false, false, false, false, false, false, false, false, false, false, false, false, false, false, false, false, false] rfl rfl (take_ofW HT_.out HW_.out (by kernel_rfl)) (fun _ _ _ h => h) (Or.inl ⟨by rfl, ?_⟩) hH ?_ ?_
                 rotate_left
                 ·rintro w' ⟨s0, s1, s2, s3, s4, s5, s6, s7⟩
                  go_simp
                  with_reducible rfl
                 rotate_left
                 ·simp only [Act.put, kss, i64_w, i32_w]
                  rfl
                 refine take_ (i := 6) (N := some 136) (v := ?_) (a' := ?_) #[true, true, true, true, true, false, true, false, false, false, false, false, false, false, false, false, false, false, false, false, false, false, false, false, false, false, false, false, false, false] rfl rfl (take_ofW HT_.out HW_.out (by kernel_rfl)) (fun _ _ _ h => h) (Or.inl ⟨by rfl, ?_⟩) hH ?_ ?_
                 rotate_left
                 ·rintro w' ⟨s0, s1, s2, s3, s4, s5, s6, s7⟩
                  go_simp
                  with_reducible rfl
                 rotate_left
                 ·simp only [Act.put, kss, i64_w, i32_w]
                  rfl
                 clear hK Kc
                 refine one_ (i := 5) (N := some 135) #[true, true, true, true, true, true, true, false, false, false, false, false, false, false, false, false, false, false, false, false, false, false, false, false, false, false, false, false, false, false] rfl rfl (one_of HT_.out (by kernel_rfl)) (by decide) (fun Kc hK => ?_)
                 refine kgo Tryd.func40 #[.agg #[.bool z16, .slice P28 x17.length c29]] (by rfl) rfl rfl ?_
                 refine (whole_Sign.calls _ z16 _ _ x17 n127 _ (K.C 3 (by rw [hVs.out]; rfl)) (K.le 3 (by rw [hVs.out]; rfl)) A128.out).mono ?_
                 rintro e W' ⟨rfl, hb⟩
                 replace K := K.up hb
                 clear hb
                 refine ⟨_, rfl, hK.out _ _ (HS.out _ _ _ _ K) fun hH => ?_⟩
                 clear hK Kc
                 refine norm_ (a' := ?_) ?_ ?_
                 rotate_left
                 ·show Act.put _ (some 135) _ = _
                  simp only [Act.put, kss, i64_w, i32_w]
                  rfl
                 refine one_ (i := 7) (N := some 137) #[true, true, true, true, true, true, true, true, false, false, false, false, false, false, false, false, false, false, false, false, false, false, false, false, false, false, false, false, false, false] rfl rfl (one_of HT_.out (by kernel_rfl)) (by decide) (fun Kc hK => ?_)
                 refine kgo Tryd.func40 #[.agg #[.bool a0_0, .slice A0_1 l0_1.length c0_1]] (by rfl) rfl rfl ?_
                 refine (whole_Sign.calls _ a0_0 _ _ l0_1 n129 _ (K.C 0 (by rw [hVs.out]; rfl)) (K.le 0 (by rw [hVs.out]; rfl)) A130.out).mono ?_
                 rintro e W' ⟨rfl, hb⟩
                 replace K := K.up hb
                 clear hb
                 refine ⟨_, rfl, hK.out _ _ (HS.out _ _ _ _ K) fun hH => ?_⟩
                 refine norm_ (a' := ?_) ?_ ?_
                 rotate_left
                 ·show Act.put _ (some 137) _ = _
                  simp only [Act.put, kss, i64_w, i32_w]
                  rfl
                 refine pure_ (i := 8) (N := some 138) (v := ?_) (a' := ?_) #[true, true, true, true, true, true, true, true, true, false, false, false, false, false, false, false, false, false, false, false, false, false, false, false, false, false, false, false, false, false] rfl rfl (any_of HT_.out (by kernel_rfl)) (fun _ _ _ h => h) (Or.inl ⟨by rfl, ?_⟩) ?_ ?_
                 rotate_left
                 ·intro w'
                  go_simp
                  with_reducible rfl
                 rotate_left
                 ·simp only [Act.put, kss, i64_w, i32_w]
                  rfl
                 refine pure_ (i := 9) (N := some 139) (v := ?_) (a' := ?_) #[true, true, true, true, true, true, true, true, true, true, false, false, false, false, false, false, false, false, false, false, false, false, false, false, false, false, false, false, false, false] rfl rfl (any_of HT_.out (by kernel_rfl)) (fun _ _ _ h => h) (Or.inl ⟨by rfl, ?_⟩) ?_ ?_
                 rotate_left
                 ·intro w'
                  go_simp
                  with_reducible rfl
                 rotate_left
                 ·simp only [Act.put, kss, i64_w, i32_w]
                  rfl
                 refine pure_ (i := 10) (N := some 140) (v := ?_) (a' := ?_) #[true, true, true, true, true, true, true, true, true, true, true, false, false, false, false, false, false, false, false, false, false, false, false, false, false, false, false, false, false, false] rfl rfl (any_of HT_.out (by kernel_rfl)) (fun _ _ _ h => h) (Or.inl ⟨by rfl, ?_⟩) ?_ ?_
                 rotate_left
                 ·intro w'
                  go_simp
                  with_reducible rfl
                 rotate_left
                 ·simp only [Act.put, kss, i64_w, i32_w]
                  rfl
                 refine take_ (i := 11) (N := some 141) (v := ?_) (a' := ?_) #[true, true, true, true, true, true, true, true, true, true, true, true, false, false, false, false, false, false, false, false, false, false, false, false, false, false, false, false, false, false] rfl rfl (take_ofW HT_.out HW_.out (by kernel_rfl)) (fun _ _ _ h => h) (Or.inl ⟨by rfl, ?_⟩) hH ?_ ?_
                 rotate_left
                 ·rintro w' ⟨s0, s1, s2, s3, s4, s5, s6, s7⟩
                  go_simp
                  with_reducible rfl
                 rotate_left
                 ·simp only [Act.put, kss, i64_w, i32_w]
                  rfl
                 refine take_ (i := 13) (N := some 143) (v := ?_) (a' := ?_) #[true, true, true, true, true, true, true, true, true, true, true, true, false, true, false, false, false, false, false, false, false, false, false, false, false, false, false, false, false, false] rfl rfl (take_ofW HT_.out HW_.out (by kernel_rfl)) (fun _ _ _ h => h) (Or.inl ⟨by rfl, ?_⟩) hH ?_ ?_
                 rotate_left
                 ·rintro w' ⟨s0, s1, s2, s3, s4, s5, s6, s7⟩
                  go_simp
                  with_reducible rfl
                 rotate_left
                 ·simp only [Act.put, kss, i64_w, i32_w]
                  rfl
                 clear hK Kc
                 refine one_ (i := 12) (N := some 142) #[true, true, true, true, true, true, true, true, true, true, true, true, true, true, false, false, false, false, false, false, false, false, false, false, false, false, false, false, false, false] rfl rfl (one_of HT_.out (by kernel_rfl)) (by decide) (fun Kc hK => ?_)
                 refine kgo Tryd.func44 #[.agg #[.bool z16, .slice P28 x17.length c29]] (by rfl) rfl rfl ?_
                 refine (whole_Abs.calls _ z16 _ _ x17 z131 x132 _ (K.C 3 (by rw [hVs.out]; rfl)) (K.le 3 (by rw [hVs.out]; rfl)) A133.out).mono ?_
                 rintro e W' ⟨v146, rfl, ho150, hb⟩
                 replace K := K.addRI 0 0 hb ho150 (Nat.le_of_ble_eq_true rfl)
                 clear hb ho150
                 refine ⟨_, rfl, hK.out _ _ (HS.out _ _ _ _ K) fun hH => ?_⟩
                 clear hK Kc
                 refine norm_ (a' := ?_) ?_ ?_
                 rotate_left
                 ·show Act.put _ (some 142) _ = _
                  simp only [Act.put, kss, i64_w, i32_w]
                  rfl
                 refine one_ (i := 14) (N := some 144) #[true, true, true, true, true, true, true, true, true, true, true, true, true, true, true, false, false, false, false, false, false, false, false, false, false, false, false, false, false, false] rfl rfl (one_of HT_.out (by kernel_rfl)) (by decide) (fun Kc hK => ?_)
                 refine kgo Tryd.func44 #[.agg #[.bool a1_0, .slice A1_1 l1_1.length c1_1]] (by rfl) rfl rfl ?_
                 refine (whole_Abs.calls _ a1_0 _ _ l1_1 z134 x135 _ (K.C 1 (by rw [hVs.out]; rfl)) (K.le 1 (by rw [hVs.out]; rfl)) A136.out).mono ?_
                 rintro e W' ⟨v147, rfl, ho151, hb⟩
                 replace K := K.addRI 1 1 hb ho151 (Nat.le_of_ble_eq_true rfl)
                 clear hb ho151
                 refine ⟨_, rfl, hK.out _ _ (HS.out _ _ _ _ K) fun hH => ?_⟩
                 clear hK Kc
                 refine norm_ (a' := ?_) ?_ ?_
                 rotate_left
                 ·show Act.put _ (some 144) _ = _
                  simp only [Act.put, kss, i64_w, i32_w]
                  rfl
                 refine one_ (i := 15) (N := some 145) #[true, true, true, true, true, true, true, true, true, true, true, true, true, true, true, true, false, false, false, false, false, false, false, false, false, false, false, false, false, false] rfl rfl (one_of HT_.out (by kernel_rfl)) (by decide) (fun Kc hK => ?_)
                 obtain ⟨P152, c153, e154⟩ := K.slice 10 (by rw [hVs.out]; rfl)
                 subst e154
                 obtain ⟨P155, c156, e157⟩ := K.slice 11 (by rw [hVs.out]; rfl)
                 subst e157
                 refine kgo Tryd.func30 #[.agg #[.bool z131, .slice P152 x132.length c153], .agg #[.bool z134, .slice P155 x135.length c156]] (by rfl) rfl rfl ?_
                 refine (whole_Cmp.calls _ z131 _ _ x132 z134 _ _ x135 n137 _ (K.C 10 (by rw [hVs.out]; rfl)) (K.le 10 (by rw [hVs.out]; rfl)) (K.C 11 (by rw [hVs.out]; rfl)) (K.le 11 (by rw [hVs.out]; rfl)) A138.out).mono ?_
                 rintro e W' ⟨rfl, hb⟩
                 replace K := K.up hb
                 clear hb
                 refine ⟨_, rfl, hK.out _ _ (HS.out _ _ _ _ K) fun hH => ?_⟩
                 refine norm_ (a' := ?_) ?_ ?_
                 rotate_left
                 ·show Act.put _ (some 145) _ = _
                  simp only [Act.put, kss, i64_w, i32_w]
                  rfl
                 refine pure_ (i := 16) (N := some 146) (v := ?_) (a' := ?_) #[true, true, true, true, true, true, true, true, true, true, true, true, true, true, true, true, true, false, false, false, false, false, false, false, false, false, false, false, false, false] rfl rfl (any_of HT_.out (by kernel_rfl)) (fun _ _ _ h => h) (Or.inl ⟨by rfl, ?_⟩) ?_ ?_
                 rotate_left
                 ·intro w'
                  go_simp
                  with_reducible rfl
                 rotate_left
                 ·simp only [Act.put, kss, i64_w, i32_w]
                  rfl
                 refine pure_ (i := 17) (N := some 147) (v := ?_) (a' := ?_) #[true, true, true, true, true, true, true, true, true, true, true, true, true, true, true, true, true, true, false, false, false, false, false, false, false, false, false, false, false, false] rfl rfl (any_of HT_.out (by kernel_rfl)) (fun _ _ _ h => h) (Or.inl ⟨by rfl, ?_⟩) ?_ ?_
                 rotate_left
                 ·intro w'
                  go_simp
                  with_reducible rfl
                 rotate_left
                 ·simp only [Act.put, kss, i64_w, i32_w]
                  rfl
                 refine pure_ (i := 18) (N := some 148) (v := ?_) (a' := ?_) #[true, true, true, true, true, true, true, true, true, true, true, true, true, true, true, true, true, true, true, false, false, false, false, false, false, false, false, false, false, false] rfl rfl (any_of HT_.out (by kernel_rfl)) (fun _ _ _ h => h) (Or.inl ⟨by rfl, ?_⟩) ?_ ?_
                 rotate_left
                 ·intro w'
                  go_simp
                  with_reducible rfl
                 rotate_left
                 ·simp only [Act.put, kss, i64_w, i32_w]
                  rfl
                 refine take_ (i := 19) (N := some 149) (v := ?_) (a' := ?_) #[true, true, true, true, true, true, true, true, true, true, true, true, true, true, true, true, true, true, true, true, false, false, false, false, false, false, false, false, false, false] rfl rfl (take_ofW HT_.out HW_.out (by kernel_rfl)) (fun _ _ _ h => h) (Or.inl ⟨by rfl, ?_⟩) hH ?_ ?_
                 rotate_left
                 ·rintro w' ⟨s0, s1, s2, s3, s4, s5, s6, s7⟩
                  go_simp
                  with_reducible rfl
                 rotate_left
                 ·simp only [Act.put, kss, i64_w, i32_w]
                  rfl
                 clear hK Kc
                 refine one_ (i := 20) (N := some 150) #[true, true, true, true, true, true, true, true, true, true, true, true, true, true, true, true, true, true, true, true, true, false, false, false, false, false, false, false, false, false] rfl rfl (one_of HT_.out (by kernel_rfl)) (by decide) (fun Kc hK => ?_)
                 refine kgo Tryd.func40 #[.agg #[.bool z41, .slice P53 x42.length c54]] (by rfl) rfl rfl ?_
                 refine (whole_Sign.calls _ z41 _ _ x42 n139 _ (K.C 5 (by rw [hVs.out]; rfl)) (K.le 5 (by rw [hVs.out]; rfl)) A140.out).mono ?_
                 rintro e W' ⟨rfl, hb⟩
                 replace K := K.up hb
                 clear hb
                 refine ⟨_, rfl, hK.out _ _ (HS.out _ _ _ _ K) fun hH => ?_⟩
                 refine norm_ (a' := ?_) ?_ ?_
                 rotate_left
                 ·show Act.put _ (some 150) _ = _
                  simp only [Act.put, kss, i64_w, i32_w]
                  rfl
                 refine pure_ (i := 21) (N := some 151) (v := ?_) (a' := ?_) #[true, true, true, true, true, true, true, true, true, true, true, true, true, true, true, true, true, true, true, true, true, true, false, false, false, false, false, false, false, false] rfl rfl (any_of HT_.out (by kernel_rfl)) (fun _ _ _ h => h) (Or.inl ⟨by rfl, ?_⟩) ?_ ?_
                 rotate_left
                 ·intro w'
                  go_simp
                  with_reducible rfl
                 rotate_left
                 ·simp only [Act.put, kss, i64_w, i32_w]
                  rfl
                 refine pure_ (i := 22) (N := some 152) (v := ?_) (a' := ?_) #[true, true, true, true, true, true, true, true, true, true, true, true, true, true, true, true, true, true, true, true, true, true, true, false, false, false, false, false, false, false] rfl rfl (any_of HT_.out (by kernel_rfl)) (fun _ _ _ h => h) (Or.inl ⟨by rfl, ?_⟩) ?_ ?_
                 rotate_left
                 ·intro w'
                  go_simp
                  with_reducible rfl
                 rotate_left
                 ·simp only [Act.put, kss, i64_w, i32_w]
                  rfl
                 refine pure_ (i := 23) (N := some 153) (v := ?_) (a' := ?_) #[true, true, true, true, true, true, true, true, true, true, true, true, true, true, true, true, true, true, true, true, true, true, true, true, false, false, false, false, false, false] rfl rfl (any_of HT_.out (by kernel_rfl)) (fun _ _ _ h => h) (Or.inl ⟨by rfl, ?_⟩) ?_ ?_
                 rotate_left
                 ·intro w'
                  go_simp
                  with_reducible rfl
                 rotate_left
                 ·simp only [Act.put, kss, i64_w, i32_w]
                  rfl
                 refine take_ (i := 24) (N := some 154) (v := ?_) (a' := ?_) #[true, true, true, true, true, true, true, true, true, true, true, true, true, true, true, true, true, true, true, true, true, true, true, true, true, false, false, false, false, false] rfl rfl (take_ofW HT_.out HW_.out (by kernel_rfl)) (fun _ _ _ h => h) (Or.inl ⟨by rfl, ?_⟩) hH ?_ ?_
                 rotate_left
                 ·rintro w' ⟨s0, s1, s2, s3, s4, s5, s6, s7⟩
                  go_simp
                  with_reducible rfl
                 rotate_left
                 ·simp only [Act.put, kss, i64_w, i32_w]
                  rfl
                 refine take_ (i := 25) (N := some 155) (v := ?_) (a' := ?_) #[true, true, true, true, true, true, true, true, true, true, true, true, true, true, true, true, true, true, true, true, true, true, true, true, true, true, false, false, false, false] rfl rfl (take_ofW HT_.out HW_.out (by kernel_rfl)) (fun _ _ _ h => h) (Or.inl ⟨by rfl, ?_⟩) hH ?_ ?_
                 rotate_left
                 ·rintro w' ⟨s0, s1, s2, s3, s4, s5, s6, s7⟩
                  go_simp
                  with_reducible rfl
                 rotate_left
                 ·simp only [Act.put, kss, i64_w, i32_w]
                  rfl
                 clear hK Kc
                 refine one_ (i := 26) (N := some 156) #[true, true, true, true, true, true, true, true, true, true, true, true, true, true, true, true, true, true, true, true, true, true, true, true, true, true, true, false, false, false] rfl rfl (one_of HT_.out (by kernel_rfl)) (by decide) (fun Kc hK => ?_)
                 refine kgo Tryd.func44 #[.agg #[.bool a1_0, .slice A1_1 l1_1.length c1_1]] (by rfl) rfl rfl ?_
                 refine (whole_Abs.calls _ a1_0 _ _ l1_1 z141 x142 _ (K.C 1 (by rw [hVs.out]; rfl)) (K.le 1 (by rw [hVs.out]; rfl)) A143.out).mono ?_
                 rintro e W' ⟨v148, rfl, ho158, hb⟩
                 replace K := K.addRI 2 2 hb ho158 (Nat.le_of_ble_eq_true rfl)
                 clear hb ho158
                 refine ⟨_, rfl, hK.out _ _ (HS.out _ _ _ _ K) fun hH => ?_⟩
                 clear hK Kc
                 refine norm_ (a' := ?_) ?_ ?_
                 rotate_left
                 ·show Act.put _ (some 156) _ = _
                  simp only [Act.put, kss, i64_w, i32_w]
                  rfl
                 refine one_ (i := 27) (N := some 157) #[true, true, true, true, true, true, true, true, true, true, true, true, true, true, true, true, true, true, true, true, true, true, true, true, true, true, true, true, false, false] rfl rfl (one_of HT_.out (by kernel_rfl)) (by decide) (fun Kc hK => ?_)
                 obtain ⟨P159, c160, e161⟩ := K.slice 12 (by rw [hVs.out]; rfl)
                 subst e161
                 refine kgo Tryd.func30 #[.agg #[.bool z41, .slice P53 x42.length c54], .agg #[.bool z141, .slice P159 x142.length c160]] (by rfl) rfl rfl ?_
                 refine (whole_Cmp.calls _ z41 _ _ x42 z141 _ _ x142 n144 _ (K.C 5 (by rw [hVs.out]; rfl)) (K.le 5 (by rw [hVs.out]; rfl)) (K.C 12 (by rw [hVs.out]; rfl)) (K.le 12 (by rw [hVs.out]; rfl)) A145.out).mono ?_
                 rintro e W' ⟨rfl, hb⟩
                 replace K := K.up hb
                 clear hb
                 refine ⟨_, rfl, hK.out _ _ (HS.out _ _ _ _ K) fun hH => ?_⟩
                 refine norm_ (a' := ?_) ?_ ?_
                 rotate_left
                 ·show Act.put _ (some 157) _ = _
                  simp only [Act.put, kss, i64_w, i32_w]
                  rfl
                 refine pure_ (i := 28) (N := some 158) (v := ?_) (a' := ?_) #[true, true, true, true, true, true, true, true, true, true, true, true, true, true, true, true, true, true, true, true, true, true, true, true, true, true, true, true, true, false] rfl rfl (any_of HT_.out (by kernel_rfl)) (fun _ _ _ h => h) (Or.inl ⟨by rfl, ?_⟩) ?_ ?_
                 rotate_left
                 ·intro w'
                  go_simp
                  with_reducible rfl
                 rotate_left
                 ·simp only [Act.put, kss, i64_w, i32_w]
                  rfl
                 refine pure_ (i := 29) (N := some 159) (v := ?_) (a' := ?_) #[true, true, true, true, true, true, true, true, true, true, true, true, true, true, true, true, true, true, true, true, true, true, true, true, true, true, true, true, true, true] rfl rfl (any_of HT_.out (by kernel_rfl)) (fun _ _ _ h => h) (Or.inl ⟨by rfl, ?_⟩) ?_ ?_
                 rotate_left
                 ·intro w'
                  go_simp
                  with_reducible rfl
                 rotate_left
                 ·simp only [Act.put, kss, i64_w, i32_w]
                  rfl
                 clear hK Kc
                 rw [hBs.out, hVs.out, hOs.out] at K
                 simp only [kls, klv] at K
                 clear hBs hVs hOs HS hH
                 refine done_ (done_of HT_.out (by kernel_rfl)) ?_
                 clear HT_ HW_
                 obtain ⟨k, rfl⟩ : ∃ j, k = j + 1 := by
                  cases k with
                  | zero => simp [tribunallaw02_WholeDivides.j2] at h
                  | succ k => exact ⟨k, rfl⟩
                 rw [tribunallaw02_WholeDivides.j2] at h
                 by_cases c_25 : (decide (n144 ≥ 0)) = true
                 ·rw [if_pos c_25] at h
                  have c_25p : n144 ≥ 0 := of_decide_eq_true c_25
                  exact nomatch h
                 ·rw [if_neg c_25] at h
                  replace c_25 := Bool.eq_false_iff.mpr c_25
                  have c_25p : ¬ (n144 ≥ 0) := of_decide_eq_false c_25
                  replace h := bindA h
                  obtain ⟨⟨z162, x163, n164⟩, A165, h⟩ := h
                  dsimp only at h
                  by_cases c_26 : n164 = 0
                  ·rw [if_pos c_26] at h
                   have c_26b0 : (n164 == 0) = true := beq_iff_eq.mpr c_26
                   have c_26b1 : (n164 != 0) = false := bne_eq_false_iff_eq.mpr c_26
                   clear c_26
                   replace h := bindA h
                   obtain ⟨⟨z176, x177⟩, A178, h⟩ := h
                   dsimp only at h
                   replace h := bindA h
                   obtain ⟨⟨z185, x186⟩, A187, h⟩ := h
                   dsimp only at h
                   replace h := bindA h
                   obtain ⟨n194, A195, h⟩ := h
                   simp only [Option.some.injEq] at h
                   subst h
                   obtain ⟨ua2, ub2⟩ := K.cell2 2 rfl
                   obtain ⟨ua4, ub4⟩ := K.cell2 4 rfl
                   go_wp2_with (first | ((with_reducible refine gate_dst (N := 163) rfl ?_); clear ua2 ub2 ua4 ub4; refine kgl (some 163) rfl rfl Tryd.func28 #[.agg #[.bool z14, .slice P25 x15.length c26], .agg #[.bool z39, .slice P50 x40.length c51]] rfl ?_; refine (whole_Sub.calls _ z14 _ _ x15 z39 _ _ x40 z162 x163 n164 _ (K.C 2 rfl) (K.le 2 rfl) (K.C 4 rfl) (K.le 4 rfl) A165.out).mono ?_; rintro e W168 ⟨v166, rfl, ho167, hb⟩; refine ⟨_, rfl, ?_⟩; replace K := K.u.addRE hb ho167; clear hb ho167; obtain ⟨P169, c170, e171⟩ := K.slice 13 rfl; subst e171) | ((with_reducible refine gate_dst (N := 17) rfl ?_); refine kbe 17 #[.bool false, .slice none 0 0] 25 ?_; intro g172 hg W173 hx hb; replace K := K.u.box hg hx hb; clear hg hx hb) | ((with_reducible refine gate_store (t := 25) (p := 17) (v := .tmp 164) rfl ?_); refine kst2 8 (.bool z162) (.slice P169 x163.length c170) K.u rfl ?q175 ?_; (case q175 => intro c0 c1 f0 f1; first | (go_simp; done) | (go_simp; rfl)); clear K; intro W174 K; simp only [kls, klv] at K; obtain ⟨ua8, ub8⟩ := K.cell2 8 rfl) | ((with_reducible refine gate_dst (N := 170) rfl ?_); clear ua8 ub8; refine gate_guard (by rfl) ?_; refine kgl (some 170) rfl rfl Tryd.func44 #[.agg #[.bool z162, .slice P169 x163.length c170]] rfl ?_; refine (whole_Abs.calls _ z162 _ _ x163 z176 x177 _ (K.C 13 rfl) (K.le 13 rfl) A178.out).mono ?_; rintro e W181 ⟨v179, rfl, ho180, hb⟩; refine ⟨_, rfl, ?_⟩; replace K := K.u.addRE hb ho180; clear hb ho180; obtain ⟨P182, c183, e184⟩ := K.slice 14 rfl; subst e184) | ((with_reducible refine gate_dst (N := 171) rfl ?_); refine gate_guard (by rfl) ?_; refine kgl (some 171) rfl rfl Tryd.func35 #[.int .i64 1] rfl ?_; refine (whole_Of.calls _ 1 z185 x186 _ A187.out).mono ?_; rintro e W190 ⟨v188, rfl, ho189, hb⟩; refine ⟨_, rfl, ?_⟩; replace K := K.u.addRE hb ho189; clear hb ho189; obtain ⟨P191, c192, e193⟩ := K.slice 15 rfl; subst e193) | ((with_reducible refine gate_dst (N := 172) rfl ?_); refine gate_guard (by rfl) ?_; refine kgl (some 172) rfl rfl Tryd.func30 #[.agg #[.bool z176, .slice P182 x177.length c183], .agg #[.bool z185, .slice P191 x186.length c192]] rfl ?_; refine (whole_Cmp.calls _ z176 _ _ x177 z185 _ _ x186 n194 _ (K.C 14 rfl) (K.le 14 rfl) (K.C 15 rfl) (K.le 15 rfl) A195.out).mono ?_; rintro e W196 ⟨rfl, hb⟩; refine ⟨_, rfl, ?_⟩; replace K := K.u.up hb; clear hb))
                   go_ret
                   exact ⟨rfl, K.u.below⟩
                  ·rw [if_neg c_26] at h
                   have c_26b0 : (n164 == 0) = false := beq_eq_false_iff_ne.mpr c_26
                   have c_26b1 : (n164 != 0) = true := bne_iff_ne.mpr c_26
                   clear c_26
                   exact nomatch h
              ·rw [if_neg c_22] at h
               have c_22b0 : (n127 == n129) = false := beq_eq_false_iff_ne.mpr c_22
               have c_22b1 : (n127 != n129) = true := bne_iff_ne.mpr c_22
               clear c_22
               obtain ⟨k, rfl⟩ : ∃ j, k = j + 1 := by
                cases k with
                | zero => simp [tribunallaw02_WholeDivides.j2] at h
                | succ k => exact ⟨k, rfl⟩
               rw [tribunallaw02_WholeDivides.j2] at h
               rw [if_pos rfl] at h
               exact nomatch h
           ·rw [if_neg c_15] at h
            have c_15b0 : (n119 == 0) = false := beq_eq_false_iff_ne.mpr c_15
            have c_15b1 : (n119 != 0) = true := bne_iff_ne.mpr c_15
            clear c_15
            obtain ⟨k, rfl⟩ : ∃ j, k = j + 1 := by
             cases k with
             | zero => simp [tribunallaw02_WholeDivides.j1] at h
             | succ k => exact ⟨k, rfl⟩
            rw [tribunallaw02_WholeDivides.j1] at h
            rw [if_pos rfl] at h
            exact nomatch h
          ·rw [if_neg c_14] at h
           have c_14b0 : (n109 == 0) = false := beq_eq_false_iff_ne.mpr c_14
           have c_14b1 : (n109 != 0) = true := bne_iff_ne.mpr c_14
           clear c_14
           obtain ⟨k, rfl⟩ : ∃ j, k = j + 1 := by
            cases k with
            | zero => simp [tribunallaw02_WholeDivides.j1] at h
            | succ k => exact ⟨k, rfl⟩
           rw [tribunallaw02_WholeDivides.j1] at h
           rw [if_pos rfl] at h
           exact nomatch h
         ·rw [if_neg c_13] at h
          have c_13b0 : (n95 == 0) = false := beq_eq_false_iff_ne.mpr c_13
          have c_13b1 : (n95 != 0) = true := bne_iff_ne.mpr c_13
          clear c_13
          obtain ⟨k, rfl⟩ : ∃ j, k = j + 1 := by
           cases k with
           | zero => simp [tribunallaw02_WholeDivides.j1] at h
           | succ k => exact ⟨k, rfl⟩
          rw [tribunallaw02_WholeDivides.j1] at h
          rw [if_pos rfl] at h
          exact nomatch h
        ·rw [if_neg c_12] at h
         have c_12b0 : (n83 == 0) = false := beq_eq_false_iff_ne.mpr c_12
         have c_12b1 : (n83 != 0) = true := bne_iff_ne.mpr c_12
         clear c_12
         obtain ⟨k, rfl⟩ : ∃ j, k = j + 1 := by
          cases k with
          | zero => simp [tribunallaw02_WholeDivides.j1] at h
          | succ k => exact ⟨k, rfl⟩
         rw [tribunallaw02_WholeDivides.j1] at h
         rw [if_pos rfl] at h
         exact nomatch h
       ·rw [if_neg c_11] at h
        have c_11b0 : (n69 == 0) = false := beq_eq_false_iff_ne.mpr c_11
        have c_11b1 : (n69 != 0) = true := bne_iff_ne.mpr c_11
        clear c_11
        obtain ⟨k, rfl⟩ : ∃ j, k = j + 1 := by
         cases k with
         | zero => simp [tribunallaw02_WholeDivides.j1] at h
         | succ k => exact ⟨k, rfl⟩
        rw [tribunallaw02_WholeDivides.j1] at h
        rw [if_pos rfl] at h
        exact nomatch h
      ·rw [if_neg c_10] at h
       have c_10b0 : (n43 == 0) = false := beq_eq_false_iff_ne.mpr c_10
       have c_10b1 : (n43 != 0) = true := bne_iff_ne.mpr c_10
       clear c_10
       obtain ⟨k, rfl⟩ : ∃ j, k = j + 1 := by
        cases k with
        | zero => simp [tribunallaw02_WholeDivides.j1] at h
        | succ k => exact ⟨k, rfl⟩
       rw [tribunallaw02_WholeDivides.j1] at h
       rw [if_pos rfl] at h
       exact nomatch h
     ·rw [if_neg c_9] at h
      have c_9b0 : (n18 == 0) = false := beq_eq_false_iff_ne.mpr c_9
      have c_9b1 : (n18 != 0) = true := bne_iff_ne.mpr c_9
      clear c_9
      obtain ⟨k, rfl⟩ : ∃ j, k = j + 1 := by
       cases k with
       | zero => simp [tribunallaw02_WholeDivides.j1] at h
       | succ k => exact ⟨k, rfl⟩
      rw [tribunallaw02_WholeDivides.j1] at h
      rw [if_pos rfl] at h
      exact nomatch h
  ·replace c_1 := Bool.eq_false_iff.mpr c_1
   subst c_1
   rw [if_neg (by decide)] at h
   obtain ⟨k, rfl⟩ : ∃ j, k = j + 1 := by
    cases k with
    | zero => simp [tribunallaw02_WholeDivides.j0] at h
    | succ k => exact ⟨k, rfl⟩
   rw [tribunallaw02_WholeDivides.j0] at h
   rw [if_pos rfl] at h
   simp only [Option.some.injEq] at h
   subst h
   go_enter Tryd.func12, Tryd.ntmps12
   go_wp2_with (first | ((with_reducible refine gate_dst (N := 2) rfl ?_); refine kbe 2 #[.bool a0_0, .slice A0_1 l0_1.length c0_1] 25 ?_; intro g1 hg W2 hx hb; replace K := K.u.box hg hx hb; clear hg hx hb) | ((with_reducible refine gate_dst (N := 3) rfl ?_); refine kbe 3 #[.bool a1_0, .slice A1_1 l1_1.length c1_1] 25 ?_; intro g3 hg W4 hx hb; replace K := K.u.box hg hx hb; clear hg hx hb) | ((with_reducible refine gate_dst (N := 19) rfl ?_); refine kgl (some 19) rfl rfl Tryd.func21 #[] rfl ?_; refine (tribunallaw02_awake.calls _ true _ A6.out).mono ?_; rintro e W7 ⟨rfl, hb⟩; refine ⟨_, rfl, ?_⟩; replace K := K.u.up hb; clear hb; obtain ⟨ua0, ub0⟩ := K.cell2 0 rfl) | ((with_reducible refine gate_dst (N := 22) rfl ?_); clear ua0 ub0; refine kgl (some 22) rfl rfl Tryd.func51 #[.agg #[.bool a0_0, .slice A0_1 l0_1.length c0_1]] rfl ?_; refine (tribunallaw02_short.calls a0_0 _ _ l0_1 false _ (K.C 0 rfl) (K.le 0 rfl) A9.out).mono ?_; rintro e W10 ⟨rfl, hb⟩; refine ⟨_, rfl, ?_⟩; replace K := K.u.up hb; clear hb))
   go_ret
   exact ⟨rfl, K.u.below⟩
 ·replace c_0 := Bool.eq_false_iff.mpr c_0
  subst c_0
  rw [if_neg (by decide)] at h
  exact nomatch h
end Go.Proofs.YtodhkpdcpneeeaaDoor.PDv
namespace Go.Proofs.YtodhkpdcpneeeaaDoor.PDv
open Go.RowKit Go.Proofs.YtodhkpdcpneeeaaDoorW.PrintWords Go.Proofs.YtodhkpdcpneeeaaDoorW.PrintLast Go.Proofs.YtodhkpdcpneeeaaDoorW.PrintMore
open Go.Proofs.YtodhkpdcpneeeaaDoor.Mine
attribute [local go_sem] max2_int min2_int max_two min_two max_three min_three max_four min_four
set_option linter.unusedVariables false
set_option linter.unusedSimpArgs false
def tribunalref02_trim.l0 : Nat → List Int → Int → Option (List Int)
 | 0, _, _ => none
 | k + 1, x0, x3 => if x3 > 0 then (if 0 ≤ (wrap64 (x3 - 1)) then (if (wrap64 (x3 - 1)) < (x0.length : Int) then (if (rd x0 (wrap64 (x3 - 1))) = 0 then (tribunalref02_trim.l0 k x0 (wrap64 (x3 - 1))) else (if 0 ≤ x3 then (if x3 ≤ (x0.length : Int) then (some (x0.take (x3 : Int).toNat)) else (none)) else (none))) else (none)) else (none)) else (if 0 ≤ x3 then (if x3 ≤ (x0.length : Int) then (some (x0.take (x3 : Int).toNat)) else (none)) else (none))
def tribunalref02_trim.f (k : Nat) (l0 : List Int) : Option (List Int) := tribunalref02_trim.l0 k l0 (l0.length : Int)
theorem tribunalref02_trim.mono_l : ∀ k, (∀ y0 y1, LeO (tribunalref02_trim.l0 k y0 y1) (tribunalref02_trim.l0 (k + 1) y0 y1))
 | 0 => fun _ _ r h => by simp [tribunalref02_trim.l0] at h
 | k + 1 => by
  have ih0 := tribunalref02_trim.mono_l k
  ·intro y0 y1
   unfold tribunalref02_trim.l0
   repeat' first
   | (with_reducible exact ih0 _ _)
   | (with_reducible exact LeO.refl _)
   | (with_reducible exact LeO.none _)
   | (with_reducible refine LeO.ite ?_ ?_)
   | (with_reducible refine LeO.bind ?_ (fun _ => ?_))
   | exact ih0 _ _
   | exact LeO.none _
   | refine LeO.ite ?_ ?_
   | refine LeO.bind ?_ (fun _ => ?_)
theorem tribunalref02_trim.mono : ∀ a0 k, LeO (tribunalref02_trim.f k a0) (tribunalref02_trim.f (k + 1) a0) := by
 intro a0 k
 have ih0 := tribunalref02_trim.mono_l k
 unfold tribunalref02_trim.f
 repeat' first
   | (with_reducible exact ih0 _ _)
   | (with_reducible exact LeO.refl _)
   | (with_reducible exact LeO.none _)
   | (with_reducible refine LeO.ite ?_ ?_)
   | (with_reducible refine LeO.bind ?_ (fun _ => ?_))
   | exact ih0 _ _
   | exact LeO.none _
   | refine LeO.ite ?_ ?_
   | refine LeO.bind ?_ (fun _ => ?_)
def tribunalref02_Make.f (k : Nat) (a0 : Bool) (l1 : List Int) : Option (Bool × List Int) := (tribunalref02_trim.f k l1).bind fun t385 => (if a0 = true then (some (decide (0 < t385.length), t385)) else (some (false, t385)))
def tribunalref02_From.l0 : Nat → List Int → Int → Bool → List Int → Option (Bool × List Int)
 | 0, _, _, _, _ => none
 | k + 1, x3, x4, x389000, x389001 => if x4 < (x389001.length : Int) then (if 0 ≤ x4 then ((some (([IntKind.u16.wrap (rd x389001 x4), IntKind.u16.wrap ((rd x389001 x4) / 65536), IntKind.u16.wrap ((rd x389001 x4) / 4294967296), IntKind.u16.wrap ((rd x389001 x4) / 281474976710656)] : List Int) : List Int)).bind fun y391 => (if x3.length + y391.length < 70368744177664 then (tribunalref02_From.l0 k (x3 ++ y391) (wrap64 (x4 + 1)) x389000 x389001) else (none))) else (none)) else ((tribunalref02_Make.f k x389000 x3).bind fun bt397 => (some (bt397.1, bt397.2)))
def tribunalref02_From.f (k : Nat) (a0_0 : Bool) (l0_1 : List Int) : Option (Bool × List Int) := tribunalref02_From.l0 k ([] : List Int) 0 a0_0 l0_1
end Go.Proofs.YtodhkpdcpneeeaaDoor.PDv
namespace Go.Proofs.YtodhkpdcpneeeaaDoor.PDv
open Go.Proofs.YtodhkpdcpneeeaaDoor.Mine Go.RowKit Go.Proofs.YtodhkpdcpneeeaaDoorW.PrintWords Go.Proofs.YtodhkpdcpneeeaaDoorW.PrintLast Go.Proofs.YtodhkpdcpneeeaaDoorW.PrintMore
open Go.Proofs.YtodhkpdcpneeeaaDoor.Mine
attribute [local go_sem] max2_int min2_int max_two min_two max_three min_three max_four min_four
set_option linter.unusedVariables false
set_option linter.unusedSimpArgs false
end Go.Proofs.YtodhkpdcpneeeaaDoor.PDv
namespace Go.Proofs.YtodhkpdcpneeeaaDoor.PDv
open Go.RowKit Go.Proofs.YtodhkpdcpneeeaaDoorW.PrintWords Go.Proofs.YtodhkpdcpneeeaaDoorW.PrintLast Go.Proofs.YtodhkpdcpneeeaaDoorW.PrintMore
open Go.Proofs.YtodhkpdcpneeeaaDoor.Mine
attribute [local go_sem] max2_int min2_int max_two min_two max_three min_three max_four min_four
set_option linter.unusedVariables false
set_option linter.unusedSimpArgs false
end Go.Proofs.YtodhkpdcpneeeaaDoor.PDv
namespace Go.Proofs.YtodhkpdcpneeeaaDoor.PDv
open Go.Proofs.YtodhkpdcpneeeaaDoor.Mine Go.RowKit Go.Proofs.YtodhkpdcpneeeaaDoorW.PrintWords Go.Proofs.YtodhkpdcpneeeaaDoorW.PrintLast Go.Proofs.YtodhkpdcpneeeaaDoorW.PrintMore
open Go.Proofs.YtodhkpdcpneeeaaDoor.Mine
attribute [local go_sem] max2_int min2_int max_two min_two max_three min_three max_four min_four
set_option linter.unusedVariables false
set_option linter.unusedSimpArgs false
end Go.Proofs.YtodhkpdcpneeeaaDoor.PDv
namespace Go.Proofs.YtodhkpdcpneeeaaDoor.PDv
open Go.RowKit Go.Proofs.YtodhkpdcpneeeaaDoorW.PrintWords Go.Proofs.YtodhkpdcpneeeaaDoorW.PrintLast Go.Proofs.YtodhkpdcpneeeaaDoorW.PrintMore
open Go.Proofs.YtodhkpdcpneeeaaDoor.Mine
attribute [local go_sem] max2_int min2_int max_two min_two max_three min_three max_four min_four
set_option linter.unusedVariables false
set_option linter.unusedSimpArgs false
end Go.Proofs.YtodhkpdcpneeeaaDoor.PDv
namespace Go.Proofs.YtodhkpdcpneeeaaDoor.PDv
open Go.Proofs.YtodhkpdcpneeeaaDoor.Mine Go.RowKit Go.Proofs.YtodhkpdcpneeeaaDoorW.PrintWords Go.Proofs.YtodhkpdcpneeeaaDoorW.PrintLast Go.Proofs.YtodhkpdcpneeeaaDoorW.PrintMore
open Go.Proofs.YtodhkpdcpneeeaaDoor.Mine
attribute [local go_sem] max2_int min2_int max_two min_two max_three min_three max_four min_four
set_option linter.unusedVariables false
set_option linter.unusedSimpArgs false
end Go.Proofs.YtodhkpdcpneeeaaDoor.PDv
namespace Go.Proofs.YtodhkpdcpneeeaaDoor.PDv
open Go.RowKit Go.Proofs.YtodhkpdcpneeeaaDoorW.PrintWords Go.Proofs.YtodhkpdcpneeeaaDoorW.PrintLast Go.Proofs.YtodhkpdcpneeeaaDoorW.PrintMore
open Go.Proofs.YtodhkpdcpneeeaaDoor.Mine
attribute [local go_sem] max2_int min2_int max_two min_two max_three min_three max_four min_four
set_option linter.unusedVariables false
set_option linter.unusedSimpArgs false
end Go.Proofs.YtodhkpdcpneeeaaDoor.PDv
namespace Go.Proofs.YtodhkpdcpneeeaaDoor.PDv
open Go.Proofs.YtodhkpdcpneeeaaDoor.Mine Go.RowKit Go.Proofs.YtodhkpdcpneeeaaDoorW.PrintWords Go.Proofs.YtodhkpdcpneeeaaDoorW.PrintLast Go.Proofs.YtodhkpdcpneeeaaDoorW.PrintMore
open Go.Proofs.YtodhkpdcpneeeaaDoor.Mine
attribute [local go_sem] max2_int min2_int max_two min_two max_three min_three max_four min_four
set_option linter.unusedVariables false
set_option linter.unusedSimpArgs false
end Go.Proofs.YtodhkpdcpneeeaaDoor.PDv
namespace Go.Proofs.YtodhkpdcpneeeaaDoor.PDv
open Go.RowKit Go.Proofs.YtodhkpdcpneeeaaDoorW.PrintWords Go.Proofs.YtodhkpdcpneeeaaDoorW.PrintLast Go.Proofs.YtodhkpdcpneeeaaDoorW.PrintMore
open Go.Proofs.YtodhkpdcpneeeaaDoor.Mine
attribute [local go_sem] max2_int min2_int max_two min_two max_three min_three max_four min_four
set_option linter.unusedVariables false
set_option linter.unusedSimpArgs false
end Go.Proofs.YtodhkpdcpneeeaaDoor.PDv
namespace Go.Proofs.YtodhkpdcpneeeaaDoor.PDv
open Go.Proofs.YtodhkpdcpneeeaaDoor.Mine Go.RowKit Go.Proofs.YtodhkpdcpneeeaaDoorW.PrintWords Go.Proofs.YtodhkpdcpneeeaaDoorW.PrintLast Go.Proofs.YtodhkpdcpneeeaaDoorW.PrintMore
open Go.Proofs.YtodhkpdcpneeeaaDoor.Mine
attribute [local go_sem] max2_int min2_int max_two min_two max_three min_three max_four min_four
set_option linter.unusedVariables false
set_option linter.unusedSimpArgs false
end Go.Proofs.YtodhkpdcpneeeaaDoor.PDv
namespace Go.Proofs.YtodhkpdcpneeeaaDoor.PDv
open Go.RowKit Go.Proofs.YtodhkpdcpneeeaaDoorW.PrintWords Go.Proofs.YtodhkpdcpneeeaaDoorW.PrintLast Go.Proofs.YtodhkpdcpneeeaaDoorW.PrintMore
open Go.Proofs.YtodhkpdcpneeeaaDoor.Mine
attribute [local go_sem] max2_int min2_int max_two min_two max_three min_three max_four min_four
set_option linter.unusedVariables false
set_option linter.unusedSimpArgs false
end Go.Proofs.YtodhkpdcpneeeaaDoor.PDv
namespace Go.Proofs.YtodhkpdcpneeeaaDoor.PDv
open Go.Proofs.YtodhkpdcpneeeaaDoor.Mine Go.RowKit Go.Proofs.YtodhkpdcpneeeaaDoorW.PrintWords Go.Proofs.YtodhkpdcpneeeaaDoorW.PrintLast Go.Proofs.YtodhkpdcpneeeaaDoorW.PrintMore
open Go.Proofs.YtodhkpdcpneeeaaDoor.Mine
attribute [local go_sem] max2_int min2_int max_two min_two max_three min_three max_four min_four
set_option linter.unusedVariables false
set_option linter.unusedSimpArgs false
end Go.Proofs.YtodhkpdcpneeeaaDoor.PDv
namespace Go.Proofs.YtodhkpdcpneeeaaDoor.PDv
open Go.RowKit Go.Proofs.YtodhkpdcpneeeaaDoorW.PrintWords Go.Proofs.YtodhkpdcpneeeaaDoorW.PrintLast Go.Proofs.YtodhkpdcpneeeaaDoorW.PrintMore
open Go.Proofs.YtodhkpdcpneeeaaDoor.Mine
attribute [local go_sem] max2_int min2_int max_two min_two max_three min_three max_four min_four
set_option linter.unusedVariables false
set_option linter.unusedSimpArgs false
end Go.Proofs.YtodhkpdcpneeeaaDoor.PDv
namespace Go.Proofs.YtodhkpdcpneeeaaDoor.Big
def val (B : Int) : List Int → Int
  | [] => 0
  | x :: xs => x + B * val B xs
def Dig (B : Int) (l : List Int) : Prop := ∀ x ∈ l, 0 ≤ x ∧ x < B
def Top : List Int → Prop
  | [] => True
  | [x] => x ≠ 0
  | _ :: y :: l => Top (y :: l)
theorem Dig.nil {B : Int} : Dig B [] := fun _ h => by cases h
theorem Dig.cons {B x : Int} {l : List Int} : Dig B (x :: l) ↔ (0 ≤ x ∧ x < B) ∧ Dig B l := by
  simp [Dig]
theorem Dig.append {B : Int} {a b : List Int} : Dig B (a ++ b) ↔ Dig B a ∧ Dig B b := by
  simp only [Dig, List.mem_append]
  exact ⟨fun h => ⟨fun x hx => h x (.inl hx), fun x hx => h x (.inr hx)⟩, fun h x hx => hx.elim (h.1 x) (h.2 x)⟩
theorem Dig.take {B : Int} {a : List Int} (h : Dig B a) (n : Nat) : Dig B (a.take n) := fun x hx => h x (List.mem_of_mem_take hx)
theorem Dig.drop {B : Int} {a : List Int} (h : Dig B a) (n : Nat) : Dig B (a.drop n) := fun x hx => h x (List.mem_of_mem_drop hx)
theorem Dig.set {B : Int} {a : List Int} (h : Dig B a) (n : Nat) {v : Int} (hv : 0 ≤ v ∧ v < B) : Dig B (a.set n v) := fun x hx => by
  rcases List.mem_or_eq_of_mem_set hx with hx | rfl
  · exact h x hx
  · exact hv
theorem Dig.rep {B : Int} (hB : 0 < B) (n : Nat) : Dig B (List.replicate n 0) := fun x hx => by
  have := List.eq_of_mem_replicate hx; omega
theorem Dig.get {B : Int} {a : List Int} (h : Dig B a) (i : Nat) (hi : i < a.length) : 0 ≤ a[i] ∧ a[i] < B := h _ (List.getElem_mem hi)
theorem val_append (B : Int) (a b : List Int) : val B (a ++ b) = val B a + B ^ a.length * val B b := by
  induction a with
  | nil => simp [val]
  | cons x a ih => simp only [List.cons_append, val, ih, List.length_cons, Int.pow_succ]; grind
theorem val_replicate (B : Int) (n : Nat) : val B (List.replicate n 0) = 0 := by
  induction n with
  | zero => rfl
  | succ n ih => simp [List.replicate_succ, val, ih]
theorem pow_pos {B : Int} (hB : 0 < B) (n : Nat) : 0 < B ^ n := Int.pow_pos hB
theorem val_nonneg {B : Int} (hB : 0 < B) {l : List Int} (h : Dig B l) : 0 ≤ val B l := by
  induction l with
  | nil => simp [val]
  | cons x l ih =>
    rw [Dig.cons] at h
    have := ih h.2
    have := Int.mul_nonneg (Int.le_of_lt hB) this
    simp only [val]; omega
theorem val_lt {B : Int} (hB : 0 < B) {l : List Int} (h : Dig B l) : val B l < B ^ l.length := by
  induction l with
  | nil => simp [val]
  | cons x l ih =>
    rw [Dig.cons] at h
    have h1 := ih h.2
    have h2 : B * (val B l + 1) ≤ B * B ^ l.length := Int.mul_le_mul_of_nonneg_left (by omega) (by omega)
    simp only [val, List.length_cons, Int.pow_succ]
    grind
theorem val_set (B : Int) (l : List Int) (i : Nat) (v : Int) (hi : i < l.length) : val B (l.set i v) = val B l + (v - l[i]) * B ^ i := by
  induction l generalizing i with
  | nil => simp at hi
  | cons x l ih =>
    cases i with
    | zero => simp only [List.set_cons_zero, val, List.getElem_cons_zero, Int.pow_zero]; omega
    | succ i =>
      simp only [List.set_cons_succ, val, List.getElem_cons_succ, Int.pow_succ]
      rw [ih i (by simpa using hi)]
      grind
theorem val_take_succ (B : Int) (l : List Int) (i : Nat) (hi : i < l.length) : val B (l.take (i + 1)) = val B (l.take i) + l[i] * B ^ i := by
  rw [List.take_succ_eq_append_getElem hi, val_append]
  simp [val, List.length_take, Nat.min_eq_left (Nat.le_of_lt hi), Int.mul_comm]
theorem val_split (B : Int) (l : List Int) (i : Nat) (hi : i ≤ l.length) : val B l = val B (l.take i) + B ^ i * val B (l.drop i) := by
  have := val_append B (l.take i) (l.drop i)
  rw [List.take_append_drop, List.length_take, Nat.min_eq_left hi] at this
  exact this
theorem val_snoc (B : Int) (l : List Int) (x : Int) : val B (l ++ [x]) = val B l + x * B ^ l.length := by
  rw [val_append]; simp [val, Int.mul_comm]
theorem Top.cons {x y : Int} {l : List Int} : Top (x :: y :: l) ↔ Top (y :: l) := Iff.rfl
theorem Top_iff (l : List Int) : Top l ↔ ∀ h : l ≠ [], l.getLast h ≠ 0 := by
  induction l with
  | nil => simp [Top]
  | cons x l ih =>
    cases l with
    | nil => simp [Top]
    | cons y l => rw [Top.cons, ih]; exact ⟨fun h _ => by simpa using h (by simp), fun h _ => by simpa using h (by simp)⟩
theorem Top_snoc {l : List Int} {x : Int} (h : x ≠ 0) : Top (l ++ [x]) := by
  rw [Top_iff]; intro _; simpa using h
theorem uniq {B : Int} (hB : 1 < B) : ∀ {a b : List Int}, Dig B a → Dig B b → Top a → Top b → val B a = val B b → a = b := by
  have key : ∀ {b : List Int}, Dig B b → Top b → val B b = 0 → b = [] := by
    intro b
    induction b with
    | nil => intros; rfl
    | cons y b ih =>
      intro hd ht hv
      rw [Dig.cons] at hd
      simp only [val] at hv
      have h0 := val_nonneg (by omega) hd.2
      have h1 := Int.mul_nonneg (show 0 ≤ B by omega) h0
      have h2 : B * val B b = 0 := by omega
      have h3 : val B b = 0 := by rcases Int.mul_eq_zero.1 h2 with h | h <;> omega
      cases b with
      | nil => exfalso; simp only [Top] at ht; omega
      | cons z b => have := ih hd.2 ht h3; cases this
  intro a
  induction a with
  | nil =>
    intro b _ hb _ tb h
    exact (key hb tb h.symm).symm
  | cons x a ih =>
    intro b ha hb ta tb h
    cases b with
    | nil => exact key ha ta h
    | cons y b =>
      rw [Dig.cons] at ha hb
      simp only [val] at h
      have e1 : x = y := by
        have h1 : (x + B * val B a) % B = x := by rw [Int.add_mul_emod_self_left]; exact Int.emod_eq_of_lt ha.1.1 ha.1.2
        have h2 : (y + B * val B b) % B = y := by rw [Int.add_mul_emod_self_left]; exact Int.emod_eq_of_lt hb.1.1 hb.1.2
        rw [← h1, ← h2, h]
      subst e1
      have e2 : val B a = val B b := by
        have : B * val B a = B * val B b := by omega
        exact Int.eq_of_mul_eq_mul_left (by omega) this
      have ta' : Top a := by cases a with | nil => trivial | cons => exact ta
      have tb' : Top b := by cases b with | nil => trivial | cons => exact tb
      rw [ih ha.2 hb.2 ta' tb' e2]
theorem low {B : Int} (hB : 0 < B) {l : List Int} (h : Dig B l) (t : Top l) (hne : l ≠ []) : B ^ (l.length - 1) ≤ val B l := by
  induction l with
  | nil => exact absurd rfl hne
  | cons x l ih =>
    rw [Dig.cons] at h
    cases l with
    | nil => simp only [Top] at t; simp [val]; omega
    | cons y l =>
      have := ih h.2 t (by simp)
      simp only [List.length_cons, Nat.add_sub_cancel] at this ⊢
      simp only [val] at this ⊢
      have := Int.mul_le_mul_of_nonneg_left this (Int.le_of_lt hB)
      rw [Int.pow_succ, Int.mul_comm]
      omega
structure Rep (B : Int) (n : Int) (l : List Int) : Prop where
  dig : Dig B l
  top : Top l
  val : val B l = n
theorem Rep.uniq {B n : Int} (hB : 1 < B) {a b : List Int} (ha : Rep B n a) (hb : Rep B n b) : a = b :=
  Big.uniq hB ha.dig hb.dig ha.top hb.top (ha.val.trans hb.val.symm)
theorem Rep.nonneg {B n : Int} (hB : 0 < B) {a : List Int} (ha : Rep B n a) : 0 ≤ n := ha.val ▸ val_nonneg hB ha.dig
theorem Rep.lt {B n : Int} (hB : 0 < B) {a : List Int} (ha : Rep B n a) : n < B ^ a.length := ha.val ▸ val_lt hB ha.dig
theorem Rep.low {B n : Int} (hB : 0 < B) {a : List Int} (ha : Rep B n a) (h : a ≠ []) : B ^ (a.length - 1) ≤ n := ha.val ▸ Big.low hB ha.dig ha.top h
theorem Rep.nil_iff {B n : Int} (hB : 0 < B) {a : List Int} (ha : Rep B n a) : a = [] ↔ n = 0 := by
  constructor
  · rintro rfl; exact ha.val.symm
  · intro h
    rcases Classical.em (a = []) with e | e
    · exact e
    · have := ha.low hB e; have := pow_pos hB (a.length - 1); omega
end Go.Proofs.YtodhkpdcpneeeaaDoor.Big
namespace Go.Proofs.YtodhkpdcpneeeaaDoor.PurePDv
set_option linter.unusedVariables false
set_option linter.unusedSimpArgs false
open Go.RowKit Go.Proofs.YtodhkpdcpneeeaaDoorW.PrintWords Go.Proofs.YtodhkpdcpneeeaaDoorW.PrintLast Go.Proofs.YtodhkpdcpneeeaaDoorW.PrintMore Go.Proofs.YtodhkpdcpneeeaaDoor.PDv Go.Proofs.YtodhkpdcpneeeaaDoor Go.Proofs.YtodhkpdcpneeeaaDoor.Mine
open Big
def Ev {α : Type} (f : Nat → Option α) (r : α) : Prop := ∃ K, ∀ k, K ≤ k → f k = some r
theorem up {α : Type} {f : Nat → Option α} (mono : ∀ k, LeO (f k) (f (k + 1))) {k : Nat} {r : α} (h : f k = some r) : ∀ j, k ≤ j → f j = some r := by
  intro j hj
  induction hj with
  | refl => exact h
  | step _ ih => exact mono _ _ ih
theorem Ev.of {α : Type} {f : Nat → Option α} (mono : ∀ k, LeO (f k) (f (k + 1))) {k : Nat} {r : α} (h : f k = some r) : Ev f r := ⟨k, up mono h⟩
theorem rd_nat (l : List Int) (n : Nat) (h : n < l.length) : rd l (n : Int) = l[n] := by
  simp [rd, List.getD_eq_getElem?_getD, List.getElem?_eq_getElem h]
theorem w64 (n : Int) (h : -9223372036854775808 ≤ n ∧ n ≤ 9223372036854775807) : wrap64 n = n := IntWalk.wrap64_in n h
theorem whole_trimmed_l0 (l : List Int) (hl : l.length < 9223372036854775807) : ∀ (n k : Nat), n ≤ l.length → n < k → ∃ m, m ≤ n ∧ whole_trimmed.l0 k l (n : Int) = some (l.take m) ∧ Top (l.take m) ∧ ∀ B, val B (l.take m) = val B (l.take n) := by
  intro n
  induction n with
  | zero =>
    intro k _ hk
    obtain ⟨k, rfl⟩ : ∃ j, k = j + 1 := ⟨k - 1, by omega⟩
    refine ⟨0, Nat.le_refl _, ?_, by simp [Top], fun _ => rfl⟩
    simp only [whole_trimmed.l0]
    rw [if_neg (by omega), if_pos (by omega), if_pos (by omega)]
    rfl
  | succ n ih =>
    intro k hn hk
    obtain ⟨k, rfl⟩ : ∃ j, k = j + 1 := ⟨k - 1, by omega⟩
    have hw : wrap64 (((n + 1 : Nat) : Int) - 1) = (n : Int) := by rw [w64 _ (by omega)]; omega
    simp only [whole_trimmed.l0]
    rw [hw, if_pos (by omega), if_pos (by omega), if_pos (by omega), rd_nat l n (by omega)]
    by_cases h0 : l[n] = 0
    · obtain ⟨m, hm, he, ht, hv⟩ := ih k (by omega) (by omega)
      refine ⟨m, by omega, by rw [if_pos h0]; exact he, ht, fun B => ?_⟩
      rw [hv B, val_take_succ B l n (by omega), h0]; simp
    · refine ⟨n + 1, Nat.le_refl _, ?_, ?_, fun _ => rfl⟩
      · rw [if_neg h0, if_pos (by omega), if_pos (by omega)]; congr 1
      · rw [List.take_succ_eq_append_getElem (by omega)]; exact Top_snoc h0
theorem whole_trimmed_ev {B : Int} {l : List Int} (hl : l.length < 9223372036854775807) (hd : Dig B l) : ∃ r, Ev (fun k => whole_trimmed.f k l) r ∧ Dig B r ∧ Top r ∧ val B r = val B l := by
  obtain ⟨m, hm, he, ht, hv⟩ := whole_trimmed_l0 l hl l.length (l.length + 1) (Nat.le_refl _) (by omega)
  refine ⟨l.take m, Ev.of (fun k => whole_trimmed.mono l k) he, hd.take m, ht, ?_⟩
  rw [hv B, List.take_length]
theorem tribunalref02_trim_l0 (l : List Int) (hl : l.length < 9223372036854775807) : ∀ (n k : Nat), n ≤ l.length → n < k → ∃ m, m ≤ n ∧ tribunalref02_trim.l0 k l (n : Int) = some (l.take m) ∧ Top (l.take m) ∧ ∀ B, val B (l.take m) = val B (l.take n) := by
  intro n
  induction n with
  | zero =>
    intro k _ hk
    obtain ⟨k, rfl⟩ : ∃ j, k = j + 1 := ⟨k - 1, by omega⟩
    refine ⟨0, Nat.le_refl _, ?_, by simp [Top], fun _ => rfl⟩
    simp only [tribunalref02_trim.l0]
    rw [if_neg (by omega), if_pos (by omega), if_pos (by omega)]
    rfl
  | succ n ih =>
    intro k hn hk
    obtain ⟨k, rfl⟩ : ∃ j, k = j + 1 := ⟨k - 1, by omega⟩
    have hw : wrap64 (((n + 1 : Nat) : Int) - 1) = (n : Int) := by rw [w64 _ (by omega)]; omega
    simp only [tribunalref02_trim.l0]
    rw [hw, if_pos (by omega), if_pos (by omega), if_pos (by omega), rd_nat l n (by omega)]
    by_cases h0 : l[n] = 0
    · obtain ⟨m, hm, he, ht, hv⟩ := ih k (by omega) (by omega)
      refine ⟨m, by omega, by rw [if_pos h0]; exact he, ht, fun B => ?_⟩
      rw [hv B, val_take_succ B l n (by omega), h0]; simp
    · refine ⟨n + 1, Nat.le_refl _, ?_, ?_, fun _ => rfl⟩
      · rw [if_neg h0, if_pos (by omega), if_pos (by omega)]; congr 1
      · rw [List.take_succ_eq_append_getElem (by omega)]; exact Top_snoc h0
theorem tribunalref02_trim_ev {B : Int} {l : List Int} (hl : l.length < 9223372036854775807) (hd : Dig B l) : ∃ r, Ev (fun k => tribunalref02_trim.f k l) r ∧ Dig B r ∧ Top r ∧ val B r = val B l := by
  obtain ⟨m, hm, he, ht, hv⟩ := tribunalref02_trim_l0 l hl l.length (l.length + 1) (Nat.le_refl _) (by omega)
  refine ⟨l.take m, Ev.of (fun k => tribunalref02_trim.mono l k) he, hd.take m, ht, ?_⟩
  rw [hv B, List.take_length]
end Go.Proofs.YtodhkpdcpneeeaaDoor.PurePDv
namespace Go.Proofs.YtodhkpdcpneeeaaDoor.PurePDv
set_option linter.unusedVariables false
set_option linter.unusedSimpArgs false
open Go.RowKit Go.Proofs.YtodhkpdcpneeeaaDoorW.PrintWords Go.Proofs.YtodhkpdcpneeeaaDoorW.PrintLast Go.Proofs.YtodhkpdcpneeeaaDoorW.PrintMore Go.Proofs.YtodhkpdcpneeeaaDoor.PDv Go.Proofs.YtodhkpdcpneeeaaDoor Go.Proofs.YtodhkpdcpneeeaaDoor.Mine Big
theorem and32 (x : Int) (h : 0 ≤ x ∧ x < 18446744073709551616) : Go.bits .and .u64 x 4294967295 = x % 4294967296 := by
  obtain ⟨n, rfl⟩ := Int.eq_ofNat_of_zero_le h.1
  have := bits_and_u64_nat n 4294967295 (by omega) (by decide)
  rw [show ((4294967295 : Nat) : Int) = 4294967295 from rfl] at this
  rw [this, show (4294967295 : Nat) = 2 ^ 32 - 1 from by decide, Nat.and_two_pow_sub_one_eq_mod]
  omega
theorem mul_bound {x y M : Int} (hx : 0 ≤ x ∧ x ≤ M) (hy : 0 ≤ y ∧ y ≤ M) : 0 ≤ x * y ∧ x * y ≤ M * M :=
  ⟨Int.mul_nonneg hx.1 hy.1, Int.mul_le_mul hx.2 hy.2 hy.1 (by omega)⟩
theorem Mul64_eq (x y : Int) (hx : 0 ≤ x ∧ x < 18446744073709551616) (hy : 0 ≤ y ∧ y < 18446744073709551616) : bits_Mul64.f x y = some (x * y / 18446744073709551616, x * y % 18446744073709551616) := by
  unfold bits_Mul64.f
  rw [and32 x hx, and32 y hy]
  obtain ⟨x1, hx1⟩ : ∃ z, z = x / 4294967296 := ⟨_, rfl⟩
  obtain ⟨x0, hx0⟩ : ∃ z, z = x % 4294967296 := ⟨_, rfl⟩
  obtain ⟨y1, hy1⟩ : ∃ z, z = y / 4294967296 := ⟨_, rfl⟩
  obtain ⟨y0, hy0⟩ : ∃ z, z = y % 4294967296 := ⟨_, rfl⟩
  rw [← hx1, ← hx0, ← hy1, ← hy0]
  have ex : x = 4294967296 * x1 + x0 := by omega
  have ey : y = 4294967296 * y1 + y0 := by omega
  have bx1 : 0 ≤ x1 ∧ x1 ≤ 4294967295 := by omega
  have bx0 : 0 ≤ x0 ∧ x0 ≤ 4294967295 := by omega
  have by1 : 0 ≤ y1 ∧ y1 ≤ 4294967295 := by omega
  have by0 : 0 ≤ y0 ∧ y0 ≤ 4294967295 := by omega
  have p11 := mul_bound bx1 by1
  have p10 := mul_bound bx1 by0
  have p01 := mul_bound bx0 by1
  have p00 := mul_bound bx0 by0
  have exy : x * y = 18446744073709551616 * (x1 * y1) + 4294967296 * (x1 * y0) + 4294967296 * (x0 * y1) + x0 * y0 := by rw [ex, ey]; grind
  generalize x1 * y1 = a11 at *
  generalize x1 * y0 = a10 at *
  generalize x0 * y1 = a01 at *
  generalize x0 * y0 = a00 at *
  generalize x * y = xy at *
  clear hx1 hx0 hy1 hy0 ex ey
  have w0 : IntKind.u64.wrap a00 = a00 := by rw [IntKind.wrap_u64]; omega
  have w1 : IntKind.u64.wrap a10 = a10 := by rw [IntKind.wrap_u64]; omega
  have w2 : IntKind.u64.wrap a01 = a01 := by rw [IntKind.wrap_u64]; omega
  have w3 : IntKind.u64.wrap a11 = a11 := by rw [IntKind.wrap_u64]; omega
  rw [w0, w1, w2, w3]
  have w4 : IntKind.u64.wrap (a10 + a00 / 4294967296) = a10 + a00 / 4294967296 := by rw [IntKind.wrap_u64]; omega
  rw [w4, and32 _ (by omega)]
  have w5 : IntKind.u64.wrap ((a10 + a00 / 4294967296) % 4294967296 + a01) = (a10 + a00 / 4294967296) % 4294967296 + a01 := by rw [IntKind.wrap_u64]; omega
  rw [w5]
  simp only [IntKind.wrap_u64, Option.some.injEq, Prod.mk.injEq]
  refine ⟨?_, trivial⟩
  obtain ⟨t, ht⟩ : ∃ t, t = a10 + a00 / 4294967296 := ⟨_, rfl⟩
  rw [← ht]
  obtain ⟨q, hq⟩ : ∃ q, q = t / 4294967296 := ⟨_, rfl⟩
  obtain ⟨m, hm⟩ : ∃ m, m = t % 4294967296 := ⟨_, rfl⟩
  rw [← hq, ← hm]
  obtain ⟨u, hu⟩ : ∃ u, u = (m + a01) / 4294967296 := ⟨_, rfl⟩
  rw [← hu]
  have b1 : 0 ≤ q ∧ q ≤ 4294967295 := by omega
  have b2 : 0 ≤ u ∧ u ≤ 4294967295 := by omega
  have e2 : xy / 18446744073709551616 = a11 + q + u := by
    have : xy = 18446744073709551616 * (a11 + q + u) + (4294967296 * ((m + a01) % 4294967296) + a00 % 4294967296) := by omega
    omega
  rw [e2, Int.emod_eq_of_lt (by omega) (by omega), Int.emod_eq_of_lt (by omega) (by omega)]
theorem limb4 (x : Int) (h : 0 ≤ x ∧ x < 18446744073709551616) : val 65536 [IntKind.u16.wrap x, IntKind.u16.wrap (x / 65536), IntKind.u16.wrap (x / 4294967296), IntKind.u16.wrap (x / 281474976710656)] = x ∧ Dig 65536 [IntKind.u16.wrap x, IntKind.u16.wrap (x / 65536), IntKind.u16.wrap (x / 4294967296), IntKind.u16.wrap (x / 281474976710656)] := by
  simp only [IntKind.wrap_u16, val, Dig.cons]
  refine ⟨by omega, by omega, by omega, by omega, by omega, Dig.nil⟩
theorem pow4 : (18446744073709551616 : Int) = 65536 ^ 4 := by decide
theorem From_l0 (s : Bool) (l : List Int) (hl : l.length ≤ 1048576) (hd : Dig 18446744073709551616 l) : ∀ (n i k : Nat) (d : List Int), i + n = l.length → n + 4 * l.length + 3 < k → d.length = 4 * i → Dig 65536 d → val 65536 d = val 18446744073709551616 (l.take i) →
    ∃ r, Ev (fun k => tribunalref02_From.l0 k d (i : Int) s l) (s && decide (0 < r.length), r) ∧ Dig 65536 r ∧ Top r ∧ val 65536 r = val 18446744073709551616 l := by
  intro n
  induction n with
  | zero =>
    intro i k d hi hk hdl hdd hdv
    obtain ⟨r, ⟨K, hr⟩, hrd, hrt, hrv⟩ := tribunalref02_trim_ev (B := 65536) (l := d) (by omega) hdd
    refine ⟨r, ⟨K + 1, fun k hk => ?_⟩, hrd, hrt, by rw [hrv, hdv, show i = l.length from by omega, List.take_length]⟩
    obtain ⟨k, rfl⟩ : ∃ j, k = j + 1 := ⟨k - 1, by omega⟩
    simp only [tribunalref02_From.l0]
    rw [if_neg (by omega)]
    simp only [tribunalref02_Make.f, hr k (by omega), Option.bind_some]
    cases s <;> simp
  | succ n ih =>
    intro i k d hi hk hdl hdd hdv
    have hx := hd.get i (by omega)
    obtain ⟨hv4, hd4⟩ := limb4 l[i] hx
    obtain ⟨r, ⟨K, hr⟩, h1, h2, h3⟩ := ih (i + 1) (k - 1) (d ++ [IntKind.u16.wrap l[i], IntKind.u16.wrap (l[i] / 65536), IntKind.u16.wrap (l[i] / 4294967296), IntKind.u16.wrap (l[i] / 281474976710656)]) (by omega) (by omega) (by simp; omega) (Dig.append.2 ⟨hdd, hd4⟩)
      (by rw [val_append, hv4, hdv, val_take_succ _ l i (by omega), hdl, pow4, Int.pow_mul]; rw [Int.mul_comm])
    refine ⟨r, ⟨K + 1, fun k hk => ?_⟩, h1, h2, h3⟩
    obtain ⟨k, rfl⟩ : ∃ j, k = j + 1 := ⟨k - 1, by omega⟩
    simp only [tribunalref02_From.l0]
    rw [if_pos (by omega), if_pos (by omega), rd_nat l i (by omega)]
    simp only [Option.bind_some]
    rw [if_pos (by simp; omega), w64 _ (by omega)]
    have := hr k (by omega)
    rwa [show ((i + 1 : Nat) : Int) = (i : Int) + 1 from by omega] at this
theorem From_ev (s : Bool) (l : List Int) (hl : l.length ≤ 1048576) (hd : Dig 18446744073709551616 l) :
    ∃ r, Ev (fun k => tribunalref02_From.f k s l) (s && decide (0 < r.length), r) ∧ Dig 65536 r ∧ Top r ∧ val 65536 r = val 18446744073709551616 l := by
  have := From_l0 s l hl hd l.length 0 (l.length + 4 * l.length + 4) [] (by omega) (by omega) rfl Dig.nil rfl
  exact this
theorem of_ev (s : Bool) (l : List Int) (hl : l.length ≤ 1048576) (hd : Dig 18446744073709551616 l) :
    ∃ r, Ev (fun k => whole_of.f k s l) (r, s && decide (0 < r.length)) ∧ r.length ≤ l.length ∧ Dig 18446744073709551616 r ∧ Top r ∧ val 18446744073709551616 r = val 18446744073709551616 l := by
  obtain ⟨m, hm, he, ht, hv⟩ := whole_trimmed_l0 l (by omega) l.length (l.length + 1) (Nat.le_refl _) (by omega)
  obtain ⟨K, hr⟩ := Ev.of (fun k => whole_trimmed.mono l k) he
  refine ⟨l.take m, ⟨K, fun k hk => ?_⟩, by rw [List.length_take]; omega, hd.take m, ht, by rw [hv, List.take_length]⟩
  simp only [whole_of.f, hr k hk, Option.bind_some]
  cases s
  · simp
  · simp only [whole_amount_null.f, Option.bind_some, if_true]
    congr 2
    cases h : l.take m <;> simp <;> omega
theorem getD_dig {B : Int} (hB : 0 < B) {D : List Int} (hd : Dig B D) (j : Nat) : 0 ≤ D.getD j 0 ∧ D.getD j 0 < B := by
  by_cases h : j < D.length
  · rw [List.getD_eq_getElem?_getD, List.getElem?_eq_getElem h]; exact hd.get j h
  · rw [List.getD_eq_getElem?_getD, List.getElem?_eq_none (by omega)]; simp; exact hB
theorem Same_l0 (b c : Bool) (l : List Int) (hl : l.length ≤ 8388608) : ∀ (n i : Nat), i + n = l.length → ∀ k, n < k → tribunalref02_Same.l0 k (i : Int) b l c l = some true := by
  intro n
  induction n with
  | zero =>
    intro i hi k hk
    obtain ⟨k, rfl⟩ : ∃ j, k = j + 1 := ⟨k - 1, by omega⟩
    rw [tribunalref02_Same.l0, if_neg (by omega)]
  | succ n ih =>
    intro i hi k hk
    obtain ⟨k, rfl⟩ : ∃ j, k = j + 1 := ⟨k - 1, by omega⟩
    have := ih (i + 1) (by omega) k (by omega)
    rw [tribunalref02_Same.l0, if_pos (by omega), if_pos (by omega), if_pos (by omega), if_pos rfl, w64 _ (by omega), show (i : Int) + 1 = ((i + 1 : Nat) : Int) from by omega]
    exact this
theorem Same_ev (b : Bool) (l : List Int) (hl : l.length ≤ 8388608) : Ev (fun k => tribunalref02_Same.f k b l b l) true := by
  refine ⟨l.length + 2, fun k hk => ?_⟩
  obtain ⟨k, rfl⟩ : ∃ j, k = j + 1 := ⟨k - 1, by omega⟩
  show tribunalref02_Same.f (k + 1) b l b l = some true
  have := Same_l0 b b l hl l.length 0 (by omega) k (by omega)
  rw [tribunalref02_Same.f, if_neg (by simp), show ((l.length : Int) != (l.length : Int)) = false from by simp, tribunalref02_Same.j0, if_neg (by simp)]
  exact this
end Go.Proofs.YtodhkpdcpneeeaaDoor.PurePDv
namespace Go.Proofs.YtodhkpdcpneeeaaDoor.Big
structure Num (B n : Int) (s : Bool) (l : List Int) : Prop where
  rep : Rep B (n.natAbs : Int) l
  sign : s = decide (n < 0)
theorem Num.uniq {B n : Int} {s t : Bool} {l m : List Int} (hB : 1 < B) (h : Num B n s l) (g : Num B n t m) : t = s ∧ m = l :=
  ⟨g.sign.trans h.sign.symm, g.rep.uniq hB h.rep⟩
theorem Rep.pos_iff {B n : Int} (hB : 0 < B) {a : List Int} (ha : Rep B n a) : 0 < a.length ↔ 0 < n := by
  have h := ha.nil_iff hB
  have h1 := ha.nonneg hB
  rw [List.length_pos_iff, Ne, h]
  omega
theorem Num.of_rep {B v : Int} (hB : 0 < B) {l : List Int} (h : Rep B v l) (b : Bool) : Num B (if b then -v else v) (b && decide (0 < l.length)) l := by
  have h1 := h.nonneg hB
  have h2 := h.pos_iff hB
  refine ⟨?_, ?_⟩
  · have e : (((if b then -v else v) : Int).natAbs : Int) = v := by cases b <;> simp <;> omega
    rw [e]; exact h
  · cases b
    · simp; omega
    · simp only [Bool.true_and, if_true]
      by_cases h3 : 0 < l.length
      · have := h2.1 h3; simp [h3]; omega
      · have : ¬ 0 < v := fun g => h3 (h2.2 g)
        simp [h3]; omega
theorem Num.of_rep' {B v : Int} (hB : 0 < B) {l : List Int} (h : Rep B v l) (b : Bool) {n : Int} (hn : n = if b then -v else v) : Num B n (b && decide (0 < l.length)) l := hn ▸ Num.of_rep hB h b
theorem mul_signs (n m : Int) : n * m = if (decide (n < 0) != decide (m < 0)) = true then -((n.natAbs : Int) * (m.natAbs : Int)) else (n.natAbs : Int) * (m.natAbs : Int) := by
  rcases Int.lt_or_le n 0 with h | h <;> rcases Int.lt_or_le m 0 with g | g
  · have e1 : (n.natAbs : Int) = -n := by omega
    have e2 : (m.natAbs : Int) = -m := by omega
    rw [e1, e2]; simp [h, g, Int.neg_mul, Int.mul_neg]
  · have e1 : (n.natAbs : Int) = -n := by omega
    have e2 : (m.natAbs : Int) = m := by omega
    have g' : ¬ m < 0 := by omega
    rw [e1, e2]; simp [h, g', Int.neg_mul]
  · have e1 : (n.natAbs : Int) = n := by omega
    have e2 : (m.natAbs : Int) = -m := by omega
    have h' : ¬ n < 0 := by omega
    rw [e1, e2]; simp [h', g, Int.mul_neg]
  · have e1 : (n.natAbs : Int) = n := by omega
    have e2 : (m.natAbs : Int) = m := by omega
    have h' : ¬ n < 0 := by omega
    have g' : ¬ m < 0 := by omega
    rw [e1, e2]; simp [h', g']
def sg (n : Int) : Int := if n < 0 then -1 else if n = 0 then 0 else 1
theorem sg_neg {n : Int} (h : n < 0) : sg n = -1 := by unfold sg; rw [if_pos h]
theorem sg_zero {n : Int} (h : n = 0) : sg n = 0 := by unfold sg; rw [if_neg (by omega), if_pos h]
theorem sg_pos {n : Int} (h : 0 < n) : sg n = 1 := by unfold sg; rw [if_neg (by omega), if_neg (by omega)]
theorem lt_of_len {B : Int} (hB : 0 < B) {a b : List Int} (da : Dig B a) (db : Dig B b) (tb : Top b) (h : a.length < b.length) : val B a < val B b := by
  have h1 := val_lt hB da
  have hne : b ≠ [] := by intro e; rw [e] at h; simp at h
  have h2 := low hB db tb hne
  have h4 : B ^ a.length ≤ B ^ (b.length - 1) := by
    obtain ⟨c, hc⟩ := Nat.exists_eq_add_of_le (show a.length ≤ b.length - 1 by omega)
    rw [hc, Int.pow_add]
    have g1 := pow_pos hB a.length
    have g2 := pow_pos hB c
    have := Int.mul_le_mul_of_nonneg_left (show (1 : Int) ≤ B ^ c by omega) (Int.le_of_lt g1)
    omega
  omega
theorem lt_of_top {B : Int} (hB : 0 < B) {a b : List Int} (da : Dig B a) (db : Dig B b) (n : Nat) (ha : n < a.length) (hb : n < b.length) (h : a[n] < b[n]) : val B (a.take (n + 1)) < val B (b.take (n + 1)) := by
  rw [val_take_succ B a n ha, val_take_succ B b n hb]
  have h1 := val_lt hB (da.take n)
  rw [List.length_take, Nat.min_eq_left (by omega)] at h1
  have h2 := val_nonneg hB (db.take n)
  have h3 := Int.mul_le_mul_of_nonneg_right (show a[n] + 1 ≤ b[n] by omega) (Int.le_of_lt (pow_pos hB n))
  rw [Int.add_mul, Int.one_mul] at h3
  omega
theorem add_step (V c c' s x y X Y P B : Int) (hs : c' * B + s = x + y + c) (hv : V + c * P = X + Y) : (V + s * P) + c' * (P * B) = (X + x * P) + (Y + y * P) := by
  have h1 : c' * (P * B) + s * P = (c' * B + s) * P := by rw [Int.add_mul, Int.mul_assoc, Int.mul_comm P B]
  rw [hs, Int.add_mul, Int.add_mul] at h1
  omega
theorem sub_step (V c c' s x y X Y P B : Int) (hs : s - c' * B = x - y - c) (hv : V - c * P = X - Y) : (V + s * P) - c' * (P * B) = (X + x * P) - (Y + y * P) := by
  have h1 : s * P - c' * (P * B) = (s - c' * B) * P := by rw [Int.sub_mul, Int.mul_assoc, Int.mul_comm P B]
  rw [hs, Int.sub_mul, Int.sub_mul] at h1
  omega
theorem val_take_getD (B : Int) (l : List Int) (i : Nat) : val B (l.take (i + 1)) = val B (l.take i) + l.getD i 0 * B ^ i := by
  by_cases h : i < l.length
  · rw [val_take_succ B l i h, List.getD_eq_getElem?_getD, List.getElem?_eq_getElem h, Option.getD_some]
  · rw [List.take_of_length_le (by omega), List.take_of_length_le (by omega), List.getD_eq_getElem?_getD, List.getElem?_eq_none (by omega), Option.getD_none, Int.zero_mul, Int.add_zero]
end Go.Proofs.YtodhkpdcpneeeaaDoor.Big
namespace Go.Proofs.YtodhkpdcpneeeaaDoor.PurePDv
set_option linter.unusedVariables false
set_option linter.unusedSimpArgs false
open Go.RowKit Go.Proofs.YtodhkpdcpneeeaaDoorW.PrintWords Go.Proofs.YtodhkpdcpneeeaaDoorW.PrintLast Go.Proofs.YtodhkpdcpneeeaaDoorW.PrintMore Go.Proofs.YtodhkpdcpneeeaaDoor.PDv Go.Proofs.YtodhkpdcpneeeaaDoor Go.Proofs.YtodhkpdcpneeeaaDoor.Mine Big
theorem pow_le_pow {B : Int} (hB : 0 < B) {m n : Nat} (h : m ≤ n) : B ^ m ≤ B ^ n := by
  obtain ⟨c, rfl⟩ := Nat.exists_eq_add_of_le h
  rw [Int.pow_add]
  have g1 := pow_pos hB m
  have g2 := pow_pos hB c
  have := Int.mul_le_mul_of_nonneg_left (show (1 : Int) ≤ B ^ c by omega) (Int.le_of_lt g1)
  omega
theorem rep_len {B v : Int} (hB : 0 < B) {r : List Int} (h : Rep B v r) {m : Nat} (hv : v < B ^ m) : r.length ≤ m := by
  refine Classical.byContradiction fun hc => ?_
  have hne : r ≠ [] := by intro e; rw [e] at hc; simp at hc
  have h1 := h.low hB hne
  have h2 := pow_le_pow hB (show m ≤ r.length - 1 by omega)
  omega
theorem len4 {l d : List Int} {v : Int} (hl : Dig 18446744073709551616 l) (hv : val 18446744073709551616 l = v) (h : Rep 65536 v d) : d.length ≤ 4 * l.length := by
  by_cases hne : d = []
  · rw [hne]; simp
  · have h1 := h.low (by decide) hne
    have h2 := val_lt (B := 18446744073709551616) (by decide) hl
    rw [hv, pow4, ← Int.pow_mul] at h2
    refine Classical.byContradiction fun hc => ?_
    have h4 : (65536 : Int) ^ (4 * l.length) ≤ 65536 ^ (d.length - 1) := by
      obtain ⟨c, hc⟩ := Nat.exists_eq_add_of_le (show 4 * l.length ≤ d.length - 1 by omega)
      rw [hc, Int.pow_add]
      have g1 := pow_pos (B := 65536) (by decide) (4 * l.length)
      have g2 := pow_pos (B := 65536) (by decide) c
      have := Int.mul_le_mul_of_nonneg_left (show (1 : Int) ≤ 65536 ^ c by omega) (Int.le_of_lt g1)
      omega
    omega
theorem arg_num (s : Bool) (l : List Int) (hl : l.length ≤ 1048576) (hd : Dig 18446744073709551616 l) : ∃ (n : Int) (t : Bool) (r d : List Int),
    Ev (fun k => whole_of.f k s l) (r, t) ∧ Ev (fun k => tribunalref02_From.f k s l) (t, d) ∧ Num 18446744073709551616 n t r ∧ Num 65536 n t d ∧ r.length ≤ l.length ∧ d.length ≤ 4 * l.length := by
  obtain ⟨r, hr, hrl, hrd, hrt, hrv⟩ := of_ev s l hl hd
  obtain ⟨d, hdE, hdd, hdt, hdv⟩ := From_ev s l hl hd
  have R1 : Rep 18446744073709551616 (val 18446744073709551616 l) r := ⟨hrd, hrt, hrv⟩
  have R2 : Rep 65536 (val 18446744073709551616 l) d := ⟨hdd, hdt, hdv⟩
  have N1 := Num.of_rep (by decide) R1 s
  have N2 := Num.of_rep (by decide) R2 s
  have e : (s && decide (0 < d.length)) = (s && decide (0 < r.length)) := N2.sign.trans N1.sign.symm
  refine ⟨_, _, r, d, hr, ?_, N1, e ▸ N2, hrl, len4 hd rfl R2⟩
  rw [← e]; exact hdE
theorem signed_eq (m : List Int) (b : Bool) : whole_signed.f m b = some (m, b && decide (0 < m.length)) := by
  cases b
  · simp [whole_signed.f]
  · simp only [whole_signed.f, whole_amount_null.f, Option.bind_some, if_true]
    congr 2
    cases m <;> simp <;> omega
theorem awake_ev : Ev (fun k => tribunallaw02_awake.f k) true := Ev.of (fun k => tribunallaw02_awake.mono k) (k := 40) (by kernel_rfl)
theorem dig_of_wf {l : List Int} (h : ∀ z ∈ l, (Lit.int .u64 z).wf = true) : Dig 18446744073709551616 l := fun z hz => by
  have := Go.bounds_u64 (h z hz)
  omega
theorem whole_amount_cmp_l0 (a b : List Int) (hl : a.length ≤ 8388608) (hab : a.length = b.length) (da : Dig 18446744073709551616 a) (db : Dig 18446744073709551616 b) : ∀ (n k : Nat) (i : Int), n ≤ a.length → n < k → i = (n : Int) - 1 → whole_amount_cmp.l0 k a b i = some (sg (val 18446744073709551616 (a.take n) - val 18446744073709551616 (b.take n))) := by
  intro n
  induction n with
  | zero =>
    intro k i _ hk hi
    obtain ⟨k, rfl⟩ : ∃ j, k = j + 1 := ⟨k - 1, by omega⟩
    rw [whole_amount_cmp.l0, if_neg (by omega), sg_zero (by simp)]
  | succ n ih =>
    intro k i hn hk hi
    obtain ⟨k, rfl⟩ : ∃ j, k = j + 1 := ⟨k - 1, by omega⟩
    have hi' : i = (n : Int) := by omega
    subst hi'
    have hna : n < a.length := by omega
    have hnb : n < b.length := by omega
    rw [whole_amount_cmp.l0, if_pos (by omega), if_pos (by omega), if_pos (by omega), if_pos (by omega), rd_nat a n hna, rd_nat b n hnb]
    rcases Int.lt_trichotomy a[n] b[n] with h | h | h
    · have := lt_of_top (by decide) da db n hna hnb h
      rw [if_neg (by omega), if_pos h]
      rw [sg_neg (by omega)]
    · rw [if_pos h]
      rw [w64 _ (by omega), ih k _ (by omega) (by omega) rfl, val_take_succ 18446744073709551616 a n hna, val_take_succ 18446744073709551616 b n hnb, h]
      congr 2
      omega
    · have := lt_of_top (by decide) db da n hnb hna h
      rw [if_neg (by omega), if_neg (by omega)]
      rw [sg_pos (by omega)]
theorem whole_amount_cmp_ev (a b : List Int) (ha : a.length ≤ 8388608) (hb : b.length ≤ 8388608) (da : Dig 18446744073709551616 a) (db : Dig 18446744073709551616 b) (ta : Top a) (tb : Top b) : Ev (fun k => whole_amount_cmp.f k a b) (sg (val 18446744073709551616 a - val 18446744073709551616 b)) := by
  refine ⟨a.length + 1, fun k hk => ?_⟩
  show whole_amount_cmp.f k a b = _
  rw [whole_amount_cmp.f]
  rcases Nat.lt_trichotomy a.length b.length with h | h | h
  · have := lt_of_len (by decide) da db tb h
    rw [if_neg (by omega), if_pos (by omega), sg_neg (by omega)]
  · rw [if_pos (by omega), w64 _ (by omega), whole_amount_cmp_l0 a b ha h da db a.length k _ (Nat.le_refl _) (by omega) rfl, List.take_length, h, List.take_length]
  · have := lt_of_len (by decide) db da ta h
    rw [if_neg (by omega), if_neg (by omega), sg_pos (by omega)]
end Go.Proofs.YtodhkpdcpneeeaaDoor.PurePDv
