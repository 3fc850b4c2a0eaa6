/- What the card rests on, part 3: words of the walk, the functions in Lean and that the code comes to them. No condition beyond those that each theorem names. -/
import Derived.Test.YtodhkpdcpneeeaaDoorCr2
set_option maxHeartbeats 8000000
set_option maxRecDepth 100000
namespace Go.Proofs.YtodhkpdcpneeeaaDoor.PDv
open Go.Proofs.YtodhkpdcpneeeaaDoor.Mine Go.RowKit Go.Proofs.YtodhkpdcpneeeaaDoorW.PrintWords Go.Proofs.YtodhkpdcpneeeaaDoorW.PrintLast Go.Proofs.YtodhkpdcpneeeaaDoorW.PrintMore
open Go.Proofs.YtodhkpdcpneeeaaDoor.Mine
attribute [local go_sem] max2_int min2_int max_two min_two max_three min_three max_four min_four
set_option linter.unusedVariables false
set_option linter.unusedSimpArgs false
def tribunallaw02_awake.f (k : Nat)  : Option (Bool) := (whole_Of.f k (-7)).bind fun bt738 => ((whole_Of.f k 2).bind fun bt742 => ((whole_DivMod.f k bt738.1 bt738.2 bt742.1 bt742.2).bind fun bt746 => ((whole_Print.f k bt746.1 bt746.2.1).bind fun bt757 => ((whole_Print.f k bt746.2.2.1 bt746.2.2.2.1).bind fun bt759 => (if bt746.2.2.2.2 = 0 then (if bt757.2 = 0 then (if bt759.2 = 0 then (if bt757.1.toList = ([45, 52] : List UInt8) then (if bt759.1.toList = ([49] : List UInt8) then ((whole_Sign.f k bt746.1 bt746.2.1).bind fun t761 => (some (t761 == (-1)))) else (some false)) else (some false)) else (some false)) else (some false)) else (some false))))))
theorem tribunallaw02_awake.mono : ∀ k, LeO (tribunallaw02_awake.f k ) (tribunallaw02_awake.f (k + 1) ) := by
 intro  k
 unfold tribunallaw02_awake.f
 repeat' first
   | (with_reducible exact whole_DivMod.mono _ _ _ _ _)
   | (with_reducible exact whole_Of.mono _ _)
   | (with_reducible exact whole_Print.mono _ _ _)
   | (with_reducible exact whole_Sign.mono _ _ _)
   | (with_reducible exact LeO.refl _)
   | (with_reducible exact LeO.none _)
   | (with_reducible refine LeO.ite ?_ ?_)
   | (with_reducible refine LeO.bind ?_ (fun _ => ?_))
   | exact whole_DivMod.mono _ _ _ _ _
   | exact whole_Of.mono _ _
   | exact whole_Print.mono _ _ _
   | exact whole_Sign.mono _ _ _
   | exact LeO.none _
   | refine LeO.ite ?_ ?_
   | refine LeO.bind ?_ (fun _ => ?_)
theorem tribunallaw02_awake.calls (k : Nat)  (r : Bool) (w : World) (h : tribunallaw02_awake.f k  = some r) :
  Calls Tryd.prog 21 #[] w fun e w' => e = .returned (.bool r) ∧ Below w.heap.size w w' := by
 have hu25 := Tryd.underlying25
 have K := Kp.refl w
 try simp only [klv] at K
 rw [tribunallaw02_awake.f] at h
 replace h := bindA h
 obtain ⟨⟨z1, x2⟩, A3, h⟩ := h
 dsimp only at h
 replace h := bindA h
 obtain ⟨⟨z10, x11⟩, A12, h⟩ := h
 dsimp only at h
 replace h := bindA h
 obtain ⟨⟨z19, x20, z21, x22, n23⟩, A24, h⟩ := h
 dsimp only at h
 replace h := bindA h
 obtain ⟨⟨s44, n45⟩, A46, h⟩ := h
 dsimp only at h
 replace h := bindA h
 obtain ⟨⟨s48, n49⟩, A50, h⟩ := h
 dsimp only at h
 by_cases c_0 : n23 = 0
 ·rw [if_pos c_0] at h
  have c_0b0 : (n23 == 0) = true := beq_iff_eq.mpr c_0
  have c_0b1 : (n23 != 0) = false := bne_eq_false_iff_eq.mpr c_0
  clear c_0
  by_cases c_1 : n45 = 0
  ·rw [if_pos c_1] at h
   have c_1b0 : (n45 == 0) = true := beq_iff_eq.mpr c_1
   have c_1b1 : (n45 != 0) = false := bne_eq_false_iff_eq.mpr c_1
   clear c_1
   by_cases c_2 : n49 = 0
   ·rw [if_pos c_2] at h
    have c_2b0 : (n49 == 0) = true := beq_iff_eq.mpr c_2
    have c_2b1 : (n49 != 0) = false := bne_eq_false_iff_eq.mpr c_2
    clear c_2
    by_cases c_3 : s44.toList = ([45, 52] : List UInt8)
    ·rw [if_pos c_3] at h
     have c_3b0 : (s44.toList == ([45, 52] : List UInt8)) = true := beq_iff_eq.mpr c_3
     have c_3b1 : (s44.toList != ([45, 52] : List UInt8)) = false := bne_eq_false_iff_eq.mpr c_3
     clear c_3
     by_cases c_4 : s48.toList = ([49] : List UInt8)
     ·rw [if_pos c_4] at h
      have c_4b0 : (s48.toList == ([49] : List UInt8)) = true := beq_iff_eq.mpr c_4
      have c_4b1 : (s48.toList != ([49] : List UInt8)) = false := bne_eq_false_iff_eq.mpr c_4
      clear c_4
      replace h := bindA h
      obtain ⟨n52, A53, h⟩ := h
      simp only [Option.some.injEq] at h
      subst h
      go_enter Tryd.func21, Tryd.ntmps21
      go_wp2_with (first | ((with_reducible refine gate_dst (N := 9) rfl ?_); refine kgl (some 9) rfl rfl Tryd.func35 #[.int .i64 (-7)] rfl ?_; refine (whole_Of.calls _ (-7) z1 x2 _ A3.out).mono ?_; rintro e W6 ⟨v4, rfl, ho5, hb⟩; refine ⟨_, rfl, ?_⟩; replace K := K.u.addRE hb ho5; clear hb ho5; obtain ⟨P7, c8, e9⟩ := K.slice 0 rfl; subst e9) | ((with_reducible refine gate_dst (N := 10) rfl ?_); refine kgl (some 10) rfl rfl Tryd.func35 #[.int .i64 2] rfl ?_; refine (whole_Of.calls _ 2 z10 x11 _ A12.out).mono ?_; rintro e W15 ⟨v13, rfl, ho14, hb⟩; refine ⟨_, rfl, ?_⟩; replace K := K.u.addRE hb ho14; clear hb ho14; obtain ⟨P16, c17, e18⟩ := K.slice 1 rfl; subst e18) | ((with_reducible refine gate_dst (N := 11) rfl ?_); refine kgl (some 11) rfl rfl Tryd.func18 #[.agg #[.bool z1, .slice P7 x2.length c8], .agg #[.bool z10, .slice P16 x11.length c17]] rfl ?_; refine (whole_DivMod.calls _ z1 _ _ x2 z10 _ _ x11 z19 x20 z21 x22 n23 _ (K.C 0 rfl) (K.le 0 rfl) (K.C 1 rfl) (K.le 1 rfl) A24.out).mono ?_; rintro e W29 ⟨v25, v26, rfl, ho27, ho28, hb⟩; refine ⟨_, rfl, ?_⟩; replace K := K.u.addR2 hb ho27 ho28; clear hb ho27 ho28; obtain ⟨P30, c31, e32⟩ := K.slice 2 rfl; subst e32; obtain ⟨P33, c34, e35⟩ := K.slice 3 rfl; subst e35) | ((with_reducible refine gate_dst (N := 1) rfl ?_); refine kbe 1 #[.bool false, .slice none 0 0] 25 ?_; intro g36 hg W37 hx hb; replace K := K.u.box hg hx hb; clear hg hx hb) | ((with_reducible refine gate_dst (N := 2) rfl ?_); refine kbe 2 #[.bool false, .slice none 0 0] 25 ?_; intro g38 hg W39 hx hb; replace K := K.u.box hg hx hb; clear hg hx hb) | ((with_reducible refine gate_store (t := 25) (p := 1) (v := .tmp 12) rfl ?_); refine kst2 0 (.bool z19) (.slice P30 x20.length c31) K.u rfl ?q41 ?_; (case q41 => intro c0 c1 f0 f1; first | (go_simp; done) | (go_simp; rfl)); clear K; intro W40 K; simp only [kls, klv] at K) | ((with_reducible refine gate_store (t := 25) (p := 2) (v := .tmp 13) rfl ?_); refine kst2 1 (.bool z21) (.slice P33 x22.length c34) K.u rfl ?q43 ?_; (case q43 => intro c0 c1 f0 f1; first | (go_simp; done) | (go_simp; rfl)); clear K; intro W42 K; simp only [kls, klv] at K; obtain ⟨ua0, ub0⟩ := K.cell2 0 rfl) | ((with_reducible refine gate_dst (N := 17) rfl ?_); clear ua0 ub0; refine kgl (some 17) rfl rfl Tryd.func22 #[.agg #[.bool z19, .slice P30 x20.length c31]] rfl ?_; refine (whole_Print.calls _ z19 _ _ x20 s44 n45 _ (K.C 2 rfl) (K.le 2 rfl) A46.out).mono ?_; rintro e W47 ⟨rfl, hb⟩; refine ⟨_, rfl, ?_⟩; replace K := K.u.up hb; clear hb; obtain ⟨ua1, ub1⟩ := K.cell2 1 rfl) | ((with_reducible refine gate_dst (N := 22) rfl ?_); clear ua1 ub1; refine kgl (some 22) rfl rfl Tryd.func22 #[.agg #[.bool z21, .slice P33 x22.length c34]] rfl ?_; refine (whole_Print.calls _ z21 _ _ x22 s48 n49 _ (K.C 3 rfl) (K.le 3 rfl) A50.out).mono ?_; rintro e W51 ⟨rfl, hb⟩; refine ⟨_, rfl, ?_⟩; replace K := K.u.up hb; clear hb; obtain ⟨ua0, ub0⟩ := K.cell2 0 rfl) | ((with_reducible refine gate_dst (N := 45) rfl ?_); clear ua0 ub0; refine gate_guard (by rfl) ?_; refine kgl (some 45) rfl rfl Tryd.func40 #[.agg #[.bool z19, .slice P30 x20.length c31]] rfl ?_; refine (whole_Sign.calls _ z19 _ _ x20 n52 _ (K.C 2 rfl) (K.le 2 rfl) A53.out).mono ?_; rintro e W54 ⟨rfl, hb⟩; refine ⟨_, rfl, ?_⟩; replace K := K.u.up hb; clear hb))
      go_ret
      exact ⟨rfl, K.u.below⟩
     ·rw [if_neg c_4] at h
      have c_4b0 : (s48.toList == ([49] : List UInt8)) = false := beq_eq_false_iff_ne.mpr c_4
      have c_4b1 : (s48.toList != ([49] : List UInt8)) = true := bne_iff_ne.mpr c_4
      clear c_4
      simp only [Option.some.injEq] at h
      subst h
      go_enter Tryd.func21, Tryd.ntmps21
      go_wp2_with (first | ((with_reducible refine gate_dst (N := 9) rfl ?_); refine kgl (some 9) rfl rfl Tryd.func35 #[.int .i64 (-7)] rfl ?_; refine (whole_Of.calls _ (-7) z1 x2 _ A3.out).mono ?_; rintro e W6 ⟨v4, rfl, ho5, hb⟩; refine ⟨_, rfl, ?_⟩; replace K := K.u.addRE hb ho5; clear hb ho5; obtain ⟨P7, c8, e9⟩ := K.slice 0 rfl; subst e9) | ((with_reducible refine gate_dst (N := 10) rfl ?_); refine kgl (some 10) rfl rfl Tryd.func35 #[.int .i64 2] rfl ?_; refine (whole_Of.calls _ 2 z10 x11 _ A12.out).mono ?_; rintro e W15 ⟨v13, rfl, ho14, hb⟩; refine ⟨_, rfl, ?_⟩; replace K := K.u.addRE hb ho14; clear hb ho14; obtain ⟨P16, c17, e18⟩ := K.slice 1 rfl; subst e18) | ((with_reducible refine gate_dst (N := 11) rfl ?_); refine kgl (some 11) rfl rfl Tryd.func18 #[.agg #[.bool z1, .slice P7 x2.length c8], .agg #[.bool z10, .slice P16 x11.length c17]] rfl ?_; refine (whole_DivMod.calls _ z1 _ _ x2 z10 _ _ x11 z19 x20 z21 x22 n23 _ (K.C 0 rfl) (K.le 0 rfl) (K.C 1 rfl) (K.le 1 rfl) A24.out).mono ?_; rintro e W29 ⟨v25, v26, rfl, ho27, ho28, hb⟩; refine ⟨_, rfl, ?_⟩; replace K := K.u.addR2 hb ho27 ho28; clear hb ho27 ho28; obtain ⟨P30, c31, e32⟩ := K.slice 2 rfl; subst e32; obtain ⟨P33, c34, e35⟩ := K.slice 3 rfl; subst e35) | ((with_reducible refine gate_dst (N := 1) rfl ?_); refine kbe 1 #[.bool false, .slice none 0 0] 25 ?_; intro g36 hg W37 hx hb; replace K := K.u.box hg hx hb; clear hg hx hb) | ((with_reducible refine gate_dst (N := 2) rfl ?_); refine kbe 2 #[.bool false, .slice none 0 0] 25 ?_; intro g38 hg W39 hx hb; replace K := K.u.box hg hx hb; clear hg hx hb) | ((with_reducible refine gate_store (t := 25) (p := 1) (v := .tmp 12) rfl ?_); refine kst2 0 (.bool z19) (.slice P30 x20.length c31) K.u rfl ?q41 ?_; (case q41 => intro c0 c1 f0 f1; first | (go_simp; done) | (go_simp; rfl)); clear K; intro W40 K; simp only [kls, klv] at K) | ((with_reducible refine gate_store (t := 25) (p := 2) (v := .tmp 13) rfl ?_); refine kst2 1 (.bool z21) (.slice P33 x22.length c34) K.u rfl ?q43 ?_; (case q43 => intro c0 c1 f0 f1; first | (go_simp; done) | (go_simp; rfl)); clear K; intro W42 K; simp only [kls, klv] at K; obtain ⟨ua0, ub0⟩ := K.cell2 0 rfl) | ((with_reducible refine gate_dst (N := 17) rfl ?_); clear ua0 ub0; refine kgl (some 17) rfl rfl Tryd.func22 #[.agg #[.bool z19, .slice P30 x20.length c31]] rfl ?_; refine (whole_Print.calls _ z19 _ _ x20 s44 n45 _ (K.C 2 rfl) (K.le 2 rfl) A46.out).mono ?_; rintro e W47 ⟨rfl, hb⟩; refine ⟨_, rfl, ?_⟩; replace K := K.u.up hb; clear hb; obtain ⟨ua1, ub1⟩ := K.cell2 1 rfl) | ((with_reducible refine gate_dst (N := 22) rfl ?_); clear ua1 ub1; refine kgl (some 22) rfl rfl Tryd.func22 #[.agg #[.bool z21, .slice P33 x22.length c34]] rfl ?_; refine (whole_Print.calls _ z21 _ _ x22 s48 n49 _ (K.C 3 rfl) (K.le 3 rfl) A50.out).mono ?_; rintro e W51 ⟨rfl, hb⟩; refine ⟨_, rfl, ?_⟩; replace K := K.u.up hb; clear hb))
      go_ret
      exact ⟨rfl, K.u.below⟩
    ·rw [if_neg c_3] at h
     have c_3b0 : (s44.toList == ([45, 52] : List UInt8)) = false := beq_eq_false_iff_ne.mpr c_3
     have c_3b1 : (s44.toList != ([45, 52] : List UInt8)) = true := bne_iff_ne.mpr c_3
     clear c_3
     simp only [Option.some.injEq] at h
     subst h
     go_enter Tryd.func21, Tryd.ntmps21
     go_wp2_with (first | ((with_reducible refine gate_dst (N := 9) rfl ?_); refine kgl (some 9) rfl rfl Tryd.func35 #[.int .i64 (-7)] rfl ?_; refine (whole_Of.calls _ (-7) z1 x2 _ A3.out).mono ?_; rintro e W6 ⟨v4, rfl, ho5, hb⟩; refine ⟨_, rfl, ?_⟩; replace K := K.u.addRE hb ho5; clear hb ho5; obtain ⟨P7, c8, e9⟩ := K.slice 0 rfl; subst e9) | ((with_reducible refine gate_dst (N := 10) rfl ?_); refine kgl (some 10) rfl rfl Tryd.func35 #[.int .i64 2] rfl ?_; refine (whole_Of.calls _ 2 z10 x11 _ A12.out).mono ?_; rintro e W15 ⟨v13, rfl, ho14, hb⟩; refine ⟨_, rfl, ?_⟩; replace K := K.u.addRE hb ho14; clear hb ho14; obtain ⟨P16, c17, e18⟩ := K.slice 1 rfl; subst e18) | ((with_reducible refine gate_dst (N := 11) rfl ?_); refine kgl (some 11) rfl rfl Tryd.func18 #[.agg #[.bool z1, .slice P7 x2.length c8], .agg #[.bool z10, .slice P16 x11.length c17]] rfl ?_; refine (whole_DivMod.calls _ z1 _ _ x2 z10 _ _ x11 z19 x20 z21 x22 n23 _ (K.C 0 rfl) (K.le 0 rfl) (K.C 1 rfl) (K.le 1 rfl) A24.out).mono ?_; rintro e W29 ⟨v25, v26, rfl, ho27, ho28, hb⟩; refine ⟨_, rfl, ?_⟩; replace K := K.u.addR2 hb ho27 ho28; clear hb ho27 ho28; obtain ⟨P30, c31, e32⟩ := K.slice 2 rfl; subst e32; obtain ⟨P33, c34, e35⟩ := K.slice 3 rfl; subst e35) | ((with_reducible refine gate_dst (N := 1) rfl ?_); refine kbe 1 #[.bool false, .slice none 0 0] 25 ?_; intro g36 hg W37 hx hb; replace K := K.u.box hg hx hb; clear hg hx hb) | ((with_reducible refine gate_dst (N := 2) rfl ?_); refine kbe 2 #[.bool false, .slice none 0 0] 25 ?_; intro g38 hg W39 hx hb; replace K := K.u.box hg hx hb; clear hg hx hb) | ((with_reducible refine gate_store (t := 25) (p := 1) (v := .tmp 12) rfl ?_); refine kst2 0 (.bool z19) (.slice P30 x20.length c31) K.u rfl ?q41 ?_; (case q41 => intro c0 c1 f0 f1; first | (go_simp; done) | (go_simp; rfl)); clear K; intro W40 K; simp only [kls, klv] at K) | ((with_reducible refine gate_store (t := 25) (p := 2) (v := .tmp 13) rfl ?_); refine kst2 1 (.bool z21) (.slice P33 x22.length c34) K.u rfl ?q43 ?_; (case q43 => intro c0 c1 f0 f1; first | (go_simp; done) | (go_simp; rfl)); clear K; intro W42 K; simp only [kls, klv] at K; obtain ⟨ua0, ub0⟩ := K.cell2 0 rfl) | ((with_reducible refine gate_dst (N := 17) rfl ?_); clear ua0 ub0; refine kgl (some 17) rfl rfl Tryd.func22 #[.agg #[.bool z19, .slice P30 x20.length c31]] rfl ?_; refine (whole_Print.calls _ z19 _ _ x20 s44 n45 _ (K.C 2 rfl) (K.le 2 rfl) A46.out).mono ?_; rintro e W47 ⟨rfl, hb⟩; refine ⟨_, rfl, ?_⟩; replace K := K.u.up hb; clear hb; obtain ⟨ua1, ub1⟩ := K.cell2 1 rfl) | ((with_reducible refine gate_dst (N := 22) rfl ?_); clear ua1 ub1; refine kgl (some 22) rfl rfl Tryd.func22 #[.agg #[.bool z21, .slice P33 x22.length c34]] rfl ?_; refine (whole_Print.calls _ z21 _ _ x22 s48 n49 _ (K.C 3 rfl) (K.le 3 rfl) A50.out).mono ?_; rintro e W51 ⟨rfl, hb⟩; refine ⟨_, rfl, ?_⟩; replace K := K.u.up hb; clear hb))
     go_ret
     exact ⟨rfl, K.u.below⟩
   ·rw [if_neg c_2] at h
    have c_2b0 : (n49 == 0) = false := beq_eq_false_iff_ne.mpr c_2
    have c_2b1 : (n49 != 0) = true := bne_iff_ne.mpr c_2
    clear c_2
    simp only [Option.some.injEq] at h
    subst h
    go_enter Tryd.func21, Tryd.ntmps21
    go_wp2_with (first | ((with_reducible refine gate_dst (N := 9) rfl ?_); refine kgl (some 9) rfl rfl Tryd.func35 #[.int .i64 (-7)] rfl ?_; refine (whole_Of.calls _ (-7) z1 x2 _ A3.out).mono ?_; rintro e W6 ⟨v4, rfl, ho5, hb⟩; refine ⟨_, rfl, ?_⟩; replace K := K.u.addRE hb ho5; clear hb ho5; obtain ⟨P7, c8, e9⟩ := K.slice 0 rfl; subst e9) | ((with_reducible refine gate_dst (N := 10) rfl ?_); refine kgl (some 10) rfl rfl Tryd.func35 #[.int .i64 2] rfl ?_; refine (whole_Of.calls _ 2 z10 x11 _ A12.out).mono ?_; rintro e W15 ⟨v13, rfl, ho14, hb⟩; refine ⟨_, rfl, ?_⟩; replace K := K.u.addRE hb ho14; clear hb ho14; obtain ⟨P16, c17, e18⟩ := K.slice 1 rfl; subst e18) | ((with_reducible refine gate_dst (N := 11) rfl ?_); refine kgl (some 11) rfl rfl Tryd.func18 #[.agg #[.bool z1, .slice P7 x2.length c8], .agg #[.bool z10, .slice P16 x11.length c17]] rfl ?_; refine (whole_DivMod.calls _ z1 _ _ x2 z10 _ _ x11 z19 x20 z21 x22 n23 _ (K.C 0 rfl) (K.le 0 rfl) (K.C 1 rfl) (K.le 1 rfl) A24.out).mono ?_; rintro e W29 ⟨v25, v26, rfl, ho27, ho28, hb⟩; refine ⟨_, rfl, ?_⟩; replace K := K.u.addR2 hb ho27 ho28; clear hb ho27 ho28; obtain ⟨P30, c31, e32⟩ := K.slice 2 rfl; subst e32; obtain ⟨P33, c34, e35⟩ := K.slice 3 rfl; subst e35) | ((with_reducible refine gate_dst (N := 1) rfl ?_); refine kbe 1 #[.bool false, .slice none 0 0] 25 ?_; intro g36 hg W37 hx hb; replace K := K.u.box hg hx hb; clear hg hx hb) | ((with_reducible refine gate_dst (N := 2) rfl ?_); refine kbe 2 #[.bool false, .slice none 0 0] 25 ?_; intro g38 hg W39 hx hb; replace K := K.u.box hg hx hb; clear hg hx hb) | ((with_reducible refine gate_store (t := 25) (p := 1) (v := .tmp 12) rfl ?_); refine kst2 0 (.bool z19) (.slice P30 x20.length c31) K.u rfl ?q41 ?_; (case q41 => intro c0 c1 f0 f1; first | (go_simp; done) | (go_simp; rfl)); clear K; intro W40 K; simp only [kls, klv] at K) | ((with_reducible refine gate_store (t := 25) (p := 2) (v := .tmp 13) rfl ?_); refine kst2 1 (.bool z21) (.slice P33 x22.length c34) K.u rfl ?q43 ?_; (case q43 => intro c0 c1 f0 f1; first | (go_simp; done) | (go_simp; rfl)); clear K; intro W42 K; simp only [kls, klv] at K; obtain ⟨ua0, ub0⟩ := K.cell2 0 rfl) | ((with_reducible refine gate_dst (N := 17) rfl ?_); clear ua0 ub0; refine kgl (some 17) rfl rfl Tryd.func22 #[.agg #[.bool z19, .slice P30 x20.length c31]] rfl ?_; refine (whole_Print.calls _ z19 _ _ x20 s44 n45 _ (K.C 2 rfl) (K.le 2 rfl) A46.out).mono ?_; rintro e W47 ⟨rfl, hb⟩; refine ⟨_, rfl, ?_⟩; replace K := K.u.up hb; clear hb; obtain ⟨ua1, ub1⟩ := K.cell2 1 rfl) | ((with_reducible refine gate_dst (N := 22) rfl ?_); clear ua1 ub1; refine kgl (some 22) rfl rfl Tryd.func22 #[.agg #[.bool z21, .slice P33 x22.length c34]] rfl ?_; refine (whole_Print.calls _ z21 _ _ x22 s48 n49 _ (K.C 3 rfl) (K.le 3 rfl) A50.out).mono ?_; rintro e W51 ⟨rfl, hb⟩; refine ⟨_, rfl, ?_⟩; replace K := K.u.up hb; clear hb))
    go_ret
    exact ⟨rfl, K.u.below⟩
  ·rw [if_neg c_1] at h
   have c_1b0 : (n45 == 0) = false := beq_eq_false_iff_ne.mpr c_1
   have c_1b1 : (n45 != 0) = true := bne_iff_ne.mpr c_1
   clear c_1
   simp only [Option.some.injEq] at h
   subst h
   go_enter Tryd.func21, Tryd.ntmps21
   go_wp2_with (first | ((with_reducible refine gate_dst (N := 9) rfl ?_); refine kgl (some 9) rfl rfl Tryd.func35 #[.int .i64 (-7)] rfl ?_; refine (whole_Of.calls _ (-7) z1 x2 _ A3.out).mono ?_; rintro e W6 ⟨v4, rfl, ho5, hb⟩; refine ⟨_, rfl, ?_⟩; replace K := K.u.addRE hb ho5; clear hb ho5; obtain ⟨P7, c8, e9⟩ := K.slice 0 rfl; subst e9) | ((with_reducible refine gate_dst (N := 10) rfl ?_); refine kgl (some 10) rfl rfl Tryd.func35 #[.int .i64 2] rfl ?_; refine (whole_Of.calls _ 2 z10 x11 _ A12.out).mono ?_; rintro e W15 ⟨v13, rfl, ho14, hb⟩; refine ⟨_, rfl, ?_⟩; replace K := K.u.addRE hb ho14; clear hb ho14; obtain ⟨P16, c17, e18⟩ := K.slice 1 rfl; subst e18) | ((with_reducible refine gate_dst (N := 11) rfl ?_); refine kgl (some 11) rfl rfl Tryd.func18 #[.agg #[.bool z1, .slice P7 x2.length c8], .agg #[.bool z10, .slice P16 x11.length c17]] rfl ?_; refine (whole_DivMod.calls _ z1 _ _ x2 z10 _ _ x11 z19 x20 z21 x22 n23 _ (K.C 0 rfl) (K.le 0 rfl) (K.C 1 rfl) (K.le 1 rfl) A24.out).mono ?_; rintro e W29 ⟨v25, v26, rfl, ho27, ho28, hb⟩; refine ⟨_, rfl, ?_⟩; replace K := K.u.addR2 hb ho27 ho28; clear hb ho27 ho28; obtain ⟨P30, c31, e32⟩ := K.slice 2 rfl; subst e32; obtain ⟨P33, c34, e35⟩ := K.slice 3 rfl; subst e35) | ((with_reducible refine gate_dst (N := 1) rfl ?_); refine kbe 1 #[.bool false, .slice none 0 0] 25 ?_; intro g36 hg W37 hx hb; replace K := K.u.box hg hx hb; clear hg hx hb) | ((with_reducible refine gate_dst (N := 2) rfl ?_); refine kbe 2 #[.bool false, .slice none 0 0] 25 ?_; intro g38 hg W39 hx hb; replace K := K.u.box hg hx hb; clear hg hx hb) | ((with_reducible refine gate_store (t := 25) (p := 1) (v := .tmp 12) rfl ?_); refine kst2 0 (.bool z19) (.slice P30 x20.length c31) K.u rfl ?q41 ?_; (case q41 => intro c0 c1 f0 f1; first | (go_simp; done) | (go_simp; rfl)); clear K; intro W40 K; simp only [kls, klv] at K) | ((with_reducible refine gate_store (t := 25) (p := 2) (v := .tmp 13) rfl ?_); refine kst2 1 (.bool z21) (.slice P33 x22.length c34) K.u rfl ?q43 ?_; (case q43 => intro c0 c1 f0 f1; first | (go_simp; done) | (go_simp; rfl)); clear K; intro W42 K; simp only [kls, klv] at K; obtain ⟨ua0, ub0⟩ := K.cell2 0 rfl) | ((with_reducible refine gate_dst (N := 17) rfl ?_); clear ua0 ub0; refine kgl (some 17) rfl rfl Tryd.func22 #[.agg #[.bool z19, .slice P30 x20.length c31]] rfl ?_; refine (whole_Print.calls _ z19 _ _ x20 s44 n45 _ (K.C 2 rfl) (K.le 2 rfl) A46.out).mono ?_; rintro e W47 ⟨rfl, hb⟩; refine ⟨_, rfl, ?_⟩; replace K := K.u.up hb; clear hb; obtain ⟨ua1, ub1⟩ := K.cell2 1 rfl) | ((with_reducible refine gate_dst (N := 22) rfl ?_); clear ua1 ub1; refine kgl (some 22) rfl rfl Tryd.func22 #[.agg #[.bool z21, .slice P33 x22.length c34]] rfl ?_; refine (whole_Print.calls _ z21 _ _ x22 s48 n49 _ (K.C 3 rfl) (K.le 3 rfl) A50.out).mono ?_; rintro e W51 ⟨rfl, hb⟩; refine ⟨_, rfl, ?_⟩; replace K := K.u.up hb; clear hb))
   go_ret
   exact ⟨rfl, K.u.below⟩
 ·rw [if_neg c_0] at h
  have c_0b0 : (n23 == 0) = false := beq_eq_false_iff_ne.mpr c_0
  have c_0b1 : (n23 != 0) = true := bne_iff_ne.mpr c_0
  clear c_0
  simp only [Option.some.injEq] at h
  subst h
  go_enter Tryd.func21, Tryd.ntmps21
  go_wp2_with (first | ((with_reducible refine gate_dst (N := 9) rfl ?_); refine kgl (some 9) rfl rfl Tryd.func35 #[.int .i64 (-7)] rfl ?_; refine (whole_Of.calls _ (-7) z1 x2 _ A3.out).mono ?_; rintro e W6 ⟨v4, rfl, ho5, hb⟩; refine ⟨_, rfl, ?_⟩; replace K := K.u.addRE hb ho5; clear hb ho5; obtain ⟨P7, c8, e9⟩ := K.slice 0 rfl; subst e9) | ((with_reducible refine gate_dst (N := 10) rfl ?_); refine kgl (some 10) rfl rfl Tryd.func35 #[.int .i64 2] rfl ?_; refine (whole_Of.calls _ 2 z10 x11 _ A12.out).mono ?_; rintro e W15 ⟨v13, rfl, ho14, hb⟩; refine ⟨_, rfl, ?_⟩; replace K := K.u.addRE hb ho14; clear hb ho14; obtain ⟨P16, c17, e18⟩ := K.slice 1 rfl; subst e18) | ((with_reducible refine gate_dst (N := 11) rfl ?_); refine kgl (some 11) rfl rfl Tryd.func18 #[.agg #[.bool z1, .slice P7 x2.length c8], .agg #[.bool z10, .slice P16 x11.length c17]] rfl ?_; refine (whole_DivMod.calls _ z1 _ _ x2 z10 _ _ x11 z19 x20 z21 x22 n23 _ (K.C 0 rfl) (K.le 0 rfl) (K.C 1 rfl) (K.le 1 rfl) A24.out).mono ?_; rintro e W29 ⟨v25, v26, rfl, ho27, ho28, hb⟩; refine ⟨_, rfl, ?_⟩; replace K := K.u.addR2 hb ho27 ho28; clear hb ho27 ho28; obtain ⟨P30, c31, e32⟩ := K.slice 2 rfl; subst e32; obtain ⟨P33, c34, e35⟩ := K.slice 3 rfl; subst e35) | ((with_reducible refine gate_dst (N := 1) rfl ?_); refine kbe 1 #[.bool false, .slice none 0 0] 25 ?_; intro g36 hg W37 hx hb; replace K := K.u.box hg hx hb; clear hg hx hb) | ((with_reducible refine gate_dst (N := 2) rfl ?_); refine kbe 2 #[.bool false, .slice none 0 0] 25 ?_; intro g38 hg W39 hx hb; replace K := K.u.box hg hx hb; clear hg hx hb) | ((with_reducible refine gate_store (t := 25) (p := 1) (v := .tmp 12) rfl ?_); refine kst2 0 (.bool z19) (.slice P30 x20.length c31) K.u rfl ?q41 ?_; (case q41 => intro c0 c1 f0 f1; first | (go_simp; done) | (go_simp; rfl)); clear K; intro W40 K; simp only [kls, klv] at K) | ((with_reducible refine gate_store (t := 25) (p := 2) (v := .tmp 13) rfl ?_); refine kst2 1 (.bool z21) (.slice P33 x22.length c34) K.u rfl ?q43 ?_; (case q43 => intro c0 c1 f0 f1; first | (go_simp; done) | (go_simp; rfl)); clear K; intro W42 K; simp only [kls, klv] at K; obtain ⟨ua0, ub0⟩ := K.cell2 0 rfl) | ((with_reducible refine gate_dst (N := 17) rfl ?_); clear ua0 ub0; refine kgl (some 17) rfl rfl Tryd.func22 #[.agg #[.bool z19, .slice P30 x20.length c31]] rfl ?_; refine (whole_Print.calls _ z19 _ _ x20 s44 n45 _ (K.C 2 rfl) (K.le 2 rfl) A46.out).mono ?_; rintro e W47 ⟨rfl, hb⟩; refine ⟨_, rfl, ?_⟩; replace K := K.u.up hb; clear hb; obtain ⟨ua1, ub1⟩ := K.cell2 1 rfl) | ((with_reducible refine gate_dst (N := 22) rfl ?_); clear ua1 ub1; refine kgl (some 22) rfl rfl Tryd.func22 #[.agg #[.bool z21, .slice P33 x22.length c34]] rfl ?_; refine (whole_Print.calls _ z21 _ _ x22 s48 n49 _ (K.C 3 rfl) (K.le 3 rfl) A50.out).mono ?_; rintro e W51 ⟨rfl, hb⟩; refine ⟨_, rfl, ?_⟩; replace K := K.u.up hb; clear hb))
  go_ret
  exact ⟨rfl, K.u.below⟩
def whole_number_told.f (l0_0 : List Int) (a0_1 : Bool) : Option (Bool × List Int × Int) := (whole_number_long.f l0_0 a0_1).bind fun t791 => (if t791 = true then (some (false, ([] : List Int), 5)) else ((whole_number_out.f l0_0 a0_1).bind fun bt792 => (some (bt792.1, bt792.2, 0))))
theorem whole_number_told.calls (A0_0 : Option Addr) (c0_0 : Nat) (l0_0 : List Int) (a0_1 : Bool) (r1 : Bool) (r2 : List Int) (r3 : Int) (w : World) (hr0_0 : Kd.C (Kd.int .u64) w A0_0 l0_0.length l0_0) (hc0_0 : l0_0.length ≤ c0_0) (h : whole_number_told.f l0_0 a0_1 = some (r1, r2, r3)) :
  Calls Tryd.prog 76 #[.agg #[.slice A0_0 l0_0.length c0_0, .bool a0_1]] w fun e w' => ∃ v1_ : Value, e = .returned (.tuple #[.agg #[.bool r1, v1_], .int .i64 r3]) ∧ Kd.R (Kd.int .u64) 59 w' w.heap.size (fun _ => True) v1_ r2 ∧ Below w.heap.size w w' := by
 have hu25 := Tryd.underlying25
 have hu62 := Tryd.underlying62
 have K := Kp.refl w
 replace K := K.parV (Kd.V_mono (ok' := fun _ => True) (Kd.V_mk (e := 59) (base := 0) hc0_0 (Kd.C_F (Kd.heap_int .u64) hr0_0)) (fun _ h => trivial))
 clear hr0_0 hc0_0
 simp only [klv] at K
 rw [whole_number_told.f] at h
 replace h := bindA h
 obtain ⟨z5, A6, h⟩ := h
 by_cases c_0 : z5 = true
 ·subst c_0
  rw [if_pos rfl] at h
  simp only [Option.some.injEq, Prod.mk.injEq] at h
  obtain ⟨rfl, rfl, rfl⟩ := h
  go_enter Tryd.func76, Tryd.ntmps76
  go_wp2_with (first | ((with_reducible refine gate_dst (N := 1) rfl ?_); refine kbe 1 #[.slice A0_0 l0_0.length c0_0, .bool a0_1] 62 ?_; intro g1 hg W2 hx hb; replace K := K.u.box hg hx hb; clear hg hx hb) | ((with_reducible refine gate_dst (N := 2) rfl ?_); refine kbe 2 #[.bool false, .slice none 0 0] 25 ?_; intro g3 hg W4 hx hb; replace K := K.u.box hg hx hb; clear hg hx hb; obtain ⟨ua0, ub0⟩ := K.cell2 0 rfl) | ((with_reducible refine gate_dst (N := 5) rfl ?_); clear ua0 ub0; refine kgl (some 5) rfl rfl Tryd.func67 #[.agg #[.slice A0_0 l0_0.length c0_0, .bool a0_1]] rfl ?_; refine (whole_number_long.calls _ _ l0_0 a0_1 true _ (K.C 0 rfl) (K.le 0 rfl) A6.out).mono ?_; rintro e W7 ⟨rfl, hb⟩; refine ⟨_, rfl, ?_⟩; replace K := K.u.up hb; clear hb) | ((with_reducible refine gate_store (t := 25) (p := 2) (v := .tmp 6) rfl ?_); refine kst2 1 (.bool false) (.slice none 0 0) K.u rfl ?q9 ?_; (case q9 => intro c0 c1 f0 f1; first | (go_simp; done) | (go_simp; rfl)); clear K; intro W8 K; simp only [kls, klv] at K))
  refine bodyPost_ret (results_list (rs := [.cell 2 25, .tmp 3]) rfl (by simp) (.cell g3 25 #[.bool false, .slice none 0 0] (0, 0) _ rfl (K.u.heap 1 rfl) Tryd.underlying25 rfl (by kernel_rfl) (.tmp .nil))) rfl ?_
  exact ⟨_, rfl, Kd.R_nil _ _ _ _ _, K.u.below⟩
 ·replace c_0 := Bool.eq_false_iff.mpr c_0
  subst c_0
  rw [if_neg (by decide)] at h
  replace h := bindA h
  obtain ⟨⟨z8, x9⟩, A10, h⟩ := h
  dsimp only at h
  simp only [Option.some.injEq, Prod.mk.injEq] at h
  obtain ⟨rfl, rfl, rfl⟩ := h
  go_enter Tryd.func76, Tryd.ntmps76
  go_wp2_with (first | ((with_reducible refine gate_dst (N := 1) rfl ?_); refine kbe 1 #[.slice A0_0 l0_0.length c0_0, .bool a0_1] 62 ?_; intro g1 hg W2 hx hb; replace K := K.u.box hg hx hb; clear hg hx hb) | ((with_reducible refine gate_dst (N := 2) rfl ?_); refine kbe 2 #[.bool false, .slice none 0 0] 25 ?_; intro g3 hg W4 hx hb; replace K := K.u.box hg hx hb; clear hg hx hb; obtain ⟨ua0, ub0⟩ := K.cell2 0 rfl) | ((with_reducible refine gate_dst (N := 5) rfl ?_); clear ua0 ub0; refine kgl (some 5) rfl rfl Tryd.func67 #[.agg #[.slice A0_0 l0_0.length c0_0, .bool a0_1]] rfl ?_; refine (whole_number_long.calls _ _ l0_0 a0_1 false _ (K.C 0 rfl) (K.le 0 rfl) A6.out).mono ?_; rintro e W7 ⟨rfl, hb⟩; refine ⟨_, rfl, ?_⟩; replace K := K.u.up hb; clear hb; obtain ⟨ua0, ub0⟩ := K.cell2 0 rfl) | ((with_reducible refine gate_dst (N := 8) rfl ?_); clear ua0 ub0; refine kgl (some 8) rfl rfl Tryd.func84 #[.agg #[.slice A0_0 l0_0.length c0_0, .bool a0_1]] rfl ?_; refine (whole_number_out.calls _ _ l0_0 a0_1 z8 x9 _ (K.C 0 rfl) (K.le 0 rfl) A10.out).mono ?_; rintro e W13 ⟨v11, rfl, ho12, hb⟩; refine ⟨_, rfl, ?_⟩; replace K := K.u.addRE hb ho12; clear hb ho12; obtain ⟨P14, c15, e16⟩ := K.slice 1 rfl; subst e16) | ((with_reducible refine gate_store (t := 25) (p := 2) (v := .tmp 8) rfl ?_); refine kst2 1 (.bool z8) (.slice P14 x9.length c15) K.u rfl ?q18 ?_; (case q18 => intro c0 c1 f0 f1; first | (go_simp; done) | (go_simp; rfl)); clear K; intro W17 K; simp only [kls, klv] at K))
  refine bodyPost_ret (results_list (rs := [.cell 2 25, .tmp 3]) rfl (by simp) (.cell g3 25 #[.bool z8, .slice P14 x9.length c15] (0, 0) _ rfl (K.u.heap 1 rfl) Tryd.underlying25 rfl (by kernel_rfl) (.tmp .nil))) rfl ?_
  exact ⟨_, rfl, K.u.R 0 rfl, K.u.below⟩
end Go.Proofs.YtodhkpdcpneeeaaDoor.PDv
namespace Go.Proofs.YtodhkpdcpneeeaaDoor.PDv
open Go.Proofs.YtodhkpdcpneeeaaDoor.Mine Go.RowKit Go.Proofs.YtodhkpdcpneeeaaDoorW.PrintWords Go.Proofs.YtodhkpdcpneeeaaDoorW.PrintLast Go.Proofs.YtodhkpdcpneeeaaDoorW.PrintMore
open Go.Proofs.YtodhkpdcpneeeaaDoor.Mine
attribute [local go_sem] max2_int min2_int max_two min_two max_three min_three max_four min_four
set_option linter.unusedVariables false
set_option linter.unusedSimpArgs false
mutual
def whole_rounded.j0 : Nat → Bool → Bool → List Int → Bool → List Int → Bool → List Int → Bool → Option (Bool × List Int × Int)
 | 0, _, _, _, _, _, _, _, _ => none
 | k + 1, x2, x28, x804000, x804001, x818000, x818001, x819000, x819001 => if x28 = true then ((whole_one.f).bind fun bt825 => ((whole_number_plus.f k x818000 x818001 bt825.1 bt825.2).bind fun bt829 => ((whole_number_told.f bt829.1 bt829.2).bind fun bt833 => (some (bt833.1, bt833.2.1, bt833.2.2))))) else (if x2 = true then (whole_rounded.j1 k false x818000 x818001) else (whole_rounded.j1 k (x819001 != x804001) x818000 x818001))
def whole_rounded.j1 : Nat → Bool → List Int → Bool → Option (Bool × List Int × Int)
 | 0, _, _, _ => none
 | k + 1, x40, x818000, x818001 => if x40 = true then ((whole_one.f).bind fun bt838 => ((whole_number_minus.f k x818000 x818001 bt838.1 bt838.2).bind fun bt842 => ((whole_number_told.f bt842.1 bt842.2).bind fun bt846 => (some (bt846.1, bt846.2.1, bt846.2.2))))) else ((whole_number_told.f x818000 x818001).bind fun bt851 => (some (bt851.1, bt851.2.1, bt851.2.2)))
end
def whole_rounded.f (k : Nat) (a0_0 : Bool) (l0_1 : List Int) (a1_0 : Bool) (l1_1 : List Int) (a2 : Bool) : Option (Bool × List Int × Int) := (whole_of.f k a1_0 l1_1).bind fun bt799 => ((whole_amount_null.f bt799.1).bind fun t804 => (if t804 = true then (some (false, ([] : List Int), 11)) else ((whole_of.f k a0_0 l0_1).bind fun bt805 => ((whole_number_cut.f k bt805.1 bt805.2 bt799.1 bt799.2).bind fun bt809 => ((whole_amount_null.f bt809.2.2.1).bind fun t819 => (if t819 = true then ((whole_number_told.f bt809.1 bt809.2.1).bind fun bt820 => (some (bt820.1, bt820.2.1, bt820.2.2))) else (if a2 = true then (whole_rounded.j0 k a2 (bt809.2.2.2 == bt799.2) bt799.1 bt799.2 bt809.1 bt809.2.1 bt809.2.2.1 bt809.2.2.2) else (whole_rounded.j0 k a2 false bt799.1 bt799.2 bt809.1 bt809.2.1 bt809.2.2.1 bt809.2.2.2))))))))
def whole_rounded.T4 : Bool × List (List Nat × List Nat) := (true, [([], []), ([0], [0]), ([], []), ([1, 2, 1], [1, 2]), ([3], [3]), ([4], [4]), ([4], [4]), ([], []), ([], []), ([7, 5, 3, 0, 1, 2, 3, 4, 5, 7, 8], [5, 7]), ([8, 6, 9, 0, 1, 2, 3, 4, 5, 6, 7, 8, 9], [6, 8])])
def whole_rounded.B4 : List Nat := [0, 1, 0, 7, 15, 31, 31, 0, 0, 447, 1023]
theorem whole_rounded.tab4 : rtab .any (opsOf Tryd.f88 4) = whole_rounded.T4 := by kernel_rfl
theorem whole_rounded.bits4 : waitsOk whole_rounded.T4.2 whole_rounded.B4 = true := by kernel_rfl
theorem whole_rounded.calls (k : Nat) (a0_0 : Bool) (A0_1 : Option Addr) (c0_1 : Nat) (l0_1 : List Int) (a1_0 : Bool) (A1_1 : Option Addr) (c1_1 : Nat) (l1_1 : List Int) (a2 : Bool) (r1 : Bool) (r2 : List Int) (r3 : Int) (w : World) (hr0_1 : Kd.C (Kd.int .u64) w A0_1 l0_1.length l0_1) (hc0_1 : l0_1.length ≤ c0_1) (hr1_1 : Kd.C (Kd.int .u64) w A1_1 l1_1.length l1_1) (hc1_1 : l1_1.length ≤ c1_1) (h : whole_rounded.f k a0_0 l0_1 a1_0 l1_1 a2 = some (r1, r2, r3)) :
  Calls Tryd.prog 88 #[.agg #[.bool a0_0, .slice A0_1 l0_1.length c0_1], .agg #[.bool a1_0, .slice A1_1 l1_1.length c1_1], .bool a2] w fun e w' => ∃ v1_ : Value, e = .returned (.tuple #[.agg #[.bool r1, v1_], .int .i64 r3]) ∧ Kd.R (Kd.int .u64) 59 w' w.heap.size (fun _ => True) v1_ r2 ∧ Below w.heap.size w w' := by
 have hu25 := Tryd.underlying25
 have hu62 := Tryd.underlying62
 have K := Kp.refl w
 replace K := K.parV (Kd.V_mono (ok' := fun _ => True) (Kd.V_mk (e := 59) (base := 0) hc0_1 (Kd.C_F (Kd.heap_int .u64) hr0_1)) (fun _ h => trivial))
 clear hr0_1 hc0_1
 replace K := K.parV (Kd.V_mono (ok' := fun _ => True) (Kd.V_mk (e := 59) (base := 0) hc1_1 (Kd.C_F (Kd.heap_int .u64) hr1_1)) (fun _ h => trivial))
 clear hr1_1 hc1_1
 try simp only [klv] at K
 rw [whole_rounded.f] at h
 replace h := bindA h
 obtain ⟨⟨x7, z8⟩, A9, h⟩ := h
 dsimp only at h
 replace h := bindA h
 obtain ⟨z20, A21, h⟩ := h
 by_cases c_0 : z20 = true
 ·subst c_0
  rw [if_pos rfl] at h
  simp only [Option.some.injEq, Prod.mk.injEq] at h
  obtain ⟨rfl, rfl, rfl⟩ := h
  go_enter Tryd.func88, Tryd.ntmps88
  go_wp2_with (first | ((with_reducible refine gate_dst (N := 3) rfl ?_); refine kbe 3 #[.bool a0_0, .slice A0_1 l0_1.length c0_1] 25 ?_; intro g1 hg W2 hx hb; replace K := K.u.box hg hx hb; clear hg hx hb) | ((with_reducible refine gate_dst (N := 4) rfl ?_); refine kbe 4 #[.bool a1_0, .slice A1_1 l1_1.length c1_1] 25 ?_; intro g3 hg W4 hx hb; replace K := K.u.box hg hx hb; clear hg hx hb) | ((with_reducible refine gate_dst (N := 6) rfl ?_); refine kbe 6 #[.bool false, .slice none 0 0] 25 ?_; intro g5 hg W6 hx hb; replace K := K.u.box hg hx hb; clear hg hx hb; obtain ⟨ua1, ub1⟩ := K.cell2 1 rfl) | ((with_reducible refine gate_dst (N := 12) rfl ?_); clear ua1 ub1; refine kgl (some 12) rfl rfl Tryd.func56 #[.agg #[.bool a1_0, .slice A1_1 l1_1.length c1_1]] rfl ?_; refine (whole_of.calls _ a1_0 _ _ _ l1_1 x7 z8 _ (K.V 1 rfl) A9.out).mono ?_; rintro e W12 ⟨v10, rfl, ho11, hb⟩; refine ⟨_, rfl, ?_⟩; replace K := K.u.add (fun _ => True) hb ho11 (fun _ h => h.t); clear hb ho11; obtain ⟨P13, c14, e15⟩ := K.slice 2 rfl; subst e15) | ((with_reducible refine gate_dst (N := 8) rfl ?_); refine kbe 8 #[.slice none 0 0, .bool false] 62 ?_; intro g16 hg W17 hx hb; replace K := K.u.box hg hx hb; clear hg hx hb) | ((with_reducible refine gate_store (t := 62) (p := 8) (v := .tmp 12) rfl ?_); refine kst2 3 (.slice P13 x7.length c14) (.bool z8) K.u rfl ?q19 ?_; (case q19 => intro c0 c1 f0 f1; first | (go_simp; done) | (go_simp; rfl)); clear K; intro W18 K; simp only [kls, klv] at K; obtain ⟨ua3, ub3⟩ := K.cell2 3 rfl) | ((with_reducible refine gate_dst (N := 15) rfl ?_); clear ua3 ub3; refine kgl (some 15) rfl rfl Tryd.func57 #[.slice P13 x7.length c14] rfl ?_; refine (whole_amount_null.calls _ _ x7 true _ (K.C 2 rfl) (K.le 2 rfl) A21.out).mono ?_; rintro e W22 ⟨rfl, hb⟩; refine ⟨_, rfl, ?_⟩; replace K := K.u.up hb.below; clear hb) | ((with_reducible refine gate_store (t := 25) (p := 6) (v := .tmp 16) rfl ?_); refine kst2 2 (.bool false) (.slice none 0 0) K.u rfl ?q24 ?_; (case q24 => intro c0 c1 f0 f1; first | (go_simp; done) | (go_simp; rfl)); clear K; intro W23 K; simp only [kls, klv] at K))
  refine bodyPost_ret (results_list (rs := [.cell 6 25, .tmp 7]) rfl (by simp) (.cell g5 25 #[.bool false, .slice none 0 0] (0, 0) _ rfl (K.u.heap 2 rfl) Tryd.underlying25 rfl (by kernel_rfl) (.tmp .nil))) rfl ?_
  exact ⟨_, rfl, Kd.R_nil _ _ _ _ _, K.u.below⟩
 ·replace c_0 := Bool.eq_false_iff.mpr c_0
  subst c_0
  rw [if_neg (by decide)] at h
  replace h := bindA h
  obtain ⟨⟨x23, z24⟩, A25, h⟩ := h
  dsimp only at h
  replace h := bindA h
  obtain ⟨⟨x26, z27, x28, z29⟩, A30, h⟩ := h
  dsimp only at h
  go_enter Tryd.func88, Tryd.ntmps88
  go_wp2_with (first | ((with_reducible refine gate_dst (N := 3) rfl ?_); refine kbe 3 #[.bool a0_0, .slice A0_1 l0_1.length c0_1] 25 ?_; intro g1 hg W2 hx hb; replace K := K.u.box hg hx hb; clear hg hx hb) | ((with_reducible refine gate_dst (N := 4) rfl ?_); refine kbe 4 #[.bool a1_0, .slice A1_1 l1_1.length c1_1] 25 ?_; intro g3 hg W4 hx hb; replace K := K.u.box hg hx hb; clear hg hx hb) | ((with_reducible refine gate_dst (N := 6) rfl ?_); refine kbe 6 #[.bool false, .slice none 0 0] 25 ?_; intro g5 hg W6 hx hb; replace K := K.u.box hg hx hb; clear hg hx hb; obtain ⟨ua1, ub1⟩ := K.cell2 1 rfl) | ((with_reducible refine gate_dst (N := 12) rfl ?_); clear ua1 ub1; refine kgl (some 12) rfl rfl Tryd.func56 #[.agg #[.bool a1_0, .slice A1_1 l1_1.length c1_1]] rfl ?_; refine (whole_of.calls _ a1_0 _ _ _ l1_1 x7 z8 _ (K.V 1 rfl) A9.out).mono ?_; rintro e W12 ⟨v10, rfl, ho11, hb⟩; refine ⟨_, rfl, ?_⟩; replace K := K.u.add (fun _ => True) hb ho11 (fun _ h => h.t); clear hb ho11; obtain ⟨P13, c14, e15⟩ := K.slice 2 rfl; subst e15) | ((with_reducible refine gate_dst (N := 8) rfl ?_); refine kbe 8 #[.slice none 0 0, .bool false] 62 ?_; intro g16 hg W17 hx hb; replace K := K.u.box hg hx hb; clear hg hx hb) | ((with_reducible refine gate_store (t := 62) (p := 8) (v := .tmp 12) rfl ?_); refine kst2 3 (.slice P13 x7.length c14) (.bool z8) K.u rfl ?q19 ?_; (case q19 => intro c0 c1 f0 f1; first | (go_simp; done) | (go_simp; rfl)); clear K; intro W18 K; simp only [kls, klv] at K; obtain ⟨ua3, ub3⟩ := K.cell2 3 rfl) | ((with_reducible refine gate_dst (N := 15) rfl ?_); clear ua3 ub3; refine kgl (some 15) rfl rfl Tryd.func57 #[.slice P13 x7.length c14] rfl ?_; refine (whole_amount_null.calls _ _ x7 false _ (K.C 2 rfl) (K.le 2 rfl) A21.out).mono ?_; rintro e W22 ⟨rfl, hb⟩; refine ⟨_, rfl, ?_⟩; replace K := K.u.up hb.below; clear hb))
  obtain ⟨Bs, Vs, Os, hBs, hVs, hOs, K⟩ := K.abs
  have HS : Aside0 (∀ l m o W, Kp w (Bs ++ l) m o W → W.cell? ⟨g1, 0, none⟩ = some (.bool a0_0) ∧ W.cell? ⟨g1, 1, none⟩ = some (.slice A0_1 l0_1.length c0_1) ∧ W.cell? ⟨g16, 0, none⟩ = some (.slice P13 x7.length c14) ∧ W.cell? ⟨g16, 1, none⟩ = some (.bool z8)) := ⟨fun l m o W K => by rw [hBs.out] at K; exact ⟨K.cell 0 rfl 0 rfl, K.cell 0 rfl 1 rfl, K.cell 3 rfl 0 rfl, K.cell 3 rfl 1 rfl⟩⟩
  refine kpstart (n := 11) (ds := []) (S := fun W => W.cell? ⟨g1, 0, none⟩ = some (.bool a0_0) ∧ W.cell? ⟨g1, 1, none⟩ = some (.slice A0_1 l0_1.length c0_1) ∧ W.cell? ⟨g16, 0, none⟩ = some (.slice P13 x7.length c14) ∧ W.cell? ⟨g16, 1, none⟩ = some (.bool z8)) #[false, false, false, false, false, false, false, false, false, false, false] (by kernel_rfl) rfl rfl K (HS.out [] _ _) (fun W36 K hH => ?_)
  refine with_tabW whole_rounded.tab4 whole_rounded.bits4 (fun HT_ HW_ => ?_)
  refine take_ (i := 0) (N := some 18) (v := ?_) (a' := ?_) #[true, false, false, false, false, false, false, false, false, false, false] rfl rfl (take_ofW HT_.out HW_.out (by kernel_rfl)) (fun _ _ _ h => h) (Or.inl ⟨by rfl, ?_⟩) hH ?_ ?_
  rotate_left
  ·rintro w' ⟨s0, s1, s2, s3⟩
   go_simp
   with_reducible rfl
  rotate_left
  ·simp only [Act.put, kss, i64_w, i32_w]
   rfl
  refine take_ (i := 2) (N := some 20) (v := ?_) (a' := ?_) #[true, false, true, false, false, false, false, false, false, false, false] rfl rfl (take_ofW HT_.out HW_.out (by kernel_rfl)) (fun _ _ _ h => h) (Or.inl ⟨by rfl, ?_⟩) hH ?_ ?_
  rotate_left
  ·rintro w' ⟨s0, s1, s2, s3⟩
   go_simp
   with_reducible rfl
  rotate_left
  ·simp only [Act.put, kss, i64_w, i32_w]
   rfl
  refine join_ (σ := Value × Value × Value × Nat × Nat) 2 #[true, true, true, true, true, true, true, true, true, false, false] (fun s => [(19, .agg #[s.1, .bool z24]), (21, .tuple #[.agg #[s.2.1, .bool z27], .agg #[s.2.2.1, .bool z29]]), (17, .tuple #[.agg #[s.2.1, .bool z27], .agg #[s.2.2.1, .bool z29]]), (22, .agg #[s.2.1, .bool z27]), (23, .agg #[s.2.2.1, .bool z29]), (9, .pointer (some ⟨s.2.2.2.1, 0, none⟩)), (10, .pointer (some ⟨s.2.2.2.2, 0, none⟩))]) (fun s W => Kp w (Bs ++ [(s.2.2.2.1, #[.slice none 0 0, .bool false], 62), (s.2.2.2.2, #[.slice none 0 0, .bool false], 62)]) (Vs ++ [⟨Kd.int .u64, 59, s.1, x23, fun _ => True⟩, ⟨Kd.int .u64, 59, s.2.1, x26, fun _ => True⟩, ⟨Kd.int .u64, 59, s.2.2.1, x28, fun _ => True⟩]) (Os ++ []) W) ?_ (fun J37 => ?_)
  ·rintro ⟨v31, v32, v33, g34, g35⟩ W K
   try dsimp only at K
   have hH := HS.out _ _ _ _ K
   refine norm_ (a' := ?_) ?_ ?_
   rotate_left
   ·try simp only [putAll, Act.put, kss]
    rfl
   obtain ⟨P44, c45, e46⟩ := K.slice 3 (by rw [hVs.out]; rfl)
   subst e46
   obtain ⟨P47, c48, e49⟩ := K.slice 4 (by rw [hVs.out]; rfl)
   subst e49
   obtain ⟨P50, c51, e52⟩ := K.slice 5 (by rw [hVs.out]; rfl)
   subst e52
   rw [hBs.out, hVs.out, hOs.out] at K
   simp only [kls, klv] at K
   clear hBs hVs hOs HS hH
   refine kone2 (i := 9) #[true, true, true, true, true, true, true, true, true, true, false] 4 (.slice P47 x26.length c48) (.bool z27) K rfl rfl rfl (one_of HT_.out (by kernel_rfl)) (by decide) (by rfl) ?_ (fun W K => ⟨K.cell 0 rfl 0 rfl, K.cell 0 rfl 1 rfl, K.cell 3 rfl 0 rfl, K.cell 3 rfl 1 rfl⟩) ?_
   ·intro c0 c1 f0 f1
    first | (go_simp; done) | (go_simp; rfl)
   clear K
   intro W53 K
   simp only [kls, klv] at K
   refine kone2 (i := 10) #[true, true, true, true, true, true, true, true, true, true, true] 5 (.slice P50 x28.length c51) (.bool z29) K rfl rfl rfl (one_of HT_.out (by kernel_rfl)) (by decide) (by rfl) ?_ (fun W K => ⟨K.cell 0 rfl 0 rfl, K.cell 0 rfl 1 rfl, K.cell 3 rfl 0 rfl, K.cell 3 rfl 1 rfl⟩) ?_
   ·intro c0 c1 f0 f1
    first | (go_simp; done) | (go_simp; rfl)
   clear K
   intro W54 K
   simp only [kls, klv] at K
   refine done_ (done_of HT_.out (by kernel_rfl)) ?_
   clear HT_ HW_
   replace h := bindA h
   obtain ⟨z55, A56, h⟩ := h
   by_cases c_1 : z55 = true
   ·subst c_1
    rw [if_pos rfl] at h
    replace h := bindA h
    obtain ⟨⟨z58, x59, n60⟩, A61, h⟩ := h
    dsimp only at h
    simp only [Option.some.injEq, Prod.mk.injEq] at h
    obtain ⟨rfl, rfl, rfl⟩ := h
    obtain ⟨ua5, ub5⟩ := K.cell2 5 rfl
    go_wp2_with (first | ((with_reducible refine gate_dst (N := 27) rfl ?_); clear ua5 ub5; refine kgl (some 27) rfl rfl Tryd.func57 #[.slice P50 x28.length c51] rfl ?_; refine (whole_amount_null.calls _ _ x28 true _ (K.C 5 rfl) (K.le 5 rfl) A56.out).mono ?_; rintro e W57 ⟨rfl, hb⟩; refine ⟨_, rfl, ?_⟩; replace K := K.u.up hb.below; clear hb; obtain ⟨ua4, ub4⟩ := K.cell2 4 rfl) | ((with_reducible refine gate_dst (N := 54) rfl ?_); clear ua4 ub4; refine kgl (some 54) rfl rfl Tryd.func76 #[.agg #[.slice P47 x26.length c48, .bool z27]] rfl ?_; refine (whole_number_told.calls _ _ x26 z27 z58 x59 n60 _ (K.C 4 rfl) (K.le 4 rfl) A61.out).mono ?_; rintro e W64 ⟨v62, rfl, ho63, hb⟩; refine ⟨_, rfl, ?_⟩; replace K := K.u.addRE hb ho63; clear hb ho63; obtain ⟨P65, c66, e67⟩ := K.slice 6 rfl; subst e67) | ((with_reducible refine gate_store (t := 25) (p := 6) (v := .tmp 55) rfl ?_); refine kst2 2 (.bool z58) (.slice P65 x59.length c66) K.u rfl ?q69 ?_; (case q69 => intro c0 c1 f0 f1; first | (go_simp; done) | (go_simp; rfl)); clear K; intro W68 K; simp only [kls, klv] at K))
    refine bodyPost_ret (results_list (rs := [.cell 6 25, .tmp 7]) rfl (by simp) (.cell g5 25 #[.bool z58, .slice P65 x59.length c66] (0, 0) _ rfl (K.u.heap 2 rfl) Tryd.underlying25 rfl (by kernel_rfl) (.tmp .nil))) rfl ?_
    exact ⟨_, rfl, K.u.R 0 rfl, K.u.below⟩
   ·replace c_1 := Bool.eq_false_iff.mpr c_1
    subst c_1
    rw [if_neg (by decide)] at h
    by_cases c_2 : a2 = true
    ·subst c_2
     rw [if_pos rfl] at h
     obtain ⟨k, rfl⟩ : ∃ j, k = j + 1 := by
      cases k with
      | zero => simp [whole_rounded.j0] at h
      | succ k => exact ⟨k, rfl⟩
     rw [whole_rounded.j0] at h
     by_cases c_3 : (z29 == z8) = true
     ·rw [if_pos c_3] at h
      have c_3b : decide (z29 = z8) = true := by simpa using c_3
      replace h := bindA h
      obtain ⟨⟨x58, z59⟩, A60, h⟩ := h
      dsimp only at h
      replace h := bindA h
      obtain ⟨⟨x61, z62⟩, A63, h⟩ := h
      dsimp only at h
      obtain ⟨ua5, ub5⟩ := K.cell2 5 rfl
      go_wp2_with (first | ((with_reducible refine gate_dst (N := 27) rfl ?_); clear ua5 ub5; refine kgl (some 27) rfl rfl Tryd.func57 #[.slice P50 x28.length c51] rfl ?_; refine (whole_amount_null.calls _ _ x28 false _ (K.C 5 rfl) (K.le 5 rfl) A56.out).mono ?_; rintro e W57 ⟨rfl, hb⟩; refine ⟨_, rfl, ?_⟩; replace K := K.u.up hb.below; clear hb; obtain ⟨ua5, ub5⟩ := K.cell2 5 rfl; obtain ⟨ua3, ub3⟩ := K.cell2 3 rfl))
      clear ua5 ub5 ua3 ub3
      obtain ⟨Bs, Vs, Os, hBs, hVs, hOs, K⟩ := K.abs
      have HS : Aside0 (∀ l m o W, Kp w (Bs ++ l) m o W → W.cell? ⟨g34, 0, none⟩ = some (.slice P47 x26.length c48) ∧ W.cell? ⟨g34, 1, none⟩ = some (.bool z27)) := ⟨fun l m o W K => by rw [hBs.out] at K; exact ⟨K.cell 4 rfl 0 rfl, K.cell 4 rfl 1 rfl⟩⟩
      refine kpstart (n := 4) (ds := [3]) (S := fun W => W.cell? ⟨g34, 0, none⟩ = some (.slice P47 x26.length c48) ∧ W.cell? ⟨g34, 1, none⟩ = some (.bool z27)) #[false, false, false, false] (by kernel_rfl) rfl rfl K (HS.out [] _ _) (fun W66 K hH => ?_)
      refine take_ (i := 0) (N := some 37) (v := ?_) (a' := ?_) #[true, false, false, false] rfl rfl (by kernel_rfl) (fun _ _ _ h => h) (Or.inl ⟨by rfl, ?_⟩) hH ?_ ?_
      rotate_left
      ·rintro w' ⟨s0, s1⟩
       go_simp
       with_reducible rfl
      rotate_left
      ·simp only [Act.put, kss, i64_w, i32_w]
       rfl
      refine one_ (i := 1) (N := some 38) #[true, true, false, false] rfl rfl (by kernel_rfl) (by decide) (fun Kc hK => ?_)
      refine kgo Tryd.func61 #[] (by rfl) rfl rfl ?_
      refine (whole_one.calls x58 z59 _ A60.out).mono ?_
      rintro e W' ⟨v64, rfl, ho67, hb⟩
      replace K := K.addRI 0 0 hb ho67 (Nat.le_of_ble_eq_true rfl)
      clear hb ho67
      refine ⟨_, rfl, hK.out _ _ (HS.out _ _ _ _ K) fun hH => ?_⟩
      clear hK Kc
      refine norm_ (a' := ?_) ?_ ?_
      rotate_left
      ·show Act.put _ (some 38) _ = _
       simp only [Act.put, kss, i64_w, i32_w]
       rfl
      refine one_ (i := 2) (N := some 39) #[true, true, true, false] rfl rfl (by kernel_rfl) (by decide) (fun Kc hK => ?_)
      obtain ⟨P68, c69, e70⟩ := K.slice 6 (by rw [hVs.out]; rfl)
      subst e70
      refine kgo Tryd.func59 #[.agg #[.slice P47 x26.length c48, .bool z27], .agg #[.slice P68 x58.length c69, .bool z59]] (by rfl) rfl rfl ?_
      refine (whole_number_plus.calls _ _ _ _ x26 z27 _ _ _ x58 z59 x61 z62 _ (K.V 4 (by rw [hVs.out]; rfl)) (K.V 6 (by rw [hVs.out]; rfl)) A63.out).mono ?_
      rintro e W' ⟨v65, rfl, ho71, hb⟩
      replace K := K.addI 1 (fun _ => True) hb ho71 (fun _ h => h.elim (fun h => h.t) fun h => h.t)
      clear hb ho71
      refine ⟨_, rfl, hK.out _ _ (HS.out _ _ _ _ K) fun hH => ?_⟩
      clear hK Kc
      refine norm_ (a' := ?_) ?_ ?_
      rotate_left
      ·show Act.put _ (some 39) _ = _
       simp only [Act.put, kss, i64_w, i32_w]
       rfl
      obtain ⟨P72, c73, e74⟩ := K.slice 7 (by rw [hVs.out]; rfl)
      subst e74
      rw [hBs.out, hVs.out, hOs.out] at K
      simp only [kls, klv] at K
      clear hBs hVs hOs HS hH
      refine klast2 (i := 3) #[true, true, true, true] 4 (.slice P72 x61.length c73) (.bool z62) K rfl rfl rfl (by kernel_rfl) (by decide) (by rfl) ?_ ?_
      ·intro c0 c1 f0 f1
       first | (go_simp; done) | (go_simp; rfl)
      clear K
      intro W75 K
      simp only [kls, klv] at K
      refine done_ (by kernel_rfl) ?_
      replace h := bindA h
      obtain ⟨⟨z76, x77, n78⟩, A79, h⟩ := h
      dsimp only at h
      simp only [Option.some.injEq, Prod.mk.injEq] at h
      obtain ⟨rfl, rfl, rfl⟩ := h
      obtain ⟨ua4, ub4⟩ := K.cell2 4 rfl
      go_wp2_with (first | ((with_reducible refine gate_dst (N := 54) rfl ?_); clear ua4 ub4; refine kgl (some 54) rfl rfl Tryd.func76 #[.agg #[.slice P72 x61.length c73, .bool z62]] rfl ?_; refine (whole_number_told.calls _ _ x61 z62 z76 x77 n78 _ (K.C 7 rfl) (K.le 7 rfl) A79.out).mono ?_; rintro e W82 ⟨v80, rfl, ho81, hb⟩; refine ⟨_, rfl, ?_⟩; replace K := K.u.addRE hb ho81; clear hb ho81; obtain ⟨P83, c84, e85⟩ := K.slice 8 rfl; subst e85) | ((with_reducible refine gate_store (t := 25) (p := 6) (v := .tmp 55) rfl ?_); refine kst2 2 (.bool z76) (.slice P83 x77.length c84) K.u rfl ?q87 ?_; (case q87 => intro c0 c1 f0 f1; first | (go_simp; done) | (go_simp; rfl)); clear K; intro W86 K; simp only [kls, klv] at K))
      refine bodyPost_ret (results_list (rs := [.cell 6 25, .tmp 7]) rfl (by simp) (.cell g5 25 #[.bool z76, .slice P83 x77.length c84] (0, 0) _ rfl (K.u.heap 2 rfl) Tryd.underlying25 rfl (by kernel_rfl) (.tmp .nil))) rfl ?_
      exact ⟨_, rfl, K.u.R 1 rfl, K.u.below⟩
     ·rw [if_neg c_3] at h
      replace c_3 := Bool.eq_false_iff.mpr c_3
      have c_3b : decide (z29 = z8) = false := by simpa using c_3
      rw [if_pos rfl] at h
      obtain ⟨k, rfl⟩ : ∃ j, k = j + 1 := by
       cases k with
       | zero => simp [whole_rounded.j1] at h
       | succ k => exact ⟨k, rfl⟩
      rw [whole_rounded.j1] at h
      rw [if_neg (by decide)] at h
      replace h := bindA h
      obtain ⟨⟨z58, x59, n60⟩, A61, h⟩ := h
      dsimp only at h
      simp only [Option.some.injEq, Prod.mk.injEq] at h
      obtain ⟨rfl, rfl, rfl⟩ := h
      obtain ⟨ua5, ub5⟩ := K.cell2 5 rfl
      go_wp2_with (first | ((with_reducible refine gate_dst (N := 27) rfl ?_); clear ua5 ub5; refine kgl (some 27) rfl rfl Tryd.func57 #[.slice P50 x28.length c51] rfl ?_; refine (whole_amount_null.calls _ _ x28 false _ (K.C 5 rfl) (K.le 5 rfl) A56.out).mono ?_; rintro e W57 ⟨rfl, hb⟩; refine ⟨_, rfl, ?_⟩; replace K := K.u.up hb.below; clear hb; obtain ⟨ua5, ub5⟩ := K.cell2 5 rfl; obtain ⟨ua3, ub3⟩ := K.cell2 3 rfl; obtain ⟨ua4, ub4⟩ := K.cell2 4 rfl) | ((with_reducible refine gate_dst (N := 54) rfl ?_); clear ua5 ub5 ua3 ub3 ua4 ub4; refine kgl (some 54) rfl rfl Tryd.func76 #[.agg #[.slice P47 x26.length c48, .bool z27]] rfl ?_; refine (whole_number_told.calls _ _ x26 z27 z58 x59 n60 _ (K.C 4 rfl) (K.le 4 rfl) A61.out).mono ?_; rintro e W64 ⟨v62, rfl, ho63, hb⟩; refine ⟨_, rfl, ?_⟩; replace K := K.u.addRE hb ho63; clear hb ho63; obtain ⟨P65, c66, e67⟩ := K.slice 6 rfl; subst e67) | ((with_reducible refine gate_store (t := 25) (p := 6) (v := .tmp 55) rfl ?_); refine kst2 2 (.bool z58) (.slice P65 x59.length c66) K.u rfl ?q69 ?_; (case q69 => intro c0 c1 f0 f1; first | (go_simp; done) | (go_simp; rfl)); clear K; intro W68 K; simp only [kls, klv] at K))
      refine bodyPost_ret (results_list (rs := [.cell 6 25, .tmp 7]) rfl (by simp) (.cell g5 25 #[.bool z58, .slice P65 x59.length c66] (0, 0) _ rfl (K.u.heap 2 rfl) Tryd.underlying25 rfl (by kernel_rfl) (.tmp .nil))) rfl ?_
      exact ⟨_, rfl, K.u.R 0 rfl, K.u.below⟩
    ·replace c_2 := Bool.eq_false_iff.mpr c_2
     subst c_2
     rw [if_neg (by decide)] at h
     obtain ⟨k, rfl⟩ : ∃ j, k = j + 1 := by
      cases k with
      | zero => simp [whole_rounded.j0] at h
      | succ k => exact ⟨k, rfl⟩
     rw [whole_rounded.j0] at h
     rw [if_neg (by decide)] at h
     rw [if_neg (by decide)] at h
     obtain ⟨k, rfl⟩ : ∃ j, k = j + 1 := by
      cases k with
      | zero => simp [whole_rounded.j1] at h
      | succ k => exact ⟨k, rfl⟩
     rw [whole_rounded.j1] at h
     by_cases c_4 : (z29 != z8) = true
     ·rw [if_pos c_4] at h
      have c_4b : (z29 == z8) = false := by simpa using c_4
      replace h := bindA h
      obtain ⟨⟨x58, z59⟩, A60, h⟩ := h
      dsimp only at h
      replace h := bindA h
      obtain ⟨⟨x61, z62⟩, A63, h⟩ := h
      dsimp only at h
      obtain ⟨ua5, ub5⟩ := K.cell2 5 rfl
      go_wp2_with (first | ((with_reducible refine gate_dst (N := 27) rfl ?_); clear ua5 ub5; refine kgl (some 27) rfl rfl Tryd.func57 #[.slice P50 x28.length c51] rfl ?_; refine (whole_amount_null.calls _ _ x28 false _ (K.C 5 rfl) (K.le 5 rfl) A56.out).mono ?_; rintro e W57 ⟨rfl, hb⟩; refine ⟨_, rfl, ?_⟩; replace K := K.u.up hb.below; clear hb; obtain ⟨ua5, ub5⟩ := K.cell2 5 rfl; obtain ⟨ua3, ub3⟩ := K.cell2 3 rfl))
      clear ua5 ub5 ua3 ub3
      obtain ⟨Bs, Vs, Os, hBs, hVs, hOs, K⟩ := K.abs
      have HS : Aside0 (∀ l m o W, Kp w (Bs ++ l) m o W → W.cell? ⟨g34, 0, none⟩ = some (.slice P47 x26.length c48) ∧ W.cell? ⟨g34, 1, none⟩ = some (.bool z27)) := ⟨fun l m o W K => by rw [hBs.out] at K; exact ⟨K.cell 4 rfl 0 rfl, K.cell 4 rfl 1 rfl⟩⟩
      refine kpstart (n := 4) (ds := [3]) (S := fun W => W.cell? ⟨g34, 0, none⟩ = some (.slice P47 x26.length c48) ∧ W.cell? ⟨g34, 1, none⟩ = some (.bool z27)) #[false, false, false, false] (by kernel_rfl) rfl rfl K (HS.out [] _ _) (fun W66 K hH => ?_)
      refine take_ (i := 0) (N := some 50) (v := ?_) (a' := ?_) #[true, false, false, false] rfl rfl (by kernel_rfl) (fun _ _ _ h => h) (Or.inl ⟨by rfl, ?_⟩) hH ?_ ?_
      rotate_left
      ·rintro w' ⟨s0, s1⟩
       go_simp
       with_reducible rfl
      rotate_left
      ·simp only [Act.put, kss, i64_w, i32_w]
       rfl
      refine one_ (i := 1) (N := some 51) #[true, true, false, false] rfl rfl (by kernel_rfl) (by decide) (fun Kc hK => ?_)
      refine kgo Tryd.func61 #[] (by rfl) rfl rfl ?_
      refine (whole_one.calls x58 z59 _ A60.out).mono ?_
      rintro e W' ⟨v64, rfl, ho67, hb⟩
      replace K := K.addRI 0 0 hb ho67 (Nat.le_of_ble_eq_true rfl)
      clear hb ho67
      refine ⟨_, rfl, hK.out _ _ (HS.out _ _ _ _ K) fun hH => ?_⟩
      clear hK Kc
      refine norm_ (a' := ?_) ?_ ?_
      rotate_left
      ·show Act.put _ (some 51) _ = _
       simp only [Act.put, kss, i64_w, i32_w]
       rfl
      refine one_ (i := 2) (N := some 52) #[true, true, true, false] rfl rfl (by kernel_rfl) (by decide) (fun Kc hK => ?_)
      obtain ⟨P68, c69, e70⟩ := K.slice 6 (by rw [hVs.out]; rfl)
      subst e70
      refine kgo Tryd.func62 #[.agg #[.slice P47 x26.length c48, .bool z27], .agg #[.slice P68 x58.length c69, .bool z59]] (by rfl) rfl rfl ?_
      refine (whole_number_minus.calls _ _ _ _ x26 z27 _ _ _ x58 z59 x61 z62 _ (K.V 4 (by rw [hVs.out]; rfl)) (K.V 6 (by rw [hVs.out]; rfl)) A63.out).mono ?_
      rintro e W' ⟨v65, rfl, ho71, hb⟩
      replace K := K.addI 1 (fun _ => True) hb ho71 (fun _ h => h.elim (fun h => h.t) fun h => h.t)
      clear hb ho71
      refine ⟨_, rfl, hK.out _ _ (HS.out _ _ _ _ K) fun hH => ?_⟩
      clear hK Kc
      refine norm_ (a' := ?_) ?_ ?_
      rotate_left
      ·show Act.put _ (some 52) _ = _
       simp only [Act.put, kss, i64_w, i32_w]
       rfl
      obtain ⟨P72, c73, e74⟩ := K.slice 7 (by rw [hVs.out]; rfl)
      subst e74
      rw [hBs.out, hVs.out, hOs.out] at K
      simp only [kls, klv] at K
      clear hBs hVs hOs HS hH
      refine klast2 (i := 3) #[true, true, true, true] 4 (.slice P72 x61.length c73) (.bool z62) K rfl rfl rfl (by kernel_rfl) (by decide) (by rfl) ?_ ?_
      ·intro c0 c1 f0 f1
       first | (go_simp; done) | (go_simp; rfl)
      clear K
      intro W75 K
      simp only [kls, klv] at K
      refine done_ (by kernel_rfl) ?_
      replace h := bindA h
      obtain ⟨⟨z76, x77, n78⟩, A79, h⟩ := h
      dsimp only at h
      simp only [Option.some.injEq, Prod.mk.injEq] at h
      obtain ⟨rfl, rfl, rfl⟩ := h
      obtain ⟨ua4, ub4⟩ := K.cell2 4 rfl
      go_wp2_with (first | ((with_reducible refine gate_dst (N := 54) rfl ?_); clear ua4 ub4; refine kgl (some 54) rfl rfl Tryd.func76 #[.agg #[.slice P72 x61.length c73, .bool z62]] rfl ?_; refine (whole_number_told.calls _ _ x61 z62 z76 x77 n78 _ (K.C 7 rfl) (K.le 7 rfl) A79.out).mono ?_; rintro e W82 ⟨v80, rfl, ho81, hb⟩; refine ⟨_, rfl, ?_⟩; replace K := K.u.addRE hb ho81; clear hb ho81; obtain ⟨P83, c84, e85⟩ := K.slice 8 rfl; subst e85) | ((with_reducible refine gate_store (t := 25) (p := 6) (v := .tmp 55) rfl ?_); refine kst2 2 (.bool z76) (.slice P83 x77.length c84) K.u rfl ?q87 ?_; (case q87 => intro c0 c1 f0 f1; first | (go_simp; done) | (go_simp; rfl)); clear K; intro W86 K; simp only [kls, klv] at K))
      refine bodyPost_ret (results_list (rs := [.cell 6 25, .tmp 7]) rfl (by simp) (.cell g5 25 #[.bool z76, .slice P83 x77.length c84] (0, 0) _ rfl (K.u.heap 2 rfl) Tryd.underlying25 rfl (by kernel_rfl) (.tmp .nil))) rfl ?_
      exact ⟨_, rfl, K.u.R 1 rfl, K.u.below⟩
     ·rw [if_neg c_4] at h
      replace c_4 := Bool.eq_false_iff.mpr c_4
      have c_4b : (z29 == z8) = true := by simpa using c_4
      replace h := bindA h
      obtain ⟨⟨z58, x59, n60⟩, A61, h⟩ := h
      dsimp only at h
      simp only [Option.some.injEq, Prod.mk.injEq] at h
      obtain ⟨rfl, rfl, rfl⟩ := h
      obtain ⟨ua5, ub5⟩ := K.cell2 5 rfl
      go_wp2_with (first | ((with_reducible refine gate_dst (N := 27) rfl ?_); clear ua5 ub5; refine kgl (some 27) rfl rfl Tryd.func57 #[.slice P50 x28.length c51] rfl ?_; refine (whole_amount_null.calls _ _ x28 false _ (K.C 5 rfl) (K.le 5 rfl) A56.out).mono ?_; rintro e W57 ⟨rfl, hb⟩; refine ⟨_, rfl, ?_⟩; replace K := K.u.up hb.below; clear hb; obtain ⟨ua5, ub5⟩ := K.cell2 5 rfl; obtain ⟨ua3, ub3⟩ := K.cell2 3 rfl; obtain ⟨ua4, ub4⟩ := K.cell2 4 rfl) | ((with_reducible refine gate_dst (N := 54) rfl ?_); clear ua5 ub5 ua3 ub3 ua4 ub4; refine kgl (some 54) rfl rfl Tryd.func76 #[.agg #[.slice P47 x26.length c48, .bool z27]] rfl ?_; refine (whole_number_told.calls _ _ x26 z27 z58 x59 n60 _ (K.C 4 rfl) (K.le 4 rfl) A61.out).mono ?_; rintro e W64 ⟨v62, rfl, ho63, hb⟩; refine ⟨_, rfl, ?_⟩; replace K := K.u.addRE hb ho63; clear hb ho63; obtain ⟨P65, c66, e67⟩ := K.slice 6 rfl; subst e67) | ((with_reducible refine gate_store (t := 25) (p := 6) (v := .tmp 55) rfl ?_); refine kst2 2 (.bool z58) (.slice P65 x59.length c66) K.u rfl ?q69 ?_; (case q69 => intro c0 c1 f0 f1; first | (go_simp; done) | (go_simp; rfl)); clear K; intro W68 K; simp only [kls, klv] at K))
      refine bodyPost_ret (results_list (rs := [.cell 6 25, .tmp 7]) rfl (by simp) (.cell g5 25 #[.bool z58, .slice P65 x59.length c66] (0, 0) _ rfl (K.u.heap 2 rfl) Tryd.underlying25 rfl (by kernel_rfl) (.tmp .nil))) rfl ?_
      exact ⟨_, rfl, K.u.R 0 rfl, K.u.below⟩
  refine join_ (σ := Value × Value × Value × Nat × Nat) 3 #[true, true, true, true, true, true, true, false, true, false, false] (fun s => [(19, .agg #[s.1, .bool z24]), (21, .tuple #[.agg #[s.2.1, .bool z27], .agg #[s.2.2.1, .bool z29]]), (17, .tuple #[.agg #[s.2.1, .bool z27], .agg #[s.2.2.1, .bool z29]]), (22, .agg #[s.2.1, .bool z27]), (23, .agg #[s.2.2.1, .bool z29]), (10, .pointer (some ⟨s.2.2.2.2, 0, none⟩))]) (fun s W => Kp w (Bs ++ [(s.2.2.2.2, #[.slice none 0 0, .bool false], 62)]) (Vs ++ [⟨Kd.int .u64, 59, s.1, x23, fun _ => True⟩, ⟨Kd.int .u64, 59, s.2.1, x26, fun _ => True⟩, ⟨Kd.int .u64, 59, s.2.2.1, x28, fun _ => True⟩]) (Os ++ []) W) ?_ (fun J38 => ?_)
  ·rintro ⟨v31, v32, v33, g34, g35⟩ W K
   try dsimp only at K
   have hH := HS.out _ _ _ _ K
   refine norm_ (a' := ?_) ?_ ?_
   rotate_left
   ·try simp only [putAll, Act.put, kss]
    rfl
   refine one_ (i := 7) (N := some 9) #[true, true, true, true, true, true, true, true, true, false, false] rfl rfl (one_of HT_.out (by kernel_rfl)) (by decide) (fun Kc hK => ?_)
   exact kbx #[.slice none 0 0, .bool false] 62 9 fun g34 hg W' hx hb => hK.out _ _ (HS.out _ _ _ _ (K.boxI 0 (Nat.le_of_ble_eq_true rfl) hg hx hb)) fun _ => knq (J37 (v31, v32, v33, g34, g35) _ (K.boxI 0 (Nat.le_of_ble_eq_true rfl) hg hx hb))
  refine join_ (σ := Value × Value × Value × Nat × Nat) 3 #[true, true, true, true, true, true, true, true, false, false, false] (fun s => [(19, .agg #[s.1, .bool z24]), (21, .tuple #[.agg #[s.2.1, .bool z27], .agg #[s.2.2.1, .bool z29]]), (17, .tuple #[.agg #[s.2.1, .bool z27], .agg #[s.2.2.1, .bool z29]]), (22, .agg #[s.2.1, .bool z27]), (23, .agg #[s.2.2.1, .bool z29]), (9, .pointer (some ⟨s.2.2.2.1, 0, none⟩))]) (fun s W => Kp w (Bs ++ [(s.2.2.2.1, #[.slice none 0 0, .bool false], 62)]) (Vs ++ [⟨Kd.int .u64, 59, s.1, x23, fun _ => True⟩, ⟨Kd.int .u64, 59, s.2.1, x26, fun _ => True⟩, ⟨Kd.int .u64, 59, s.2.2.1, x28, fun _ => True⟩]) (Os ++ []) W) ?_ (fun J39 => ?_)
  ·rintro ⟨v31, v32, v33, g34, g35⟩ W K
   try dsimp only at K
   have hH := HS.out _ _ _ _ K
   refine norm_ (a' := ?_) ?_ ?_
   rotate_left
   ·try simp only [putAll, Act.put, kss]
    rfl
   refine one_ (i := 8) (N := some 10) #[true, true, true, true, true, true, true, true, true, false, false] rfl rfl (one_of HT_.out (by kernel_rfl)) (by decide) (fun Kc hK => ?_)
   exact kbx #[.slice none 0 0, .bool false] 62 10 fun g35 hg W' hx hb => hK.out _ _ (HS.out _ _ _ _ (K.boxI 1 (Nat.le_of_ble_eq_true rfl) hg hx hb)) fun _ => knq (J37 (v31, v32, v33, g34, g35) _ (K.boxI 1 (Nat.le_of_ble_eq_true rfl) hg hx hb))
  refine join_ (σ := Value × Value × Value × Nat × Nat) 6 #[true, true, true, false, false, false, false, true, true, false, false] (fun s => [(19, .agg #[s.1, .bool z24]), (9, .pointer (some ⟨s.2.2.2.1, 0, none⟩)), (10, .pointer (some ⟨s.2.2.2.2, 0, none⟩))]) (fun s W => Kp w (Bs ++ [(s.2.2.2.1, #[.slice none 0 0, .bool false], 62), (s.2.2.2.2, #[.slice none 0 0, .bool false], 62)]) (Vs ++ [⟨Kd.int .u64, 59, s.1, x23, fun _ => True⟩]) (Os ++ []) W) ?_ (fun J40 => ?_)
  ·rintro ⟨v31, v32, v33, g34, g35⟩ W K
   try dsimp only at K
   have hH := HS.out _ _ _ _ K
   refine norm_ (a' := ?_) ?_ ?_
   rotate_left
   ·try simp only [putAll, Act.put, kss]
    rfl
   refine one_ (i := 3) (N := some 21) #[true, true, true, true, false, false, false, true, true, false, false] rfl rfl (one_of HT_.out (by kernel_rfl)) (by decide) (fun Kc hK => ?_)
   obtain ⟨P70, c71, e72⟩ := K.slice 3 (by rw [hVs.out]; rfl)
   subst e72
   refine kgo Tryd.func58 #[.agg #[.slice P70 x23.length c71, .bool z24], .agg #[.slice P13 x7.length c14, .bool z8]] (by rfl) rfl rfl ?_
   refine (whole_number_cut.calls _ _ _ _ x23 z24 _ _ x7 z8 x26 z27 x28 z29 _ (K.V 3 (by rw [hVs.out]; rfl)) (K.C 2 (by rw [hVs.out]; rfl)) (K.le 2 (by rw [hVs.out]; rfl)) A30.out).mono ?_
   rintro e W' ⟨v32, v33, rfl, ho73, ho74, hb⟩
   have K1 := K.addI 1 (fun _ => True) hb ho73 (fun _ h => h.t)
   replace K := K.moreI 2 (fun _ => True) K1 ho74 (fun _ h => h.t)
   clear K1
   clear hb ho73 ho74
   refine ⟨_, rfl, hK.out _ _ (HS.out _ _ _ _ K) fun hH => ?_⟩
   refine norm_ (a' := ?_) ?_ ?_
   rotate_left
   ·show Act.put _ (some 21) _ = _
    simp only [Act.put, kss, i64_w, i32_w]
    rfl
   refine pure_ (i := 4) (N := some 17) (v := ?_) (a' := ?_) #[true, true, true, true, true, false, false, true, true, false, false] rfl rfl (any_of HT_.out (by kernel_rfl)) (fun _ _ _ h => h) (Or.inl ⟨by rfl, ?_⟩) ?_ ?_
   rotate_left
   ·intro w'
    go_simp
    with_reducible rfl
   rotate_left
   ·simp only [Act.put, kss, i64_w, i32_w]
    rfl
   refine pure_ (i := 5) (N := some 22) (v := ?_) (a' := ?_) #[true, true, true, true, true, true, false, true, true, false, false] rfl rfl (any_of HT_.out (by kernel_rfl)) (fun _ _ _ h => h) (Or.inl ⟨by rfl, ?_⟩) ?_ ?_
   rotate_left
   ·intro w'
    go_simp
    with_reducible rfl
   rotate_left
   ·simp only [Act.put, kss, i64_w, i32_w]
    rfl
   refine pure_ (i := 6) (N := some 23) (v := ?_) (a' := ?_) #[true, true, true, true, true, true, true, true, true, false, false] rfl rfl (any_of HT_.out (by kernel_rfl)) (fun _ _ _ h => h) (Or.inl ⟨by rfl, ?_⟩) ?_ ?_
   rotate_left
   ·intro w'
    go_simp
    with_reducible rfl
   rotate_left
   ·simp only [Act.put, kss, i64_w, i32_w]
    rfl
   exact knq (J37 (.slice P70 x23.length c71, v32, v33, g34, g35) _ K)
  refine join_ (σ := Value × Value × Value × Nat × Nat) 7 #[true, false, true, false, false, false, false, true, true, false, false] (fun s => [(9, .pointer (some ⟨s.2.2.2.1, 0, none⟩)), (10, .pointer (some ⟨s.2.2.2.2, 0, none⟩))]) (fun s W => Kp w (Bs ++ [(s.2.2.2.1, #[.slice none 0 0, .bool false], 62), (s.2.2.2.2, #[.slice none 0 0, .bool false], 62)]) (Vs ++ []) (Os ++ []) W) ?_ (fun J41 => ?_)
  ·rintro ⟨v31, v32, v33, g34, g35⟩ W K
   try dsimp only at K
   have hH := HS.out _ _ _ _ K
   refine norm_ (a' := ?_) ?_ ?_
   rotate_left
   ·try simp only [putAll, Act.put, kss]
    rfl
   refine one_ (i := 1) (N := some 19) #[true, true, true, false, false, false, false, true, true, false, false] rfl rfl (one_of HT_.out (by kernel_rfl)) (by decide) (fun Kc hK => ?_)
   refine kgo Tryd.func56 #[.agg #[.bool a0_0, .slice A0_1 l0_1.length c0_1]] (by rfl) rfl rfl ?_
   refine (whole_of.calls _ a0_0 _ _ _ l0_1 x23 z24 _ (K.V 0 (by rw [hVs.out]; rfl)) A25.out).mono ?_
   rintro e W' ⟨v31, rfl, ho75, hb⟩
   replace K := K.addI 0 (fun _ => True) hb ho75 (fun _ h => h.t)
   clear hb ho75
   refine ⟨_, rfl, hK.out _ _ (HS.out _ _ _ _ K) fun hH => ?_⟩
   exact knq (J40 (v31, v32, v33, g34, g35) _ K)
  refine join_ (σ := Value × Value × Value × Nat × Nat) 7 #[true, true, true, false, false, false, false, false, true, false, false] (fun s => [(19, .agg #[s.1, .bool z24]), (10, .pointer (some ⟨s.2.2.2.2, 0, none⟩))]) (fun s W => Kp w (Bs ++ [(s.2.2.2.2, #[.slice none 0 0, .bool false], 62)]) (Vs ++ [⟨Kd.int .u64, 59, s.1, x23, fun _ => True⟩]) (Os ++ []) W) ?_ (fun J42 => ?_)
  ·rintro ⟨v31, v32, v33, g34, g35⟩ W K
   try dsimp only at K
   have hH := HS.out _ _ _ _ K
   refine norm_ (a' := ?_) ?_ ?_
   rotate_left
   ·try simp only [putAll, Act.put, kss]
    rfl
   refine two_ (i := 3) (j := 7) (Ni := some 21) (Nj := some 9) #[true, true, true, true, false, false, false, false, true, false, false] #[true, true, true, false, false, false, false, true, true, false, false] rfl rfl  rfl rfl  (two_of HT_.out (by kernel_rfl)) (by decide) (by decide) (fun Kc hK => ?_) (fun Kc hK => ?_)
   ·obtain ⟨P76, c77, e78⟩ := K.slice 3 (by rw [hVs.out]; rfl)
    subst e78
    refine kgo Tryd.func58 #[.agg #[.slice P76 x23.length c77, .bool z24], .agg #[.slice P13 x7.length c14, .bool z8]] (by rfl) rfl rfl ?_
    refine (whole_number_cut.calls _ _ _ _ x23 z24 _ _ x7 z8 x26 z27 x28 z29 _ (K.V 3 (by rw [hVs.out]; rfl)) (K.C 2 (by rw [hVs.out]; rfl)) (K.le 2 (by rw [hVs.out]; rfl)) A30.out).mono ?_
    rintro e W' ⟨v32, v33, rfl, ho79, ho80, hb⟩
    have K1 := K.addI 1 (fun _ => True) hb ho79 (fun _ h => h.t)
    replace K := K.moreI 2 (fun _ => True) K1 ho80 (fun _ h => h.t)
    clear K1
    clear hb ho79 ho80
    refine ⟨_, rfl, hK.out _ _ (HS.out _ _ _ _ K) fun hH => ?_⟩
    refine norm_ (a' := ?_) ?_ ?_
    rotate_left
    ·show Act.put _ (some 21) _ = _
     simp only [Act.put, kss, i64_w, i32_w]
     rfl
    refine pure_ (i := 4) (N := some 17) (v := ?_) (a' := ?_) #[true, true, true, true, true, false, false, false, true, false, false] rfl rfl (any_of HT_.out (by kernel_rfl)) (fun _ _ _ h => h) (Or.inl ⟨by rfl, ?_⟩) ?_ ?_
    rotate_left
    ·intro w'
     go_simp
     with_reducible rfl
    rotate_left
    ·simp only [Act.put, kss, i64_w, i32_w]
     rfl
    refine pure_ (i := 5) (N := some 22) (v := ?_) (a' := ?_) #[true, true, true, true, true, true, false, false, true, false, false] rfl rfl (any_of HT_.out (by kernel_rfl)) (fun _ _ _ h => h) (Or.inl ⟨by rfl, ?_⟩) ?_ ?_
    rotate_left
    ·intro w'
     go_simp
     with_reducible rfl
    rotate_left
    ·simp only [Act.put, kss, i64_w, i32_w]
     rfl
    refine pure_ (i := 6) (N := some 23) (v := ?_) (a' := ?_) #[true, true, true, true, true, true, true, false, true, false, false] rfl rfl (any_of HT_.out (by kernel_rfl)) (fun _ _ _ h => h) (Or.inl ⟨by rfl, ?_⟩) ?_ ?_
    rotate_left
    ·intro w'
     go_simp
     with_reducible rfl
    rotate_left
    ·simp only [Act.put, kss, i64_w, i32_w]
     rfl
    exact knq (J38 (.slice P76 x23.length c77, v32, v33, g34, g35) _ K)
   ·exact kbx #[.slice none 0 0, .bool false] 62 9 fun g34 hg W' hx hb => hK.out _ _ (HS.out _ _ _ _ (K.boxI 0 (Nat.le_of_ble_eq_true rfl) hg hx hb)) fun _ => knq (J40 (v31, v32, v33, g34, g35) _ (K.boxI 0 (Nat.le_of_ble_eq_true rfl) hg hx hb))
  refine join_ (σ := Value × Value × Value × Nat × Nat) 7 #[true, true, true, false, false, false, false, true, false, false, false] (fun s => [(19, .agg #[s.1, .bool z24]), (9, .pointer (some ⟨s.2.2.2.1, 0, none⟩))]) (fun s W => Kp w (Bs ++ [(s.2.2.2.1, #[.slice none 0 0, .bool false], 62)]) (Vs ++ [⟨Kd.int .u64, 59, s.1, x23, fun _ => True⟩]) (Os ++ []) W) ?_ (fun J43 => ?_)
  ·rintro ⟨v31, v32, v33, g34, g35⟩ W K
   try dsimp only at K
   have hH := HS.out _ _ _ _ K
   refine norm_ (a' := ?_) ?_ ?_
   rotate_left
   ·try simp only [putAll, Act.put, kss]
    rfl
   refine two_ (i := 3) (j := 8) (Ni := some 21) (Nj := some 10) #[true, true, true, true, false, false, false, true, false, false, false] #[true, true, true, false, false, false, false, true, true, false, false] rfl rfl  rfl rfl  (two_of HT_.out (by kernel_rfl)) (by decide) (by decide) (fun Kc hK => ?_) (fun Kc hK => ?_)
   ·obtain ⟨P81, c82, e83⟩ := K.slice 3 (by rw [hVs.out]; rfl)
    subst e83
    refine kgo Tryd.func58 #[.agg #[.slice P81 x23.length c82, .bool z24], .agg #[.slice P13 x7.length c14, .bool z8]] (by rfl) rfl rfl ?_
    refine (whole_number_cut.calls _ _ _ _ x23 z24 _ _ x7 z8 x26 z27 x28 z29 _ (K.V 3 (by rw [hVs.out]; rfl)) (K.C 2 (by rw [hVs.out]; rfl)) (K.le 2 (by rw [hVs.out]; rfl)) A30.out).mono ?_
    rintro e W' ⟨v32, v33, rfl, ho84, ho85, hb⟩
    have K1 := K.addI 1 (fun _ => True) hb ho84 (fun _ h => h.t)
    replace K := K.moreI 2 (fun _ => True) K1 ho85 (fun _ h => h.t)
    clear K1
    clear hb ho84 ho85
    refine ⟨_, rfl, hK.out _ _ (HS.out _ _ _ _ K) fun hH => ?_⟩
    refine norm_ (a' := ?_) ?_ ?_
    rotate_left
    ·show Act.put _ (some 21) _ = _
     simp only [Act.put, kss, i64_w, i32_w]
     rfl
    refine pure_ (i := 4) (N := some 17) (v := ?_) (a' := ?_) #[true, true, true, true, true, false, false, true, false, false, false] rfl rfl (any_of HT_.out (by kernel_rfl)) (fun _ _ _ h => h) (Or.inl ⟨by rfl, ?_⟩) ?_ ?_
    rotate_left
    ·intro w'
     go_simp
     with_reducible rfl
    rotate_left
    ·simp only [Act.put, kss, i64_w, i32_w]
     rfl
    refine pure_ (i := 5) (N := some 22) (v := ?_) (a' := ?_) #[true, true, true, true, true, true, false, true, false, false, false] rfl rfl (any_of HT_.out (by kernel_rfl)) (fun _ _ _ h => h) (Or.inl ⟨by rfl, ?_⟩) ?_ ?_
    rotate_left
    ·intro w'
     go_simp
     with_reducible rfl
    rotate_left
    ·simp only [Act.put, kss, i64_w, i32_w]
     rfl
    refine pure_ (i := 6) (N := some 23) (v := ?_) (a' := ?_) #[true, true, true, true, true, true, true, true, false, false, false] rfl rfl (any_of HT_.out (by kernel_rfl)) (fun _ _ _ h => h) (Or.inl ⟨by rfl, ?_⟩) ?_ ?_
    rotate_left
    ·intro w'
     go_simp
     with_reducible rfl
    rotate_left
    ·simp only [Act.put, kss, i64_w, i32_w]
     rfl
    exact knq (J39 (.slice P81 x23.length c82, v32, v33, g34, g35) _ K)
   ·exact kbx #[.slice none 0 0, .bool false] 62 10 fun g35 hg W' hx hb => hK.out _ _ (HS.out _ _ _ _ (K.boxI 1 (Nat.le_of_ble_eq_true rfl) hg hx hb)) fun _ => knq (J40 (v31, v32, v33, g34, g35) _ (K.boxI 1 (Nat.le_of_ble_eq_true rfl) hg hx hb))
  obtain ⟨v31, v32, v33, g34, g35⟩ : Value × Value × Value × Nat × Nat := ((.bool false), (.bool false), (.bool false), 0, 0)
  refine three_ (i := 1) (j := 7) (k := 8) (Ni := some 19) (Nj := some 9) (Nk := some 10) #[true, true, true, false, false, false, false, false, false, false, false] #[true, false, true, false, false, false, false, true, false, false, false] #[true, false, true, false, false, false, false, false, true, false, false] rfl rfl rfl  rfl rfl rfl  (three_of HT_.out (by kernel_rfl)) (by decide) (by decide) (by decide) (fun Kc hK => ?_) (fun Kc hK => ?_) (fun Kc hK => ?_)
  ·refine kgo Tryd.func56 #[.agg #[.bool a0_0, .slice A0_1 l0_1.length c0_1]] (by rfl) rfl rfl ?_
   refine (whole_of.calls _ a0_0 _ _ _ l0_1 x23 z24 _ (K.V 0 (by rw [hVs.out]; rfl)) A25.out).mono ?_
   rintro e W' ⟨v31, rfl, ho86, hb⟩
   replace K := K.addI 0 (fun _ => True) hb ho86 (fun _ h => h.t)
   clear hb ho86
   refine ⟨_, rfl, hK.out _ _ (HS.out _ _ _ _ K) fun hH => ?_⟩
   clear hK Kc
   refine norm_ (a' := ?_) ?_ ?_
   rotate_left
   ·show Act.put _ (some 19) _ = _
    simp only [Act.put, kss, i64_w, i32_w]
    rfl
   refine three_ (i := 3) (j := 7) (k := 8) (Ni := some 21) (Nj := some 9) (Nk := some 10) #[true, true, true, true, false, false, false, false, false, false, false] #[true, true, true, false, false, false, false, true, false, false, false] #[true, true, true, false, false, false, false, false, true, false, false] rfl rfl rfl  rfl rfl rfl  (three_of HT_.out (by kernel_rfl)) (by decide) (by decide) (by decide) (fun Kc hK => ?_) (fun Kc hK => ?_) (fun Kc hK => ?_)
   ·obtain ⟨P87, c88, e89⟩ := K.slice 3 (by rw [hVs.out]; rfl)
    subst e89
    refine kgo Tryd.func58 #[.agg #[.slice P87 x23.length c88, .bool z24], .agg #[.slice P13 x7.length c14, .bool z8]] (by rfl) rfl rfl ?_
    refine (whole_number_cut.calls _ _ _ _ x23 z24 _ _ x7 z8 x26 z27 x28 z29 _ (K.V 3 (by rw [hVs.out]; rfl)) (K.C 2 (by rw [hVs.out]; rfl)) (K.le 2 (by rw [hVs.out]; rfl)) A30.out).mono ?_
    rintro e W' ⟨v32, v33, rfl, ho90, ho91, hb⟩
    have K1 := K.addI 1 (fun _ => True) hb ho90 (fun _ h => h.t)
    replace K := K.moreI 2 (fun _ => True) K1 ho91 (fun _ h => h.t)
    clear K1
    clear hb ho90 ho91
    refine ⟨_, rfl, hK.out _ _ (HS.out _ _ _ _ K) fun hH => ?_⟩
    refine norm_ (a' := ?_) ?_ ?_
    rotate_left
    ·show Act.put _ (some 21) _ = _
     simp only [Act.put, kss, i64_w, i32_w]
     rfl
    refine pure_ (i := 4) (N := some 17) (v := ?_) (a' := ?_) #[true, true, true, true, true, false, false, false, false, false, false] rfl rfl (any_of HT_.out (by kernel_rfl)) (fun _ _ _ h => h) (Or.inl ⟨by rfl, ?_⟩) ?_ ?_
    rotate_left
    ·intro w'
     go_simp
     with_reducible rfl
    rotate_left
    ·simp only [Act.put, kss, i64_w, i32_w]
     rfl
    refine pure_ (i := 5) (N := some 22) (v := ?_) (a' := ?_) #[true, true, true, true, true, true, false, false, false, false, false] rfl rfl (any_of HT_.out (by kernel_rfl)) (fun _ _ _ h => h) (Or.inl ⟨by rfl, ?_⟩) ?_ ?_
    rotate_left
    ·intro w'
     go_simp
     with_reducible rfl
    rotate_left
    ·simp only [Act.put, kss, i64_w, i32_w]
     rfl
    refine pure_ (i := 6) (N := some 23) (v := ?_) (a' := ?_) #[true, true, true, true, true, true, true, false, false, false, false] rfl rfl (any_of HT_.out (by kernel_rfl)) (fun _ _ _ h => h) (Or.inl ⟨by rfl, ?_⟩) ?_ ?_
    rotate_left
    ·intro w'
     go_simp
     with_reducible rfl
    rotate_left
    ·simp only [Act.put, kss, i64_w, i32_w]
     rfl
    clear hK Kc
    refine two_ (i := 7) (j := 8) (Ni := some 9) (Nj := some 10) #[true, true, true, true, true, true, true, true, false, false, false] #[true, true, true, true, true, true, true, false, true, false, false] rfl rfl  rfl rfl  (two_of HT_.out (by kernel_rfl)) (by decide) (by decide) (fun Kc hK => ?_) (fun Kc hK => ?_)
    ·exact kbx #[.slice none 0 0, .bool false] 62 9 fun g34 hg W' hx hb => hK.out _ _ (HS.out _ _ _ _ (K.boxI 0 (Nat.le_of_ble_eq_true rfl) hg hx hb)) fun _ => knq (J39 (.slice P87 x23.length c88, v32, v33, g34, g35) _ (K.boxI 0 (Nat.le_of_ble_eq_true rfl) hg hx hb))
    ·exact kbx #[.slice none 0 0, .bool false] 62 10 fun g35 hg W' hx hb => hK.out _ _ (HS.out _ _ _ _ (K.boxI 0 (Nat.le_of_ble_eq_true rfl) hg hx hb)) fun _ => knq (J38 (.slice P87 x23.length c88, v32, v33, g34, g35) _ (K.boxI 0 (Nat.le_of_ble_eq_true rfl) hg hx hb))
   ·exact kbx #[.slice none 0 0, .bool false] 62 9 fun g34 hg W' hx hb => hK.out _ _ (HS.out _ _ _ _ (K.boxI 0 (Nat.le_of_ble_eq_true rfl) hg hx hb)) fun _ => knq (J43 (v31, v32, v33, g34, g35) _ (K.boxI 0 (Nat.le_of_ble_eq_true rfl) hg hx hb))
   ·exact kbx #[.slice none 0 0, .bool false] 62 10 fun g35 hg W' hx hb => hK.out _ _ (HS.out _ _ _ _ (K.boxI 0 (Nat.le_of_ble_eq_true rfl) hg hx hb)) fun _ => knq (J42 (v31, v32, v33, g34, g35) _ (K.boxI 0 (Nat.le_of_ble_eq_true rfl) hg hx hb))
  ·refine kbx #[.slice none 0 0, .bool false] 62 9 fun g34 hg W' hx hb => ?_
   replace K := K.boxI 0 (Nat.le_of_ble_eq_true rfl) hg hx hb
   clear hg hx hb
   refine hK.out _ _ (HS.out _ _ _ _ K) fun hH => ?_
   clear hK Kc
   refine norm_ (a' := ?_) ?_ ?_
   rotate_left
   ·show Act.put _ (some 9) _ = _
    simp only [Act.put, kss, i64_w, i32_w]
    rfl
   refine two_ (i := 1) (j := 8) (Ni := some 19) (Nj := some 10) #[true, true, true, false, false, false, false, true, false, false, false] #[true, false, true, false, false, false, false, true, true, false, false] rfl rfl  rfl rfl  (two_of HT_.out (by kernel_rfl)) (by decide) (by decide) (fun Kc hK => ?_) (fun Kc hK => ?_)
   ·refine kgo Tryd.func56 #[.agg #[.bool a0_0, .slice A0_1 l0_1.length c0_1]] (by rfl) rfl rfl ?_
    refine (whole_of.calls _ a0_0 _ _ _ l0_1 x23 z24 _ (K.V 0 (by rw [hVs.out]; rfl)) A25.out).mono ?_
    rintro e W' ⟨v31, rfl, ho92, hb⟩
    replace K := K.addI 0 (fun _ => True) hb ho92 (fun _ h => h.t)
    clear hb ho92
    refine ⟨_, rfl, hK.out _ _ (HS.out _ _ _ _ K) fun hH => ?_⟩
    exact knq (J43 (v31, v32, v33, g34, g35) _ K)
   ·exact kbx #[.slice none 0 0, .bool false] 62 10 fun g35 hg W' hx hb => hK.out _ _ (HS.out _ _ _ _ (K.boxI 1 (Nat.le_of_ble_eq_true rfl) hg hx hb)) fun _ => knq (J41 (v31, v32, v33, g34, g35) _ (K.boxI 1 (Nat.le_of_ble_eq_true rfl) hg hx hb))
  ·refine kbx #[.slice none 0 0, .bool false] 62 10 fun g35 hg W' hx hb => ?_
   replace K := K.boxI 0 (Nat.le_of_ble_eq_true rfl) hg hx hb
   clear hg hx hb
   refine hK.out _ _ (HS.out _ _ _ _ K) fun hH => ?_
   clear hK Kc
   refine norm_ (a' := ?_) ?_ ?_
   rotate_left
   ·show Act.put _ (some 10) _ = _
    simp only [Act.put, kss, i64_w, i32_w]
    rfl
   refine two_ (i := 1) (j := 7) (Ni := some 19) (Nj := some 9) #[true, true, true, false, false, false, false, false, true, false, false] #[true, false, true, false, false, false, false, true, true, false, false] rfl rfl  rfl rfl  (two_of HT_.out (by kernel_rfl)) (by decide) (by decide) (fun Kc hK => ?_) (fun Kc hK => ?_)
   ·refine kgo Tryd.func56 #[.agg #[.bool a0_0, .slice A0_1 l0_1.length c0_1]] (by rfl) rfl rfl ?_
    refine (whole_of.calls _ a0_0 _ _ _ l0_1 x23 z24 _ (K.V 0 (by rw [hVs.out]; rfl)) A25.out).mono ?_
    rintro e W' ⟨v31, rfl, ho93, hb⟩
    replace K := K.addI 0 (fun _ => True) hb ho93 (fun _ h => h.t)
    clear hb ho93
    refine ⟨_, rfl, hK.out _ _ (HS.out _ _ _ _ K) fun hH => ?_⟩
    exact knq (J42 (v31, v32, v33, g34, g35) _ K)
   ·exact kbx #[.slice none 0 0, .bool false] 62 9 fun g34 hg W' hx hb => hK.out _ _ (HS.out _ _ _ _ (K.boxI 0 (Nat.le_of_ble_eq_true rfl) hg hx hb)) fun _ => knq (J41 (v31, v32, v33, g34, g35) _ (K.boxI 0 (Nat.le_of_ble_eq_true rfl) hg hx hb))
end Go.Proofs.YtodhkpdcpneeeaaDoor.PDv
namespace Go.Proofs.YtodhkpdcpneeeaaDoor.PDv
open Go.Proofs.YtodhkpdcpneeeaaDoor.Mine Go.RowKit Go.Proofs.YtodhkpdcpneeeaaDoorW.PrintWords Go.Proofs.YtodhkpdcpneeeaaDoorW.PrintLast Go.Proofs.YtodhkpdcpneeeaaDoorW.PrintMore
open Go.Proofs.YtodhkpdcpneeeaaDoor.Mine
attribute [local go_sem] max2_int min2_int max_two min_two max_three min_three max_four min_four
set_option linter.unusedVariables false
set_option linter.unusedSimpArgs false
def whole_Floor.f (k : Nat) (a0_0 : Bool) (l0_1 : List Int) (a1_0 : Bool) (l1_1 : List Int) : Option (Bool × List Int × Int) := (whole_rounded.f k a0_0 l0_1 a1_0 l1_1 false).bind fun bt859 => (some (bt859.1, bt859.2.1, bt859.2.2))
theorem whole_Floor.calls (k : Nat) (a0_0 : Bool) (A0_1 : Option Addr) (c0_1 : Nat) (l0_1 : List Int) (a1_0 : Bool) (A1_1 : Option Addr) (c1_1 : Nat) (l1_1 : List Int) (r1 : Bool) (r2 : List Int) (r3 : Int) (w : World) (hr0_1 : Kd.C (Kd.int .u64) w A0_1 l0_1.length l0_1) (hc0_1 : l0_1.length ≤ c0_1) (hr1_1 : Kd.C (Kd.int .u64) w A1_1 l1_1.length l1_1) (hc1_1 : l1_1.length ≤ c1_1) (h : whole_Floor.f k a0_0 l0_1 a1_0 l1_1 = some (r1, r2, r3)) :
  Calls Tryd.prog 46 #[.agg #[.bool a0_0, .slice A0_1 l0_1.length c0_1], .agg #[.bool a1_0, .slice A1_1 l1_1.length c1_1]] w fun e w' => ∃ v1_ : Value, e = .returned (.tuple #[.agg #[.bool r1, v1_], .int .i64 r3]) ∧ Kd.R (Kd.int .u64) 59 w' w.heap.size (fun _ => True) v1_ r2 ∧ Below w.heap.size w w' := by
 have hu25 := Tryd.underlying25
 have K := Kp.refl w
 replace K := K.parV (Kd.V_mono (ok' := fun _ => True) (Kd.V_mk (e := 59) (base := 0) hc0_1 (Kd.C_F (Kd.heap_int .u64) hr0_1)) (fun _ h => trivial))
 clear hr0_1 hc0_1
 replace K := K.parV (Kd.V_mono (ok' := fun _ => True) (Kd.V_mk (e := 59) (base := 0) hc1_1 (Kd.C_F (Kd.heap_int .u64) hr1_1)) (fun _ h => trivial))
 clear hr1_1 hc1_1
 simp only [klv] at K
 rw [whole_Floor.f] at h
 replace h := bindA h
 obtain ⟨⟨z7, x8, n9⟩, A10, h⟩ := h
 dsimp only at h
 simp only [Option.some.injEq, Prod.mk.injEq] at h
 obtain ⟨rfl, rfl, rfl⟩ := h
 go_enter Tryd.func46, Tryd.ntmps46
 go_wp2_with (first | ((with_reducible refine gate_dst (N := 2) rfl ?_); refine kbe 2 #[.bool a0_0, .slice A0_1 l0_1.length c0_1] 25 ?_; intro g1 hg W2 hx hb; replace K := K.u.box hg hx hb; clear hg hx hb) | ((with_reducible refine gate_dst (N := 3) rfl ?_); refine kbe 3 #[.bool a1_0, .slice A1_1 l1_1.length c1_1] 25 ?_; intro g3 hg W4 hx hb; replace K := K.u.box hg hx hb; clear hg hx hb) | ((with_reducible refine gate_dst (N := 4) rfl ?_); refine kbe 4 #[.bool false, .slice none 0 0] 25 ?_; intro g5 hg W6 hx hb; replace K := K.u.box hg hx hb; clear hg hx hb; obtain ⟨ua0, ub0⟩ := K.cell2 0 rfl; obtain ⟨ua1, ub1⟩ := K.cell2 1 rfl) | ((with_reducible refine gate_dst (N := 8) rfl ?_); clear ua0 ub0 ua1 ub1; refine kgl (some 8) rfl rfl Tryd.func88 #[.agg #[.bool a0_0, .slice A0_1 l0_1.length c0_1], .agg #[.bool a1_0, .slice A1_1 l1_1.length c1_1], .bool false] rfl ?_; refine (whole_rounded.calls _ a0_0 _ _ l0_1 a1_0 _ _ l1_1 false z7 x8 n9 _ (K.C 0 rfl) (K.le 0 rfl) (K.C 1 rfl) (K.le 1 rfl) A10.out).mono ?_; rintro e W13 ⟨v11, rfl, ho12, hb⟩; refine ⟨_, rfl, ?_⟩; replace K := K.u.addRE hb ho12; clear hb ho12; obtain ⟨P14, c15, e16⟩ := K.slice 2 rfl; subst e16) | ((with_reducible refine gate_store (t := 25) (p := 4) (v := .tmp 9) rfl ?_); refine kst2 2 (.bool z7) (.slice P14 x8.length c15) K.u rfl ?q18 ?_; (case q18 => intro c0 c1 f0 f1; first | (go_simp; done) | (go_simp; rfl)); clear K; intro W17 K; simp only [kls, klv] at K))
 refine bodyPost_ret (results_list (rs := [.cell 4 25, .tmp 5]) rfl (by simp) (.cell g5 25 #[.bool z7, .slice P14 x8.length c15] (0, 0) _ rfl (K.u.heap 2 rfl) Tryd.underlying25 rfl (by kernel_rfl) (.tmp .nil))) rfl ?_
 exact ⟨_, rfl, K.u.R 0 rfl, K.u.below⟩
end Go.Proofs.YtodhkpdcpneeeaaDoor.PDv
namespace Go.Proofs.YtodhkpdcpneeeaaDoor.PDv
open Go.RowKit Go.Proofs.YtodhkpdcpneeeaaDoorW.PrintWords Go.Proofs.YtodhkpdcpneeeaaDoorW.PrintLast Go.Proofs.YtodhkpdcpneeeaaDoorW.PrintMore
open Go.Proofs.YtodhkpdcpneeeaaDoor.Mine
attribute [local go_sem] max2_int min2_int max_two min_two max_three min_three max_four min_four
set_option linter.unusedVariables false
set_option linter.unusedSimpArgs false
def tribunalref02_trim.l0 : Nat → List Int → Int → Option (List Int)
 | 0, _, _ => none
 | k + 1, x0, x3 => if x3 > 0 then (if 0 ≤ (wrap64 (x3 - 1)) then (if (wrap64 (x3 - 1)) < (x0.length : Int) then (if (rd x0 (wrap64 (x3 - 1))) = 0 then (tribunalref02_trim.l0 k x0 (wrap64 (x3 - 1))) else (if 0 ≤ x3 then (if x3 ≤ (x0.length : Int) then (some (x0.take (x3 : Int).toNat)) else (none)) else (none))) else (none)) else (none)) else (if 0 ≤ x3 then (if x3 ≤ (x0.length : Int) then (some (x0.take (x3 : Int).toNat)) else (none)) else (none))
def tribunalref02_trim.f (k : Nat) (l0 : List Int) : Option (List Int) := tribunalref02_trim.l0 k l0 (l0.length : Int)
theorem tribunalref02_trim.mono_l : ∀ k, (∀ y0 y1, LeO (tribunalref02_trim.l0 k y0 y1) (tribunalref02_trim.l0 (k + 1) y0 y1))
 | 0 => fun _ _ r h => by simp [tribunalref02_trim.l0] at h
 | k + 1 => by
  have ih0 := tribunalref02_trim.mono_l k
  ·intro y0 y1
   unfold tribunalref02_trim.l0
   repeat' first
   | (with_reducible exact ih0 _ _)
   | (with_reducible exact LeO.refl _)
   | (with_reducible exact LeO.none _)
   | (with_reducible refine LeO.ite ?_ ?_)
   | (with_reducible refine LeO.bind ?_ (fun _ => ?_))
   | exact ih0 _ _
   | exact LeO.none _
   | refine LeO.ite ?_ ?_
   | refine LeO.bind ?_ (fun _ => ?_)
theorem tribunalref02_trim.mono : ∀ a0 k, LeO (tribunalref02_trim.f k a0) (tribunalref02_trim.f (k + 1) a0) := by
 intro a0 k
 have ih0 := tribunalref02_trim.mono_l k
 unfold tribunalref02_trim.f
 repeat' first
   | (with_reducible exact ih0 _ _)
   | (with_reducible exact LeO.refl _)
   | (with_reducible exact LeO.none _)
   | (with_reducible refine LeO.ite ?_ ?_)
   | (with_reducible refine LeO.bind ?_ (fun _ => ?_))
   | exact ih0 _ _
   | exact LeO.none _
   | refine LeO.ite ?_ ?_
   | refine LeO.bind ?_ (fun _ => ?_)
theorem tribunalref02_trim.calls (k : Nat) (P0_ : Nat → Prop) (A0 : Option Addr) (c0 : Nat) (l0 : List Int) (r : List Int) (w : World) (hs0 : Kd.V (Kd.int .u16) 94 w w.heap.size (fun k_ => P0_ k_) (.slice A0 l0.length c0) l0) (h : tribunalref02_trim.f k l0 = some r) :
  Calls Tryd.prog 110 #[.slice A0 l0.length c0] w fun e w' => ∃ v0_ : Value, e = .returned (v0_) ∧ Kd.V (Kd.int .u16) 94 w' w.heap.size (fun k_ => (P0_ k_ ∨ w.heap.size ≤ k_)) v0_ r ∧ Below w.heap.size w w' := by
 have HO0 := Aside0.mk (show Kd.V (Kd.int .u16) 94 w w.heap.size (fun k_ => (P0_ k_ ∨ w.heap.size ≤ k_)) (.slice A0 l0.length c0) l0 from Kd.V_mono hs0 (fun k_ hk => .inl hk))
 have HB := Aside0.mk (Below.refl w.heap.size w)
 have H : (tribunalref02_trim.l0 k l0 (l0.length : Int)) = some r := h
 clear h
 have H' := Aside0.mk H
 clear H
 go_enter Tryd.func110, Tryd.ntmps110
 go_wp2
 go_loopg [3] k (fun kq v3 w' => ∃ (x3_1 : Int), v3 = .int .i64 x3_1 ∧ Aside0 (tribunalref02_trim.l0 kq l0 x3_1 = some r) ∧ Aside0 (kq ≤ k) ∧ Aside0 (Kd.V (Kd.int .u16) 94 w' w.heap.size (fun k_ => (P0_ k_ ∨ w.heap.size ≤ k_)) (.slice A0 l0.length c0) l0) ∧ Aside0 (Below w.heap.size w w'))
 case atStart => exact ⟨((l0.length : Int)), (by first | rfl | (simp; done) | (simp [*]; done)), H', ⟨Nat.le_refl _⟩, ⟨by (with_reducible repeat (first | apply Kd.V_alloc | apply Kd.V_drewN | apply Kd.V_drew)); exact HO0.out⟩, ⟨by repeat (first | (with_reducible first | exact HB.out | apply below_alloc | apply pw_below_drewN | apply below_drew1) | exact HB.out)⟩⟩
 case round =>
  clear H'
  try clear c1
  obtain ⟨x3_1, rfl, HA, HK1, HO_0, HB⟩ := hrel
  cases gk with
  | zero => exact absurd HA.out (by simp [tribunalref02_trim.l0])
  | succ k1 =>
   have H := HA.out
   clear HA
   simp only [tribunalref02_trim.l0] at H
   by_cases c2 : x3_1 > 0
   ·rw [if_pos c2] at H
    have c2b0 : decide (0 < x3_1) = true := decide_eq_true c2
    clear c2
    obtain ⟨ji3, hji3⟩ : ∃ j_ : Int, (wrap64 (x3_1 - 1)) = j_ := ⟨_, rfl⟩
    replace H : (if 0 ≤ (ji3) then (if (ji3) < (l0.length : Int) then (if (rd l0 (ji3)) = 0 then (tribunalref02_trim.l0 k1 l0 ji3) else (if 0 ≤ x3_1 then (if x3_1 ≤ (l0.length : Int) then (some (l0.take (x3_1 : Int).toNat)) else (none)) else (none))) else (none)) else (none)) = some r := by first | (rw [hji3] at H; exact H) | (simp only [hji3] at H ⊢; exact H)
    have hji3w : (IntKind.i64.wrap (x3_1 - 1)) = ji3 := (i64_w _).trans hji3
    by_cases c4 : 0 ≤ (ji3)
    ·rw [if_pos c4] at H
     have c4b0 : decide (0 ≤ (ji3)) = true := decide_eq_true c4
     clear c4
     by_cases c5 : (ji3) < (l0.length : Int)
     ·rw [if_pos c5] at H
      have c5b0 : decide ((ji3) < (l0.length : Int)) = true := decide_eq_true c5
      clear c5
      by_cases c6 : (rd l0 (ji3)) = 0
      ·rw [if_pos c6] at H
       have c6b0 : ((rd l0 (ji3)) == 0) = true := beq_iff_eq.mpr c6
       have c6b1 : ((rd l0 (ji3)) != 0) = false := bne_eq_false_iff_eq.mpr c6
       clear c6
       have H' := Aside0.mk H
       clear H
       have p373 : 0 ≤ ((ji3) : Int) := of_decide_eq_true ‹_›
       have q373 : (ji3) < (l0.length : Int) := of_decide_eq_true ‹_›
       obtain ⟨ad373, e373, hx373_0⟩ := Kd.at_int (Kd.V_reads' HO_0.out).2.2 (ji3) p373 q373
       cases e373
       replace p373 := eq_true p373
       replace q373 := eq_true q373
       go_wp2
       go_roundg k1
       case measure => have := HK1.out; omega
       case rel => exact ⟨(ji3), (by first | rfl | (simp; done) | (simp only [← hji3] <;> (first | rfl | simp)) | (simp [*]; done)), H', ⟨by have := HK1.out; omega⟩, ⟨by (with_reducible repeat (first | apply Kd.V_alloc | apply Kd.V_drewN | apply Kd.V_drew)); exact HO_0.out⟩, ⟨by repeat (first | (with_reducible first | exact HB.out | apply below_alloc | apply pw_below_drewN | apply below_drew1) | exact HB.out)⟩⟩
      ·rw [if_neg c6] at H
       have c6b0 : ((rd l0 (ji3)) == 0) = false := beq_eq_false_iff_ne.mpr c6
       have c6b1 : ((rd l0 (ji3)) != 0) = true := bne_iff_ne.mpr c6
       by_cases c7 : 0 ≤ x3_1
       ·rw [if_pos c7] at H
        have c7b0 := eq_true c7
        have c7b1 : decide (0 ≤ x3_1) = true := decide_eq_true c7
        clear c7
        by_cases c8 : x3_1 ≤ (l0.length : Int)
        ·rw [if_pos c8] at H
         have c8b0 := eq_true c8
         have c8b1 : decide (x3_1 ≤ (l0.length : Int)) = true := decide_eq_true c8
         clear c8
         obtain ⟨y374, hy374⟩ : ∃ y_ : List Int, y_ = (l0.take (x3_1 : Int).toNat) := ⟨_, rfl⟩
         replace H : (some y374) = some r := by first | (rw [hy374]; with_reducible exact H) | (have H2_ := (Option.bind_some _ _).symm.trans H; rw [hy374]; with_reducible exact H2_) | (have H2_ := (Option.bind_some _ _).symm.trans H; with_reducible exact H2_) | with_reducible exact H | (rw [hy374]; exact H) | exact H
         have Ny374 := Aside0.mk hy374
         clear hy374
         obtain rfl := Option.some.inj H
         have p373 : 0 ≤ ((ji3) : Int) := of_decide_eq_true ‹_›
         have q373 : (ji3) < (l0.length : Int) := of_decide_eq_true ‹_›
         obtain ⟨ad373, e373, hx373_0⟩ := Kd.at_int (Kd.V_reads' HO_0.out).2.2 (ji3) p373 q373
         cases e373
         replace p373 := eq_true p373
         replace q373 := eq_true q373
         have q9 : (x3_1 : Int) ≤ ((l0.length : Int) : Int) := of_decide_eq_true ‹_›
         obtain ⟨i09, hi09, _, hsz9, _⟩ := info_parts info94
         have hroom9 : l0.length ≤ c0 := (Kd.V_reads' HO_0.out).2.1
         have hC9 : Kd.F (Kd.int .u16) _ _ (some ad373) l0.length l0 := (Kd.V_at (base := w.heap.size) HO_0.out).2.2
         have hcut9 := cut_to (P := Tryd.prog) 70 94 .i64 Tryd.underlying70 hi09 (some ad373) l0.length c0 x3_1 (of_decide_eq_true ‹_›) q9 hroom9
         have hr9 := Kd.F_take (m := (x3_1 : Int).toNat) hC9 (by omega)
         have hy9 : y374.length = (x3_1 : Int).toNat := (by rw [Ny374.out, List.length_take]; omega)
         rw [← Ny374.out] at hr9
         rw [← hy9] at hcut9
         have HO378 := Aside0.mk (show Kd.V (Kd.int .u16) 94 _ w.heap.size _ (.slice (some ad373) y374.length c0) y374 from Kd.V_mk (by omega) hr9)
         have HC378 := Aside0.mk (show y374.length ≤ c0 from by omega)
         clear hr9 hC9 hroom9 hi09 hsz9
         have KY9 := Aside0.mk hy9
         clear hy9
         replace q9 := eq_true q9
         go_wp2
         go_ret
         exact ⟨_, by first | rfl | (simp [errW_none, errW_some] <;> rfl) | (simp only [← hji3]; first | rfl | (simp [errW_none, errW_some] <;> rfl)) | (simp [*, errW_none, errW_some] <;> rfl), by (with_reducible repeat (first | apply Kd.V_alloc | apply Kd.V_drewN | apply Kd.V_drew)); exact HO378.out, by repeat (first | (with_reducible first | exact HB.out | apply below_alloc | apply pw_below_drewN | apply below_drew1) | exact HB.out)⟩
        ·rw [if_neg c8] at H
         exact absurd H (by simp)
       ·rw [if_neg c7] at H
        exact absurd H (by simp)
     ·rw [if_neg c5] at H
      exact absurd H (by simp)
    ·rw [if_neg c4] at H
     exact absurd H (by simp)
   ·rw [if_neg c2] at H
    have c2b0 : decide (0 < x3_1) = false := decide_eq_false c2
    clear c2
    by_cases c10 : 0 ≤ x3_1
    ·rw [if_pos c10] at H
     have c10b0 := eq_true c10
     have c10b1 : decide (0 ≤ x3_1) = true := decide_eq_true c10
     clear c10
     by_cases c11 : x3_1 ≤ (l0.length : Int)
     ·rw [if_pos c11] at H
      have c11b0 := eq_true c11
      have c11b1 : decide (x3_1 ≤ (l0.length : Int)) = true := decide_eq_true c11
      clear c11
      obtain ⟨y379, hy379⟩ : ∃ y_ : List Int, y_ = (l0.take (x3_1 : Int).toNat) := ⟨_, rfl⟩
      replace H : (some y379) = some r := by first | (rw [hy379]; with_reducible exact H) | (have H2_ := (Option.bind_some _ _).symm.trans H; rw [hy379]; with_reducible exact H2_) | (have H2_ := (Option.bind_some _ _).symm.trans H; with_reducible exact H2_) | with_reducible exact H | (rw [hy379]; exact H) | exact H
      have Ny379 := Aside0.mk hy379
      clear hy379
      obtain rfl := Option.some.inj H
      have q12 : (x3_1 : Int) ≤ ((l0.length : Int) : Int) := of_decide_eq_true ‹_›
      obtain ⟨i012, hi012, _, hsz12, _⟩ := info_parts info94
      have hroom12 : l0.length ≤ c0 := (Kd.V_reads' HO_0.out).2.1
      have hC12 : Kd.F (Kd.int .u16) _ _ A0 l0.length l0 := (Kd.V_at (base := w.heap.size) HO_0.out).2.2
      have hcut12 := cut_to (P := Tryd.prog) 70 94 .i64 Tryd.underlying70 hi012 A0 l0.length c0 x3_1 (of_decide_eq_true ‹_›) q12 hroom12
      have hr12 := Kd.F_take (m := (x3_1 : Int).toNat) hC12 (by omega)
      have hy12 : y379.length = (x3_1 : Int).toNat := (by rw [Ny379.out, List.length_take]; omega)
      rw [← Ny379.out] at hr12
      rw [← hy12] at hcut12
      have HO383 := Aside0.mk (show Kd.V (Kd.int .u16) 94 _ w.heap.size _ (.slice A0 y379.length c0) y379 from Kd.V_mk (by omega) hr12)
      have HC383 := Aside0.mk (show y379.length ≤ c0 from by omega)
      clear hr12 hC12 hroom12 hi012 hsz12
      have KY12 := Aside0.mk hy12
      clear hy12
      replace q12 := eq_true q12
      go_wp2
      go_ret
      exact ⟨_, by first | rfl | (simp [errW_none, errW_some] <;> rfl) | (simp [*, errW_none, errW_some] <;> rfl), by (with_reducible repeat (first | apply Kd.V_alloc | apply Kd.V_drewN | apply Kd.V_drew)); exact HO383.out, by repeat (first | (with_reducible first | exact HB.out | apply below_alloc | apply pw_below_drewN | apply below_drew1) | exact HB.out)⟩
     ·rw [if_neg c11] at H
      exact absurd H (by simp)
    ·rw [if_neg c10] at H
     exact absurd H (by simp)
def tribunalref02_Make.f (k : Nat) (a0 : Bool) (l1 : List Int) : Option (Bool × List Int) := (tribunalref02_trim.f k l1).bind fun t385 => (if a0 = true then (some (decide (0 < t385.length), t385)) else (some (false, t385)))
theorem tribunalref02_Make.calls (k : Nat) (a0 : Bool) (P1_ : Nat → Prop) (A1 : Option Addr) (c1 : Nat) (l1 : List Int) (r1 : Bool) (r2 : List Int) (w : World) (hs1 : Kd.V (Kd.int .u16) 94 w w.heap.size (fun k_ => P1_ k_) (.slice A1 l1.length c1) l1) (h : tribunalref02_Make.f k a0 l1 = some (r1, r2)) :
  Calls Tryd.prog 87 #[.bool a0, .slice A1 l1.length c1] w fun e w' => ∃ v1_ : Value, e = .returned (.agg #[.bool r1, v1_]) ∧ Kd.V (Kd.int .u16) 94 w' w.heap.size (fun k_ => (P1_ k_ ∨ w.heap.size ≤ k_)) v1_ r2 ∧ Below w.heap.size w w' := by
 have hu72 := Tryd.underlying72
 have HO1 := Aside0.mk (show Kd.V (Kd.int .u16) 94 w w.heap.size (fun k_ => (P1_ k_ ∨ w.heap.size ≤ k_)) (.slice A1 l1.length c1) l1 from Kd.V_mono hs1 (fun k_ hk => .inl hk))
 have HB := Aside0.mk (Below.refl w.heap.size w)
 have H : ((tribunalref02_trim.f k l1).bind fun t385 => (if a0 = true then (some (decide (0 < t385.length), t385)) else (some (false, t385)))) = some (r1, r2) := h
 clear h
 replace H := Option.bind_eq_some_iff.mp H
 obtain ⟨t385, A30, H⟩ := H
 replace H : (if a0 = true then (some (decide (0 < t385.length), t385)) else (some (false, t385))) = some (r1, r2) := H
 have A3 := Aside0.mk A30
 clear A30
 by_cases c4 : a0 = true
 ·subst c4
  have H1 : (some (decide (0 < t385.length), t385)) = some (r1, r2) := by rw [if_pos rfl] at H; exact H
  clear H
  have H := H1
  clear H1
  simp only [Option.some.injEq, Prod.mk.injEq] at H
  obtain ⟨rfl, rfl⟩ := H
  go_enter Tryd.func87, Tryd.ntmps87
  go_wp2_with (first | ((with_reducible refine gate_dst (N := 4) rfl ?_); (try (refine gate_guard (by rfl) ?_; dsimp only)); refine kbe 4 #[.bool false, .slice none 0 0] 72 ?_; intro gb384 hg w5 hbox hb; replace HO1 := Aside0.mk (Kd.V_below (Kd.V_elderB (kvu HO1.out) gb384 (Nat.le_of_eq hg.symm)) hb); have BK384 := Aside0.mk (hbox); have GW384 := kbz hg HB; have GE384 := kbz hg HB; replace HB := kbs HB hb; clear hb hbox hg) | ((with_reducible refine gate_callee (f := 110) rfl ?_); refine kgl (some 6) rfl rfl Tryd.func110 #[.slice A1 l1.length c1] rfl ?_; (with_reducible refine (tribunalref02_trim.calls k (fun k_ => ((P1_ k_ ∨ w.heap.size ≤ k_) ∧ k_ ≠ gb384)) _ _ l1 t385 _ ?side1 A3.out).mono ?_); (case side1 => exact HO1.out); rintro e w6 ⟨v386, rfl, ho0, hb⟩; refine ⟨_, rfl, ?_⟩; replace HO1 := kvb HO1 hb; have HO387 := Aside0.mk (Kd.V_lower (Kd.V_mono (ok' := fun k_ => (P1_ k_ ∨ w.heap.size ≤ k_) ∧ k_ ≠ gb384) ho0 (fun k_ hk_ => ⟨Or.elim hk_ (fun hs_ => hs_.1) (fun hn_ => (.inr (Nat.le_trans (below_size (khu HB.out)) hn_))), Or.elim hk_ (fun hs_ => hs_.2) (kfb BK384)⟩)) (below_size (khu HB.out))); replace BK384 := kbb BK384 hb; replace HB := kbs HB hb; (try clear hb); (try clear hb2); (try clear hk); (try clear hi); (try clear ho0); obtain ⟨Ao7, co7, eo7⟩ := Kd.V_slice HO387.out; subst eo7; have hcz8_0 : w6.cell? ⟨gb384, 0, none⟩ = some (.bool false) := (blk_cell BK384.out 0).trans rfl; have hcz8_1 : w6.cell? ⟨gb384, 1, none⟩ = some (.slice none 0 0) := (blk_cell BK384.out 1).trans rfl; have hfz8_0 := blk_frozen BK384.out 0; have hfz8_1 := blk_frozen BK384.out 1))
  refine bodyPost_ret (results_cell_row rfl _ _ gb384 72 #[.bool (decide (0 < t385.length)), .slice Ao7 t385.length co7] (0, 0) _ rfl (kpu #[.bool (decide (0 < t385.length)), .slice none 0 0] 1 (kpu #[.bool false, .slice none 0 0] 0 (kbu BK384.out))) Tryd.underlying72 rfl (by kernel_rfl)) rfl ?_
  exact ⟨_, by first | rfl | (simp [errW_none, errW_some] <;> rfl) | (simp [*, errW_none, errW_some] <;> rfl), by (with_reducible repeat (first | apply Kd.V_alloc | apply Kd.V_drewN | apply Kd.V_drew)); exact Kd.V_mono (Kd.V_far (p := ⟨gb384, 1, none⟩) (Kd.V_far (p := ⟨gb384, 0, none⟩) (Kd.V_mono HO387.out (fun k_ hk => (⟨hk, hk.2⟩ : _ ∧ k_ ≠ gb384))) (fun _ hk => hk.2) (.bool (decide (0 < t385.length)))) (fun _ hk => hk.2) (.slice Ao7 t385.length co7)) (fun _ hk => hk.1.1), by repeat (first | (with_reducible first | exact HB.out | apply below_alloc | apply pw_below_drewN | apply below_drew1 | refine below_set ?_ GE384.out) | exact HB.out)⟩
 ·replace c4 := Bool.eq_false_iff.mpr c4
  subst c4
  have H1 : (some (false, t385)) = some (r1, r2) := by rw [if_neg (show ¬ (false = true) by decide)] at H; exact H
  clear H
  have H := H1
  clear H1
  simp only [Option.some.injEq, Prod.mk.injEq] at H
  obtain ⟨rfl, rfl⟩ := H
  go_enter Tryd.func87, Tryd.ntmps87
  go_wp2_with (first | ((with_reducible refine gate_dst (N := 4) rfl ?_); (try (refine gate_guard (by rfl) ?_; dsimp only)); refine kbe 4 #[.bool false, .slice none 0 0] 72 ?_; intro gb384 hg w9 hbox hb; replace HO1 := Aside0.mk (Kd.V_below (Kd.V_elderB (kvu HO1.out) gb384 (Nat.le_of_eq hg.symm)) hb); have BK384 := Aside0.mk (hbox); have GW384 := kbz hg HB; have GE384 := kbz hg HB; replace HB := kbs HB hb; clear hb hbox hg) | ((with_reducible refine gate_callee (f := 110) rfl ?_); refine kgl (some 6) rfl rfl Tryd.func110 #[.slice A1 l1.length c1] rfl ?_; (with_reducible refine (tribunalref02_trim.calls k (fun k_ => ((P1_ k_ ∨ w.heap.size ≤ k_) ∧ k_ ≠ gb384)) _ _ l1 t385 _ ?side1 A3.out).mono ?_); (case side1 => exact HO1.out); rintro e w10 ⟨v386, rfl, ho0, hb⟩; refine ⟨_, rfl, ?_⟩; replace HO1 := kvb HO1 hb; have HO387 := Aside0.mk (Kd.V_lower (Kd.V_mono (ok' := fun k_ => (P1_ k_ ∨ w.heap.size ≤ k_) ∧ k_ ≠ gb384) ho0 (fun k_ hk_ => ⟨Or.elim hk_ (fun hs_ => hs_.1) (fun hn_ => (.inr (Nat.le_trans (below_size (khu HB.out)) hn_))), Or.elim hk_ (fun hs_ => hs_.2) (kfb BK384)⟩)) (below_size (khu HB.out))); replace BK384 := kbb BK384 hb; replace HB := kbs HB hb; (try clear hb); (try clear hb2); (try clear hk); (try clear hi); (try clear ho0); obtain ⟨Ao11, co11, eo11⟩ := Kd.V_slice HO387.out; subst eo11; have hcz12_0 : w10.cell? ⟨gb384, 0, none⟩ = some (.bool false) := (blk_cell BK384.out 0).trans rfl; have hcz12_1 : w10.cell? ⟨gb384, 1, none⟩ = some (.slice none 0 0) := (blk_cell BK384.out 1).trans rfl; have hfz12_0 := blk_frozen BK384.out 0; have hfz12_1 := blk_frozen BK384.out 1))
  refine bodyPost_ret (results_cell_row rfl _ _ gb384 72 #[.bool false, .slice Ao11 t385.length co11] (0, 0) _ rfl (kpu #[.bool false, .slice none 0 0] 1 (kpu #[.bool false, .slice none 0 0] 0 (kbu BK384.out))) Tryd.underlying72 rfl (by kernel_rfl)) rfl ?_
  exact ⟨_, by first | rfl | (simp [errW_none, errW_some] <;> rfl) | (simp [*, errW_none, errW_some] <;> rfl), by (with_reducible repeat (first | apply Kd.V_alloc | apply Kd.V_drewN | apply Kd.V_drew)); exact Kd.V_mono (Kd.V_far (p := ⟨gb384, 1, none⟩) (Kd.V_far (p := ⟨gb384, 0, none⟩) (Kd.V_mono HO387.out (fun k_ hk => (⟨hk, hk.2⟩ : _ ∧ k_ ≠ gb384))) (fun _ hk => hk.2) (.bool false)) (fun _ hk => hk.2) (.slice Ao11 t385.length co11)) (fun _ hk => hk.1.1), by repeat (first | (with_reducible first | exact HB.out | apply below_alloc | apply pw_below_drewN | apply below_drew1 | refine below_set ?_ GE384.out) | exact HB.out)⟩
def tribunalref02_From.l0 : Nat → List Int → Int → Bool → List Int → Option (Bool × List Int)
 | 0, _, _, _, _ => none
 | k + 1, x3, x4, x389000, x389001 => if x4 < (x389001.length : Int) then (if 0 ≤ x4 then ((some (([IntKind.u16.wrap (rd x389001 x4), IntKind.u16.wrap ((rd x389001 x4) / 65536), IntKind.u16.wrap ((rd x389001 x4) / 4294967296), IntKind.u16.wrap ((rd x389001 x4) / 281474976710656)] : List Int) : List Int)).bind fun y391 => (if x3.length + y391.length < 70368744177664 then (tribunalref02_From.l0 k (x3 ++ y391) (wrap64 (x4 + 1)) x389000 x389001) else (none))) else (none)) else ((tribunalref02_Make.f k x389000 x3).bind fun bt397 => (some (bt397.1, bt397.2)))
def tribunalref02_From.f (k : Nat) (a0_0 : Bool) (l0_1 : List Int) : Option (Bool × List Int) := tribunalref02_From.l0 k ([] : List Int) 0 a0_0 l0_1
theorem tribunalref02_From.calls (k : Nat) (a0_0 : Bool) (A0_1 : Option Addr) (c0_1 : Nat) (l0_1 : List Int) (r1 : Bool) (r2 : List Int) (w : World) (hr0_1 : Kd.C (Kd.int .u64) w A0_1 l0_1.length l0_1) (hc0_1 : l0_1.length ≤ c0_1) (h : tribunalref02_From.f k a0_0 l0_1 = some (r1, r2)) :
  Calls Tryd.prog 64 #[.agg #[.bool a0_0, .slice A0_1 l0_1.length c0_1]] w fun e w' => ∃ v1_ : Value, e = .returned (.agg #[.bool r1, v1_]) ∧ Kd.V (Kd.int .u16) 94 w' w.heap.size (fun k_ => (w.heap.size ≤ k_)) v1_ r2 ∧ Below w.heap.size w w' := by
 have hu25 := Tryd.underlying25
 have hu72 := Tryd.underlying72
 have HR0_1 := Aside0.mk hr0_1
 have HC0_1 := Aside0.mk hc0_1
 clear hr0_1 hc0_1
 have HB := Aside0.mk (Below.refl w.heap.size w)
 have H : (tribunalref02_From.l0 k ([] : List Int) 0 a0_0 l0_1) = some (r1, r2) := h
 clear h
 have H' := Aside0.mk H
 clear H
 go_enter Tryd.func64, Tryd.ntmps64
 go_wp2_with (first | ((with_reducible refine gate_dst (N := 1) rfl ?_); refine kbe 1 #[.bool a0_0, .slice A0_1 l0_1.length c0_1] 25 ?_; intro gb388 hg w2 hbox hb; have BK388 := Aside0.mk (hbox); have GW388 := kbz hg HB; have GE388 := kbz hg HB; replace HB := kbs HB hb; clear hb hbox hg) | ((with_reducible refine gate_dst (N := 2) rfl ?_); refine kbe 2 #[.bool false, .slice none 0 0] 72 ?_; intro gb389 hg w3 hbox hb; have BK389 := Aside0.mk (hbox); have GW389 := kbz hg HB; have GE389 := kbz hg HB; replace HB := kbs HB hb; have NB388_389 := knl hg BK388; have NB389_388 := kng hg BK388; replace BK388 := kbb BK388 hb; clear hb hbox hg))
 go_loopg [3, 4] k (fun kq v3 v4 w' => ∃ (x3_1 : List Int) (x4_1 : Int), v4 = .int .i64 x4_1 ∧ Aside0 (tribunalref02_From.l0 kq x3_1 x4_1 a0_0 l0_1 = some (r1, r2)) ∧ Aside0 (kq ≤ k) ∧ Aside0 (Kd.R (Kd.int .u16) 94 w' w.heap.size (fun k_ => (w.heap.size ≤ k_)) v3 x3_1) ∧ Aside0 (w'.heap[gb388]? = some (.cells #[.bool a0_0, (.slice A0_1 l0_1.length c0_1)] 25 (0, 0))) ∧ Aside0 (w'.heap[gb389]? = some (.cells #[.bool false, (.slice none 0 0)] 72 (0, 0))) ∧ Aside0 (Below w.heap.size w w'))
 case atStart => exact ⟨(([] : List Int)), (0), (by first | rfl | (simp; done) | (simp [*]; done)), H', ⟨Nat.le_refl _⟩, ⟨by first | exact Kd.R_nil _ _ _ _ _ | exact Kd.N_nil _ _ _ _ _ | exact Kd.V_nil _ _ _ _ _ | exact Kd.Q_nil _ _ _ _ _ | exact Kd.S_nil _ _ _ _ _⟩, ⟨by (with_reducible repeat (first | refine blk_drewN ?_ _ | refine blk_drew ?_ | refine blk_alloc ?_ _)); exact BK388.out⟩, ⟨by (with_reducible repeat (first | refine blk_drewN ?_ _ | refine blk_drew ?_ | refine blk_alloc ?_ _)); exact BK389.out⟩, ⟨by repeat (first | (with_reducible first | exact HB.out | apply below_alloc | apply pw_below_drewN | apply below_drew1 | refine below_set ?_ GE388.out | refine below_set ?_ GE389.out) | exact HB.out)⟩⟩
 case round =>
  clear H'
  try clear p2
  obtain ⟨x3_1, x4_1, rfl, HA, HK1, HO_3, BK388, BK389, HB⟩ := hrel
  cases gk with
  | zero => exact absurd HA.out (by simp [tribunalref02_From.l0])
  | succ k1 =>
   have H := HA.out
   clear HA
   simp only [tribunalref02_From.l0] at H
   by_cases c4 : x4_1 < (l0_1.length : Int)
   ·rw [if_pos c4] at H
    have c4b0 : decide (x4_1 < (l0_1.length : Int)) = true := decide_eq_true c4
    clear c4
    by_cases c5 : 0 ≤ x4_1
    ·rw [if_pos c5] at H
     have c5b0 : decide (0 ≤ x4_1) = true := decide_eq_true c5
     clear c5
     obtain ⟨y391, hy391⟩ : ∃ y_ : List Int, y_ = (([IntKind.u16.wrap (rd l0_1 x4_1), IntKind.u16.wrap ((rd l0_1 x4_1) / 65536), IntKind.u16.wrap ((rd l0_1 x4_1) / 4294967296), IntKind.u16.wrap ((rd l0_1 x4_1) / 281474976710656)] : List Int)) := ⟨_, rfl⟩
     replace H : (if x3_1.length + y391.length < 70368744177664 then (tribunalref02_From.l0 k1 (x3_1 ++ y391) (wrap64 (x4_1 + 1)) a0_0 l0_1) else (none)) = some (r1, r2) := by first | (rw [hy391]; with_reducible exact H) | (have H2_ := (Option.bind_some _ _).symm.trans H; rw [hy391]; with_reducible exact H2_) | (have H2_ := (Option.bind_some _ _).symm.trans H; with_reducible exact H2_) | with_reducible exact H | (rw [hy391]; exact H) | exact H
     have Ny391 := Aside0.mk hy391
     clear hy391
     by_cases c6 : x3_1.length + y391.length < 70368744177664
     ·rw [if_pos c6] at H
      have LMc6 := Aside0.mk c6
      clear c6
      obtain ⟨y394, hy394⟩ : ∃ y_ : List Int, y_ = (x3_1 ++ y391) := ⟨_, rfl⟩
      replace H : (tribunalref02_From.l0 k1 y394 (wrap64 (x4_1 + 1)) a0_0 l0_1) = some (r1, r2) := by first | (rw [hy394]; with_reducible exact H) | (have H2_ := (Option.bind_some _ _).symm.trans H; rw [hy394]; with_reducible exact H2_) | (have H2_ := (Option.bind_some _ _).symm.trans H; with_reducible exact H2_) | with_reducible exact H | (rw [hy394]; exact H) | exact H
      have Ny394 := Aside0.mk hy394
      clear hy394
      have H' := Aside0.mk H
      clear H
      have hnb7 := NB388_389.out
      have hnc7 := NB389_388.out
      have hcz8_0 : wr.cell? ⟨gb388, 0, none⟩ = some (.bool a0_0) := (blk_cell BK388.out 0).trans rfl
      have hcz8_1 : wr.cell? ⟨gb388, 1, none⟩ = some (.slice A0_1 l0_1.length c0_1) := (blk_cell BK388.out 1).trans rfl
      have hfz8_0 := blk_frozen BK388.out 0
      have hfz8_1 := blk_frozen BK388.out 1
      have p390 : 0 ≤ (x4_1 : Int) := of_decide_eq_true ‹_›
      have q390 : x4_1 < (l0_1.length : Int) := of_decide_eq_true ‹_›
      obtain ⟨ad390, e390, hx390_0⟩ := Kd.at_int HR0_1.out x4_1 p390 q390
      cases e390
      replace hx390_0 := (HB.out.cell (World.block_lt_of_cell? w _ hx390_0)).trans hx390_0
      replace p390 := eq_true p390
      replace q390 := eq_true q390
      go_wp2_with (first | ((with_reducible refine gate_dst (N := 30) rfl ?_); refine Kd.R_lit (Kd.int .u16) _ 94 ?hg (N := 30) ?hd (xs := ([IntKind.u16.wrap (rd l0_1 x4_1), IntKind.u16.wrap ((rd l0_1 x4_1) / 65536), IntKind.u16.wrap ((rd l0_1 x4_1) / 4294967296), IntKind.u16.wrap ((rd l0_1 x4_1) / 281474976710656)] : List Int)) (inner := [.int .u16 (IntKind.u16.wrap (rd l0_1 x4_1)), .int .u16 (IntKind.u16.wrap ((rd l0_1 x4_1) / 65536)), .int .u16 (IntKind.u16.wrap ((rd l0_1 x4_1) / 4294967296)), .int .u16 (IntKind.u16.wrap ((rd l0_1 x4_1) / 281474976710656))]) (ok := fun _ => True) (okp := fun _ => True) ?hr ?hp (fun _ hk => hk) trivial (Below.refl _ _) (Nat.le_refl _) (by simp) ?_; (case hd => rfl); (case hg => rfl); (case hr => first | (go_simp; done) | (go_simp; rfl)); (case hp => exact (Reps.one (show Kd.M (Kd.int .u16) _ _ _ (IntKind.u16.wrap (rd l0_1 x4_1)) [.int .u16 (IntKind.u16.wrap (rd l0_1 x4_1))] from rfl) (Reps.one (show Kd.M (Kd.int .u16) _ _ _ (IntKind.u16.wrap ((rd l0_1 x4_1) / 65536)) [.int .u16 (IntKind.u16.wrap ((rd l0_1 x4_1) / 65536))] from rfl) (Reps.one (show Kd.M (Kd.int .u16) _ _ _ (IntKind.u16.wrap ((rd l0_1 x4_1) / 4294967296)) [.int .u16 (IntKind.u16.wrap ((rd l0_1 x4_1) / 4294967296))] from rfl) (Reps.one (show Kd.M (Kd.int .u16) _ _ _ (IntKind.u16.wrap ((rd l0_1 x4_1) / 281474976710656)) [.int .u16 (IntKind.u16.wrap ((rd l0_1 x4_1) / 281474976710656))] from rfl) (Reps.none _ _)))))); intro v392 w9 ho10 hb hg_ hnew_; clear hg_ hnew_; (first | rw [← Ny391.out] at ho10 | (simp only [Int.reduceToNat] at ho10; rw [← Ny391.out] at ho10)); have HO393 := Aside0.mk (Kd.R_lower (Kd.R_new' (Kd.R_newM (M := fun k_ => (w.heap.size ≤ k_)) ho10 (below_size (khu HB.out)) (fun k_ h_ => h_)) (Kd.R_lt (kru HO_3.out))) (below_size (khu HB.out))); replace HO_3 := Aside0.mk (Kd.R_elder' (kru HO_3.out) (Kd.R_base ho10) hb); replace BK388 := kbb BK388 hb; replace BK389 := kbb BK389 hb; replace HB := kbs HB hb; clear hb ho10; obtain ⟨Ao12, co12, eo12⟩ := Kd.R_slice HO393.out; subst eo12) | ((with_reducible refine gate_builtin (b := .append) (xs := #[.tmp 18, .tmp 30]) rfl ?_); at_builtin; refine Kd.R_append_rows (Kd.int .u16) (w0 := w) w.heap.size rfl (.tmp 18) (.tmp 30) 70 94 (.int .u16 0) 2 rfl Tryd.underlying70 info94 rfl (by decide) (by omega) u3 x3_1 y391 _ _ _ (fun k_ => (w.heap.size ≤ k_) ∧ some k_ ≠ (.slice Ao12 y391.length co12 : Value).ownBlock) (fun _ => False) rfl rfl ?aO ?aR (fun _ _ h => h) (fun _ h => h.elim) ?aF ?aB ?aS ?aL ?_; (case aR => repeat (first | exact (Kd.R_reads' HO393.out).2.2 | (with_reducible refine Kd.C_alloc ?_ _) | (with_reducible refine Kd.C_drewN ?_ _) | (with_reducible refine Kd.C_drew ?_))); (case aB => exact (khu HB.out)); (case aF => exact (fun k_ hk => ⟨(Nat.le_trans (below_size (khu HB.out)) hk), Kd.fresh' (Kd.R_lt (kru HO393.out)) k_ hk⟩)); (case aO => exact (kru HO_3.out)); (case aS => exact (below_size (khu HB.out))); (case aL => have := LMc6.out; omega); intro v395 w11 ho hb hg hat; rw [← Ny394.out] at ho; replace BK388 := Aside0.mk (blk_grown (g := gb388) (o := .cells #[.bool a0_0, .slice (some ad390) l0_1.length c0_1] 25 (0, 0)) (kbu BK388.out) hg (Kd.R_ne HO_3.out BK388.out (by decide))); replace BK389 := Aside0.mk (blk_grown (g := gb389) (o := .cells #[.bool false, .slice none 0 0] 72 (0, 0)) (kbu BK389.out) hg (Kd.R_ne HO_3.out BK389.out (by decide))); replace HO393 := Aside0.mk (Kd.R_after (ok := (fun k_ => (w.heap.size ≤ k_))) (by (with_reducible repeat (first | apply Kd.R_alloc | apply Kd.R_drewN | apply Kd.R_drew)); exact Kd.R_mono HO393.out (fun _ hk => ⟨hk.1.1, hk.2⟩)) hg hat); replace HB := Aside0.mk (hb); have HO396 := Aside0.mk (ho); clear HO_3; clear ho hb hg hat))
      go_roundg k1
      case measure => have := HK1.out; omega
      case rel => exact ⟨(y394), (wrap64 (x4_1 + 1)), (by first | rfl | (simp; done) | (simp [*]; done)), H', ⟨by have := HK1.out; omega⟩, ⟨by (with_reducible repeat (first | apply Kd.R_alloc | apply Kd.R_drewN | apply Kd.R_drew)); exact Kd.R_mono HO396.out (fun _ hk => hk.1)⟩, ⟨by (with_reducible repeat (first | refine blk_drewN ?_ _ | refine blk_drew ?_ | refine blk_alloc ?_ _)); exact BK388.out⟩, ⟨by (with_reducible repeat (first | refine blk_drewN ?_ _ | refine blk_drew ?_ | refine blk_alloc ?_ _)); exact BK389.out⟩, ⟨by repeat (first | (with_reducible first | exact HB.out | apply below_alloc | apply pw_below_drewN | apply below_drew1 | refine below_set ?_ GE388.out | refine below_set ?_ GE389.out) | exact HB.out)⟩⟩
     ·rw [if_neg c6] at H
      exact absurd H (by simp)
    ·rw [if_neg c5] at H
     exact absurd H (by simp)
   ·rw [if_neg c4] at H
    have c4b0 : decide (x4_1 < (l0_1.length : Int)) = false := decide_eq_false c4
    clear c4
    replace H := Option.bind_eq_some_iff.mp H
    obtain ⟨⟨t397, t398⟩, A130, H⟩ := H
    replace H : (some (t397, t398)) = some (r1, r2) := H
    have A13 := Aside0.mk A130
    clear A130
    simp only [Option.some.injEq, Prod.mk.injEq] at H
    obtain ⟨rfl, rfl⟩ := H
    have hnb14 := NB388_389.out
    have hnc14 := NB389_388.out
    have hcz15_0 : wr.cell? ⟨gb388, 0, none⟩ = some (.bool a0_0) := (blk_cell BK388.out 0).trans rfl
    have hcz15_1 : wr.cell? ⟨gb388, 1, none⟩ = some (.slice A0_1 l0_1.length c0_1) := (blk_cell BK388.out 1).trans rfl
    have hfz15_0 := blk_frozen BK388.out 0
    have hfz15_1 := blk_frozen BK388.out 1
    obtain ⟨Ao16, co16, eo16⟩ := Kd.R_slice HO_3.out
    subst eo16
    go_wp2_with (first | ((with_reducible refine gate_callee (f := 87) rfl ?_); refine kgl (some 35) rfl rfl Tryd.func87 #[.bool a0_0, .slice Ao16 x3_1.length co16] rfl ?_; (with_reducible refine (tribunalref02_Make.calls k1 a0_0 (fun k_ => some k_ = (.slice Ao16 x3_1.length co16 : Value).ownBlock) _ _ x3_1 t397 t398 _ ?side1 A13.out).mono ?_); (case side1 => exact Kd.R_V (Kd.R_tight rfl (Kd.R_types (Kd.R_types (HO_3.out) BK388.out (by decide)) BK389.out (by decide)))); rintro e w17 ⟨v399, rfl, ho0, hb⟩; refine ⟨_, rfl, ?_⟩; have HO400 := Aside0.mk (Kd.V_lower (Kd.V_mono (ok' := fun k_ => (w.heap.size ≤ k_) ∧ k_ ≠ gb388 ∧ k_ ≠ gb389) ho0 (fun k_ hk_ => ⟨Or.elim hk_ (fun hs_ => ((Kd.R_types (Kd.R_types (HO_3.out) BK388.out (by decide)) BK389.out (by decide)).1 k_ hs_.symm).1.1) (fun hn_ => (Nat.le_trans (below_size (khu HB.out)) hn_)), Or.elim hk_ (fun hs_ => ((Kd.R_types (Kd.R_types (HO_3.out) BK388.out (by decide)) BK389.out (by decide)).1 k_ hs_.symm).1.2) (kfb BK388), Or.elim hk_ (fun hs_ => ((Kd.R_types (Kd.R_types (HO_3.out) BK388.out (by decide)) BK389.out (by decide)).1 k_ hs_.symm).2) (kfb BK389)⟩)) (below_size (khu HB.out))); replace HO_3 := krb HO_3 hb; replace BK388 := kbb BK388 hb; replace BK389 := kbb BK389 hb; replace HB := kbs HB hb; (try clear hb); (try clear hb2); (try clear hk); (try clear hi); (try clear ho0); have hcz18_0 : w17.cell? ⟨gb389, 0, none⟩ = some (.bool false) := (blk_cell BK389.out 0).trans rfl; have hcz18_1 : w17.cell? ⟨gb389, 1, none⟩ = some (.slice none 0 0) := (blk_cell BK389.out 1).trans rfl; have hfz18_0 := blk_frozen BK389.out 0; have hfz18_1 := blk_frozen BK389.out 1; obtain ⟨Ao19, co19, eo19⟩ := Kd.V_slice HO400.out; subst eo19))
    refine bodyPost_ret (results_cell_row rfl _ _ gb389 72 #[.bool t397, .slice Ao19 t398.length co19] (0, 0) _ rfl (kpu #[.bool t397, .slice none 0 0] 1 (kpu #[.bool false, .slice none 0 0] 0 (kbu BK389.out))) Tryd.underlying72 rfl (by kernel_rfl)) rfl ?_
    exact ⟨_, by first | rfl | (simp [errW_none, errW_some] <;> rfl) | (simp [*, errW_none, errW_some] <;> rfl), by (with_reducible repeat (first | apply Kd.V_alloc | apply Kd.V_drewN | apply Kd.V_drew)); exact Kd.V_mono (Kd.V_far (p := ⟨gb389, 1, none⟩) (Kd.V_far (p := ⟨gb389, 0, none⟩) (Kd.V_mono HO400.out (fun k_ hk => (⟨hk, hk.2.2⟩ : _ ∧ k_ ≠ gb389))) (fun _ hk => hk.2) (.bool t397)) (fun _ hk => hk.2) (.slice Ao19 t398.length co19)) (fun _ hk => hk.1.1), by repeat (first | (with_reducible first | exact HB.out | apply below_alloc | apply pw_below_drewN | apply below_drew1 | refine below_set ?_ GE388.out | refine below_set ?_ GE389.out) | exact HB.out)⟩
end Go.Proofs.YtodhkpdcpneeeaaDoor.PDv
namespace Go.Proofs.YtodhkpdcpneeeaaDoor.PDv
open Go.RowKit Go.Proofs.YtodhkpdcpneeeaaDoorW.PrintWords Go.Proofs.YtodhkpdcpneeeaaDoorW.PrintLast Go.Proofs.YtodhkpdcpneeeaaDoorW.PrintMore
open Go.Proofs.YtodhkpdcpneeeaaDoor.Mine
attribute [local go_sem] max2_int min2_int max_two min_two max_three min_three max_four min_four
set_option linter.unusedVariables false
set_option linter.unusedSimpArgs false
mutual
def tribunalref02_To.l0 : Nat → List Int → Int → Bool → List Int → Option (Bool × List Int)
 | 0, _, _, _, _ => none
 | k + 1, x3, x4, x586000, x586001 => if x4 < (x586001.length : Int) then (tribunalref02_To.l1 k x3 x4 0 3 x586000 x586001) else (some (x586000, x3))
def tribunalref02_To.l1 : Nat → List Int → Int → Int → Int → Bool → List Int → Option (Bool × List Int)
 | 0, _, _, _, _, _, _ => none
 | k + 1, x3, x4, x5, x6, x586000, x586001 => if x6 ≥ 0 then (if (wrap64 (x4 + x6)) < (x586001.length : Int) then (if 0 ≤ (wrap64 (x4 + x6)) then (tribunalref02_To.l1 k x3 x4 (Go.bits .or .u64 (IntKind.u64.wrap (x5 * 65536)) (IntKind.u64.wrap (rd x586001 (wrap64 (x4 + x6))))) (wrap64 (x6 - 1)) x586000 x586001) else (none)) else (tribunalref02_To.l1 k x3 x4 (IntKind.u64.wrap (x5 * 65536)) (wrap64 (x6 - 1)) x586000 x586001)) else (if x3.length < 17592186044416 then (tribunalref02_To.l0 k (x3 ++ [x5]) (wrap64 (x4 + 4)) x586000 x586001) else (none))
end
def tribunalref02_To.f (k : Nat) (a0_0 : Bool) (l0_1 : List Int) : Option (Bool × List Int) := tribunalref02_To.l0 k ([] : List Int) 0 a0_0 l0_1
theorem tribunalref02_To.calls (k : Nat) (a0_0 : Bool) (A0_1 : Option Addr) (c0_1 : Nat) (l0_1 : List Int) (r1 : Bool) (r2 : List Int) (w : World) (hr0_1 : Kd.C (Kd.int .u16) w A0_1 l0_1.length l0_1) (hc0_1 : l0_1.length ≤ c0_1) (h : tribunalref02_To.f k a0_0 l0_1 = some (r1, r2)) :
  Calls Tryd.prog 85 #[.agg #[.bool a0_0, .slice A0_1 l0_1.length c0_1]] w fun e w' => ∃ v1_ : Value, e = .returned (.agg #[.bool r1, v1_]) ∧ Kd.R (Kd.int .u64) 59 w' w.heap.size (fun _ => True) v1_ r2 ∧ Below w.heap.size w w' := by
 have hu72 := Tryd.underlying72
 have hu25 := Tryd.underlying25
 have HR0_1 := Aside0.mk hr0_1
 have HC0_1 := Aside0.mk hc0_1
 clear hr0_1 hc0_1
 have HB := Aside0.mk (Below.refl w.heap.size w)
 have H : (tribunalref02_To.l0 k ([] : List Int) 0 a0_0 l0_1) = some (r1, r2) := h
 clear h
 have H' := Aside0.mk H
 clear H
 go_enter Tryd.func85, Tryd.ntmps85
 go_wp2_with (first | ((with_reducible refine gate_dst (N := 1) rfl ?_); refine kbe 1 #[.bool a0_0, .slice A0_1 l0_1.length c0_1] 72 ?_; intro gb585 hg w2 hbox hb; have BK585 := Aside0.mk (hbox); have GW585 := kbz hg HB; have GE585 := kbz hg HB; replace HB := kbs HB hb; clear hb hbox hg) | ((with_reducible refine gate_dst (N := 2) rfl ?_); refine kbe 2 #[.bool false, .slice none 0 0] 25 ?_; intro gb586 hg w3 hbox hb; have BK586 := Aside0.mk (hbox); have GW586 := kbz hg HB; have GE586 := kbz hg HB; replace HB := kbs HB hb; have NB585_586 := knl hg BK585; have NB586_585 := kng hg BK585; replace BK585 := kbb BK585 hb; clear hb hbox hg))
 go_loopg [3, 4] k (fun kq v3 v4 w' => ∃ (x3_1 : List Int) (x4_1 : Int), v4 = .int .i64 x4_1 ∧ Aside0 (tribunalref02_To.l0 kq x3_1 x4_1 a0_0 l0_1 = some (r1, r2)) ∧ Aside0 (kq ≤ k) ∧ Aside0 (Kd.R (Kd.int .u64) 59 w' w.heap.size (fun _ => True) v3 x3_1) ∧ Aside0 (w'.heap[gb585]? = some (.cells #[.bool a0_0, (.slice A0_1 l0_1.length c0_1)] 72 (0, 0))) ∧ Aside0 (w'.heap[gb586]? = some (.cells #[.bool false, (.slice none 0 0)] 25 (0, 0))) ∧ Aside0 (Below w.heap.size w w'))
 case atStart => exact ⟨(([] : List Int)), (0), (by first | rfl | (simp; done) | (simp [*]; done)), H', ⟨Nat.le_refl _⟩, ⟨by first | exact Kd.R_nil _ _ _ _ _ | exact Kd.N_nil _ _ _ _ _ | exact Kd.V_nil _ _ _ _ _ | exact Kd.Q_nil _ _ _ _ _ | exact Kd.S_nil _ _ _ _ _⟩, ⟨by (with_reducible repeat (first | refine blk_drewN ?_ _ | refine blk_drew ?_ | refine blk_alloc ?_ _)); exact BK585.out⟩, ⟨by (with_reducible repeat (first | refine blk_drewN ?_ _ | refine blk_drew ?_ | refine blk_alloc ?_ _)); exact BK586.out⟩, ⟨by repeat (first | (with_reducible first | exact HB.out | apply below_alloc | apply pw_below_drewN | apply below_drew1 | refine below_set ?_ GE585.out | refine below_set ?_ GE586.out) | exact HB.out)⟩⟩
 case round =>
  clear H'
  try clear p2
  obtain ⟨x3_1, x4_1, rfl, HA, HK1, HO_3, BK585, BK586, HB⟩ := hrel
  cases gk with
  | zero => exact absurd HA.out (by simp [tribunalref02_To.l0])
  | succ k1 =>
   have H := HA.out
   clear HA
   simp only [tribunalref02_To.l0] at H
   by_cases c4 : x4_1 < (l0_1.length : Int)
   ·rw [if_pos c4] at H
    have c4b0 : decide (x4_1 < (l0_1.length : Int)) = true := decide_eq_true c4
    clear c4
    have H' := Aside0.mk H
    clear H
    have hnb5 := NB585_586.out
    have hnc5 := NB586_585.out
    have hcz6_0 : wr.cell? ⟨gb585, 0, none⟩ = some (.bool a0_0) := (blk_cell BK585.out 0).trans rfl
    have hcz6_1 : wr.cell? ⟨gb585, 1, none⟩ = some (.slice A0_1 l0_1.length c0_1) := (blk_cell BK585.out 1).trans rfl
    have hfz6_0 := blk_frozen BK585.out 0
    have hfz6_1 := blk_frozen BK585.out 1
    go_wp2
    go_loopg [5, 6] k1 (fun kq v5 v6 w' => ∃ (x5_2 : Int) (x6_2 : Int), v5 = .int .u64 x5_2 ∧ v6 = .int .i64 x6_2 ∧ Aside0 (tribunalref02_To.l1 kq x3_1 x4_1 x5_2 x6_2 a0_0 l0_1 = some (r1, r2)) ∧ Aside0 (kq ≤ k1) ∧ Aside0 (Kd.R (Kd.int .u64) 59 w' w.heap.size (fun _ => True) u3 x3_1) ∧ Aside0 (w'.heap[gb585]? = some (.cells #[.bool a0_0, (.slice A0_1 l0_1.length c0_1)] 72 (0, 0))) ∧ Aside0 (w'.heap[gb586]? = some (.cells #[.bool false, (.slice none 0 0)] 25 (0, 0))) ∧ Aside0 (Below w.heap.size w w'))
    case atStart => exact ⟨(0), (3), (by first | rfl | (simp; done) | (simp [*]; done)), (by first | rfl | (simp; done) | (simp [*]; done)), H', ⟨Nat.le_refl _⟩, ⟨by (with_reducible repeat (first | apply Kd.R_alloc | apply Kd.R_drewN | apply Kd.R_drew)); exact HO_3.out⟩, ⟨by (with_reducible repeat (first | refine blk_drewN ?_ _ | refine blk_drew ?_ | refine blk_alloc ?_ _)); exact BK585.out⟩, ⟨by (with_reducible repeat (first | refine blk_drewN ?_ _ | refine blk_drew ?_ | refine blk_alloc ?_ _)); exact BK586.out⟩, ⟨by repeat (first | (with_reducible first | exact HB.out | apply below_alloc | apply pw_below_drewN | apply below_drew1 | refine below_set ?_ GE585.out | refine below_set ?_ GE586.out) | exact HB.out)⟩⟩
    case round =>
     clear H'
     try clear p2
     try clear c4
     try clear c4b0
     try clear c5
     try clear hcz6_0
     try clear hcz6_1
     try clear hfz6_0
     try clear hfz6_1
     try clear p2
     obtain ⟨x5_2, x6_2, rfl, rfl, HA, HK2, HO_3, BK585, BK586, HB⟩ := hrel
     cases gk with
     | zero => exact absurd HA.out (by simp [tribunalref02_To.l1])
     | succ k2 =>
      have H := HA.out
      clear HA
      simp only [tribunalref02_To.l1] at H
      by_cases c7 : x6_2 ≥ 0
      ·rw [if_pos c7] at H
       have c7b0 : decide (0 ≤ x6_2) = true := decide_eq_true c7
       clear c7
       by_cases c8 : (wrap64 (x4_1 + x6_2)) < (l0_1.length : Int)
       ·rw [if_pos c8] at H
        have c8b0 : decide ((wrap64 (x4_1 + x6_2)) < (l0_1.length : Int)) = true := decide_eq_true c8
        clear c8
        obtain ⟨ji9, hji9⟩ : ∃ j_ : Int, (wrap64 (x4_1 + x6_2)) = j_ := ⟨_, rfl⟩
        replace H : (if 0 ≤ (ji9) then (tribunalref02_To.l1 k2 x3_1 x4_1 (Go.bits .or .u64 (IntKind.u64.wrap (x5_2 * 65536)) (IntKind.u64.wrap (rd l0_1 (ji9)))) (wrap64 (x6_2 - 1)) a0_0 l0_1) else (none)) = some (r1, r2) := by first | (rw [hji9] at H; exact H) | (simp only [hji9] at H ⊢; exact H)
        (try rw [hji9] at c8b0)
        have hji9w : (IntKind.i64.wrap (x4_1 + x6_2)) = ji9 := (i64_w _).trans hji9
        by_cases c10 : 0 ≤ (ji9)
        ·rw [if_pos c10] at H
         have c10b0 : decide (0 ≤ (ji9)) = true := decide_eq_true c10
         clear c10
         have H' := Aside0.mk H
         clear H
         have hnb11 := NB585_586.out
         have hnc11 := NB586_585.out
         have hcz12_0 : wr.cell? ⟨gb585, 0, none⟩ = some (.bool a0_0) := (blk_cell BK585.out 0).trans rfl
         have hcz12_1 : wr.cell? ⟨gb585, 1, none⟩ = some (.slice A0_1 l0_1.length c0_1) := (blk_cell BK585.out 1).trans rfl
         have hfz12_0 := blk_frozen BK585.out 0
         have hfz12_1 := blk_frozen BK585.out 1
         have p587 : 0 ≤ ((ji9) : Int) := of_decide_eq_true ‹_›
         have q587 : (ji9) < (l0_1.length : Int) := of_decide_eq_true ‹_›
         obtain ⟨ad587, e587, hx587_0⟩ := Kd.at_int HR0_1.out (ji9) p587 q587
         cases e587
         replace hx587_0 := (HB.out.cell (World.block_lt_of_cell? w _ hx587_0)).trans hx587_0
         replace p587 := eq_true p587
         replace q587 := eq_true q587
         go_wp2
         go_roundg k2
         case measure => have := HK1.out; have := HK2.out; omega
         case rel => exact ⟨(Go.bits .or .u64 (IntKind.u64.wrap (x5_2 * 65536)) (IntKind.u64.wrap (rd l0_1 (ji9)))), (wrap64 (x6_2 - 1)), (by first | rfl | (simp; done) | (simp only [← hji9] <;> (first | rfl | simp)) | (simp [*]; done)), (by first | rfl | (simp; done) | (simp [*]; done)), H', ⟨by have := HK1.out; have := HK2.out; omega⟩, ⟨by (with_reducible repeat (first | apply Kd.R_alloc | apply Kd.R_drewN | apply Kd.R_drew)); exact HO_3.out⟩, ⟨by (with_reducible repeat (first | refine blk_drewN ?_ _ | refine blk_drew ?_ | refine blk_alloc ?_ _)); exact BK585.out⟩, ⟨by (with_reducible repeat (first | refine blk_drewN ?_ _ | refine blk_drew ?_ | refine blk_alloc ?_ _)); exact BK586.out⟩, ⟨by repeat (first | (with_reducible first | exact HB.out | apply below_alloc | apply pw_below_drewN | apply below_drew1 | refine below_set ?_ GE585.out | refine below_set ?_ GE586.out) | exact HB.out)⟩⟩
        ·rw [if_neg c10] at H
         exact absurd H (by simp)
       ·rw [if_neg c8] at H
        have c8b0 : decide ((wrap64 (x4_1 + x6_2)) < (l0_1.length : Int)) = false := decide_eq_false c8
        clear c8
        have H' := Aside0.mk H
        clear H
        have hnb13 := NB585_586.out
        have hnc13 := NB586_585.out
        have hcz14_0 : wr.cell? ⟨gb585, 0, none⟩ = some (.bool a0_0) := (blk_cell BK585.out 0).trans rfl
        have hcz14_1 : wr.cell? ⟨gb585, 1, none⟩ = some (.slice A0_1 l0_1.length c0_1) := (blk_cell BK585.out 1).trans rfl
        have hfz14_0 := blk_frozen BK585.out 0
        have hfz14_1 := blk_frozen BK585.out 1
        go_wp2
        go_roundg k2
        case measure => have := HK1.out; have := HK2.out; omega
        case rel => exact ⟨(IntKind.u64.wrap (x5_2 * 65536)), (wrap64 (x6_2 - 1)), (by first | rfl | (simp; done) | (simp [*]; done)), (by first | rfl | (simp; done) | (simp [*]; done)), H', ⟨by have := HK1.out; have := HK2.out; omega⟩, ⟨by (with_reducible repeat (first | apply Kd.R_alloc | apply Kd.R_drewN | apply Kd.R_drew)); exact HO_3.out⟩, ⟨by (with_reducible repeat (first | refine blk_drewN ?_ _ | refine blk_drew ?_ | refine blk_alloc ?_ _)); exact BK585.out⟩, ⟨by (with_reducible repeat (first | refine blk_drewN ?_ _ | refine blk_drew ?_ | refine blk_alloc ?_ _)); exact BK586.out⟩, ⟨by repeat (first | (with_reducible first | exact HB.out | apply below_alloc | apply pw_below_drewN | apply below_drew1 | refine below_set ?_ GE585.out | refine below_set ?_ GE586.out) | exact HB.out)⟩⟩
      ·rw [if_neg c7] at H
       have c7b0 : decide (0 ≤ x6_2) = false := decide_eq_false c7
       clear c7
       by_cases c15 : x3_1.length < 17592186044416
       ·rw [if_pos c15] at H
        have LMc15 := Aside0.mk c15
        clear c15
        obtain ⟨y588, hy588⟩ : ∃ y_ : List Int, y_ = (x3_1 ++ [x5_2]) := ⟨_, rfl⟩
        replace H : (tribunalref02_To.l0 k2 y588 (wrap64 (x4_1 + 4)) a0_0 l0_1) = some (r1, r2) := by first | (rw [hy588]; with_reducible exact H) | (have H2_ := (Option.bind_some _ _).symm.trans H; rw [hy588]; with_reducible exact H2_) | (have H2_ := (Option.bind_some _ _).symm.trans H; with_reducible exact H2_) | with_reducible exact H | (rw [hy588]; exact H) | exact H
        have Ny588 := Aside0.mk hy588
        clear hy588
        have H' := Aside0.mk H
        clear H
        go_wp2_with (first | ((with_reducible refine gate_builtin (b := .append) (xs := #[.tmp 37, .tmp 39]) rfl ?_); at_builtin; refine Kd.R_append (Kd.int .u64) (w0 := w) w.heap.size rfl (.tmp 37) (.tmp 39) 23 59 (.int .u64 0) 8 rfl Tryd.underlying23 info59 rfl (by decide) (by omega) u3 x3_1 x5_2 [.int .u64 x5_2] (fun _ => True) (fun _ => False) rfl rfl ?aP (fun _ hk => hk.elim) ?aF ?aO ?aB ?aS ?aL ?_; (case aP => exact rfl); (case aB => exact (khu HB.out)); (case aF => exact (fun _ _ => trivial)); (case aO => exact (kru HO_3.out)); (case aS => exact (below_size (khu HB.out))); (case aL => have := LMc15.out; omega); intro v589 w16 ho hb hg hat; rw [← Ny588.out] at ho; replace BK585 := Aside0.mk (blk_grown (g := gb585) (o := .cells #[.bool a0_0, .slice A0_1 l0_1.length c0_1] 72 (0, 0)) (kbu BK585.out) hg (Kd.R_ne HO_3.out BK585.out (by decide))); replace BK586 := Aside0.mk (blk_grown (g := gb586) (o := .cells #[.bool false, .slice none 0 0] 25 (0, 0)) (kbu BK586.out) hg (Kd.R_ne HO_3.out BK586.out (by decide))); replace HB := Aside0.mk (hb); have HO590 := Aside0.mk (ho); clear HO_3; clear ho hb hg hat))
        go_roundg k2
        case measure => have := HK1.out; have := HK2.out; omega
        case rel => exact ⟨(y588), (wrap64 (x4_1 + 4)), (by first | rfl | (simp; done) | (simp [*]; done)), H', ⟨by have := HK1.out; have := HK2.out; omega⟩, ⟨by (with_reducible repeat (first | apply Kd.R_alloc | apply Kd.R_drewN | apply Kd.R_drew)); exact HO590.out⟩, ⟨by (with_reducible repeat (first | refine blk_drewN ?_ _ | refine blk_drew ?_ | refine blk_alloc ?_ _)); exact BK585.out⟩, ⟨by (with_reducible repeat (first | refine blk_drewN ?_ _ | refine blk_drew ?_ | refine blk_alloc ?_ _)); exact BK586.out⟩, ⟨by repeat (first | (with_reducible first | exact HB.out | apply below_alloc | apply pw_below_drewN | apply below_drew1 | refine below_set ?_ GE585.out | refine below_set ?_ GE586.out) | exact HB.out)⟩⟩
       ·rw [if_neg c15] at H
        exact absurd H (by simp)
   ·rw [if_neg c4] at H
    have c4b0 : decide (x4_1 < (l0_1.length : Int)) = false := decide_eq_false c4
    clear c4
    simp only [Option.some.injEq, Prod.mk.injEq] at H
    obtain ⟨rfl, rfl⟩ := H
    have hnb17 := NB585_586.out
    have hnc17 := NB586_585.out
    have hcz18_0 : wr.cell? ⟨gb585, 0, none⟩ = some (.bool a0_0) := (blk_cell BK585.out 0).trans rfl
    have hcz18_1 : wr.cell? ⟨gb585, 1, none⟩ = some (.slice A0_1 l0_1.length c0_1) := (blk_cell BK585.out 1).trans rfl
    have hfz18_0 := blk_frozen BK585.out 0
    have hfz18_1 := blk_frozen BK585.out 1
    obtain ⟨Ao19, co19, eo19⟩ := Kd.R_slice HO_3.out
    subst eo19
    have hcz20_0 : wr.cell? ⟨gb586, 0, none⟩ = some (.bool false) := (blk_cell BK586.out 0).trans rfl
    have hcz20_1 : wr.cell? ⟨gb586, 1, none⟩ = some (.slice none 0 0) := (blk_cell BK586.out 1).trans rfl
    have hfz20_0 := blk_frozen BK586.out 0
    have hfz20_1 := blk_frozen BK586.out 1
    go_wp2
    refine bodyPost_ret (results_cell_row rfl _ _ gb586 25 #[.bool a0_0, .slice Ao19 x3_1.length co19] (0, 0) _ rfl (kpu #[.bool a0_0, .slice none 0 0] 1 (kpu #[.bool false, .slice none 0 0] 0 (kbu BK586.out))) Tryd.underlying25 rfl (by kernel_rfl)) rfl ?_
    exact ⟨_, by first | rfl | (simp [errW_none, errW_some] <;> rfl) | (simp [*, errW_none, errW_some] <;> rfl), by (with_reducible repeat (first | apply Kd.R_alloc | apply Kd.R_drewN | apply Kd.R_drew)); exact Kd.R_mono (Kd.R_far (p := ⟨gb586, 1, none⟩) (Kd.R_far (p := ⟨gb586, 0, none⟩) (Kd.R_types HO_3.out BK586.out (by decide)) (fun _ hk => hk.2) (.bool a0_0)) (fun _ hk => hk.2) (.slice Ao19 x3_1.length co19)) (fun _ hk => trivial), by repeat (first | (with_reducible first | exact HB.out | apply below_alloc | apply pw_below_drewN | apply below_drew1 | refine below_set ?_ GE585.out | refine below_set ?_ GE586.out) | exact HB.out)⟩
end Go.Proofs.YtodhkpdcpneeeaaDoor.PDv
namespace Go.Proofs.YtodhkpdcpneeeaaDoor.PDv
open Go.Proofs.YtodhkpdcpneeeaaDoor.Mine Go.RowKit Go.Proofs.YtodhkpdcpneeeaaDoorW.PrintWords Go.Proofs.YtodhkpdcpneeeaaDoorW.PrintLast Go.Proofs.YtodhkpdcpneeeaaDoorW.PrintMore
open Go.Proofs.YtodhkpdcpneeeaaDoor.Mine
attribute [local go_sem] max2_int min2_int max_two min_two max_three min_three max_four min_four
set_option linter.unusedVariables false
set_option linter.unusedSimpArgs false
def tribunalref02_Out.f (k : Nat) (a0_0 : Bool) (l0_1 : List Int) : Option (Bool × List Int × Int) := if (l0_1.length : Int) > 16384 then (some (false, ([] : List Int), 5)) else ((tribunalref02_To.f k a0_0 l0_1).bind fun bt593 => (some (bt593.1, bt593.2, 0)))
theorem tribunalref02_Out.calls (k : Nat) (a0_0 : Bool) (A0_1 : Option Addr) (c0_1 : Nat) (l0_1 : List Int) (r1 : Bool) (r2 : List Int) (r3 : Int) (w : World) (hr0_1 : Kd.C (Kd.int .u16) w A0_1 l0_1.length l0_1) (hc0_1 : l0_1.length ≤ c0_1) (h : tribunalref02_Out.f k a0_0 l0_1 = some (r1, r2, r3)) :
  Calls Tryd.prog 77 #[.agg #[.bool a0_0, .slice A0_1 l0_1.length c0_1]] w fun e w' => ∃ v1_ : Value, e = .returned (.tuple #[.agg #[.bool r1, v1_], .int .i64 r3]) ∧ Kd.R (Kd.int .u64) 59 w' w.heap.size (fun _ => True) v1_ r2 ∧ Below w.heap.size w w' := by
 have hu25 := Tryd.underlying25
 have hu72 := Tryd.underlying72
 have K := Kp.refl w
 replace K := K.parV (Kd.V_mono (ok' := fun _ => True) (Kd.V_mk (e := 94) (base := 0) hc0_1 (Kd.C_F (Kd.heap_int .u16) hr0_1)) (fun _ h => trivial))
 clear hr0_1 hc0_1
 simp only [klv] at K
 rw [tribunalref02_Out.f] at h
 by_cases c_0 : (l0_1.length : Int) > 16384
 ·rw [if_pos c_0] at h
  have c_0b : decide ((l0_1.length : Int) > 16384) = true := decide_eq_true c_0
  simp only [Option.some.injEq, Prod.mk.injEq] at h
  obtain ⟨rfl, rfl, rfl⟩ := h
  go_enter Tryd.func77, Tryd.ntmps77
  go_wp2_with (first | ((with_reducible refine gate_dst (N := 1) rfl ?_); refine kbe 1 #[.bool a0_0, .slice A0_1 l0_1.length c0_1] 72 ?_; intro g1 hg W2 hx hb; replace K := K.u.box hg hx hb; clear hg hx hb) | ((with_reducible refine gate_dst (N := 2) rfl ?_); refine kbe 2 #[.bool false, .slice none 0 0] 25 ?_; intro g3 hg W4 hx hb; replace K := K.u.box hg hx hb; clear hg hx hb; obtain ⟨ua0, ub0⟩ := K.cell2 0 rfl) | ((with_reducible refine gate_store (t := 25) (p := 2) (v := .tmp 8) rfl ?_); clear ua0 ub0; refine kst2 1 (.bool false) (.slice none 0 0) K.u rfl ?q6 ?_; (case q6 => intro c0 c1 f0 f1; first | (go_simp; done) | (go_simp; rfl)); clear K; intro W5 K; simp only [kls, klv] at K))
  refine bodyPost_ret (results_list (rs := [.cell 2 25, .tmp 3]) rfl (by simp) (.cell g3 25 #[.bool false, .slice none 0 0] (0, 0) _ rfl (K.u.heap 1 rfl) Tryd.underlying25 rfl (by kernel_rfl) (.tmp .nil))) rfl ?_
  exact ⟨_, rfl, Kd.R_nil _ _ _ _ _, K.u.below⟩
 ·rw [if_neg c_0] at h
  have c_0b : decide ((l0_1.length : Int) > 16384) = false := decide_eq_false c_0
  replace h := bindA h
  obtain ⟨⟨z5, x6⟩, A7, h⟩ := h
  dsimp only at h
  simp only [Option.some.injEq, Prod.mk.injEq] at h
  obtain ⟨rfl, rfl, rfl⟩ := h
  go_enter Tryd.func77, Tryd.ntmps77
  go_wp2_with (first | ((with_reducible refine gate_dst (N := 1) rfl ?_); refine kbe 1 #[.bool a0_0, .slice A0_1 l0_1.length c0_1] 72 ?_; intro g1 hg W2 hx hb; replace K := K.u.box hg hx hb; clear hg hx hb) | ((with_reducible refine gate_dst (N := 2) rfl ?_); refine kbe 2 #[.bool false, .slice none 0 0] 25 ?_; intro g3 hg W4 hx hb; replace K := K.u.box hg hx hb; clear hg hx hb; obtain ⟨ua0, ub0⟩ := K.cell2 0 rfl) | ((with_reducible refine gate_dst (N := 10) rfl ?_); clear ua0 ub0; refine kgl (some 10) rfl rfl Tryd.func85 #[.agg #[.bool a0_0, .slice A0_1 l0_1.length c0_1]] rfl ?_; refine (tribunalref02_To.calls _ a0_0 _ _ l0_1 z5 x6 _ (K.C 0 rfl) (K.le 0 rfl) A7.out).mono ?_; rintro e W10 ⟨v8, rfl, ho9, hb⟩; refine ⟨_, rfl, ?_⟩; replace K := K.u.addRE hb ho9; clear hb ho9; obtain ⟨P11, c12, e13⟩ := K.slice 1 rfl; subst e13) | ((with_reducible refine gate_store (t := 25) (p := 2) (v := .tmp 10) rfl ?_); refine kst2 1 (.bool z5) (.slice P11 x6.length c12) K.u rfl ?q15 ?_; (case q15 => intro c0 c1 f0 f1; first | (go_simp; done) | (go_simp; rfl)); clear K; intro W14 K; simp only [kls, klv] at K))
  refine bodyPost_ret (results_list (rs := [.cell 2 25, .tmp 3]) rfl (by simp) (.cell g3 25 #[.bool z5, .slice P11 x6.length c12] (0, 0) _ rfl (K.u.heap 1 rfl) Tryd.underlying25 rfl (by kernel_rfl) (.tmp .nil))) rfl ?_
  exact ⟨_, rfl, K.u.R 0 rfl, K.u.below⟩
end Go.Proofs.YtodhkpdcpneeeaaDoor.PDv
namespace Go.Proofs.YtodhkpdcpneeeaaDoor.PDv
open Go.RowKit Go.Proofs.YtodhkpdcpneeeaaDoorW.PrintWords Go.Proofs.YtodhkpdcpneeeaaDoorW.PrintLast Go.Proofs.YtodhkpdcpneeeaaDoorW.PrintMore
open Go.Proofs.YtodhkpdcpneeeaaDoor.Mine
attribute [local go_sem] max2_int min2_int max_two min_two max_three min_three max_four min_four
set_option linter.unusedVariables false
set_option linter.unusedSimpArgs false
def tribunalref02_cmpD.l0 : Nat → List Int → List Int → Int → Option (Int)
 | 0, _, _, _ => none
 | k + 1, x0, x1, x5 => if x5 ≥ 0 then (if 0 ≤ x5 then (if x5 < (x0.length : Int) then (if x5 < (x1.length : Int) then (if (rd x0 x5) < (rd x1 x5) then (some (-1)) else (if (rd x0 x5) > (rd x1 x5) then (some 1) else (tribunalref02_cmpD.l0 k x0 x1 (wrap64 (x5 - 1))))) else (none)) else (none)) else (none)) else (some 0)
def tribunalref02_cmpD.f (k : Nat) (l0 : List Int) (l1 : List Int) : Option (Int) := if (l0.length : Int) = (l1.length : Int) then (tribunalref02_cmpD.l0 k l0 l1 (wrap64 ((l0.length : Int) - 1))) else (if (l0.length : Int) < (l1.length : Int) then (some (-1)) else (some 1))
theorem tribunalref02_cmpD.calls (k : Nat) (A0 : Option Addr) (c0 : Nat) (l0 : List Int) (A1 : Option Addr) (c1 : Nat) (l1 : List Int) (r : Int) (w : World) (hr0 : Kd.C (Kd.int .u16) w A0 l0.length l0) (hc0 : l0.length ≤ c0) (hr1 : Kd.C (Kd.int .u16) w A1 l1.length l1) (hc1 : l1.length ≤ c1) (h : tribunalref02_cmpD.f k l0 l1 = some r) :
  Calls Tryd.prog 107 #[.slice A0 l0.length c0, .slice A1 l1.length c1] w fun e w' => e = .returned (.int .i64 r) ∧ Drawn0 w w' := by
 have HR0 := Aside0.mk hr0
 have HC0 := Aside0.mk hc0
 clear hr0 hc0
 have HR1 := Aside0.mk hr1
 have HC1 := Aside0.mk hc1
 clear hr1 hc1
 have H : (if (l0.length : Int) = (l1.length : Int) then (tribunalref02_cmpD.l0 k l0 l1 (wrap64 ((l0.length : Int) - 1))) else (if (l0.length : Int) < (l1.length : Int) then (some (-1)) else (some 1))) = some r := h
 clear h
 by_cases c3 : (l0.length : Int) = (l1.length : Int)
 ·rw [if_pos c3] at H
  have c3b0 : ((l0.length : Int) == (l1.length : Int)) = true := beq_iff_eq.mpr c3
  have c3b1 : ((l0.length : Int) != (l1.length : Int)) = false := bne_eq_false_iff_eq.mpr c3
  have c3b2 : (l0.length == l1.length) = true := by first | simpa using c3 | (simp at c3 ⊢; omega)
  clear c3
  have H' := Aside0.mk H
  clear H
  go_enter Tryd.func107, Tryd.ntmps107
  go_wp2
  repeat (go_quiet (fail); try go_wp2)
  go_loopg [5] k (fun kq v5 w' => ∃ (x5_1 : Int), v5 = .int .i64 x5_1 ∧ Aside0 (tribunalref02_cmpD.l0 kq l0 l1 x5_1 = some r) ∧ Aside0 (kq ≤ k) ∧ Drawn0 w w')
  case atStart => exact ⟨(wrap64 ((l0.length : Int) - 1)), (by first | rfl | (simp; done) | (simp [*]; done)), H', ⟨Nat.le_refl _⟩, by repeat (first | exact Drawn0.refl _ | apply Drawn0.step)⟩
  case round =>
   clear H'
   try clear c1
   try clear p2
   try clear c3
   try clear c3b0
   try clear c3b1
   try clear c3b2
   obtain ⟨x5_1, rfl, HA, HK1, ⟨m1, rfl⟩⟩ := hrel
   cases gk with
   | zero => exact absurd HA.out (by simp [tribunalref02_cmpD.l0])
   | succ k1 =>
    have H := HA.out
    clear HA
    simp only [tribunalref02_cmpD.l0] at H
    by_cases c4 : x5_1 ≥ 0
    ·rw [if_pos c4] at H
     have c4b0 : decide (0 ≤ x5_1) = true := decide_eq_true c4
     clear c4
     by_cases c5 : 0 ≤ x5_1
     ·rw [if_pos c5] at H
      have c5b0 : decide (0 ≤ x5_1) = true := decide_eq_true c5
      clear c5
      by_cases c6 : x5_1 < (l0.length : Int)
      ·rw [if_pos c6] at H
       have c6b0 : decide (x5_1 < (l0.length : Int)) = true := decide_eq_true c6
       clear c6
       by_cases c7 : x5_1 < (l1.length : Int)
       ·rw [if_pos c7] at H
        have c7b0 : decide (x5_1 < (l1.length : Int)) = true := decide_eq_true c7
        clear c7
        by_cases c8 : (rd l0 x5_1) < (rd l1 x5_1)
        ·rw [if_pos c8] at H
         have c8b0 : decide ((rd l0 x5_1) < (rd l1 x5_1)) = true := decide_eq_true c8
         clear c8
         obtain rfl := Option.some.inj H
         have p401 : 0 ≤ (x5_1 : Int) := of_decide_eq_true ‹_›
         have q401 : x5_1 < (l0.length : Int) := of_decide_eq_true ‹_›
         obtain ⟨ad401, e401, hx401_0⟩ := Kd.at_int HR0.out x5_1 p401 q401
         cases e401
         replace p401 := eq_true p401
         replace q401 := eq_true q401
         have p402 : 0 ≤ (x5_1 : Int) := of_decide_eq_true ‹_›
         have q402 : x5_1 < (l1.length : Int) := of_decide_eq_true ‹_›
         obtain ⟨ad402, e402, hx402_0⟩ := Kd.at_int HR1.out x5_1 p402 q402
         cases e402
         replace p402 := eq_true p402
         replace q402 := eq_true q402
         go_wp2
         repeat (go_quiet (fail); try go_wp2)
         go_ret
         exact ⟨by first | rfl | (simp; done) | (simp [*]; done), by repeat (first | exact Drawn0.refl _ | apply Drawn0.step)⟩
        ·rw [if_neg c8] at H
         have c8b0 : decide ((rd l0 x5_1) < (rd l1 x5_1)) = false := decide_eq_false c8
         clear c8
         by_cases c9 : (rd l0 x5_1) > (rd l1 x5_1)
         ·rw [if_pos c9] at H
          have c9b0 : decide ((rd l1 x5_1) < (rd l0 x5_1)) = true := decide_eq_true c9
          clear c9
          obtain rfl := Option.some.inj H
          have p401 : 0 ≤ (x5_1 : Int) := of_decide_eq_true ‹_›
          have q401 : x5_1 < (l0.length : Int) := of_decide_eq_true ‹_›
          obtain ⟨ad401, e401, hx401_0⟩ := Kd.at_int HR0.out x5_1 p401 q401
          cases e401
          replace p401 := eq_true p401
          replace q401 := eq_true q401
          have p402 : 0 ≤ (x5_1 : Int) := of_decide_eq_true ‹_›
          have q402 : x5_1 < (l1.length : Int) := of_decide_eq_true ‹_›
          obtain ⟨ad402, e402, hx402_0⟩ := Kd.at_int HR1.out x5_1 p402 q402
          cases e402
          replace p402 := eq_true p402
          replace q402 := eq_true q402
          have p403 : 0 ≤ (x5_1 : Int) := of_decide_eq_true ‹_›
          have q403 : x5_1 < (l0.length : Int) := of_decide_eq_true ‹_›
          obtain ⟨ad403, e403, hx403_0⟩ := Kd.at_int HR0.out x5_1 p403 q403
          obtain rfl : ad401 = ad403 := (by injection e403)
          replace p403 := eq_true p403
          replace q403 := eq_true q403
          have p404 : 0 ≤ (x5_1 : Int) := of_decide_eq_true ‹_›
          have q404 : x5_1 < (l1.length : Int) := of_decide_eq_true ‹_›
          obtain ⟨ad404, e404, hx404_0⟩ := Kd.at_int HR1.out x5_1 p404 q404
          obtain rfl : ad402 = ad404 := (by injection e404)
          replace p404 := eq_true p404
          replace q404 := eq_true q404
          go_wp2
          repeat (go_quiet (fail); try go_wp2)
          go_ret
          exact ⟨by first | rfl | (simp; done) | (simp [*]; done), by repeat (first | exact Drawn0.refl _ | apply Drawn0.step)⟩
         ·rw [if_neg c9] at H
          have c9b0 : decide ((rd l1 x5_1) < (rd l0 x5_1)) = false := decide_eq_false c9
          clear c9
          have H' := Aside0.mk H
          clear H
          have p401 : 0 ≤ (x5_1 : Int) := of_decide_eq_true ‹_›
          have q401 : x5_1 < (l0.length : Int) := of_decide_eq_true ‹_›
          obtain ⟨ad401, e401, hx401_0⟩ := Kd.at_int HR0.out x5_1 p401 q401
          cases e401
          replace p401 := eq_true p401
          replace q401 := eq_true q401
          have p402 : 0 ≤ (x5_1 : Int) := of_decide_eq_true ‹_›
          have q402 : x5_1 < (l1.length : Int) := of_decide_eq_true ‹_›
          obtain ⟨ad402, e402, hx402_0⟩ := Kd.at_int HR1.out x5_1 p402 q402
          cases e402
          replace p402 := eq_true p402
          replace q402 := eq_true q402
          have p403 : 0 ≤ (x5_1 : Int) := of_decide_eq_true ‹_›
          have q403 : x5_1 < (l0.length : Int) := of_decide_eq_true ‹_›
          obtain ⟨ad403, e403, hx403_0⟩ := Kd.at_int HR0.out x5_1 p403 q403
          obtain rfl : ad401 = ad403 := (by injection e403)
          replace p403 := eq_true p403
          replace q403 := eq_true q403
          have p404 : 0 ≤ (x5_1 : Int) := of_decide_eq_true ‹_›
          have q404 : x5_1 < (l1.length : Int) := of_decide_eq_true ‹_›
          obtain ⟨ad404, e404, hx404_0⟩ := Kd.at_int HR1.out x5_1 p404 q404
          obtain rfl : ad402 = ad404 := (by injection e404)
          replace p404 := eq_true p404
          replace q404 := eq_true q404
          go_wp2
          repeat (go_quiet (fail); try go_wp2)
          go_roundg k1
          case measure => have := HK1.out; omega
          case rel => exact ⟨(wrap64 (x5_1 - 1)), (by first | rfl | (simp; done) | (simp [*]; done)), H', ⟨by have := HK1.out; omega⟩, by repeat (first | exact Drawn0.refl _ | apply Drawn0.step)⟩
       ·rw [if_neg c7] at H
        exact absurd H (by simp)
      ·rw [if_neg c6] at H
       exact absurd H (by simp)
     ·rw [if_neg c5] at H
      exact absurd H (by simp)
    ·rw [if_neg c4] at H
     have c4b0 : decide (0 ≤ x5_1) = false := decide_eq_false c4
     clear c4
     obtain rfl := Option.some.inj H
     go_wp2
     repeat (go_quiet (fail); try go_wp2)
     go_ret
     exact ⟨by first | rfl | (simp; done) | (simp [*]; done), by repeat (first | exact Drawn0.refl _ | apply Drawn0.step)⟩
 ·rw [if_neg c3] at H
  have c3b0 : ((l0.length : Int) == (l1.length : Int)) = false := beq_eq_false_iff_ne.mpr c3
  have c3b1 : ((l0.length : Int) != (l1.length : Int)) = true := bne_iff_ne.mpr c3
  have c3b2 : (l0.length == l1.length) = false := by first | simpa using c3 | (simp at c3 ⊢; omega)
  by_cases c10 : (l0.length : Int) < (l1.length : Int)
  ·rw [if_pos c10] at H
   have c10b0 : decide ((l0.length : Int) < (l1.length : Int)) = true := decide_eq_true c10
   have c10b1 : decide (l0.length < l1.length) = true := decide_eq_true (Int.ofNat_lt.mp c10)
   clear c10
   obtain rfl := Option.some.inj H
   go_enter Tryd.func107, Tryd.ntmps107
   go_wp2
   repeat (go_quiet (fail); try go_wp2)
   go_ret
   exact ⟨by first | rfl | (simp; done) | (simp [*]; done), by repeat (first | exact Drawn0.refl _ | apply Drawn0.step)⟩
  ·rw [if_neg c10] at H
   have c10b0 : decide ((l0.length : Int) < (l1.length : Int)) = false := decide_eq_false c10
   have c10b1 : decide (l0.length < l1.length) = false := decide_eq_false (fun h => c10 (Int.ofNat_lt.mpr h))
   clear c10
   obtain rfl := Option.some.inj H
   go_enter Tryd.func107, Tryd.ntmps107
   go_wp2
   repeat (go_quiet (fail); try go_wp2)
   go_ret
   exact ⟨by first | rfl | (simp; done) | (simp [*]; done), by repeat (first | exact Drawn0.refl _ | apply Drawn0.step)⟩
def tribunalref02_subD.l0 : Nat → List Int → List Int → List Int → Int → Int → Option (List Int)
 | 0, _, _, _, _, _ => none
 | k + 1, x0, x1, x5, x6, x7 => if x7 < (x0.length : Int) then (if 0 ≤ x7 then (if x7 < (x1.length : Int) then (if (wrap32 ((wrap32 ((wrap32 (rd x0 x7)) - x6)) - (wrap32 (rd x1 x7)))) < 0 then (if x5.length < 70368744177664 then (tribunalref02_subD.l0 k x0 x1 (x5 ++ [IntKind.u16.wrap (wrap32 ((wrap32 ((wrap32 ((wrap32 (rd x0 x7)) - x6)) - (wrap32 (rd x1 x7)))) + 65536))]) 1 (wrap64 (x7 + 1))) else (none)) else (if x5.length < 70368744177664 then (tribunalref02_subD.l0 k x0 x1 (x5 ++ [IntKind.u16.wrap (wrap32 ((wrap32 ((wrap32 (rd x0 x7)) - x6)) - (wrap32 (rd x1 x7))))]) 0 (wrap64 (x7 + 1))) else (none))) else (if (wrap32 ((wrap32 (rd x0 x7)) - x6)) < 0 then (if x5.length < 70368744177664 then (tribunalref02_subD.l0 k x0 x1 (x5 ++ [IntKind.u16.wrap (wrap32 ((wrap32 ((wrap32 (rd x0 x7)) - x6)) + 65536))]) 1 (wrap64 (x7 + 1))) else (none)) else (if x5.length < 70368744177664 then (tribunalref02_subD.l0 k x0 x1 (x5 ++ [IntKind.u16.wrap (wrap32 ((wrap32 (rd x0 x7)) - x6))]) 0 (wrap64 (x7 + 1))) else (none)))) else (none)) else ((tribunalref02_trim.f k x5).bind fun t405 => (some t405))
def tribunalref02_subD.f (k : Nat) (l0 : List Int) (l1 : List Int) : Option (List Int) := tribunalref02_subD.l0 k l0 l1 ([] : List Int) 0 0
theorem tribunalref02_subD.calls (k : Nat) (A0 : Option Addr) (c0 : Nat) (l0 : List Int) (A1 : Option Addr) (c1 : Nat) (l1 : List Int) (r : List Int) (w : World) (hr0 : Kd.C (Kd.int .u16) w A0 l0.length l0) (hc0 : l0.length ≤ c0) (hr1 : Kd.C (Kd.int .u16) w A1 l1.length l1) (hc1 : l1.length ≤ c1) (h : tribunalref02_subD.f k l0 l1 = some r) :
  Calls Tryd.prog 108 #[.slice A0 l0.length c0, .slice A1 l1.length c1] w fun e w' => ∃ v0_ : Value, e = .returned (v0_) ∧ Kd.V (Kd.int .u16) 94 w' w.heap.size (fun k_ => (w.heap.size ≤ k_)) v0_ r ∧ Below w.heap.size w w' := by
 have HR0 := Aside0.mk hr0
 have HC0 := Aside0.mk hc0
 clear hr0 hc0
 have HR1 := Aside0.mk hr1
 have HC1 := Aside0.mk hc1
 clear hr1 hc1
 have HB := Aside0.mk (Below.refl w.heap.size w)
 have H : (tribunalref02_subD.l0 k l0 l1 ([] : List Int) 0 0) = some r := h
 clear h
 have H' := Aside0.mk H
 clear H
 go_enter Tryd.func108, Tryd.ntmps108
 go_wp2
 go_loopg [5, 6, 7] k (fun kq v5 v6 v7 w' => ∃ (x5_1 : List Int) (x6_1 : Int) (x7_1 : Int), v6 = .int .i32 x6_1 ∧ v7 = .int .i64 x7_1 ∧ Aside0 (tribunalref02_subD.l0 kq l0 l1 x5_1 x6_1 x7_1 = some r) ∧ Aside0 (kq ≤ k) ∧ Aside0 (Kd.R (Kd.int .u16) 94 w' w.heap.size (fun k_ => (w.heap.size ≤ k_)) v5 x5_1) ∧ Aside0 (Below w.heap.size w w'))
 case atStart => exact ⟨(([] : List Int)), (0), (0), (by first | rfl | (simp; done) | (simp [*]; done)), (by first | rfl | (simp; done) | (simp [*]; done)), H', ⟨Nat.le_refl _⟩, ⟨by first | exact Kd.R_nil _ _ _ _ _ | exact Kd.N_nil _ _ _ _ _ | exact Kd.V_nil _ _ _ _ _ | exact Kd.Q_nil _ _ _ _ _ | exact Kd.S_nil _ _ _ _ _⟩, ⟨by repeat (first | (with_reducible first | exact HB.out | apply below_alloc | apply pw_below_drewN | apply below_drew1) | exact HB.out)⟩⟩
 case round =>
  clear H'
  try clear c1
  try clear p2
  obtain ⟨x5_1, x6_1, x7_1, rfl, rfl, HA, HK1, HO_5, HB⟩ := hrel
  cases gk with
  | zero => exact absurd HA.out (by simp [tribunalref02_subD.l0])
  | succ k1 =>
   have H := HA.out
   clear HA
   simp only [tribunalref02_subD.l0] at H
   by_cases c3 : x7_1 < (l0.length : Int)
   ·rw [if_pos c3] at H
    have c3b0 : decide (x7_1 < (l0.length : Int)) = true := decide_eq_true c3
    clear c3
    by_cases c4 : 0 ≤ x7_1
    ·rw [if_pos c4] at H
     have c4b0 : decide (0 ≤ x7_1) = true := decide_eq_true c4
     clear c4
     by_cases c5 : x7_1 < (l1.length : Int)
     ·rw [if_pos c5] at H
      have c5b0 : decide (x7_1 < (l1.length : Int)) = true := decide_eq_true c5
      clear c5
      by_cases c6 : (wrap32 ((wrap32 ((wrap32 (rd l0 x7_1)) - x6_1)) - (wrap32 (rd l1 x7_1)))) < 0
      ·rw [if_pos c6] at H
       have c6b0 : decide ((wrap32 ((wrap32 ((wrap32 (rd l0 x7_1)) - x6_1)) - (wrap32 (rd l1 x7_1)))) < 0) = true := decide_eq_true c6
       clear c6
       by_cases c7 : x5_1.length < 70368744177664
       ·rw [if_pos c7] at H
        have LMc7 := Aside0.mk c7
        clear c7
        obtain ⟨y410, hy410⟩ : ∃ y_ : List Int, y_ = (x5_1 ++ [IntKind.u16.wrap (wrap32 ((wrap32 ((wrap32 ((wrap32 (rd l0 x7_1)) - x6_1)) - (wrap32 (rd l1 x7_1)))) + 65536))]) := ⟨_, rfl⟩
        replace H : (tribunalref02_subD.l0 k1 l0 l1 y410 1 (wrap64 (x7_1 + 1))) = some r := by first | (rw [hy410]; with_reducible exact H) | (have H2_ := (Option.bind_some _ _).symm.trans H; rw [hy410]; with_reducible exact H2_) | (have H2_ := (Option.bind_some _ _).symm.trans H; with_reducible exact H2_) | with_reducible exact H | (rw [hy410]; exact H) | exact H
        have Ny410 := Aside0.mk hy410
        clear hy410
        have H' := Aside0.mk H
        clear H
        have p408 : 0 ≤ (x7_1 : Int) := of_decide_eq_true ‹_›
        have q408 : x7_1 < (l0.length : Int) := of_decide_eq_true ‹_›
        obtain ⟨ad408, e408, hx408_0⟩ := Kd.at_int HR0.out x7_1 p408 q408
        cases e408
        replace hx408_0 := (HB.out.cell (World.block_lt_of_cell? w _ hx408_0)).trans hx408_0
        replace p408 := eq_true p408
        replace q408 := eq_true q408
        have p409 : 0 ≤ (x7_1 : Int) := of_decide_eq_true ‹_›
        have q409 : x7_1 < (l1.length : Int) := of_decide_eq_true ‹_›
        obtain ⟨ad409, e409, hx409_0⟩ := Kd.at_int HR1.out x7_1 p409 q409
        cases e409
        replace hx409_0 := (HB.out.cell (World.block_lt_of_cell? w _ hx409_0)).trans hx409_0
        replace p409 := eq_true p409
        replace q409 := eq_true q409
        go_wp2_with (first | ((with_reducible refine gate_builtin (b := .append) (xs := #[.tmp 37, .tmp 40]) rfl ?_); at_builtin; refine Kd.R_append (Kd.int .u16) (w0 := w) w.heap.size rfl (.tmp 37) (.tmp 40) 70 94 (.int .u16 0) 2 rfl Tryd.underlying70 info94 rfl (by decide) (by omega) u5 x5_1 (IntKind.u16.wrap (wrap32 ((wrap32 ((wrap32 ((wrap32 (rd l0 x7_1)) - x6_1)) - (wrap32 (rd l1 x7_1)))) + 65536))) [.int .u16 (IntKind.u16.wrap (wrap32 ((wrap32 ((wrap32 ((wrap32 (rd l0 x7_1)) - x6_1)) - (wrap32 (rd l1 x7_1)))) + 65536)))] (fun k_ => (w.heap.size ≤ k_)) (fun _ => False) rfl rfl ?aP (fun _ hk => hk.elim) ?aF ?aO ?aB ?aS ?aL ?_; (case aP => exact rfl); (case aB => exact (khu HB.out)); (case aF => exact (fun k_ hk => (Nat.le_trans (below_size (khu HB.out)) hk))); (case aO => exact (kru HO_5.out)); (case aS => exact (below_size (khu HB.out))); (case aL => have := LMc7.out; omega); intro v411 w8 ho hb hg hat; rw [← Ny410.out] at ho; replace HB := Aside0.mk (hb); have HO412 := Aside0.mk (ho); clear HO_5; clear ho hb hg hat))
        go_roundg k1
        case measure => have := HK1.out; omega
        case rel => exact ⟨(y410), (1), (wrap64 (x7_1 + 1)), (by first | rfl | (simp; done) | (simp [*]; done)), (by first | rfl | (simp; done) | (simp [*]; done)), H', ⟨by have := HK1.out; omega⟩, ⟨by (with_reducible repeat (first | apply Kd.R_alloc | apply Kd.R_drewN | apply Kd.R_drew)); exact HO412.out⟩, ⟨by repeat (first | (with_reducible first | exact HB.out | apply below_alloc | apply pw_below_drewN | apply below_drew1) | exact HB.out)⟩⟩
       ·rw [if_neg c7] at H
        exact absurd H (by simp)
      ·rw [if_neg c6] at H
       have c6b0 : decide ((wrap32 ((wrap32 ((wrap32 (rd l0 x7_1)) - x6_1)) - (wrap32 (rd l1 x7_1)))) < 0) = false := decide_eq_false c6
       clear c6
       by_cases c9 : x5_1.length < 70368744177664
       ·rw [if_pos c9] at H
        have LMc9 := Aside0.mk c9
        clear c9
        obtain ⟨y413, hy413⟩ : ∃ y_ : List Int, y_ = (x5_1 ++ [IntKind.u16.wrap (wrap32 ((wrap32 ((wrap32 (rd l0 x7_1)) - x6_1)) - (wrap32 (rd l1 x7_1))))]) := ⟨_, rfl⟩
        replace H : (tribunalref02_subD.l0 k1 l0 l1 y413 0 (wrap64 (x7_1 + 1))) = some r := by first | (rw [hy413]; with_reducible exact H) | (have H2_ := (Option.bind_some _ _).symm.trans H; rw [hy413]; with_reducible exact H2_) | (have H2_ := (Option.bind_some _ _).symm.trans H; with_reducible exact H2_) | with_reducible exact H | (rw [hy413]; exact H) | exact H
        have Ny413 := Aside0.mk hy413
        clear hy413
        have H' := Aside0.mk H
        clear H
        have p408 : 0 ≤ (x7_1 : Int) := of_decide_eq_true ‹_›
        have q408 : x7_1 < (l0.length : Int) := of_decide_eq_true ‹_›
        obtain ⟨ad408, e408, hx408_0⟩ := Kd.at_int HR0.out x7_1 p408 q408
        cases e408
        replace hx408_0 := (HB.out.cell (World.block_lt_of_cell? w _ hx408_0)).trans hx408_0
        replace p408 := eq_true p408
        replace q408 := eq_true q408
        have p409 : 0 ≤ (x7_1 : Int) := of_decide_eq_true ‹_›
        have q409 : x7_1 < (l1.length : Int) := of_decide_eq_true ‹_›
        obtain ⟨ad409, e409, hx409_0⟩ := Kd.at_int HR1.out x7_1 p409 q409
        cases e409
        replace hx409_0 := (HB.out.cell (World.block_lt_of_cell? w _ hx409_0)).trans hx409_0
        replace p409 := eq_true p409
        replace q409 := eq_true q409
        go_wp2_with (first | ((with_reducible refine gate_builtin (b := .append) (xs := #[.tmp 37, .tmp 40]) rfl ?_); at_builtin; refine Kd.R_append (Kd.int .u16) (w0 := w) w.heap.size rfl (.tmp 37) (.tmp 40) 70 94 (.int .u16 0) 2 rfl Tryd.underlying70 info94 rfl (by decide) (by omega) u5 x5_1 (IntKind.u16.wrap (wrap32 ((wrap32 ((wrap32 (rd l0 x7_1)) - x6_1)) - (wrap32 (rd l1 x7_1))))) [.int .u16 (IntKind.u16.wrap (wrap32 ((wrap32 ((wrap32 (rd l0 x7_1)) - x6_1)) - (wrap32 (rd l1 x7_1)))))] (fun k_ => (w.heap.size ≤ k_)) (fun _ => False) rfl rfl ?aP (fun _ hk => hk.elim) ?aF ?aO ?aB ?aS ?aL ?_; (case aP => exact rfl); (case aB => exact (khu HB.out)); (case aF => exact (fun k_ hk => (Nat.le_trans (below_size (khu HB.out)) hk))); (case aO => exact (kru HO_5.out)); (case aS => exact (below_size (khu HB.out))); (case aL => have := LMc9.out; omega); intro v414 w10 ho hb hg hat; rw [← Ny413.out] at ho; replace HB := Aside0.mk (hb); have HO415 := Aside0.mk (ho); clear HO_5; clear ho hb hg hat))
        go_roundg k1
        case measure => have := HK1.out; omega
        case rel => exact ⟨(y413), (0), (wrap64 (x7_1 + 1)), (by first | rfl | (simp; done) | (simp [*]; done)), (by first | rfl | (simp; done) | (simp [*]; done)), H', ⟨by have := HK1.out; omega⟩, ⟨by (with_reducible repeat (first | apply Kd.R_alloc | apply Kd.R_drewN | apply Kd.R_drew)); exact HO415.out⟩, ⟨by repeat (first | (with_reducible first | exact HB.out | apply below_alloc | apply pw_below_drewN | apply below_drew1) | exact HB.out)⟩⟩
       ·rw [if_neg c9] at H
        exact absurd H (by simp)
     ·rw [if_neg c5] at H
      have c5b0 : decide (x7_1 < (l1.length : Int)) = false := decide_eq_false c5
      clear c5
      by_cases c11 : (wrap32 ((wrap32 (rd l0 x7_1)) - x6_1)) < 0
      ·rw [if_pos c11] at H
       have c11b0 : decide ((wrap32 ((wrap32 (rd l0 x7_1)) - x6_1)) < 0) = true := decide_eq_true c11
       clear c11
       by_cases c12 : x5_1.length < 70368744177664
       ·rw [if_pos c12] at H
        have LMc12 := Aside0.mk c12
        clear c12
        obtain ⟨y416, hy416⟩ : ∃ y_ : List Int, y_ = (x5_1 ++ [IntKind.u16.wrap (wrap32 ((wrap32 ((wrap32 (rd l0 x7_1)) - x6_1)) + 65536))]) := ⟨_, rfl⟩
        replace H : (tribunalref02_subD.l0 k1 l0 l1 y416 1 (wrap64 (x7_1 + 1))) = some r := by first | (rw [hy416]; with_reducible exact H) | (have H2_ := (Option.bind_some _ _).symm.trans H; rw [hy416]; with_reducible exact H2_) | (have H2_ := (Option.bind_some _ _).symm.trans H; with_reducible exact H2_) | with_reducible exact H | (rw [hy416]; exact H) | exact H
        have Ny416 := Aside0.mk hy416
        clear hy416
        have H' := Aside0.mk H
        clear H
        have p408 : 0 ≤ (x7_1 : Int) := of_decide_eq_true ‹_›
        have q408 : x7_1 < (l0.length : Int) := of_decide_eq_true ‹_›
        obtain ⟨ad408, e408, hx408_0⟩ := Kd.at_int HR0.out x7_1 p408 q408
        cases e408
        replace hx408_0 := (HB.out.cell (World.block_lt_of_cell? w _ hx408_0)).trans hx408_0
        replace p408 := eq_true p408
        replace q408 := eq_true q408
        go_wp2_with (first | ((with_reducible refine gate_builtin (b := .append) (xs := #[.tmp 37, .tmp 40]) rfl ?_); at_builtin; refine Kd.R_append (Kd.int .u16) (w0 := w) w.heap.size rfl (.tmp 37) (.tmp 40) 70 94 (.int .u16 0) 2 rfl Tryd.underlying70 info94 rfl (by decide) (by omega) u5 x5_1 (IntKind.u16.wrap (wrap32 ((wrap32 ((wrap32 (rd l0 x7_1)) - x6_1)) + 65536))) [.int .u16 (IntKind.u16.wrap (wrap32 ((wrap32 ((wrap32 (rd l0 x7_1)) - x6_1)) + 65536)))] (fun k_ => (w.heap.size ≤ k_)) (fun _ => False) rfl rfl ?aP (fun _ hk => hk.elim) ?aF ?aO ?aB ?aS ?aL ?_; (case aP => exact rfl); (case aB => exact (khu HB.out)); (case aF => exact (fun k_ hk => (Nat.le_trans (below_size (khu HB.out)) hk))); (case aO => exact (kru HO_5.out)); (case aS => exact (below_size (khu HB.out))); (case aL => have := LMc12.out; omega); intro v417 w13 ho hb hg hat; rw [← Ny416.out] at ho; replace HB := Aside0.mk (hb); have HO418 := Aside0.mk (ho); clear HO_5; clear ho hb hg hat))
        go_roundg k1
        case measure => have := HK1.out; omega
        case rel => exact ⟨(y416), (1), (wrap64 (x7_1 + 1)), (by first | rfl | (simp; done) | (simp [*]; done)), (by first | rfl | (simp; done) | (simp [*]; done)), H', ⟨by have := HK1.out; omega⟩, ⟨by (with_reducible repeat (first | apply Kd.R_alloc | apply Kd.R_drewN | apply Kd.R_drew)); exact HO418.out⟩, ⟨by repeat (first | (with_reducible first | exact HB.out | apply below_alloc | apply pw_below_drewN | apply below_drew1) | exact HB.out)⟩⟩
       ·rw [if_neg c12] at H
        exact absurd H (by simp)
      ·rw [if_neg c11] at H
       have c11b0 : decide ((wrap32 ((wrap32 (rd l0 x7_1)) - x6_1)) < 0) = false := decide_eq_false c11
       clear c11
       by_cases c14 : x5_1.length < 70368744177664
       ·rw [if_pos c14] at H
        have LMc14 := Aside0.mk c14
        clear c14
        obtain ⟨y419, hy419⟩ : ∃ y_ : List Int, y_ = (x5_1 ++ [IntKind.u16.wrap (wrap32 ((wrap32 (rd l0 x7_1)) - x6_1))]) := ⟨_, rfl⟩
        replace H : (tribunalref02_subD.l0 k1 l0 l1 y419 0 (wrap64 (x7_1 + 1))) = some r := by first | (rw [hy419]; with_reducible exact H) | (have H2_ := (Option.bind_some _ _).symm.trans H; rw [hy419]; with_reducible exact H2_) | (have H2_ := (Option.bind_some _ _).symm.trans H; with_reducible exact H2_) | with_reducible exact H | (rw [hy419]; exact H) | exact H
        have Ny419 := Aside0.mk hy419
        clear hy419
        have H' := Aside0.mk H
        clear H
        have p408 : 0 ≤ (x7_1 : Int) := of_decide_eq_true ‹_›
        have q408 : x7_1 < (l0.length : Int) := of_decide_eq_true ‹_›
        obtain ⟨ad408, e408, hx408_0⟩ := Kd.at_int HR0.out x7_1 p408 q408
        cases e408
        replace hx408_0 := (HB.out.cell (World.block_lt_of_cell? w _ hx408_0)).trans hx408_0
        replace p408 := eq_true p408
        replace q408 := eq_true q408
        go_wp2_with (first | ((with_reducible refine gate_builtin (b := .append) (xs := #[.tmp 37, .tmp 40]) rfl ?_); at_builtin; refine Kd.R_append (Kd.int .u16) (w0 := w) w.heap.size rfl (.tmp 37) (.tmp 40) 70 94 (.int .u16 0) 2 rfl Tryd.underlying70 info94 rfl (by decide) (by omega) u5 x5_1 (IntKind.u16.wrap (wrap32 ((wrap32 (rd l0 x7_1)) - x6_1))) [.int .u16 (IntKind.u16.wrap (wrap32 ((wrap32 (rd l0 x7_1)) - x6_1)))] (fun k_ => (w.heap.size ≤ k_)) (fun _ => False) rfl rfl ?aP (fun _ hk => hk.elim) ?aF ?aO ?aB ?aS ?aL ?_; (case aP => exact rfl); (case aB => exact (khu HB.out)); (case aF => exact (fun k_ hk => (Nat.le_trans (below_size (khu HB.out)) hk))); (case aO => exact (kru HO_5.out)); (case aS => exact (below_size (khu HB.out))); (case aL => have := LMc14.out; omega); intro v420 w15 ho hb hg hat; rw [← Ny419.out] at ho; replace HB := Aside0.mk (hb); have HO421 := Aside0.mk (ho); clear HO_5; clear ho hb hg hat))
        go_roundg k1
        case measure => have := HK1.out; omega
        case rel => exact ⟨(y419), (0), (wrap64 (x7_1 + 1)), (by first | rfl | (simp; done) | (simp [*]; done)), (by first | rfl | (simp; done) | (simp [*]; done)), H', ⟨by have := HK1.out; omega⟩, ⟨by (with_reducible repeat (first | apply Kd.R_alloc | apply Kd.R_drewN | apply Kd.R_drew)); exact HO421.out⟩, ⟨by repeat (first | (with_reducible first | exact HB.out | apply below_alloc | apply pw_below_drewN | apply below_drew1) | exact HB.out)⟩⟩
       ·rw [if_neg c14] at H
        exact absurd H (by simp)
    ·rw [if_neg c4] at H
     exact absurd H (by simp)
   ·rw [if_neg c3] at H
    have c3b0 : decide (x7_1 < (l0.length : Int)) = false := decide_eq_false c3
    clear c3
    replace H := Option.bind_eq_some_iff.mp H
    obtain ⟨t405, A160, H⟩ := H
    replace H : (some t405) = some r := H
    have A16 := Aside0.mk A160
    clear A160
    obtain rfl := Option.some.inj H
    obtain ⟨Ao17, co17, eo17⟩ := Kd.R_slice HO_5.out
    subst eo17
    go_wp2_with (first | ((with_reducible refine gate_callee (f := 110) rfl ?_); refine kgl (some 43) rfl rfl Tryd.func110 #[.slice Ao17 x5_1.length co17] rfl ?_; (with_reducible refine (tribunalref02_trim.calls k1 (fun k_ => some k_ = (.slice Ao17 x5_1.length co17 : Value).ownBlock) _ _ x5_1 t405 _ ?side1 A16.out).mono ?_); (case side1 => exact Kd.R_V (Kd.R_tight rfl (HO_5.out))); rintro e w18 ⟨v406, rfl, ho0, hb⟩; refine ⟨_, rfl, ?_⟩; have HO407 := Aside0.mk (Kd.V_lower (Kd.V_mono (ok' := fun k_ => (w.heap.size ≤ k_)) ho0 (fun k_ hk_ => Or.elim hk_ (fun hs_ => ((HO_5.out).1 k_ hs_.symm)) (fun hn_ => (Nat.le_trans (below_size (khu HB.out)) hn_)))) (below_size (khu HB.out))); replace HO_5 := krb HO_5 hb; replace HB := kbs HB hb; (try clear hb); (try clear hb2); (try clear hk); (try clear hi); (try clear ho0)))
    go_ret
    exact ⟨_, by first | rfl | (simp [errW_none, errW_some] <;> rfl) | (simp [*, errW_none, errW_some] <;> rfl), by (with_reducible repeat (first | apply Kd.V_alloc | apply Kd.V_drewN | apply Kd.V_drew)); exact HO407.out, by repeat (first | (with_reducible first | exact HB.out | apply below_alloc | apply pw_below_drewN | apply below_drew1) | exact HB.out)⟩
def tribunalref02_timesD.l0 : Nat → List Int → Int → List Int → Int → Int → Option (List Int)
 | 0, _, _, _, _, _ => none
 | k + 1, x0, x1, x5, x6, x7 => if x7 < (x0.length : Int) then (if 0 ≤ x7 then (if x5.length < 70368744177664 then (tribunalref02_timesD.l0 k x0 x1 (x5 ++ [IntKind.u16.wrap ((x6 + (((rd x0 x7) % 4294967296) * x1)) % 4294967296)]) (((x6 + (((rd x0 x7) % 4294967296) * x1)) % 4294967296) / 65536) (wrap64 (x7 + 1))) else (none)) else (none)) else (if x5.length < 70368744177664 then ((tribunalref02_trim.f k (x5 ++ [IntKind.u16.wrap (x6)])).bind fun t429 => (some t429)) else (none))
def tribunalref02_timesD.f (k : Nat) (l0 : List Int) (a1 : Int) : Option (List Int) := tribunalref02_timesD.l0 k l0 a1 ([] : List Int) 0 0
theorem tribunalref02_timesD.calls (k : Nat) (A0 : Option Addr) (c0 : Nat) (l0 : List Int) (a1 : Int) (r : List Int) (w : World) (hr0 : Kd.C (Kd.int .u16) w A0 l0.length l0) (hc0 : l0.length ≤ c0) (h : tribunalref02_timesD.f k l0 a1 = some r) :
  Calls Tryd.prog 136 #[.slice A0 l0.length c0, .int .u32 a1] w fun e w' => ∃ v0_ : Value, e = .returned (v0_) ∧ Kd.V (Kd.int .u16) 94 w' w.heap.size (fun k_ => (w.heap.size ≤ k_)) v0_ r ∧ Below w.heap.size w w' := by
 have HR0 := Aside0.mk hr0
 have HC0 := Aside0.mk hc0
 clear hr0 hc0
 have HB := Aside0.mk (Below.refl w.heap.size w)
 have H : (tribunalref02_timesD.l0 k l0 a1 ([] : List Int) 0 0) = some r := h
 clear h
 have H' := Aside0.mk H
 clear H
 go_enter Tryd.func136, Tryd.ntmps136
 go_wp2
 go_loopg [5, 6, 7] k (fun kq v5 v6 v7 w' => ∃ (x5_1 : List Int) (x6_1 : Int) (x7_1 : Int), v6 = .int .u32 x6_1 ∧ v7 = .int .i64 x7_1 ∧ Aside0 (tribunalref02_timesD.l0 kq l0 a1 x5_1 x6_1 x7_1 = some r) ∧ Aside0 (kq ≤ k) ∧ Aside0 (Kd.R (Kd.int .u16) 94 w' w.heap.size (fun k_ => (w.heap.size ≤ k_)) v5 x5_1) ∧ Aside0 (Below w.heap.size w w'))
 case atStart => exact ⟨(([] : List Int)), (0), (0), (by first | rfl | (simp; done) | (simp [*]; done)), (by first | rfl | (simp; done) | (simp [*]; done)), H', ⟨Nat.le_refl _⟩, ⟨by first | exact Kd.R_nil _ _ _ _ _ | exact Kd.N_nil _ _ _ _ _ | exact Kd.V_nil _ _ _ _ _ | exact Kd.Q_nil _ _ _ _ _ | exact Kd.S_nil _ _ _ _ _⟩, ⟨by repeat (first | (with_reducible first | exact HB.out | apply below_alloc | apply pw_below_drewN | apply below_drew1) | exact HB.out)⟩⟩
 case round =>
  clear H'
  try clear c1
  try clear p2
  obtain ⟨x5_1, x6_1, x7_1, rfl, rfl, HA, HK1, HO_5, HB⟩ := hrel
  cases gk with
  | zero => exact absurd HA.out (by simp [tribunalref02_timesD.l0])
  | succ k1 =>
   have H := HA.out
   clear HA
   simp only [tribunalref02_timesD.l0] at H
   by_cases c3 : x7_1 < (l0.length : Int)
   ·rw [if_pos c3] at H
    have c3b0 : decide (x7_1 < (l0.length : Int)) = true := decide_eq_true c3
    clear c3
    by_cases c4 : 0 ≤ x7_1
    ·rw [if_pos c4] at H
     have c4b0 : decide (0 ≤ x7_1) = true := decide_eq_true c4
     clear c4
     by_cases c5 : x5_1.length < 70368744177664
     ·rw [if_pos c5] at H
      have LMc5 := Aside0.mk c5
      clear c5
      obtain ⟨y423, hy423⟩ : ∃ y_ : List Int, y_ = (x5_1 ++ [IntKind.u16.wrap ((x6_1 + (((rd l0 x7_1) % 4294967296) * a1)) % 4294967296)]) := ⟨_, rfl⟩
      replace H : (tribunalref02_timesD.l0 k1 l0 a1 y423 (((x6_1 + (((rd l0 x7_1) % 4294967296) * a1)) % 4294967296) / 65536) (wrap64 (x7_1 + 1))) = some r := by first | (rw [hy423]; with_reducible exact H) | (have H2_ := (Option.bind_some _ _).symm.trans H; rw [hy423]; with_reducible exact H2_) | (have H2_ := (Option.bind_some _ _).symm.trans H; with_reducible exact H2_) | with_reducible exact H | (rw [hy423]; exact H) | exact H
      have Ny423 := Aside0.mk hy423
      clear hy423
      have H' := Aside0.mk H
      clear H
      have p422 : 0 ≤ (x7_1 : Int) := of_decide_eq_true ‹_›
      have q422 : x7_1 < (l0.length : Int) := of_decide_eq_true ‹_›
      obtain ⟨ad422, e422, hx422_0⟩ := Kd.at_int HR0.out x7_1 p422 q422
      cases e422
      replace hx422_0 := (HB.out.cell (World.block_lt_of_cell? w _ hx422_0)).trans hx422_0
      replace p422 := eq_true p422
      replace q422 := eq_true q422
      go_wp2_with (first | ((with_reducible refine gate_builtin (b := .append) (xs := #[.tmp 23, .tmp 26]) rfl ?_); at_builtin; refine Kd.R_append (Kd.int .u16) (w0 := w) w.heap.size rfl (.tmp 23) (.tmp 26) 70 94 (.int .u16 0) 2 rfl Tryd.underlying70 info94 rfl (by decide) (by omega) u5 x5_1 (IntKind.u16.wrap ((x6_1 + (((rd l0 x7_1) % 4294967296) * a1)) % 4294967296)) [.int .u16 (IntKind.u16.wrap ((x6_1 + (((rd l0 x7_1) % 4294967296) * a1)) % 4294967296))] (fun k_ => (w.heap.size ≤ k_)) (fun _ => False) rfl rfl ?aP (fun _ hk => hk.elim) ?aF ?aO ?aB ?aS ?aL ?_; (case aP => exact rfl); (case aB => exact (khu HB.out)); (case aF => exact (fun k_ hk => (Nat.le_trans (below_size (khu HB.out)) hk))); (case aO => exact (kru HO_5.out)); (case aS => exact (below_size (khu HB.out))); (case aL => have := LMc5.out; omega); intro v424 w6 ho hb hg hat; rw [← Ny423.out] at ho; replace HB := Aside0.mk (hb); have HO425 := Aside0.mk (ho); clear HO_5; clear ho hb hg hat))
      go_roundg k1
      case measure => have := HK1.out; omega
      case rel => exact ⟨(y423), (((x6_1 + (((rd l0 x7_1) % 4294967296) * a1)) % 4294967296) / 65536), (wrap64 (x7_1 + 1)), (by first | rfl | (simp; done) | (simp [*]; done)), (by first | rfl | (simp; done) | (simp [*]; done)), H', ⟨by have := HK1.out; omega⟩, ⟨by (with_reducible repeat (first | apply Kd.R_alloc | apply Kd.R_drewN | apply Kd.R_drew)); exact HO425.out⟩, ⟨by repeat (first | (with_reducible first | exact HB.out | apply below_alloc | apply pw_below_drewN | apply below_drew1) | exact HB.out)⟩⟩
     ·rw [if_neg c5] at H
      exact absurd H (by simp)
    ·rw [if_neg c4] at H
     exact absurd H (by simp)
   ·rw [if_neg c3] at H
    have c3b0 : decide (x7_1 < (l0.length : Int)) = false := decide_eq_false c3
    clear c3
    by_cases c7 : x5_1.length < 70368744177664
    ·rw [if_pos c7] at H
     have LMc7 := Aside0.mk c7
     clear c7
     obtain ⟨y426, hy426⟩ : ∃ y_ : List Int, y_ = (x5_1 ++ [IntKind.u16.wrap (x6_1)]) := ⟨_, rfl⟩
     replace H : ((tribunalref02_trim.f k1 y426).bind fun t429 => (some t429)) = some r := by first | (rw [hy426]; with_reducible exact H) | (have H2_ := (Option.bind_some _ _).symm.trans H; rw [hy426]; with_reducible exact H2_) | (have H2_ := (Option.bind_some _ _).symm.trans H; with_reducible exact H2_) | with_reducible exact H | (rw [hy426]; exact H) | exact H
     have Ny426 := Aside0.mk hy426
     clear hy426
     replace H := Option.bind_eq_some_iff.mp H
     obtain ⟨t429, A80, H⟩ := H
     replace H : (some t429) = some r := H
     have A8 := Aside0.mk A80
     clear A80
     obtain rfl := Option.some.inj H
     go_wp2_with (first | ((with_reducible refine gate_builtin (b := .append) (xs := #[.tmp 30, .tmp 33]) rfl ?_); at_builtin; refine Kd.R_append (Kd.int .u16) (w0 := w) w.heap.size rfl (.tmp 30) (.tmp 33) 70 94 (.int .u16 0) 2 rfl Tryd.underlying70 info94 rfl (by decide) (by omega) u5 x5_1 (IntKind.u16.wrap (x6_1)) [.int .u16 (IntKind.u16.wrap (x6_1))] (fun k_ => (w.heap.size ≤ k_)) (fun _ => False) rfl rfl ?aP (fun _ hk => hk.elim) ?aF ?aO ?aB ?aS ?aL ?_; (case aP => exact rfl); (case aB => exact (khu HB.out)); (case aF => exact (fun k_ hk => (Nat.le_trans (below_size (khu HB.out)) hk))); (case aO => exact (kru HO_5.out)); (case aS => exact (below_size (khu HB.out))); (case aL => have := LMc7.out; omega); intro v427 w9 ho hb hg hat; rw [← Ny426.out] at ho; replace HB := Aside0.mk (hb); have HO428 := Aside0.mk (ho); clear HO_5; clear ho hb hg hat; obtain ⟨Ao10, co10, eo10⟩ := Kd.R_slice HO428.out; subst eo10) | ((with_reducible refine gate_callee (f := 110) rfl ?_); refine kgl (some 35) rfl rfl Tryd.func110 #[.slice Ao10 y426.length co10] rfl ?_; (with_reducible refine (tribunalref02_trim.calls k1 (fun k_ => some k_ = (.slice Ao10 y426.length co10 : Value).ownBlock) _ _ y426 t429 _ ?side1 A8.out).mono ?_); (case side1 => exact Kd.R_V (Kd.R_tight rfl (HO428.out))); rintro e w11 ⟨v430, rfl, ho0, hb⟩; refine ⟨_, rfl, ?_⟩; have HO431 := Aside0.mk (Kd.V_lower (Kd.V_mono (ok' := fun k_ => (w.heap.size ≤ k_)) ho0 (fun k_ hk_ => Or.elim hk_ (fun hs_ => ((HO428.out).1 k_ hs_.symm)) (fun hn_ => (Nat.le_trans (below_size (khu HB.out)) hn_)))) (below_size (khu HB.out))); replace HO428 := krb HO428 hb; replace HB := kbs HB hb; (try clear hb); (try clear hb2); (try clear hk); (try clear hi); (try clear ho0)))
     go_ret
     exact ⟨_, by first | rfl | (simp [errW_none, errW_some] <;> rfl) | (simp [*, errW_none, errW_some] <;> rfl), by (with_reducible repeat (first | apply Kd.V_alloc | apply Kd.V_drewN | apply Kd.V_drew)); exact HO431.out, by repeat (first | (with_reducible first | exact HB.out | apply below_alloc | apply pw_below_drewN | apply below_drew1) | exact HB.out)⟩
    ·rw [if_neg c7] at H
     exact absurd H (by simp)
def tribunalref02_digit.l0 : Nat → List Int → List Int → Int → Int → Option (Int × List Int)
 | 0, _, _, _, _ => none
 | k + 1, x0, x1, x6, x7 => if x6 < x7 then ((tribunalref02_timesD.f k x1 ((((x6 + x7) + 1) % 4294967296) / 2)).bind fun t438 => ((tribunalref02_cmpD.f k t438 x0).bind fun t441 => (if t441 ≤ 0 then (tribunalref02_digit.l0 k x0 x1 ((((x6 + x7) + 1) % 4294967296) / 2) x7) else (tribunalref02_digit.l0 k x0 x1 x6 ((((((x6 + x7) + 1) % 4294967296) / 2) - 1) % 4294967296))))) else ((tribunalref02_timesD.f k x1 x6).bind fun t432 => ((tribunalref02_subD.f k x0 t432).bind fun t435 => (some (IntKind.u16.wrap (x6), t435))))
def tribunalref02_digit.f (k : Nat) (l0 : List Int) (l1 : List Int) : Option (Int × List Int) := tribunalref02_digit.l0 k l0 l1 0 65535
theorem tribunalref02_digit.calls (k : Nat) (A0 : Option Addr) (c0 : Nat) (l0 : List Int) (A1 : Option Addr) (c1 : Nat) (l1 : List Int) (r1 : Int) (r2 : List Int) (w : World) (hr0 : Kd.C (Kd.int .u16) w A0 l0.length l0) (hc0 : l0.length ≤ c0) (hr1 : Kd.C (Kd.int .u16) w A1 l1.length l1) (hc1 : l1.length ≤ c1) (h : tribunalref02_digit.f k l0 l1 = some (r1, r2)) :
  Calls Tryd.prog 128 #[.slice A0 l0.length c0, .slice A1 l1.length c1] w fun e w' => ∃ v1_ : Value, e = .returned (.tuple #[.int .u16 r1, v1_]) ∧ Kd.V (Kd.int .u16) 94 w' w.heap.size (fun k_ => (w.heap.size ≤ k_)) v1_ r2 ∧ Below w.heap.size w w' := by
 have HR0 := Aside0.mk hr0
 have HC0 := Aside0.mk hc0
 clear hr0 hc0
 have HR1 := Aside0.mk hr1
 have HC1 := Aside0.mk hc1
 clear hr1 hc1
 have HB := Aside0.mk (Below.refl w.heap.size w)
 have H : (tribunalref02_digit.l0 k l0 l1 0 65535) = some (r1, r2) := h
 clear h
 have H' := Aside0.mk H
 clear H
 go_enter Tryd.func128, Tryd.ntmps128
 go_wp2
 go_loopg [6, 7] k (fun kq v6 v7 w' => ∃ (x6_1 : Int) (x7_1 : Int), v6 = .int .u32 x6_1 ∧ v7 = .int .u32 x7_1 ∧ Aside0 (tribunalref02_digit.l0 kq l0 l1 x6_1 x7_1 = some (r1, r2)) ∧ Aside0 (kq ≤ k) ∧ Aside0 (Below w.heap.size w w'))
 case atStart => exact ⟨(0), (65535), (by first | rfl | (simp; done) | (simp [*]; done)), (by first | rfl | (simp; done) | (simp [*]; done)), H', ⟨Nat.le_refl _⟩, ⟨by repeat (first | (with_reducible first | exact HB.out | apply below_alloc | apply pw_below_drewN | apply below_drew1) | exact HB.out)⟩⟩
 case round =>
  clear H'
  try clear c1
  try clear p2
  obtain ⟨x6_1, x7_1, rfl, rfl, HA, HK1, HB⟩ := hrel
  cases gk with
  | zero => exact absurd HA.out (by simp [tribunalref02_digit.l0])
  | succ k1 =>
   have H := HA.out
   clear HA
   simp only [tribunalref02_digit.l0] at H
   by_cases c3 : x6_1 < x7_1
   ·rw [if_pos c3] at H
    have c3b0 : decide (x6_1 < x7_1) = true := decide_eq_true c3
    clear c3
    replace H := Option.bind_eq_some_iff.mp H
    obtain ⟨t438, A40, H⟩ := H
    replace H : ((tribunalref02_cmpD.f k1 t438 l0).bind fun t441 => (if t441 ≤ 0 then (tribunalref02_digit.l0 k1 l0 l1 ((((x6_1 + x7_1) + 1) % 4294967296) / 2) x7_1) else (tribunalref02_digit.l0 k1 l0 l1 x6_1 ((((((x6_1 + x7_1) + 1) % 4294967296) / 2) - 1) % 4294967296)))) = some (r1, r2) := H
    have A4 := Aside0.mk A40
    clear A40
    replace H := Option.bind_eq_some_iff.mp H
    obtain ⟨t441, A50, H⟩ := H
    replace H : (if t441 ≤ 0 then (tribunalref02_digit.l0 k1 l0 l1 ((((x6_1 + x7_1) + 1) % 4294967296) / 2) x7_1) else (tribunalref02_digit.l0 k1 l0 l1 x6_1 ((((((x6_1 + x7_1) + 1) % 4294967296) / 2) - 1) % 4294967296))) = some (r1, r2) := H
    have A5 := Aside0.mk A50
    clear A50
    by_cases c6 : t441 ≤ 0
    ·rw [if_pos c6] at H
     have c6b0 : decide (t441 ≤ 0) = true := decide_eq_true c6
     clear c6
     have H' := Aside0.mk H
     clear H
     go_wp2_with (first | ((with_reducible refine gate_callee (f := 136) rfl ?_); refine kgl (some 19) rfl rfl Tryd.func136 #[.slice A1 l1.length c1, .int .u32 ((((x6_1 + x7_1) + 1) % 4294967296) / 2)] rfl ?_; (with_reducible refine (tribunalref02_timesD.calls k1 _ _ l1 ((((x6_1 + x7_1) + 1) % 4294967296) / 2) t438 _ ?side1 ?side2 A4.out).mono ?_); (case side1 => repeat (first | exact (Kd.C_below HR1.out HB.out) | (with_reducible refine Kd.C_alloc ?_ _) | (with_reducible refine Kd.C_drewN ?_ _) | (with_reducible refine Kd.C_drew ?_))); (case side2 => exact HC1.out); rintro e w7 ⟨v439, rfl, ho0, hb⟩; refine ⟨_, rfl, ?_⟩; have HO440 := Aside0.mk (Kd.V_lower (Kd.V_mono (ok' := fun k_ => (w.heap.size ≤ k_)) ho0 (fun k_ hk_ => (Nat.le_trans (below_size (khu HB.out)) hk_))) (below_size (khu HB.out))); replace HB := kbs HB hb; (try clear hb); (try clear hb2); (try clear hk); (try clear hi); (try clear ho0); obtain ⟨Ao8, co8, eo8⟩ := Kd.V_slice HO440.out; subst eo8) | ((with_reducible refine gate_callee (f := 107) rfl ?_); refine kgl (some 21) rfl rfl Tryd.func107 #[.slice Ao8 t438.length co8, .slice A0 l0.length c0] rfl ?_; (with_reducible refine (tribunalref02_cmpD.calls k1 _ _ t438 _ _ l0 t441 _ ?side1 ?side2 ?side3 ?side4 A5.out).mono ?_); (case side1 => repeat (first | exact (Kd.V_reads' HO440.out).2.2 | (with_reducible refine Kd.C_alloc ?_ _) | (with_reducible refine Kd.C_drewN ?_ _) | (with_reducible refine Kd.C_drew ?_))); (case side2 => exact (Kd.V_reads' HO440.out).2.1); (case side3 => repeat (first | exact (Kd.C_below HR0.out HB.out) | (with_reducible refine Kd.C_alloc ?_ _) | (with_reducible refine Kd.C_drewN ?_ _) | (with_reducible refine Kd.C_drew ?_))); (case side4 => exact HC0.out); rintro e w' ⟨rfl, ⟨nd, rfl⟩⟩; refine ⟨_, rfl, ?_⟩))
     go_roundg k1
     case measure => have := HK1.out; omega
     case rel => exact ⟨((((x6_1 + x7_1) + 1) % 4294967296) / 2), (x7_1), (by first | rfl | (simp; done) | (simp [*]; done)), (by first | rfl | (simp; done) | (simp [*]; done)), H', ⟨by have := HK1.out; omega⟩, ⟨by repeat (first | (with_reducible first | exact HB.out | apply below_alloc | apply pw_below_drewN | apply below_drew1) | exact HB.out)⟩⟩
    ·rw [if_neg c6] at H
     have c6b0 : decide (t441 ≤ 0) = false := decide_eq_false c6
     clear c6
     have H' := Aside0.mk H
     clear H
     go_wp2_with (first | ((with_reducible refine gate_callee (f := 136) rfl ?_); refine kgl (some 19) rfl rfl Tryd.func136 #[.slice A1 l1.length c1, .int .u32 ((((x6_1 + x7_1) + 1) % 4294967296) / 2)] rfl ?_; (with_reducible refine (tribunalref02_timesD.calls k1 _ _ l1 ((((x6_1 + x7_1) + 1) % 4294967296) / 2) t438 _ ?side1 ?side2 A4.out).mono ?_); (case side1 => repeat (first | exact (Kd.C_below HR1.out HB.out) | (with_reducible refine Kd.C_alloc ?_ _) | (with_reducible refine Kd.C_drewN ?_ _) | (with_reducible refine Kd.C_drew ?_))); (case side2 => exact HC1.out); rintro e w9 ⟨v439, rfl, ho0, hb⟩; refine ⟨_, rfl, ?_⟩; have HO440 := Aside0.mk (Kd.V_lower (Kd.V_mono (ok' := fun k_ => (w.heap.size ≤ k_)) ho0 (fun k_ hk_ => (Nat.le_trans (below_size (khu HB.out)) hk_))) (below_size (khu HB.out))); replace HB := kbs HB hb; (try clear hb); (try clear hb2); (try clear hk); (try clear hi); (try clear ho0); obtain ⟨Ao10, co10, eo10⟩ := Kd.V_slice HO440.out; subst eo10) | ((with_reducible refine gate_callee (f := 107) rfl ?_); refine kgl (some 21) rfl rfl Tryd.func107 #[.slice Ao10 t438.length co10, .slice A0 l0.length c0] rfl ?_; (with_reducible refine (tribunalref02_cmpD.calls k1 _ _ t438 _ _ l0 t441 _ ?side1 ?side2 ?side3 ?side4 A5.out).mono ?_); (case side1 => repeat (first | exact (Kd.V_reads' HO440.out).2.2 | (with_reducible refine Kd.C_alloc ?_ _) | (with_reducible refine Kd.C_drewN ?_ _) | (with_reducible refine Kd.C_drew ?_))); (case side2 => exact (Kd.V_reads' HO440.out).2.1); (case side3 => repeat (first | exact (Kd.C_below HR0.out HB.out) | (with_reducible refine Kd.C_alloc ?_ _) | (with_reducible refine Kd.C_drewN ?_ _) | (with_reducible refine Kd.C_drew ?_))); (case side4 => exact HC0.out); rintro e w' ⟨rfl, ⟨nd, rfl⟩⟩; refine ⟨_, rfl, ?_⟩))
     go_roundg k1
     case measure => have := HK1.out; omega
     case rel => exact ⟨(x6_1), ((((((x6_1 + x7_1) + 1) % 4294967296) / 2) - 1) % 4294967296), (by first | rfl | (simp; done) | (simp [*]; done)), (by first | rfl | (simp; done) | (simp [*]; done)), H', ⟨by have := HK1.out; omega⟩, ⟨by repeat (first | (with_reducible first | exact HB.out | apply below_alloc | apply pw_below_drewN | apply below_drew1) | exact HB.out)⟩⟩
   ·rw [if_neg c3] at H
    have c3b0 : decide (x6_1 < x7_1) = false := decide_eq_false c3
    clear c3
    replace H := Option.bind_eq_some_iff.mp H
    obtain ⟨t432, A110, H⟩ := H
    replace H : ((tribunalref02_subD.f k1 l0 t432).bind fun t435 => (some (IntKind.u16.wrap (x6_1), t435))) = some (r1, r2) := H
    have A11 := Aside0.mk A110
    clear A110
    replace H := Option.bind_eq_some_iff.mp H
    obtain ⟨t435, A120, H⟩ := H
    replace H : (some (IntKind.u16.wrap (x6_1), t435)) = some (r1, r2) := H
    have A12 := Aside0.mk A120
    clear A120
    simp only [Option.some.injEq, Prod.mk.injEq] at H
    obtain ⟨rfl, rfl⟩ := H
    go_wp2_with (first | ((with_reducible refine gate_callee (f := 136) rfl ?_); refine kgl (some 31) rfl rfl Tryd.func136 #[.slice A1 l1.length c1, .int .u32 x6_1] rfl ?_; (with_reducible refine (tribunalref02_timesD.calls k1 _ _ l1 x6_1 t432 _ ?side1 ?side2 A11.out).mono ?_); (case side1 => repeat (first | exact (Kd.C_below HR1.out HB.out) | (with_reducible refine Kd.C_alloc ?_ _) | (with_reducible refine Kd.C_drewN ?_ _) | (with_reducible refine Kd.C_drew ?_))); (case side2 => exact HC1.out); rintro e w13 ⟨v433, rfl, ho0, hb⟩; refine ⟨_, rfl, ?_⟩; have HO434 := Aside0.mk (Kd.V_lower (Kd.V_mono (ok' := fun k_ => (w.heap.size ≤ k_)) ho0 (fun k_ hk_ => (Nat.le_trans (below_size (khu HB.out)) hk_))) (below_size (khu HB.out))); replace HB := kbs HB hb; (try clear hb); (try clear hb2); (try clear hk); (try clear hi); (try clear ho0); obtain ⟨Ao14, co14, eo14⟩ := Kd.V_slice HO434.out; subst eo14) | ((with_reducible refine gate_callee (f := 108) rfl ?_); refine kgl (some 32) rfl rfl Tryd.func108 #[.slice A0 l0.length c0, .slice Ao14 t432.length co14] rfl ?_; (with_reducible refine (tribunalref02_subD.calls k1 _ _ l0 _ _ t432 t435 _ ?side1 ?side2 ?side3 ?side4 A12.out).mono ?_); (case side1 => repeat (first | exact (Kd.C_below HR0.out HB.out) | (with_reducible refine Kd.C_alloc ?_ _) | (with_reducible refine Kd.C_drewN ?_ _) | (with_reducible refine Kd.C_drew ?_))); (case side2 => exact HC0.out); (case side3 => repeat (first | exact (Kd.V_reads' HO434.out).2.2 | (with_reducible refine Kd.C_alloc ?_ _) | (with_reducible refine Kd.C_drewN ?_ _) | (with_reducible refine Kd.C_drew ?_))); (case side4 => exact (Kd.V_reads' HO434.out).2.1); rintro e w15 ⟨v436, rfl, ho0, hb⟩; refine ⟨_, rfl, ?_⟩; replace HO434 := kvb HO434 hb; have HO437 := Aside0.mk (Kd.V_lower (Kd.V_mono (ok' := fun k_ => (w.heap.size ≤ k_)) ho0 (fun k_ hk_ => (Nat.le_trans (below_size (khu HB.out)) hk_))) (below_size (khu HB.out))); replace HB := kbs HB hb; (try clear hb); (try clear hb2); (try clear hk); (try clear hi); (try clear ho0)))
    go_ret2
    exact ⟨_, by first | rfl | (simp [errW_none, errW_some] <;> rfl) | (simp [*, errW_none, errW_some] <;> rfl), by (with_reducible repeat (first | apply Kd.V_alloc | apply Kd.V_drewN | apply Kd.V_drew)); exact HO437.out, by repeat (first | (with_reducible first | exact HB.out | apply below_alloc | apply pw_below_drewN | apply below_drew1) | exact HB.out)⟩
def tribunalref02_divD.l0 : Nat → List Int → List Int → List Int → List Int → Int → Option (List Int × List Int)
 | 0, _, _, _, _, _ => none
 | k + 1, x0, x1, x6, x7, x8 => if x8 ≥ 0 then (if 0 ≤ x8 then (if x8 < (x0.length : Int) then ((some (([rd x0 x8] : List Int) : List Int)).bind fun y446 => (if y446.length + x7.length < 70368744177664 then ((tribunalref02_trim.f k (y446 ++ x7)).bind fun t452 => ((tribunalref02_digit.f k t452 x1).bind fun bt455 => (if x8 < (x6.length : Int) then (tribunalref02_divD.l0 k x0 x1 (x6.set (x8 : Int).toNat bt455.1) bt455.2 (wrap64 (x8 - 1))) else (none)))) else (none))) else (none)) else (none)) else ((tribunalref02_trim.f k x6).bind fun t460 => (some (t460, x7)))
def tribunalref02_divD.f (k : Nat) (l0 : List Int) (l1 : List Int) : Option (List Int × List Int) := if 0 ≤ (l0.length : Int) then (if ((l0.length : Int) : Int).toNat ≤ 140737488355328 then (tribunalref02_divD.l0 k l0 l1 (List.replicate ((l0.length : Int) : Int).toNat 0) ([] : List Int) (wrap64 ((l0.length : Int) - 1))) else (none)) else (none)
theorem tribunalref02_divD.calls (k : Nat) (A0 : Option Addr) (c0 : Nat) (l0 : List Int) (A1 : Option Addr) (c1 : Nat) (l1 : List Int) (r1 : List Int) (r2 : List Int) (w : World) (hr0 : Kd.C (Kd.int .u16) w A0 l0.length l0) (hc0 : l0.length ≤ c0) (hr1 : Kd.C (Kd.int .u16) w A1 l1.length l1) (hc1 : l1.length ≤ c1) (h : tribunalref02_divD.f k l0 l1 = some (r1, r2)) :
  Calls Tryd.prog 105 #[.slice A0 l0.length c0, .slice A1 l1.length c1] w fun e w' => ∃ v0_ v1_ : Value, e = .returned (.tuple #[v0_, v1_]) ∧ Kd.V (Kd.int .u16) 94 w' w.heap.size (fun k_ => (w.heap.size ≤ k_)) v0_ r1 ∧ Kd.V (Kd.int .u16) 94 w' w.heap.size (fun k_ => (w.heap.size ≤ k_)) v1_ r2 ∧ Below w.heap.size w w' := by
 have HR0 := Aside0.mk hr0
 have HC0 := Aside0.mk hc0
 clear hr0 hc0
 have HR1 := Aside0.mk hr1
 have HC1 := Aside0.mk hc1
 clear hr1 hc1
 have HB := Aside0.mk (Below.refl w.heap.size w)
 have H : (if 0 ≤ (l0.length : Int) then (if ((l0.length : Int) : Int).toNat ≤ 140737488355328 then (tribunalref02_divD.l0 k l0 l1 (List.replicate ((l0.length : Int) : Int).toNat 0) ([] : List Int) (wrap64 ((l0.length : Int) - 1))) else (none)) else (none)) = some (r1, r2) := h
 clear h
 by_cases c3 : 0 ≤ (l0.length : Int)
 ·rw [if_pos c3] at H
  have c3b0 := eq_true c3
  have c3b1 : decide (0 ≤ (l0.length : Int)) = true := decide_eq_true c3
  clear c3
  by_cases c4 : ((l0.length : Int) : Int).toNat ≤ 140737488355328
  ·rw [if_pos c4] at H
   have c4b0 := eq_true c4
   have c4b1 : decide (((l0.length : Int) : Int).toNat ≤ 140737488355328) = true := decide_eq_true c4
   clear c4
   obtain ⟨y442, hy442⟩ : ∃ y_ : List Int, y_ = (List.replicate ((l0.length : Int) : Int).toNat 0) := ⟨_, rfl⟩
   replace H : (tribunalref02_divD.l0 k l0 l1 y442 ([] : List Int) (wrap64 ((l0.length : Int) - 1))) = some (r1, r2) := by first | (rw [hy442]; with_reducible exact H) | (have H2_ := (Option.bind_some _ _).symm.trans H; rw [hy442]; with_reducible exact H2_) | (have H2_ := (Option.bind_some _ _).symm.trans H; with_reducible exact H2_) | with_reducible exact H | (rw [hy442]; exact H) | exact H
   have Ny442 := Aside0.mk hy442
   clear hy442
   have H' := Aside0.mk H
   clear H
   go_enter Tryd.func105, Tryd.ntmps105
   go_wp2_with (first | ((with_reducible refine gate_dst (N := 13) rfl ?_); refine Kd.R_make (Kd.int .u16) _ 94 rfl (N := 13) rfl 70 _ _ rfl (l0.length : Int) rfl rfl Tryd.underlying70 (.int .u16 0) 2 info94 rfl (by decide) (by omega) 0 (ok := fun _ => True) (okp := fun _ => True) rfl (fun _ hk => hk) trivial (of_decide_eq_true ‹_›) (Nat.le_trans (Nat.mul_le_mul_right _ (of_decide_eq_true ‹_› : (l0.length : Int).toNat ≤ 140737488355328)) (by omega)) (Below.refl _ _) (Nat.le_refl _) ?_; intro v443 w5 ho6 hb hg_ hnew_; clear hg_ hnew_; (first | rw [← Ny442.out] at ho6 | (simp only [Int.reduceToNat] at ho6; rw [← Ny442.out] at ho6)); have HO444 := Aside0.mk (Kd.R_lower (Kd.R_newM (M := fun k_ => (w.heap.size ≤ k_)) ho6 (below_size (khu HB.out)) (fun k_ h_ => h_)) (below_size (khu HB.out))); replace HB := kbs HB hb; clear hb ho6))
   go_loopg [7, 8] k (fun kq v7 v8 w' => ∃ (x6_1 : List Int) (x7_1 : List Int) (x8_1 : Int), v8 = .int .i64 x8_1 ∧ Aside0 (tribunalref02_divD.l0 kq l0 l1 x6_1 x7_1 x8_1 = some (r1, r2)) ∧ Aside0 (kq ≤ k) ∧ Aside0 (Kd.R (Kd.int .u16) 94 w' w.heap.size (fun k_ => (w.heap.size ≤ k_)) v443 x6_1) ∧ Aside0 (Kd.V (Kd.int .u16) 94 w' w.heap.size (fun k_ => (w.heap.size ≤ k_) ∧ some k_ ≠ (v443 : Value).ownBlock) v7 x7_1) ∧ Aside0 (Below w.heap.size w w'))
   case atStart => exact ⟨(y442), (([] : List Int)), (wrap64 ((l0.length : Int) - 1)), (by first | rfl | (simp; done) | (simp [*]; done)), H', ⟨Nat.le_refl _⟩, ⟨by (with_reducible repeat (first | apply Kd.R_alloc | apply Kd.R_drewN | apply Kd.R_drew)); exact Kd.R_mono HO444.out (fun _ hk => hk.1)⟩, ⟨Kd.V_nil _ _ _ _ _⟩, ⟨by repeat (first | (with_reducible first | exact HB.out | apply below_alloc | apply pw_below_drewN | apply below_drew1) | exact HB.out)⟩⟩
   case round =>
    clear H'
    try clear c1
    try clear p2
    try clear c3
    try clear c3b0
    try clear c3b1
    try clear c4
    try clear c4b0
    try clear c4b1
    try clear p6
    obtain ⟨x6_1, x7_1, x8_1, rfl, HA, HK1, HO_6, HO_7, HB⟩ := hrel
    cases gk with
    | zero => exact absurd HA.out (by simp [tribunalref02_divD.l0])
    | succ k1 =>
     have H := HA.out
     clear HA
     simp only [tribunalref02_divD.l0] at H
     by_cases c7 : x8_1 ≥ 0
     ·rw [if_pos c7] at H
      have c7b0 : decide (0 ≤ x8_1) = true := decide_eq_true c7
      clear c7
      by_cases c8 : 0 ≤ x8_1
      ·rw [if_pos c8] at H
       have c8b0 : decide (0 ≤ x8_1) = true := decide_eq_true c8
       clear c8
       by_cases c9 : x8_1 < (l0.length : Int)
       ·rw [if_pos c9] at H
        have c9b0 : decide (x8_1 < (l0.length : Int)) = true := decide_eq_true c9
        clear c9
        obtain ⟨y446, hy446⟩ : ∃ y_ : List Int, y_ = (([rd l0 x8_1] : List Int)) := ⟨_, rfl⟩
        replace H : (if y446.length + x7_1.length < 70368744177664 then ((tribunalref02_trim.f k1 (y446 ++ x7_1)).bind fun t452 => ((tribunalref02_digit.f k1 t452 l1).bind fun bt455 => (if x8_1 < (x6_1.length : Int) then (tribunalref02_divD.l0 k1 l0 l1 (x6_1.set (x8_1 : Int).toNat bt455.1) bt455.2 (wrap64 (x8_1 - 1))) else (none)))) else (none)) = some (r1, r2) := by first | (rw [hy446]; with_reducible exact H) | (have H2_ := (Option.bind_some _ _).symm.trans H; rw [hy446]; with_reducible exact H2_) | (have H2_ := (Option.bind_some _ _).symm.trans H; with_reducible exact H2_) | with_reducible exact H | (rw [hy446]; exact H) | exact H
        have Ny446 := Aside0.mk hy446
        clear hy446
        by_cases c10 : y446.length + x7_1.length < 70368744177664
        ·rw [if_pos c10] at H
         have LMc10 := Aside0.mk c10
         clear c10
         obtain ⟨y449, hy449⟩ : ∃ y_ : List Int, y_ = (y446 ++ x7_1) := ⟨_, rfl⟩
         replace H : ((tribunalref02_trim.f k1 y449).bind fun t452 => ((tribunalref02_digit.f k1 t452 l1).bind fun bt455 => (if x8_1 < (x6_1.length : Int) then (tribunalref02_divD.l0 k1 l0 l1 (x6_1.set (x8_1 : Int).toNat bt455.1) bt455.2 (wrap64 (x8_1 - 1))) else (none)))) = some (r1, r2) := by first | (rw [hy449]; with_reducible exact H) | (have H2_ := (Option.bind_some _ _).symm.trans H; rw [hy449]; with_reducible exact H2_) | (have H2_ := (Option.bind_some _ _).symm.trans H; with_reducible exact H2_) | with_reducible exact H | (rw [hy449]; exact H) | exact H
         have Ny449 := Aside0.mk hy449
         clear hy449
         replace H := Option.bind_eq_some_iff.mp H
         obtain ⟨t452, A110, H⟩ := H
         replace H : ((tribunalref02_digit.f k1 t452 l1).bind fun bt455 => (if x8_1 < (x6_1.length : Int) then (tribunalref02_divD.l0 k1 l0 l1 (x6_1.set (x8_1 : Int).toNat bt455.1) bt455.2 (wrap64 (x8_1 - 1))) else (none))) = some (r1, r2) := H
         have A11 := Aside0.mk A110
         clear A110
         replace H := Option.bind_eq_some_iff.mp H
         obtain ⟨⟨t455, t456⟩, A120, H⟩ := H
         replace H : (if x8_1 < (x6_1.length : Int) then (tribunalref02_divD.l0 k1 l0 l1 (x6_1.set (x8_1 : Int).toNat t455) t456 (wrap64 (x8_1 - 1))) else (none)) = some (r1, r2) := H
         have A12 := Aside0.mk A120
         clear A120
         by_cases c13 : x8_1 < (x6_1.length : Int)
         ·rw [if_pos c13] at H
          have c13b0 : decide (x8_1 < (x6_1.length : Int)) = true := decide_eq_true c13
          clear c13
          obtain ⟨y459, hy459⟩ : ∃ y_ : List Int, y_ = (x6_1.set (x8_1 : Int).toNat t455) := ⟨_, rfl⟩
          replace H : (tribunalref02_divD.l0 k1 l0 l1 y459 t456 (wrap64 (x8_1 - 1))) = some (r1, r2) := by first | (rw [hy459]; with_reducible exact H) | (have H2_ := (Option.bind_some _ _).symm.trans H; rw [hy459]; with_reducible exact H2_) | (have H2_ := (Option.bind_some _ _).symm.trans H; with_reducible exact H2_) | with_reducible exact H | (rw [hy459]; exact H) | exact H
          have Ny459 := Aside0.mk hy459
          clear hy459
          have H' := Aside0.mk H
          clear H
          have p445 : 0 ≤ (x8_1 : Int) := of_decide_eq_true ‹_›
          have q445 : x8_1 < (l0.length : Int) := of_decide_eq_true ‹_›
          obtain ⟨ad445, e445, hx445_0⟩ := Kd.at_int HR0.out x8_1 p445 q445
          cases e445
          replace hx445_0 := (HB.out.cell (World.block_lt_of_cell? w _ hx445_0)).trans hx445_0
          replace p445 := eq_true p445
          replace q445 := eq_true q445
          go_wp2_with (first | ((with_reducible refine gate_dst (N := 25) rfl ?_); refine Kd.R_lit (Kd.int .u16) _ 94 ?hg (N := 25) ?hd (xs := ([rd l0 x8_1] : List Int)) (inner := [.int .u16 (rd l0 x8_1)]) (ok := fun _ => True) (okp := fun _ => True) ?hr ?hp (fun _ hk => hk) trivial (Below.refl _ _) (Nat.le_refl _) (by simp) ?_; (case hd => rfl); (case hg => rfl); (case hr => first | (go_simp; done) | (go_simp; rfl)); (case hp => exact (Reps.one (show Kd.M (Kd.int .u16) _ _ _ (rd l0 x8_1) [.int .u16 (rd l0 x8_1)] from rfl) (Reps.none _ _))); intro v447 w15 ho16 hb hg_ hnew_; clear hg_ hnew_; (first | rw [← Ny446.out] at ho16 | (simp only [Int.reduceToNat] at ho16; rw [← Ny446.out] at ho16)); replace HO_7 := Aside0.mk (Kd.V_elder' (kvu HO_7.out) (Kd.R_base ho16) hb); have HO448 := Aside0.mk (Kd.R_lower (Kd.R_new' (Kd.R_newM (M := fun k_ => (w.heap.size ≤ k_)) ho16 (below_size (khu HB.out)) (fun k_ h_ => h_)) (Kd.R_lt (kru HO_6.out))) (below_size (khu HB.out))); replace HO_6 := Aside0.mk (Kd.R_elder' (kru HO_6.out) (Kd.R_base ho16) hb); replace HB := kbs HB hb; clear hb ho16; obtain ⟨Ao18, co18, eo18⟩ := Kd.V_slice HO_7.out; subst eo18) | ((with_reducible refine gate_builtin (b := .append) (xs := #[.tmp 25, .tmp 26]) rfl ?_); at_builtin; refine Kd.R_append_rows (Kd.int .u16) (w0 := w) w.heap.size rfl (.tmp 25) (.tmp 26) 70 94 (.int .u16 0) 2 rfl Tryd.underlying70 info94 rfl (by decide) (by omega) v447 y446 x7_1 _ _ _ (fun k_ => (w.heap.size ≤ k_) ∧ some k_ ≠ (v443 : Value).ownBlock) (fun _ => False) rfl rfl ?aO ?aR (fun _ _ h => h) (fun _ h => h.elim) ?aF ?aB ?aS ?aL ?_; (case aR => repeat (first | exact (Kd.V_reads' HO_7.out).2.2 | (with_reducible refine Kd.C_alloc ?_ _) | (with_reducible refine Kd.C_drewN ?_ _) | (with_reducible refine Kd.C_drew ?_))); (case aB => exact (khu HB.out)); (case aF => exact (fun k_ hk => ⟨(Nat.le_trans (below_size (khu HB.out)) hk), Kd.fresh' (Kd.R_lt (kru HO_6.out)) k_ hk⟩)); (case aO => exact (by (with_reducible repeat (first | apply Kd.R_alloc | apply Kd.R_drewN | apply Kd.R_drew)); exact Kd.R_mono HO448.out (fun _ hk => ⟨hk.1.1, hk.2⟩))); (case aS => exact (below_size (khu HB.out))); (case aL => have := LMc10.out; omega); intro v450 w17 ho hb hg hat; rw [← Ny449.out] at ho; replace HO_6 := Aside0.mk (Kd.R_after (ok := (fun k_ => (w.heap.size ≤ k_))) (kru HO_6.out) hg hat); replace HO_7 := Aside0.mk (Kd.V_afterv (ok := (fun k_ => (w.heap.size ≤ k_) ∧ some k_ ≠ (v443 : Value).ownBlock)) (kvu HO_7.out) hg hat); replace HB := Aside0.mk (hb); have HO451 := Aside0.mk (ho); clear HO448; clear ho hb hg hat; obtain ⟨Ao19, co19, eo19⟩ := Kd.R_slice HO451.out; subst eo19) | ((with_reducible refine gate_callee (f := 110) rfl ?_); refine kgl (some 28) rfl rfl Tryd.func110 #[.slice Ao19 y449.length co19] rfl ?_; (with_reducible refine (tribunalref02_trim.calls k1 (fun k_ => some k_ = (.slice Ao19 y449.length co19 : Value).ownBlock) _ _ y449 t452 _ ?side1 A11.out).mono ?_); (case side1 => exact Kd.R_V (Kd.R_tight rfl (HO451.out))); rintro e w20 ⟨v453, rfl, ho0, hb⟩; refine ⟨_, rfl, ?_⟩; replace HO_7 := kvb HO_7 hb; have HO454 := Aside0.mk (Kd.V_lower (Kd.V_mono (ok' := fun k_ => (w.heap.size ≤ k_) ∧ some k_ ≠ (v443 : Value).ownBlock) ho0 (fun k_ hk_ => ⟨Or.elim hk_ (fun hs_ => ((HO451.out).1 k_ hs_.symm).1) (fun hn_ => (Nat.le_trans (below_size (khu HB.out)) hn_)), Or.elim hk_ (fun hs_ => ((HO451.out).1 k_ hs_.symm).2) (fun hn_ => (Kd.fresh' (Kd.R_lt (kru HO_6.out)) k_ hn_))⟩)) (below_size (khu HB.out))); replace HO_6 := krb HO_6 hb; replace HO451 := krb HO451 hb; replace HB := kbs HB hb; (try clear hb); (try clear hb2); (try clear hk); (try clear hi); (try clear ho0); obtain ⟨Ao21, co21, eo21⟩ := Kd.V_slice HO454.out; subst eo21) | ((with_reducible refine gate_callee (f := 128) rfl ?_); refine kgl (some 32) rfl rfl Tryd.func128 #[.slice Ao21 t452.length co21, .slice A1 l1.length c1] rfl ?_; (with_reducible refine (tribunalref02_digit.calls k1 _ _ t452 _ _ l1 t455 t456 _ ?side1 ?side2 ?side3 ?side4 A12.out).mono ?_); (case side1 => repeat (first | exact (Kd.V_reads' HO454.out).2.2 | (with_reducible refine Kd.C_alloc ?_ _) | (with_reducible refine Kd.C_drewN ?_ _) | (with_reducible refine Kd.C_drew ?_))); (case side2 => exact (Kd.V_reads' HO454.out).2.1); (case side3 => repeat (first | exact (Kd.C_below HR1.out HB.out) | (with_reducible refine Kd.C_alloc ?_ _) | (with_reducible refine Kd.C_drewN ?_ _) | (with_reducible refine Kd.C_drew ?_))); (case side4 => exact HC1.out); rintro e w22 ⟨v457, rfl, ho0, hb⟩; refine ⟨_, rfl, ?_⟩; replace HO_7 := kvb HO_7 hb; replace HO454 := kvb HO454 hb; have HO458 := Aside0.mk (Kd.V_lower (Kd.V_mono (ok' := fun k_ => (w.heap.size ≤ k_) ∧ some k_ ≠ (v443 : Value).ownBlock ∧ some k_ ≠ (.slice Ao19 y449.length co19 : Value).ownBlock) ho0 (fun k_ hk_ => ⟨(Nat.le_trans (below_size (khu HB.out)) hk_), (Kd.fresh' (Kd.R_lt (kru HO_6.out)) k_ hk_), (Kd.fresh' (Kd.R_lt (kru HO451.out)) k_ hk_)⟩)) (below_size (khu HB.out))); replace HO_6 := krb HO_6 hb; replace HO451 := krb HO451 hb; replace HB := kbs HB hb; (try clear hb); (try clear hb2); (try clear hk); (try clear hi); (try clear ho0); have p14 : 0 ≤ (x8_1 : Int) := of_decide_eq_true ‹_›; have q14 : (x8_1 : Int) < ((x6_1.length : Int) : Int) := of_decide_eq_true ‹_›; obtain ⟨go14, co14, eo14, gb14, gl14, cl14, HG14⟩ := Kd.R_form HO_6.out (by omega); (first | cases eo14 | (injection eo14 with ea_ en_ ec_; (first | subst ea_ | (injection ea_ with ea_; subst ea_)); subst ec_; clear en_)); have GB14 := Aside0.mk gb14; have GG14 := Aside0.mk HG14; clear gb14 gl14 HG14; obtain ⟨hx14_0, hf14_0⟩ := Kd.R_celln 0 HO_6.out (x8_1 : Int) p14 q14; replace p14 := eq_true p14; replace q14 := eq_true q14; obtain ⟨hy23_, hz23_⟩ := Kd.R_celln 0 HO_6.out (x8_1 : Int) (of_decide_eq_true ‹_›) (of_decide_eq_true ‹_›); have HP23 := Kd.R_putg HO_6.out (x8_1 : Int) t455) | ((with_reducible refine gate_store (t := 94) (p := 38) rfl ?_); refine store_event (t := 94) (p := 38) (v := ?vo_w24) (w1 := (w22.setCell ⟨go14, (x8_1 : Int).toNat, none⟩ (.int .u16 t455))) ?hg ?ho ?hn ?hr ?_; (case ho => rfl); (case hg => rfl); (case hn => rfl); (case hr => first | (go_simp; done) | (go_simp; rfl)); intro w24 hw; have hg : w22.grownBy w24 (some go14) := (by rw [hw]; exact HP23.2); have hp_ : Kd.R (Kd.int .u16) 94 w24 w.heap.size (fun k_ => (w.heap.size ≤ k_) ∧ some k_ ≠ (.slice Ao19 y449.length co19 : Value).ownBlock) (.slice (some ⟨go14, 0, none⟩) x6_1.length co14) y459 := (by rw [hw, Ny459.out]; exact HP23.1); clear HP23; replace HO_6 := Aside0.mk (hp_); replace HO_7 := Aside0.mk (Kd.V_afterv (v := (.slice (some ⟨go14, 0, none⟩) x6_1.length co14)) (v1 := (.slice (some ⟨go14, 0, none⟩) x6_1.length co14)) (ok := (fun k_ => (w.heap.size ≤ k_) ∧ some k_ ≠ (.slice Ao19 y449.length co19 : Value).ownBlock)) (by (with_reducible repeat (first | apply Kd.V_alloc | apply Kd.V_drewN | apply Kd.V_drew)); exact Kd.V_mono HO_7.out (fun _ hk => ⟨⟨hk.1.1, hk.2⟩, hk.1.2⟩)) hg (.inl rfl)); replace HO451 := Aside0.mk (Kd.R_after (v := (.slice (some ⟨go14, 0, none⟩) x6_1.length co14)) (v1 := (.slice (some ⟨go14, 0, none⟩) x6_1.length co14)) (ok := (fun k_ => (w.heap.size ≤ k_))) (kru HO451.out) hg (.inl rfl)); replace HO454 := Aside0.mk (Kd.V_afterv (v := (.slice (some ⟨go14, 0, none⟩) x6_1.length co14)) (v1 := (.slice (some ⟨go14, 0, none⟩) x6_1.length co14)) (ok := (fun k_ => (w.heap.size ≤ k_))) (kvu HO454.out) hg (.inl rfl)); replace HO458 := Aside0.mk (Kd.V_afterv (v := (.slice (some ⟨go14, 0, none⟩) x6_1.length co14)) (v1 := (.slice (some ⟨go14, 0, none⟩) x6_1.length co14)) (ok := (fun k_ => (w.heap.size ≤ k_) ∧ some k_ ≠ (.slice Ao19 y449.length co19 : Value).ownBlock)) (by (with_reducible repeat (first | apply Kd.V_alloc | apply Kd.V_drewN | apply Kd.V_drew)); exact Kd.V_mono HO458.out (fun _ hk => ⟨⟨hk.1, hk.2.2⟩, hk.2.1⟩)) hg (.inl rfl)); replace HB := Aside0.mk ((by rw [hw]; exact below_set (HB.out) GB14.out : Below w.heap.size w w24)); clear hg hw hp_))
          go_roundg k1
          case measure => have := HK1.out; omega
          case rel => exact ⟨(y459), (t456), (wrap64 (x8_1 - 1)), (by first | rfl | (simp; done) | (simp [*]; done)), H', ⟨by have := HK1.out; omega⟩, ⟨by (with_reducible repeat (first | apply Kd.R_alloc | apply Kd.R_drewN | apply Kd.R_drew)); exact Kd.R_mono HO_6.out (fun _ hk => hk.1)⟩, ⟨by (with_reducible repeat (first | apply Kd.V_alloc | apply Kd.V_drewN | apply Kd.V_drew)); exact Kd.V_mono HO458.out (fun _ hk => ⟨hk.1.1, hk.2⟩)⟩, ⟨by repeat (first | (with_reducible first | exact HB.out | apply below_alloc | apply pw_below_drewN | apply below_drew1) | exact HB.out)⟩⟩
         ·rw [if_neg c13] at H
          exact absurd H (by simp)
        ·rw [if_neg c10] at H
         exact absurd H (by simp)
       ·rw [if_neg c9] at H
        exact absurd H (by simp)
      ·rw [if_neg c8] at H
       exact absurd H (by simp)
     ·rw [if_neg c7] at H
      have c7b0 : decide (0 ≤ x8_1) = false := decide_eq_false c7
      clear c7
      replace H := Option.bind_eq_some_iff.mp H
      obtain ⟨t460, A250, H⟩ := H
      replace H : (some (t460, x7_1)) = some (r1, r2) := H
      have A25 := Aside0.mk A250
      clear A250
      simp only [Option.some.injEq, Prod.mk.injEq] at H
      obtain ⟨rfl, rfl⟩ := H
      obtain ⟨Ao26, co26, eo26⟩ := Kd.R_slice HO_6.out
      subst eo26
      go_wp2_with (first | ((with_reducible refine gate_callee (f := 110) rfl ?_); refine kgl (some 41) rfl rfl Tryd.func110 #[.slice Ao26 x6_1.length co26] rfl ?_; (with_reducible refine (tribunalref02_trim.calls k1 (fun k_ => some k_ = (.slice Ao26 x6_1.length co26 : Value).ownBlock) _ _ x6_1 t460 _ ?side1 A25.out).mono ?_); (case side1 => exact Kd.R_V (Kd.R_tight rfl (HO_6.out))); rintro e w27 ⟨v461, rfl, ho0, hb⟩; refine ⟨_, rfl, ?_⟩; replace HO_7 := kvb HO_7 hb; have HO462 := Aside0.mk (Kd.V_lower (Kd.V_mono (ok' := fun k_ => (w.heap.size ≤ k_)) ho0 (fun k_ hk_ => Or.elim hk_ (fun hs_ => ((HO_6.out).1 k_ hs_.symm)) (fun hn_ => (Nat.le_trans (below_size (khu HB.out)) hn_)))) (below_size (khu HB.out))); replace HO_6 := krb HO_6 hb; replace HB := kbs HB hb; (try clear hb); (try clear hb2); (try clear hk); (try clear hi); (try clear ho0)))
      go_ret2
      exact ⟨_, _, by first | rfl | (simp [errW_none, errW_some] <;> rfl) | (simp [*, errW_none, errW_some] <;> rfl), by (with_reducible repeat (first | apply Kd.V_alloc | apply Kd.V_drewN | apply Kd.V_drew)); exact HO462.out, by (with_reducible repeat (first | apply Kd.V_alloc | apply Kd.V_drewN | apply Kd.V_drew)); exact Kd.V_mono HO_7.out (fun _ hk => hk.1), by repeat (first | (with_reducible first | exact HB.out | apply below_alloc | apply pw_below_drewN | apply below_drew1) | exact HB.out)⟩
  ·rw [if_neg c4] at H
   exact absurd H (by simp)
 ·rw [if_neg c3] at H
  exact absurd H (by simp)
end Go.Proofs.YtodhkpdcpneeeaaDoor.PDv
namespace Go.Proofs.YtodhkpdcpneeeaaDoor.PDv
open Go.Proofs.YtodhkpdcpneeeaaDoor.Mine Go.RowKit Go.Proofs.YtodhkpdcpneeeaaDoorW.PrintWords Go.Proofs.YtodhkpdcpneeeaaDoorW.PrintLast Go.Proofs.YtodhkpdcpneeeaaDoorW.PrintMore
open Go.Proofs.YtodhkpdcpneeeaaDoor.Mine
attribute [local go_sem] max2_int min2_int max_two min_two max_three min_three max_four min_four
set_option linter.unusedVariables false
set_option linter.unusedSimpArgs false
def tribunalref02_Cut.f (k : Nat) (a0_0 : Bool) (l0_1 : List Int) (a1_0 : Bool) (l1_1 : List Int) : Option (Bool × List Int × Bool × List Int) := (tribunalref02_divD.f k l0_1 l1_1).bind fun bt467 => ((tribunalref02_Make.f k (a0_0 != a1_0) bt467.1).bind fun bt473 => ((tribunalref02_Make.f k a0_0 bt467.2).bind fun bt477 => (some (bt473.1, bt473.2, bt477.1, bt477.2))))
def tribunalref02_Cut.T2 : Bool × List (List Nat × List Nat) := (true, [([], []), ([0], [0]), ([], []), ([2], [2]), ([1, 3], [1, 3]), ([], []), ([4, 5], [4, 5]), ([], []), ([7], [7]), ([], []), ([8, 9, 6], [8, 9]), ([6, 10, 0, 1, 2, 3, 4, 5, 6], [6]), ([10, 11, 0, 1, 2, 3, 4, 5, 6, 7, 8, 9, 10, 11], [10])])
def tribunalref02_Cut.B2 : List Nat := [0, 1, 0, 4, 15, 0, 63, 0, 128, 0, 1023, 2047, 4095]
theorem tribunalref02_Cut.tab2 : rtab .any (opsOf Tryd.f75 2) = tribunalref02_Cut.T2 := by kernel_rfl
theorem tribunalref02_Cut.bits2 : waitsOk tribunalref02_Cut.T2.2 tribunalref02_Cut.B2 = true := by kernel_rfl
theorem tribunalref02_Cut.calls (k : Nat) (a0_0 : Bool) (A0_1 : Option Addr) (c0_1 : Nat) (l0_1 : List Int) (a1_0 : Bool) (A1_1 : Option Addr) (c1_1 : Nat) (l1_1 : List Int) (r1 : Bool) (r2 : List Int) (r3 : Bool) (r4 : List Int) (w : World) (hr0_1 : Kd.C (Kd.int .u16) w A0_1 l0_1.length l0_1) (hc0_1 : l0_1.length ≤ c0_1) (hr1_1 : Kd.C (Kd.int .u16) w A1_1 l1_1.length l1_1) (hc1_1 : l1_1.length ≤ c1_1) (h : tribunalref02_Cut.f k a0_0 l0_1 a1_0 l1_1 = some (r1, r2, r3, r4)) :
  Calls Tryd.prog 75 #[.agg #[.bool a0_0, .slice A0_1 l0_1.length c0_1], .agg #[.bool a1_0, .slice A1_1 l1_1.length c1_1]] w fun e w' => ∃ v1_ v3_ : Value, e = .returned (.tuple #[.agg #[.bool r1, v1_], .agg #[.bool r3, v3_]]) ∧ Kd.V (Kd.int .u16) 94 w' w.heap.size (fun k_ => (w.heap.size ≤ k_)) v1_ r2 ∧ Kd.V (Kd.int .u16) 94 w' w.heap.size (fun k_ => (w.heap.size ≤ k_)) v3_ r4 ∧ Below w.heap.size w w' := by
 have hu72 := Tryd.underlying72
 have K := Kp.refl w
 replace K := K.parV (Kd.V_mono (ok' := fun k => k < w.heap.size) (Kd.V_mk (e := 94) (base := 0) hc0_1 (Kd.C_F (Kd.heap_int .u16) hr0_1)) (fun _ h => h))
 clear hr0_1 hc0_1
 replace K := K.parV (Kd.V_mono (ok' := fun k => k < w.heap.size) (Kd.V_mk (e := 94) (base := 0) hc1_1 (Kd.C_F (Kd.heap_int .u16) hr1_1)) (fun _ h => h))
 clear hr1_1 hc1_1
 simp only [klv] at K
 rw [tribunalref02_Cut.f] at h
 replace h := bindA h
 obtain ⟨⟨x9, x10⟩, A11, h⟩ := h
 dsimp only at h
 replace h := bindA h
 obtain ⟨⟨z23, x24⟩, A25, h⟩ := h
 dsimp only at h
 replace h := bindA h
 obtain ⟨⟨z26, x27⟩, A28, h⟩ := h
 dsimp only at h
 go_enter Tryd.func75, Tryd.ntmps75
 go_wp2_with (first | ((with_reducible refine gate_dst (N := 2) rfl ?_); refine kbe 2 #[.bool a0_0, .slice A0_1 l0_1.length c0_1] 72 ?_; intro g1 hg W2 hx hb; replace K := K.u.box hg hx hb; clear hg hx hb) | ((with_reducible refine gate_dst (N := 3) rfl ?_); refine kbe 3 #[.bool a1_0, .slice A1_1 l1_1.length c1_1] 72 ?_; intro g3 hg W4 hx hb; replace K := K.u.box hg hx hb; clear hg hx hb) | ((with_reducible refine gate_dst (N := 4) rfl ?_); refine kbe 4 #[.bool false, .slice none 0 0] 72 ?_; intro g5 hg W6 hx hb; replace K := K.u.box hg hx hb; clear hg hx hb) | ((with_reducible refine gate_dst (N := 5) rfl ?_); refine kbe 5 #[.bool false, .slice none 0 0] 72 ?_; intro g7 hg W8 hx hb; replace K := K.u.box hg hx hb; clear hg hx hb; obtain ⟨ua0, ub0⟩ := K.cell2 0 rfl; obtain ⟨ua1, ub1⟩ := K.cell2 1 rfl) | ((with_reducible refine gate_dst (N := 13) rfl ?_); clear ua0 ub0 ua1 ub1; refine kgl (some 13) rfl rfl Tryd.func105 #[.slice A0_1 l0_1.length c0_1, .slice A1_1 l1_1.length c1_1] rfl ?_; refine (tribunalref02_divD.calls _ _ _ l0_1 _ _ l1_1 x9 x10 _ (K.C 0 rfl) (K.le 0 rfl) (K.C 1 rfl) (K.le 1 rfl) A11.out).mono ?_; rintro e W16 ⟨v12, v13, rfl, ho14, ho15, hb⟩; refine ⟨_, rfl, ?_⟩; have K1 := K.u.addF (fun _ => False) hb ho14; replace K := K.u.moreF (fun _ => False) K1 ho15; clear K1; clear hb ho14 ho15; obtain ⟨P17, c18, e19⟩ := K.slice 2 rfl; subst e19; obtain ⟨P20, c21, e22⟩ := K.slice 3 rfl; subst e22))
 obtain ⟨Bs, Vs, Os, hBs, hVs, hOs, K⟩ := K.abs
 have HS : Aside0 (∀ l m o W, Kp w (Bs ++ l) m o W → W.cell? ⟨g1, 0, none⟩ = some (.bool a0_0) ∧ W.cell? ⟨g1, 1, none⟩ = some (.slice A0_1 l0_1.length c0_1) ∧ W.cell? ⟨g3, 0, none⟩ = some (.bool a1_0) ∧ W.cell? ⟨g3, 1, none⟩ = some (.slice A1_1 l1_1.length c1_1)) := ⟨fun l m o W K => by rw [hBs.out] at K; exact ⟨K.cell 0 rfl 0 rfl, K.cell 0 rfl 1 rfl, K.cell 1 rfl 0 rfl, K.cell 1 rfl 1 rfl⟩⟩
 refine kpstart (n := 13) (ds := []) (S := fun W => W.cell? ⟨g1, 0, none⟩ = some (.bool a0_0) ∧ W.cell? ⟨g1, 1, none⟩ = some (.slice A0_1 l0_1.length c0_1) ∧ W.cell? ⟨g3, 0, none⟩ = some (.bool a1_0) ∧ W.cell? ⟨g3, 1, none⟩ = some (.slice A1_1 l1_1.length c1_1)) #[false, false, false, false, false, false, false, false, false, false, false, false, false] (by kernel_rfl) rfl rfl K (HS.out [] _ _) (fun W31 K hH => ?_)
 refine with_tabW tribunalref02_Cut.tab2 tribunalref02_Cut.bits2 (fun HT_ HW_ => ?_)
 refine pure_ (i := 0) (N := some 16) (v := ?_) (a' := ?_) #[true, false, false, false, false, false, false, false, false, false, false, false, false] rfl rfl (any_of HT_.out (by kernel_rfl)) (fun _ _ _ h => h) (Or.inl ⟨by rfl, ?_⟩) ?_ ?_
 rotate_left
 ·intro w'
  go_simp
  with_reducible rfl
 rotate_left
 ·simp only [Act.put, kss, i64_w, i32_w]
  rfl
 refine take_ (i := 1) (N := some 17) (v := ?_) (a' := ?_) #[true, true, false, false, false, false, false, false, false, false, false, false, false] rfl rfl (take_ofW HT_.out HW_.out (by kernel_rfl)) (fun _ _ _ h => h) (Or.inl ⟨by rfl, ?_⟩) hH ?_ ?_
 rotate_left
 ·rintro w' ⟨s0, s1, s2, s3⟩
  go_simp
  with_reducible rfl
 rotate_left
 ·simp only [Act.put, kss, i64_w, i32_w]
  rfl
 refine pure_ (i := 2) (N := some 18) (v := ?_) (a' := ?_) #[true, true, true, false, false, false, false, false, false, false, false, false, false] rfl rfl (any_of HT_.out (by kernel_rfl)) (fun _ _ _ h => h) (Or.inl ⟨by rfl, ?_⟩) ?_ ?_
 rotate_left
 ·intro w'
  go_simp
  with_reducible rfl
 rotate_left
 ·simp only [Act.put, kss, i64_w, i32_w]
  rfl
 refine take_ (i := 3) (N := some 19) (v := ?_) (a' := ?_) #[true, true, true, true, false, false, false, false, false, false, false, false, false] rfl rfl (take_ofW HT_.out HW_.out (by kernel_rfl)) (fun _ _ _ h => h) (Or.inl ⟨by rfl, ?_⟩) hH ?_ ?_
 rotate_left
 ·rintro w' ⟨s0, s1, s2, s3⟩
  go_simp
  with_reducible rfl
 rotate_left
 ·simp only [Act.put, kss, i64_w, i32_w]
  rfl
 refine pure_ (i := 4) (N := some 20) (v := ?_) (a' := ?_) #[true, true, true, true, true, false, false, false, false, false, false, false, false] rfl rfl (any_of HT_.out (by kernel_rfl)) (fun _ _ _ h => h) (Or.inl ⟨by rfl, ?_⟩) ?_ ?_
 rotate_left
 ·intro w'
  go_simp
  with_reducible rfl
 rotate_left
 ·simp only [Act.put, kss, i64_w, i32_w]
  rfl
 refine pure_ (i := 5) (N := some 21) (v := ?_) (a' := ?_) #[true, true, true, true, true, true, false, false, false, false, false, false, false] rfl rfl (any_of HT_.out (by kernel_rfl)) (fun _ _ _ h => h) (Or.inl ⟨by rfl, ?_⟩) ?_ ?_
 rotate_left
 ·intro w'
  go_simp
  with_reducible rfl
 rotate_left
 ·simp only [Act.put, kss, i64_w, i32_w]
  rfl
 refine pure_ (i := 7) (N := some 23) (v := ?_) (a' := ?_) #[true, true, true, true, true, true, false, true, false, false, false, false, false] rfl rfl (any_of HT_.out (by kernel_rfl)) (fun _ _ _ h => h) (Or.inl ⟨by rfl, ?_⟩) ?_ ?_
 rotate_left
 ·intro w'
  go_simp
  with_reducible rfl
 rotate_left
 ·simp only [Act.put, kss, i64_w, i32_w]
  rfl
 refine take_ (i := 8) (N := some 24) (v := ?_) (a' := ?_) #[true, true, true, true, true, true, false, true, true, false, false, false, false] rfl rfl (take_ofW HT_.out HW_.out (by kernel_rfl)) (fun _ _ _ h => h) (Or.inl ⟨by rfl, ?_⟩) hH ?_ ?_
 rotate_left
 ·rintro w' ⟨s0, s1, s2, s3⟩
  go_simp
  with_reducible rfl
 rotate_left
 ·simp only [Act.put, kss, i64_w, i32_w]
  rfl
 refine pure_ (i := 9) (N := some 25) (v := ?_) (a' := ?_) #[true, true, true, true, true, true, false, true, true, true, false, false, false] rfl rfl (any_of HT_.out (by kernel_rfl)) (fun _ _ _ h => h) (Or.inl ⟨by rfl, ?_⟩) ?_ ?_
 rotate_left
 ·intro w'
  go_simp
  with_reducible rfl
 rotate_left
 ·simp only [Act.put, kss, i64_w, i32_w]
  rfl
 refine one_ (i := 6) (N := some 22) #[true, true, true, true, true, true, true, true, true, true, false, false, false] rfl rfl (one_of HT_.out (by kernel_rfl)) (by decide) (fun Kc hK => ?_)
 refine kgo Tryd.func87 #[.bool (a0_0 != a1_0), .slice P17 x9.length c18] (by rfl) rfl rfl ?_
 refine (tribunalref02_Make.calls _ (a0_0 != a1_0) _ _ _ x9 z23 x24 _ (K.V 2 (by rw [hVs.out]; rfl)) A25.out).mono ?_
 rintro e W' ⟨v29, rfl, ho32, hb⟩
 replace K := K.addI 0 (fun _ => False) hb ho32 (fun _ h => h)
 clear hb ho32
 refine ⟨_, rfl, hK.out _ _ (HS.out _ _ _ _ K) fun hH => ?_⟩
 clear hK Kc
 refine norm_ (a' := ?_) ?_ ?_
 rotate_left
 ·show Act.put _ (some 22) _ = _
  simp only [Act.put, kss, i64_w, i32_w]
  rfl
 refine one_ (i := 10) (N := some 26) #[true, true, true, true, true, true, true, true, true, true, true, false, false] rfl rfl (one_of HT_.out (by kernel_rfl)) (by decide) (fun Kc hK => ?_)
 refine kgo Tryd.func87 #[.bool a0_0, .slice P20 x10.length c21] (by rfl) rfl rfl ?_
 refine (tribunalref02_Make.calls _ a0_0 _ _ _ x10 z26 x27 _ (K.V 3 (by rw [hVs.out]; rfl)) A28.out).mono ?_
 rintro e W' ⟨v30, rfl, ho33, hb⟩
 replace K := K.addI 1 (fun _ => False) hb ho33 (fun _ h => h)
 clear hb ho33
 refine ⟨_, rfl, hK.out _ _ (HS.out _ _ _ _ K) fun hH => ?_⟩
 clear hK Kc
 refine norm_ (a' := ?_) ?_ ?_
 rotate_left
 ·show Act.put _ (some 26) _ = _
  simp only [Act.put, kss, i64_w, i32_w]
  rfl
 obtain ⟨P34, c35, e36⟩ := K.slice 4 (by rw [hVs.out]; rfl)
 subst e36
 obtain ⟨P37, c38, e39⟩ := K.slice 5 (by rw [hVs.out]; rfl)
 subst e39
 rw [hBs.out, hVs.out, hOs.out] at K
 simp only [kls, klv] at K
 clear hBs hVs hOs HS hH
 refine kone2 (i := 11) #[true, true, true, true, true, true, true, true, true, true, true, true, false] 2 (.bool z23) (.slice P34 x24.length c35) K rfl rfl rfl (one_of HT_.out (by kernel_rfl)) (by decide) (by rfl) ?_ (fun W K => ⟨K.cell 0 rfl 0 rfl, K.cell 0 rfl 1 rfl, K.cell 1 rfl 0 rfl, K.cell 1 rfl 1 rfl⟩) ?_
 ·intro c0 c1 f0 f1
  first | (go_simp; done) | (go_simp; rfl)
 clear K
 intro W40 K
 simp only [kls, klv] at K
 refine kone2 (i := 12) #[true, true, true, true, true, true, true, true, true, true, true, true, true] 3 (.bool z26) (.slice P37 x27.length c38) K rfl rfl rfl (one_of HT_.out (by kernel_rfl)) (by decide) (by rfl) ?_ (fun W K => ⟨K.cell 0 rfl 0 rfl, K.cell 0 rfl 1 rfl, K.cell 1 rfl 0 rfl, K.cell 1 rfl 1 rfl⟩) ?_
 ·intro c0 c1 f0 f1
  first | (go_simp; done) | (go_simp; rfl)
 clear K
 intro W41 K
 simp only [kls, klv] at K
 refine done_ (done_of HT_.out (by kernel_rfl)) ?_
 clear HT_ HW_
 simp only [Option.some.injEq, Prod.mk.injEq] at h
 obtain ⟨rfl, rfl, rfl, rfl⟩ := h
 go_wp2
 refine bodyPost_ret (results_list (rs := [.cell 4 72, .cell 5 72]) rfl (by simp) (.cell g5 72 #[.bool z23, .slice P34 x24.length c35] (0, 0) _ rfl (K.u.heap 2 rfl) Tryd.underlying72 rfl (by kernel_rfl) (.cell g7 72 #[.bool z26, .slice P37 x27.length c38] (0, 0) _ rfl (K.u.heap 3 rfl) Tryd.underlying72 rfl (by kernel_rfl) .nil))) rfl ?_
 exact ⟨_, _, rfl, K.u.hand 4 rfl (fun _ h => h.elim (fun h => h.elim) id), K.u.hand 5 rfl (fun _ h => h.elim (fun h => h.elim) id), K.u.below⟩
end Go.Proofs.YtodhkpdcpneeeaaDoor.PDv
namespace Go.Proofs.YtodhkpdcpneeeaaDoor.PDv
open Go.RowKit Go.Proofs.YtodhkpdcpneeeaaDoorW.PrintWords Go.Proofs.YtodhkpdcpneeeaaDoorW.PrintLast Go.Proofs.YtodhkpdcpneeeaaDoorW.PrintMore
open Go.Proofs.YtodhkpdcpneeeaaDoor.Mine
attribute [local go_sem] max2_int min2_int max_two min_two max_three min_three max_four min_four
set_option linter.unusedVariables false
set_option linter.unusedSimpArgs false
mutual
def tribunalref02_addD.l0 : Nat → List Int → List Int → List Int → Int → Int → Option (List Int)
 | 0, _, _, _, _, _ => none
 | k + 1, x0, x1, x5, x6, x7 => if x7 < (x0.length : Int) then (tribunalref02_addD.j1 k x0 x1 x5 x6 x7 true) else (if x7 < (x1.length : Int) then (tribunalref02_addD.j1 k x0 x1 x5 x6 x7 true) else (tribunalref02_addD.j1 k x0 x1 x5 x6 x7 (decide (x6 > 0))))
def tribunalref02_addD.j1 : Nat → List Int → List Int → List Int → Int → Int → Bool → Option (List Int)
 | 0, _, _, _, _, _, _ => none
 | k + 1, x0, x1, x5, x6, x7, x21 => if x21 = true then (if x7 < (x0.length : Int) then (if 0 ≤ x7 then (if x7 < (x1.length : Int) then (if x5.length < 70368744177664 then (tribunalref02_addD.l0 k x0 x1 (x5 ++ [IntKind.u16.wrap (((x6 + (rd x0 x7)) + (rd x1 x7)) % 4294967296)]) ((((x6 + (rd x0 x7)) + (rd x1 x7)) % 4294967296) / 65536) (wrap64 (x7 + 1))) else (none)) else (if x5.length < 70368744177664 then (tribunalref02_addD.l0 k x0 x1 (x5 ++ [IntKind.u16.wrap ((x6 + (rd x0 x7)) % 4294967296)]) (((x6 + (rd x0 x7)) % 4294967296) / 65536) (wrap64 (x7 + 1))) else (none))) else (none)) else (if x7 < (x1.length : Int) then (if 0 ≤ x7 then (if x5.length < 70368744177664 then (tribunalref02_addD.l0 k x0 x1 (x5 ++ [IntKind.u16.wrap ((x6 + (rd x1 x7)) % 4294967296)]) (((x6 + (rd x1 x7)) % 4294967296) / 65536) (wrap64 (x7 + 1))) else (none)) else (none)) else (if x5.length < 70368744177664 then (tribunalref02_addD.l0 k x0 x1 (x5 ++ [IntKind.u16.wrap (x6)]) (x6 / 65536) (wrap64 (x7 + 1))) else (none)))) else (some x5)
end
def tribunalref02_addD.f (k : Nat) (l0 : List Int) (l1 : List Int) : Option (List Int) := tribunalref02_addD.l0 k l0 l1 ([] : List Int) 0 0
theorem tribunalref02_addD.calls (k : Nat) (A0 : Option Addr) (c0 : Nat) (l0 : List Int) (A1 : Option Addr) (c1 : Nat) (l1 : List Int) (r : List Int) (w : World) (hr0 : Kd.C (Kd.int .u16) w A0 l0.length l0) (hc0 : l0.length ≤ c0) (hr1 : Kd.C (Kd.int .u16) w A1 l1.length l1) (hc1 : l1.length ≤ c1) (h : tribunalref02_addD.f k l0 l1 = some r) :
  Calls Tryd.prog 106 #[.slice A0 l0.length c0, .slice A1 l1.length c1] w fun e w' => ∃ v0_ : Value, e = .returned (v0_) ∧ Kd.R (Kd.int .u16) 94 w' w.heap.size (fun _ => True) v0_ r ∧ Below w.heap.size w w' := by
 have HR0 := Aside0.mk hr0
 have HC0 := Aside0.mk hc0
 clear hr0 hc0
 have HR1 := Aside0.mk hr1
 have HC1 := Aside0.mk hc1
 clear hr1 hc1
 have HB := Aside0.mk (Below.refl w.heap.size w)
 have H : (tribunalref02_addD.l0 k l0 l1 ([] : List Int) 0 0) = some r := h
 clear h
 have H' := Aside0.mk H
 clear H
 go_enter Tryd.func106, Tryd.ntmps106
 go_wp2
 go_loopg [5, 6, 7] k (fun kq v5 v6 v7 w' => ∃ (x5_1 : List Int) (x6_1 : Int) (x7_1 : Int), v6 = .int .u32 x6_1 ∧ v7 = .int .i64 x7_1 ∧ Aside0 (tribunalref02_addD.l0 kq l0 l1 x5_1 x6_1 x7_1 = some r) ∧ Aside0 (kq ≤ k) ∧ Aside0 (Kd.R (Kd.int .u16) 94 w' w.heap.size (fun _ => True) v5 x5_1) ∧ Aside0 (Below w.heap.size w w'))
 case atStart => exact ⟨(([] : List Int)), (0), (0), (by first | rfl | (simp; done) | (simp [*]; done)), (by first | rfl | (simp; done) | (simp [*]; done)), H', ⟨Nat.le_refl _⟩, ⟨by first | exact Kd.R_nil _ _ _ _ _ | exact Kd.N_nil _ _ _ _ _ | exact Kd.V_nil _ _ _ _ _ | exact Kd.Q_nil _ _ _ _ _ | exact Kd.S_nil _ _ _ _ _⟩, ⟨by repeat (first | (with_reducible first | exact HB.out | apply below_alloc | apply pw_below_drewN | apply below_drew1) | exact HB.out)⟩⟩
 case round =>
  clear H'
  try clear c1
  try clear p2
  obtain ⟨x5_1, x6_1, x7_1, rfl, rfl, HA, HK1, HO_5, HB⟩ := hrel
  cases gk with
  | zero => exact absurd HA.out (by simp [tribunalref02_addD.l0])
  | succ k1 =>
   have H := HA.out
   clear HA
   simp only [tribunalref02_addD.l0] at H
   have HC3 := Aside0.mk H
   clear H
   go_upto_region 4 with (fail)
   go_cut [21] (fun v21 wc => ∃ (kq : Nat) (x21_2 : Bool), v21 = .bool x21_2 ∧ Aside0 (tribunalref02_addD.j1 kq l0 l1 x5_1 x6_1 x7_1 x21_2 = some r) ∧ Aside0 (kq ≤ k1) ∧ Aside0 (Kd.R (Kd.int .u16) 94 wc w.heap.size (fun _ => True) u5 x5_1) ∧ Aside0 (Below w.heap.size w wc))
   case first =>
    have H := HC3.out
    clear HC3
    by_cases c4 : x7_1 < (l0.length : Int)
    ·rw [if_pos c4] at H
     have c4b0 : decide (x7_1 < (l0.length : Int)) = true := decide_eq_true c4
     clear c4
     (first | rw [c4b0] | rw [c4b1] | (simp only [i64_w, i32_w]; rw [c4b0]) | skip)
     have H' := Aside0.mk H
     clear H
     go_wp2
     go_meet
     case rel => exact ⟨_, (true), (by first | rfl | (simp; done) | (simp [*]; done)), H', ⟨by have := HK1.out; first | omega | exact Nat.le_refl _⟩, ⟨by (with_reducible repeat (first | apply Kd.R_alloc | apply Kd.R_drewN | apply Kd.R_drew)); exact HO_5.out⟩, ⟨by repeat (first | (with_reducible first | exact HB.out | apply below_alloc | apply pw_below_drewN | apply below_drew1) | exact HB.out)⟩⟩
    ·rw [if_neg c4] at H
     have c4b0 : decide (x7_1 < (l0.length : Int)) = false := decide_eq_false c4
     clear c4
     (first | rw [c4b0] | rw [c4b1] | (simp only [i64_w, i32_w]; rw [c4b0]) | skip)
     by_cases c5 : x7_1 < (l1.length : Int)
     ·rw [if_pos c5] at H
      have c5b0 : decide (x7_1 < (l1.length : Int)) = true := decide_eq_true c5
      clear c5
      have H' := Aside0.mk H
      clear H
      go_wp2
      go_meet
      case rel => exact ⟨_, (true), (by first | rfl | (simp; done) | (simp [*]; done)), H', ⟨by have := HK1.out; first | omega | exact Nat.le_refl _⟩, ⟨by (with_reducible repeat (first | apply Kd.R_alloc | apply Kd.R_drewN | apply Kd.R_drew)); exact HO_5.out⟩, ⟨by repeat (first | (with_reducible first | exact HB.out | apply below_alloc | apply pw_below_drewN | apply below_drew1) | exact HB.out)⟩⟩
     ·rw [if_neg c5] at H
      have c5b0 : decide (x7_1 < (l1.length : Int)) = false := decide_eq_false c5
      clear c5
      have H' := Aside0.mk H
      clear H
      go_wp2
      go_meet
      case rel => exact ⟨_, (decide (x6_1 > 0)), (by first | rfl | (simp; done) | (simp [*]; done)), H', ⟨by have := HK1.out; first | omega | exact Nat.le_refl _⟩, ⟨by (with_reducible repeat (first | apply Kd.R_alloc | apply Kd.R_drewN | apply Kd.R_drew)); exact HO_5.out⟩, ⟨by repeat (first | (with_reducible first | exact HB.out | apply below_alloc | apply pw_below_drewN | apply below_drew1) | exact HB.out)⟩⟩
   case rest =>
    clear HC3
    try clear c1
    try clear p2
    try clear c4
    try clear c4b0
    try clear c4b1
    try clear c5
    try clear c5b0
    try clear p2
    obtain ⟨kq, x21_2, rfl, HA, HJ2, HO_5, HB⟩ := hcut
    cases kq with
    | zero => exact absurd HA.out (by simp [tribunalref02_addD.j1])
    | succ kj2 =>
     have H := HA.out
     clear HA
     simp only [tribunalref02_addD.j1] at H
     by_cases c6 : x21_2 = true
     ·subst c6
      have H1 : (if x7_1 < (l0.length : Int) then (if 0 ≤ x7_1 then (if x7_1 < (l1.length : Int) then (if x5_1.length < 70368744177664 then (tribunalref02_addD.l0 kj2 l0 l1 (x5_1 ++ [IntKind.u16.wrap (((x6_1 + (rd l0 x7_1)) + (rd l1 x7_1)) % 4294967296)]) ((((x6_1 + (rd l0 x7_1)) + (rd l1 x7_1)) % 4294967296) / 65536) (wrap64 (x7_1 + 1))) else (none)) else (if x5_1.length < 70368744177664 then (tribunalref02_addD.l0 kj2 l0 l1 (x5_1 ++ [IntKind.u16.wrap ((x6_1 + (rd l0 x7_1)) % 4294967296)]) (((x6_1 + (rd l0 x7_1)) % 4294967296) / 65536) (wrap64 (x7_1 + 1))) else (none))) else (none)) else (if x7_1 < (l1.length : Int) then (if 0 ≤ x7_1 then (if x5_1.length < 70368744177664 then (tribunalref02_addD.l0 kj2 l0 l1 (x5_1 ++ [IntKind.u16.wrap ((x6_1 + (rd l1 x7_1)) % 4294967296)]) (((x6_1 + (rd l1 x7_1)) % 4294967296) / 65536) (wrap64 (x7_1 + 1))) else (none)) else (none)) else (if x5_1.length < 70368744177664 then (tribunalref02_addD.l0 kj2 l0 l1 (x5_1 ++ [IntKind.u16.wrap (x6_1)]) (x6_1 / 65536) (wrap64 (x7_1 + 1))) else (none)))) = some r := by rw [if_pos rfl] at H; exact H
      clear H
      have H := H1
      clear H1
      by_cases c7 : x7_1 < (l0.length : Int)
      ·rw [if_pos c7] at H
       have c7b0 : decide (x7_1 < (l0.length : Int)) = true := decide_eq_true c7
       clear c7
       by_cases c8 : 0 ≤ x7_1
       ·rw [if_pos c8] at H
        have c8b0 : decide (0 ≤ x7_1) = true := decide_eq_true c8
        clear c8
        by_cases c9 : x7_1 < (l1.length : Int)
        ·rw [if_pos c9] at H
         have c9b0 : decide (x7_1 < (l1.length : Int)) = true := decide_eq_true c9
         clear c9
         by_cases c10 : x5_1.length < 70368744177664
         ·rw [if_pos c10] at H
          have LMc10 := Aside0.mk c10
          clear c10
          obtain ⟨y483, hy483⟩ : ∃ y_ : List Int, y_ = (x5_1 ++ [IntKind.u16.wrap (((x6_1 + (rd l0 x7_1)) + (rd l1 x7_1)) % 4294967296)]) := ⟨_, rfl⟩
          replace H : (tribunalref02_addD.l0 kj2 l0 l1 y483 ((((x6_1 + (rd l0 x7_1)) + (rd l1 x7_1)) % 4294967296) / 65536) (wrap64 (x7_1 + 1))) = some r := by first | (rw [hy483]; with_reducible exact H) | (have H2_ := (Option.bind_some _ _).symm.trans H; rw [hy483]; with_reducible exact H2_) | (have H2_ := (Option.bind_some _ _).symm.trans H; with_reducible exact H2_) | with_reducible exact H | (rw [hy483]; exact H) | exact H
          have Ny483 := Aside0.mk hy483
          clear hy483
          have H' := Aside0.mk H
          clear H
          have p481 : 0 ≤ (x7_1 : Int) := of_decide_eq_true ‹_›
          have q481 : x7_1 < (l0.length : Int) := of_decide_eq_true ‹_›
          obtain ⟨ad481, e481, hx481_0⟩ := Kd.at_int HR0.out x7_1 p481 q481
          cases e481
          replace hx481_0 := (HB.out.cell (World.block_lt_of_cell? w _ hx481_0)).trans hx481_0
          replace p481 := eq_true p481
          replace q481 := eq_true q481
          have p482 : 0 ≤ (x7_1 : Int) := of_decide_eq_true ‹_›
          have q482 : x7_1 < (l1.length : Int) := of_decide_eq_true ‹_›
          obtain ⟨ad482, e482, hx482_0⟩ := Kd.at_int HR1.out x7_1 p482 q482
          cases e482
          replace hx482_0 := (HB.out.cell (World.block_lt_of_cell? w _ hx482_0)).trans hx482_0
          replace p482 := eq_true p482
          replace q482 := eq_true q482
          go_wp2_with (first | ((with_reducible refine gate_builtin (b := .append) (xs := #[.tmp 46, .tmp 49]) rfl ?_); (try (refine gate_guard (by rfl) ?_; dsimp only)); at_builtin; refine Kd.R_append (Kd.int .u16) (w0 := w) w.heap.size rfl (.tmp 46) (.tmp 49) 70 94 (.int .u16 0) 2 rfl Tryd.underlying70 info94 rfl (by decide) (by omega) u5 x5_1 (IntKind.u16.wrap (((x6_1 + (rd l0 x7_1)) + (rd l1 x7_1)) % 4294967296)) [.int .u16 (IntKind.u16.wrap (((x6_1 + (rd l0 x7_1)) + (rd l1 x7_1)) % 4294967296))] (fun _ => True) (fun _ => False) rfl rfl ?aP (fun _ hk => hk.elim) ?aF ?aO ?aB ?aS ?aL ?_; (case aP => exact rfl); (case aB => exact (khu HB.out)); (case aF => exact (fun _ _ => trivial)); (case aO => exact (kru HO_5.out)); (case aS => exact (below_size (khu HB.out))); (case aL => have := LMc10.out; omega); intro v484 w11 ho hb hg hat; rw [← Ny483.out] at ho; replace HB := Aside0.mk (hb); have HO485 := Aside0.mk (ho); clear HO_5; clear ho hb hg hat))
          go_roundg kj2
          case measure => have := HK1.out; have := HJ2.out; omega
          case rel => exact ⟨(y483), ((((x6_1 + (rd l0 x7_1)) + (rd l1 x7_1)) % 4294967296) / 65536), (wrap64 (x7_1 + 1)), (by first | rfl | (simp; done) | (simp [*]; done)), (by first | rfl | (simp; done) | (simp [*]; done)), H', ⟨by have := HK1.out; have := HJ2.out; omega⟩, ⟨by (with_reducible repeat (first | apply Kd.R_alloc | apply Kd.R_drewN | apply Kd.R_drew)); exact HO485.out⟩, ⟨by repeat (first | (with_reducible first | exact HB.out | apply below_alloc | apply pw_below_drewN | apply below_drew1) | exact HB.out)⟩⟩
         ·rw [if_neg c10] at H
          exact absurd H (by simp)
        ·rw [if_neg c9] at H
         have c9b0 : decide (x7_1 < (l1.length : Int)) = false := decide_eq_false c9
         clear c9
         by_cases c12 : x5_1.length < 70368744177664
         ·rw [if_pos c12] at H
          have LMc12 := Aside0.mk c12
          clear c12
          obtain ⟨y486, hy486⟩ : ∃ y_ : List Int, y_ = (x5_1 ++ [IntKind.u16.wrap ((x6_1 + (rd l0 x7_1)) % 4294967296)]) := ⟨_, rfl⟩
          replace H : (tribunalref02_addD.l0 kj2 l0 l1 y486 (((x6_1 + (rd l0 x7_1)) % 4294967296) / 65536) (wrap64 (x7_1 + 1))) = some r := by first | (rw [hy486]; with_reducible exact H) | (have H2_ := (Option.bind_some _ _).symm.trans H; rw [hy486]; with_reducible exact H2_) | (have H2_ := (Option.bind_some _ _).symm.trans H; with_reducible exact H2_) | with_reducible exact H | (rw [hy486]; exact H) | exact H
          have Ny486 := Aside0.mk hy486
          clear hy486
          have H' := Aside0.mk H
          clear H
          have p481 : 0 ≤ (x7_1 : Int) := of_decide_eq_true ‹_›
          have q481 : x7_1 < (l0.length : Int) := of_decide_eq_true ‹_›
          obtain ⟨ad481, e481, hx481_0⟩ := Kd.at_int HR0.out x7_1 p481 q481
          cases e481
          replace hx481_0 := (HB.out.cell (World.block_lt_of_cell? w _ hx481_0)).trans hx481_0
          replace p481 := eq_true p481
          replace q481 := eq_true q481
          go_wp2_with (first | ((with_reducible refine gate_builtin (b := .append) (xs := #[.tmp 46, .tmp 49]) rfl ?_); (try (refine gate_guard (by rfl) ?_; dsimp only)); at_builtin; refine Kd.R_append (Kd.int .u16) (w0 := w) w.heap.size rfl (.tmp 46) (.tmp 49) 70 94 (.int .u16 0) 2 rfl Tryd.underlying70 info94 rfl (by decide) (by omega) u5 x5_1 (IntKind.u16.wrap ((x6_1 + (rd l0 x7_1)) % 4294967296)) [.int .u16 (IntKind.u16.wrap ((x6_1 + (rd l0 x7_1)) % 4294967296))] (fun _ => True) (fun _ => False) rfl rfl ?aP (fun _ hk => hk.elim) ?aF ?aO ?aB ?aS ?aL ?_; (case aP => exact rfl); (case aB => exact (khu HB.out)); (case aF => exact (fun _ _ => trivial)); (case aO => exact (kru HO_5.out)); (case aS => exact (below_size (khu HB.out))); (case aL => have := LMc12.out; omega); intro v487 w13 ho hb hg hat; rw [← Ny486.out] at ho; replace HB := Aside0.mk (hb); have HO488 := Aside0.mk (ho); clear HO_5; clear ho hb hg hat))
          go_roundg kj2
          case measure => have := HK1.out; have := HJ2.out; omega
          case rel => exact ⟨(y486), (((x6_1 + (rd l0 x7_1)) % 4294967296) / 65536), (wrap64 (x7_1 + 1)), (by first | rfl | (simp; done) | (simp [*]; done)), (by first | rfl | (simp; done) | (simp [*]; done)), H', ⟨by have := HK1.out; have := HJ2.out; omega⟩, ⟨by (with_reducible repeat (first | apply Kd.R_alloc | apply Kd.R_drewN | apply Kd.R_drew)); exact HO488.out⟩, ⟨by repeat (first | (with_reducible first | exact HB.out | apply below_alloc | apply pw_below_drewN | apply below_drew1) | exact HB.out)⟩⟩
         ·rw [if_neg c12] at H
          exact absurd H (by simp)
       ·rw [if_neg c8] at H
        exact absurd H (by simp)
      ·rw [if_neg c7] at H
       have c7b0 : decide (x7_1 < (l0.length : Int)) = false := decide_eq_false c7
       clear c7
       by_cases c14 : x7_1 < (l1.length : Int)
       ·rw [if_pos c14] at H
        have c14b0 : decide (x7_1 < (l1.length : Int)) = true := decide_eq_true c14
        clear c14
        by_cases c15 : 0 ≤ x7_1
        ·rw [if_pos c15] at H
         have c15b0 : decide (0 ≤ x7_1) = true := decide_eq_true c15
         clear c15
         by_cases c16 : x5_1.length < 70368744177664
         ·rw [if_pos c16] at H
          have LMc16 := Aside0.mk c16
          clear c16
          obtain ⟨y490, hy490⟩ : ∃ y_ : List Int, y_ = (x5_1 ++ [IntKind.u16.wrap ((x6_1 + (rd l1 x7_1)) % 4294967296)]) := ⟨_, rfl⟩
          replace H : (tribunalref02_addD.l0 kj2 l0 l1 y490 (((x6_1 + (rd l1 x7_1)) % 4294967296) / 65536) (wrap64 (x7_1 + 1))) = some r := by first | (rw [hy490]; with_reducible exact H) | (have H2_ := (Option.bind_some _ _).symm.trans H; rw [hy490]; with_reducible exact H2_) | (have H2_ := (Option.bind_some _ _).symm.trans H; with_reducible exact H2_) | with_reducible exact H | (rw [hy490]; exact H) | exact H
          have Ny490 := Aside0.mk hy490
          clear hy490
          have H' := Aside0.mk H
          clear H
          have p489 : 0 ≤ (x7_1 : Int) := of_decide_eq_true ‹_›
          have q489 : x7_1 < (l1.length : Int) := of_decide_eq_true ‹_›
          obtain ⟨ad489, e489, hx489_0⟩ := Kd.at_int HR1.out x7_1 p489 q489
          cases e489
          replace hx489_0 := (HB.out.cell (World.block_lt_of_cell? w _ hx489_0)).trans hx489_0
          replace p489 := eq_true p489
          replace q489 := eq_true q489
          go_wp2_with (first | ((with_reducible refine gate_builtin (b := .append) (xs := #[.tmp 46, .tmp 49]) rfl ?_); (try (refine gate_guard (by rfl) ?_; dsimp only)); at_builtin; refine Kd.R_append (Kd.int .u16) (w0 := w) w.heap.size rfl (.tmp 46) (.tmp 49) 70 94 (.int .u16 0) 2 rfl Tryd.underlying70 info94 rfl (by decide) (by omega) u5 x5_1 (IntKind.u16.wrap ((x6_1 + (rd l1 x7_1)) % 4294967296)) [.int .u16 (IntKind.u16.wrap ((x6_1 + (rd l1 x7_1)) % 4294967296))] (fun _ => True) (fun _ => False) rfl rfl ?aP (fun _ hk => hk.elim) ?aF ?aO ?aB ?aS ?aL ?_; (case aP => exact rfl); (case aB => exact (khu HB.out)); (case aF => exact (fun _ _ => trivial)); (case aO => exact (kru HO_5.out)); (case aS => exact (below_size (khu HB.out))); (case aL => have := LMc16.out; omega); intro v491 w17 ho hb hg hat; rw [← Ny490.out] at ho; replace HB := Aside0.mk (hb); have HO492 := Aside0.mk (ho); clear HO_5; clear ho hb hg hat))
          go_roundg kj2
          case measure => have := HK1.out; have := HJ2.out; omega
          case rel => exact ⟨(y490), (((x6_1 + (rd l1 x7_1)) % 4294967296) / 65536), (wrap64 (x7_1 + 1)), (by first | rfl | (simp; done) | (simp [*]; done)), (by first | rfl | (simp; done) | (simp [*]; done)), H', ⟨by have := HK1.out; have := HJ2.out; omega⟩, ⟨by (with_reducible repeat (first | apply Kd.R_alloc | apply Kd.R_drewN | apply Kd.R_drew)); exact HO492.out⟩, ⟨by repeat (first | (with_reducible first | exact HB.out | apply below_alloc | apply pw_below_drewN | apply below_drew1) | exact HB.out)⟩⟩
         ·rw [if_neg c16] at H
          exact absurd H (by simp)
        ·rw [if_neg c15] at H
         exact absurd H (by simp)
       ·rw [if_neg c14] at H
        have c14b0 : decide (x7_1 < (l1.length : Int)) = false := decide_eq_false c14
        clear c14
        by_cases c18 : x5_1.length < 70368744177664
        ·rw [if_pos c18] at H
         have LMc18 := Aside0.mk c18
         clear c18
         obtain ⟨y493, hy493⟩ : ∃ y_ : List Int, y_ = (x5_1 ++ [IntKind.u16.wrap (x6_1)]) := ⟨_, rfl⟩
         replace H : (tribunalref02_addD.l0 kj2 l0 l1 y493 (x6_1 / 65536) (wrap64 (x7_1 + 1))) = some r := by first | (rw [hy493]; with_reducible exact H) | (have H2_ := (Option.bind_some _ _).symm.trans H; rw [hy493]; with_reducible exact H2_) | (have H2_ := (Option.bind_some _ _).symm.trans H; with_reducible exact H2_) | with_reducible exact H | (rw [hy493]; exact H) | exact H
         have Ny493 := Aside0.mk hy493
         clear hy493
         have H' := Aside0.mk H
         clear H
         go_wp2_with (first | ((with_reducible refine gate_builtin (b := .append) (xs := #[.tmp 46, .tmp 49]) rfl ?_); (try (refine gate_guard (by rfl) ?_; dsimp only)); at_builtin; refine Kd.R_append (Kd.int .u16) (w0 := w) w.heap.size rfl (.tmp 46) (.tmp 49) 70 94 (.int .u16 0) 2 rfl Tryd.underlying70 info94 rfl (by decide) (by omega) u5 x5_1 (IntKind.u16.wrap (x6_1)) [.int .u16 (IntKind.u16.wrap (x6_1))] (fun _ => True) (fun _ => False) rfl rfl ?aP (fun _ hk => hk.elim) ?aF ?aO ?aB ?aS ?aL ?_; (case aP => exact rfl); (case aB => exact (khu HB.out)); (case aF => exact (fun _ _ => trivial)); (case aO => exact (kru HO_5.out)); (case aS => exact (below_size (khu HB.out))); (case aL => have := LMc18.out; omega); intro v494 w19 ho hb hg hat; rw [← Ny493.out] at ho; replace HB := Aside0.mk (hb); have HO495 := Aside0.mk (ho); clear HO_5; clear ho hb hg hat))
         go_roundg kj2
         case measure => have := HK1.out; have := HJ2.out; omega
         case rel => exact ⟨(y493), (x6_1 / 65536), (wrap64 (x7_1 + 1)), (by first | rfl | (simp; done) | (simp [*]; done)), (by first | rfl | (simp; done) | (simp [*]; done)), H', ⟨by have := HK1.out; have := HJ2.out; omega⟩, ⟨by (with_reducible repeat (first | apply Kd.R_alloc | apply Kd.R_drewN | apply Kd.R_drew)); exact HO495.out⟩, ⟨by repeat (first | (with_reducible first | exact HB.out | apply below_alloc | apply pw_below_drewN | apply below_drew1) | exact HB.out)⟩⟩
        ·rw [if_neg c18] at H
         exact absurd H (by simp)
     ·replace c6 := Bool.eq_false_iff.mpr c6
      subst c6
      have H1 : (some x5_1) = some r := by rw [if_neg (show ¬ (false = true) by decide)] at H; exact H
      clear H
      have H := H1
      clear H1
      obtain rfl := Option.some.inj H
      go_wp2
      go_ret
      exact ⟨_, by first | rfl | (simp [errW_none, errW_some] <;> rfl) | (simp [*, errW_none, errW_some] <;> rfl), by (with_reducible repeat (first | apply Kd.R_alloc | apply Kd.R_drewN | apply Kd.R_drew)); exact HO_5.out, by repeat (first | (with_reducible first | exact HB.out | apply below_alloc | apply pw_below_drewN | apply below_drew1) | exact HB.out)⟩
end Go.Proofs.YtodhkpdcpneeeaaDoor.PDv
namespace Go.Proofs.YtodhkpdcpneeeaaDoor.PDv
open Go.Proofs.YtodhkpdcpneeeaaDoor.Mine Go.RowKit Go.Proofs.YtodhkpdcpneeeaaDoorW.PrintWords Go.Proofs.YtodhkpdcpneeeaaDoorW.PrintLast Go.Proofs.YtodhkpdcpneeeaaDoorW.PrintMore
open Go.Proofs.YtodhkpdcpneeeaaDoor.Mine
attribute [local go_sem] max2_int min2_int max_two min_two max_three min_three max_four min_four
set_option linter.unusedVariables false
set_option linter.unusedSimpArgs false
def tribunalref02_Plus.f (k : Nat) (a0_0 : Bool) (l0_1 : List Int) (a1_0 : Bool) (l1_1 : List Int) : Option (Bool × List Int) := if (a0_0 == a1_0) = true then ((tribunalref02_addD.f k l0_1 l1_1).bind fun t499 => ((tribunalref02_Make.f k a0_0 t499).bind fun bt502 => (some (bt502.1, bt502.2)))) else ((tribunalref02_cmpD.f k l0_1 l1_1).bind fun t506 => (if t506 ≥ 0 then ((tribunalref02_subD.f k l0_1 l1_1).bind fun t507 => ((tribunalref02_Make.f k a0_0 t507).bind fun bt510 => (some (bt510.1, bt510.2)))) else ((tribunalref02_subD.f k l1_1 l0_1).bind fun t514 => ((tribunalref02_Make.f k a1_0 t514).bind fun bt517 => (some (bt517.1, bt517.2))))))
def tribunalref02_Plus.T2 : Bool × List (List Nat × List Nat) := (true, [([], []), ([0], [0]), ([], []), ([2], [2]), ([], []), ([4], [4]), ([3, 5], [3, 5]), ([1, 6, 6], [1, 6]), ([7, 7, 0, 1, 2, 3, 4, 5, 6, 7], [7])])
def tribunalref02_Plus.B2 : List Nat := [0, 1, 0, 4, 0, 16, 60, 127, 255]
theorem tribunalref02_Plus.tab2 : rtab .any (opsOf Tryd.f78 2) = tribunalref02_Plus.T2 := by kernel_rfl
theorem tribunalref02_Plus.bits2 : waitsOk tribunalref02_Plus.T2.2 tribunalref02_Plus.B2 = true := by kernel_rfl
def tribunalref02_Plus.T4 : Bool × List (List Nat × List Nat) := (true, [([], []), ([0], [0]), ([], []), ([2], [2]), ([], []), ([4], [4]), ([3, 5], [3, 5]), ([1, 6, 6], [1, 6]), ([7, 7, 0, 1, 2, 3, 4, 5, 6, 7], [7])])
def tribunalref02_Plus.B4 : List Nat := [0, 1, 0, 4, 0, 16, 60, 127, 255]
theorem tribunalref02_Plus.tab4 : rtab .any (opsOf Tryd.f78 4) = tribunalref02_Plus.T4 := by kernel_rfl
theorem tribunalref02_Plus.bits4 : waitsOk tribunalref02_Plus.T4.2 tribunalref02_Plus.B4 = true := by kernel_rfl
def tribunalref02_Plus.T5 : Bool × List (List Nat × List Nat) := (true, [([], []), ([0], [0]), ([], []), ([2], [2]), ([], []), ([4], [4]), ([3, 5], [3, 5]), ([1, 6, 6], [1, 6]), ([7, 7, 0, 1, 2, 3, 4, 5, 6, 7], [7])])
def tribunalref02_Plus.B5 : List Nat := [0, 1, 0, 4, 0, 16, 60, 127, 255]
theorem tribunalref02_Plus.tab5 : rtab .any (opsOf Tryd.f78 5) = tribunalref02_Plus.T5 := by kernel_rfl
theorem tribunalref02_Plus.bits5 : waitsOk tribunalref02_Plus.T5.2 tribunalref02_Plus.B5 = true := by kernel_rfl
theorem tribunalref02_Plus.calls (k : Nat) (a0_0 : Bool) (A0_1 : Option Addr) (c0_1 : Nat) (l0_1 : List Int) (a1_0 : Bool) (A1_1 : Option Addr) (c1_1 : Nat) (l1_1 : List Int) (r1 : Bool) (r2 : List Int) (w : World) (hr0_1 : Kd.C (Kd.int .u16) w A0_1 l0_1.length l0_1) (hc0_1 : l0_1.length ≤ c0_1) (hr1_1 : Kd.C (Kd.int .u16) w A1_1 l1_1.length l1_1) (hc1_1 : l1_1.length ≤ c1_1) (h : tribunalref02_Plus.f k a0_0 l0_1 a1_0 l1_1 = some (r1, r2)) :
  Calls Tryd.prog 78 #[.agg #[.bool a0_0, .slice A0_1 l0_1.length c0_1], .agg #[.bool a1_0, .slice A1_1 l1_1.length c1_1]] w fun e w' => ∃ v1_ : Value, e = .returned (.agg #[.bool r1, v1_]) ∧ Kd.V (Kd.int .u16) 94 w' w.heap.size (fun k_ => (w.heap.size ≤ k_)) v1_ r2 ∧ Below w.heap.size w w' := by
 have hu72 := Tryd.underlying72
 have K := Kp.refl w
 replace K := K.parV (Kd.V_mono (ok' := fun k => k < w.heap.size) (Kd.V_mk (e := 94) (base := 0) hc0_1 (Kd.C_F (Kd.heap_int .u16) hr0_1)) (fun _ h => h))
 clear hr0_1 hc0_1
 replace K := K.parV (Kd.V_mono (ok' := fun k => k < w.heap.size) (Kd.V_mk (e := 94) (base := 0) hc1_1 (Kd.C_F (Kd.heap_int .u16) hr1_1)) (fun _ h => h))
 clear hr1_1 hc1_1
 simp only [klv] at K
 rw [tribunalref02_Plus.f] at h
 by_cases c_0 : (a0_0 == a1_0) = true
 ·rw [if_pos c_0] at h
  have c_0b : decide (a0_0 = a1_0) = true := by simpa using c_0
  replace h := bindA h
  obtain ⟨x7, A8, h⟩ := h
  replace h := bindA h
  obtain ⟨⟨z9, x10⟩, A11, h⟩ := h
  dsimp only at h
  go_enter Tryd.func78, Tryd.ntmps78
  go_wp2_with (first | ((with_reducible refine gate_dst (N := 2) rfl ?_); refine kbe 2 #[.bool a0_0, .slice A0_1 l0_1.length c0_1] 72 ?_; intro g1 hg W2 hx hb; replace K := K.u.box hg hx hb; clear hg hx hb) | ((with_reducible refine gate_dst (N := 3) rfl ?_); refine kbe 3 #[.bool a1_0, .slice A1_1 l1_1.length c1_1] 72 ?_; intro g3 hg W4 hx hb; replace K := K.u.box hg hx hb; clear hg hx hb) | ((with_reducible refine gate_dst (N := 4) rfl ?_); refine kbe 4 #[.bool false, .slice none 0 0] 72 ?_; intro g5 hg W6 hx hb; replace K := K.u.box hg hx hb; clear hg hx hb; obtain ⟨ua0, ub0⟩ := K.cell2 0 rfl; obtain ⟨ua1, ub1⟩ := K.cell2 1 rfl))
  clear ua0 ub0 ua1 ub1
  obtain ⟨Bs, Vs, Os, hBs, hVs, hOs, K⟩ := K.abs
  have HS : Aside0 (∀ l m o W, Kp w (Bs ++ l) m o W → W.cell? ⟨g1, 0, none⟩ = some (.bool a0_0) ∧ W.cell? ⟨g1, 1, none⟩ = some (.slice A0_1 l0_1.length c0_1) ∧ W.cell? ⟨g3, 0, none⟩ = some (.bool a1_0) ∧ W.cell? ⟨g3, 1, none⟩ = some (.slice A1_1 l1_1.length c1_1)) := ⟨fun l m o W K => by rw [hBs.out] at K; exact ⟨K.cell 0 rfl 0 rfl, K.cell 0 rfl 1 rfl, K.cell 1 rfl 0 rfl, K.cell 1 rfl 1 rfl⟩⟩
  refine kpstart (n := 9) (ds := []) (S := fun W => W.cell? ⟨g1, 0, none⟩ = some (.bool a0_0) ∧ W.cell? ⟨g1, 1, none⟩ = some (.slice A0_1 l0_1.length c0_1) ∧ W.cell? ⟨g3, 0, none⟩ = some (.bool a1_0) ∧ W.cell? ⟨g3, 1, none⟩ = some (.slice A1_1 l1_1.length c1_1)) #[false, false, false, false, false, false, false, false, false] (by kernel_rfl) rfl rfl K (HS.out [] _ _) (fun W14 K hH => ?_)
  refine with_tabW tribunalref02_Plus.tab2 tribunalref02_Plus.bits2 (fun HT_ HW_ => ?_)
  refine pure_ (i := 0) (N := some 10) (v := ?_) (a' := ?_) #[true, false, false, false, false, false, false, false, false] rfl rfl (any_of HT_.out (by kernel_rfl)) (fun _ _ _ h => h) (Or.inl ⟨by rfl, ?_⟩) ?_ ?_
  rotate_left
  ·intro w'
   go_simp
   with_reducible rfl
  rotate_left
  ·simp only [Act.put, kss, i64_w, i32_w]
   rfl
  refine take_ (i := 1) (N := some 11) (v := ?_) (a' := ?_) #[true, true, false, false, false, false, false, false, false] rfl rfl (take_ofW HT_.out HW_.out (by kernel_rfl)) (fun _ _ _ h => h) (Or.inl ⟨by rfl, ?_⟩) hH ?_ ?_
  rotate_left
  ·rintro w' ⟨s0, s1, s2, s3⟩
   go_simp
   with_reducible rfl
  rotate_left
  ·simp only [Act.put, kss, i64_w, i32_w]
   rfl
  refine pure_ (i := 2) (N := some 12) (v := ?_) (a' := ?_) #[true, true, true, false, false, false, false, false, false] rfl rfl (any_of HT_.out (by kernel_rfl)) (fun _ _ _ h => h) (Or.inl ⟨by rfl, ?_⟩) ?_ ?_
  rotate_left
  ·intro w'
   go_simp
   with_reducible rfl
  rotate_left
  ·simp only [Act.put, kss, i64_w, i32_w]
   rfl
  refine take_ (i := 3) (N := some 13) (v := ?_) (a' := ?_) #[true, true, true, true, false, false, false, false, false] rfl rfl (take_ofW HT_.out HW_.out (by kernel_rfl)) (fun _ _ _ h => h) (Or.inl ⟨by rfl, ?_⟩) hH ?_ ?_
  rotate_left
  ·rintro w' ⟨s0, s1, s2, s3⟩
   go_simp
   with_reducible rfl
  rotate_left
  ·simp only [Act.put, kss, i64_w, i32_w]
   rfl
  refine pure_ (i := 4) (N := some 14) (v := ?_) (a' := ?_) #[true, true, true, true, true, false, false, false, false] rfl rfl (any_of HT_.out (by kernel_rfl)) (fun _ _ _ h => h) (Or.inl ⟨by rfl, ?_⟩) ?_ ?_
  rotate_left
  ·intro w'
   go_simp
   with_reducible rfl
  rotate_left
  ·simp only [Act.put, kss, i64_w, i32_w]
   rfl
  refine take_ (i := 5) (N := some 15) (v := ?_) (a' := ?_) #[true, true, true, true, true, true, false, false, false] rfl rfl (take_ofW HT_.out HW_.out (by kernel_rfl)) (fun _ _ _ h => h) (Or.inl ⟨by rfl, ?_⟩) hH ?_ ?_
  rotate_left
  ·rintro w' ⟨s0, s1, s2, s3⟩
   go_simp
   with_reducible rfl
  rotate_left
  ·simp only [Act.put, kss, i64_w, i32_w]
   rfl
  refine one_ (i := 6) (N := some 16) #[true, true, true, true, true, true, true, false, false] rfl rfl (one_of HT_.out (by kernel_rfl)) (by decide) (fun Kc hK => ?_)
  refine kgo Tryd.func106 #[.slice A0_1 l0_1.length c0_1, .slice A1_1 l1_1.length c1_1] (by rfl) rfl rfl ?_
  refine (tribunalref02_addD.calls _ _ _ l0_1 _ _ l1_1 x7 _ (K.C 0 (by rw [hVs.out]; rfl)) (K.le 0 (by rw [hVs.out]; rfl)) (K.C 1 (by rw [hVs.out]; rfl)) (K.le 1 (by rw [hVs.out]; rfl)) A8.out).mono ?_
  rintro e W' ⟨v12, rfl, ho15, hb⟩
  replace K := K.addRI 0 0 hb ho15 (Nat.le_of_ble_eq_true rfl)
  clear hb ho15
  refine ⟨_, rfl, hK.out _ _ (HS.out _ _ _ _ K) fun hH => ?_⟩
  clear hK Kc
  refine norm_ (a' := ?_) ?_ ?_
  rotate_left
  ·show Act.put _ (some 16) _ = _
   simp only [Act.put, kss, i64_w, i32_w]
   rfl
  refine one_ (i := 7) (N := some 17) #[true, true, true, true, true, true, true, true, false] rfl rfl (one_of HT_.out (by kernel_rfl)) (by decide) (fun Kc hK => ?_)
  obtain ⟨P16, c17, e18⟩ := K.slice 2 (by rw [hVs.out]; rfl)
  subst e18
  refine kgo Tryd.func87 #[.bool a0_0, .slice P16 x7.length c17] (by rfl) rfl rfl ?_
  refine (tribunalref02_Make.calls _ a0_0 _ _ _ x7 z9 x10 _ (K.V 2 (by rw [hVs.out]; rfl)) A11.out).mono ?_
  rintro e W' ⟨v13, rfl, ho19, hb⟩
  replace K := K.addI 1 (fun _ => False) hb ho19 (fun _ h => h)
  clear hb ho19
  refine ⟨_, rfl, hK.out _ _ (HS.out _ _ _ _ K) fun hH => ?_⟩
  clear hK Kc
  refine norm_ (a' := ?_) ?_ ?_
  rotate_left
  ·show Act.put _ (some 17) _ = _
   simp only [Act.put, kss, i64_w, i32_w]
   rfl
  obtain ⟨P20, c21, e22⟩ := K.slice 3 (by rw [hVs.out]; rfl)
  subst e22
  rw [hBs.out, hVs.out, hOs.out] at K
  simp only [kls, klv] at K
  clear hBs hVs hOs HS hH
  refine kone2 (i := 8) #[true, true, true, true, true, true, true, true, true] 2 (.bool z9) (.slice P20 x10.length c21) K rfl rfl rfl (one_of HT_.out (by kernel_rfl)) (by decide) (by rfl) ?_ (fun W K => ⟨K.cell 0 rfl 0 rfl, K.cell 0 rfl 1 rfl, K.cell 1 rfl 0 rfl, K.cell 1 rfl 1 rfl⟩) ?_
  ·intro c0 c1 f0 f1
   first | (go_simp; done) | (go_simp; rfl)
  clear K
  intro W23 K
  simp only [kls, klv] at K
  refine done_ (done_of HT_.out (by kernel_rfl)) ?_
  clear HT_ HW_
  simp only [Option.some.injEq, Prod.mk.injEq] at h
  obtain ⟨rfl, rfl⟩ := h
  go_wp2
  refine bodyPost_ret (results_single rfl (.cell g5 72 #[.bool z9, .slice P20 x10.length c21] (0, 0) _ rfl (K.u.heap 2 rfl) Tryd.underlying72 rfl (by kernel_rfl) .nil)) rfl ?_
  exact ⟨_, rfl, K.u.hand 3 rfl (fun _ h => h.elim (fun h => h.elim) id), K.u.below⟩
 ·rw [if_neg c_0] at h
  replace c_0 := Bool.eq_false_iff.mpr c_0
  have c_0b : decide (a0_0 = a1_0) = false := by simpa using c_0
  replace h := bindA h
  obtain ⟨n7, A8, h⟩ := h
  by_cases c_1 : n7 ≥ 0
  ·rw [if_pos c_1] at h
   have c_1b : decide (n7 ≥ 0) = true := decide_eq_true c_1
   replace h := bindA h
   obtain ⟨x10, A11, h⟩ := h
   replace h := bindA h
   obtain ⟨⟨z12, x13⟩, A14, h⟩ := h
   dsimp only at h
   go_enter Tryd.func78, Tryd.ntmps78
   go_wp2_with (first | ((with_reducible refine gate_dst (N := 2) rfl ?_); refine kbe 2 #[.bool a0_0, .slice A0_1 l0_1.length c0_1] 72 ?_; intro g1 hg W2 hx hb; replace K := K.u.box hg hx hb; clear hg hx hb) | ((with_reducible refine gate_dst (N := 3) rfl ?_); refine kbe 3 #[.bool a1_0, .slice A1_1 l1_1.length c1_1] 72 ?_; intro g3 hg W4 hx hb; replace K := K.u.box hg hx hb; clear hg hx hb) | ((with_reducible refine gate_dst (N := 4) rfl ?_); refine kbe 4 #[.bool false, .slice none 0 0] 72 ?_; intro g5 hg W6 hx hb; replace K := K.u.box hg hx hb; clear hg hx hb; obtain ⟨ua0, ub0⟩ := K.cell2 0 rfl; obtain ⟨ua1, ub1⟩ := K.cell2 1 rfl) | ((with_reducible refine gate_dst (N := 22) rfl ?_); clear ua0 ub0 ua1 ub1; refine kgl (some 22) rfl rfl Tryd.func107 #[.slice A0_1 l0_1.length c0_1, .slice A1_1 l1_1.length c1_1] rfl ?_; refine (tribunalref02_cmpD.calls _ _ _ l0_1 _ _ l1_1 n7 _ (K.C 0 rfl) (K.le 0 rfl) (K.C 1 rfl) (K.le 1 rfl) A8.out).mono ?_; rintro e W9 ⟨rfl, hb⟩; refine ⟨_, rfl, ?_⟩; replace K := K.u.up hb.below; clear hb))
   obtain ⟨Bs, Vs, Os, hBs, hVs, hOs, K⟩ := K.abs
   have HS : Aside0 (∀ l m o W, Kp w (Bs ++ l) m o W → W.cell? ⟨g1, 0, none⟩ = some (.bool a0_0) ∧ W.cell? ⟨g1, 1, none⟩ = some (.slice A0_1 l0_1.length c0_1) ∧ W.cell? ⟨g3, 0, none⟩ = some (.bool a1_0) ∧ W.cell? ⟨g3, 1, none⟩ = some (.slice A1_1 l1_1.length c1_1)) := ⟨fun l m o W K => by rw [hBs.out] at K; exact ⟨K.cell 0 rfl 0 rfl, K.cell 0 rfl 1 rfl, K.cell 1 rfl 0 rfl, K.cell 1 rfl 1 rfl⟩⟩
   refine kpstart (n := 9) (ds := []) (S := fun W => W.cell? ⟨g1, 0, none⟩ = some (.bool a0_0) ∧ W.cell? ⟨g1, 1, none⟩ = some (.slice A0_1 l0_1.length c0_1) ∧ W.cell? ⟨g3, 0, none⟩ = some (.bool a1_0) ∧ W.cell? ⟨g3, 1, none⟩ = some (.slice A1_1 l1_1.length c1_1)) #[false, false, false, false, false, false, false, false, false] (by kernel_rfl) rfl rfl K (HS.out [] _ _) (fun W17 K hH => ?_)
   refine with_tabW tribunalref02_Plus.tab4 tribunalref02_Plus.bits4 (fun HT_ HW_ => ?_)
   refine pure_ (i := 0) (N := some 24) (v := ?_) (a' := ?_) #[true, false, false, false, false, false, false, false, false] rfl rfl (any_of HT_.out (by kernel_rfl)) (fun _ _ _ h => h) (Or.inl ⟨by rfl, ?_⟩) ?_ ?_
   rotate_left
   ·intro w'
    go_simp
    with_reducible rfl
   rotate_left
   ·simp only [Act.put, kss, i64_w, i32_w]
    rfl
   refine take_ (i := 1) (N := some 25) (v := ?_) (a' := ?_) #[true, true, false, false, false, false, false, false, false] rfl rfl (take_ofW HT_.out HW_.out (by kernel_rfl)) (fun _ _ _ h => h) (Or.inl ⟨by rfl, ?_⟩) hH ?_ ?_
   rotate_left
   ·rintro w' ⟨s0, s1, s2, s3⟩
    go_simp
    with_reducible rfl
   rotate_left
   ·simp only [Act.put, kss, i64_w, i32_w]
    rfl
   refine pure_ (i := 2) (N := some 26) (v := ?_) (a' := ?_) #[true, true, true, false, false, false, false, false, false] rfl rfl (any_of HT_.out (by kernel_rfl)) (fun _ _ _ h => h) (Or.inl ⟨by rfl, ?_⟩) ?_ ?_
   rotate_left
   ·intro w'
    go_simp
    with_reducible rfl
   rotate_left
   ·simp only [Act.put, kss, i64_w, i32_w]
    rfl
   refine take_ (i := 3) (N := some 27) (v := ?_) (a' := ?_) #[true, true, true, true, false, false, false, false, false] rfl rfl (take_ofW HT_.out HW_.out (by kernel_rfl)) (fun _ _ _ h => h) (Or.inl ⟨by rfl, ?_⟩) hH ?_ ?_
   rotate_left
   ·rintro w' ⟨s0, s1, s2, s3⟩
    go_simp
    with_reducible rfl
   rotate_left
   ·simp only [Act.put, kss, i64_w, i32_w]
    rfl
   refine pure_ (i := 4) (N := some 28) (v := ?_) (a' := ?_) #[true, true, true, true, true, false, false, false, false] rfl rfl (any_of HT_.out (by kernel_rfl)) (fun _ _ _ h => h) (Or.inl ⟨by rfl, ?_⟩) ?_ ?_
   rotate_left
   ·intro w'
    go_simp
    with_reducible rfl
   rotate_left
   ·simp only [Act.put, kss, i64_w, i32_w]
    rfl
   refine take_ (i := 5) (N := some 29) (v := ?_) (a' := ?_) #[true, true, true, true, true, true, false, false, false] rfl rfl (take_ofW HT_.out HW_.out (by kernel_rfl)) (fun _ _ _ h => h) (Or.inl ⟨by rfl, ?_⟩) hH ?_ ?_
   rotate_left
   ·rintro w' ⟨s0, s1, s2, s3⟩
    go_simp
    with_reducible rfl
   rotate_left
   ·simp only [Act.put, kss, i64_w, i32_w]
    rfl
   refine one_ (i := 6) (N := some 30) #[true, true, true, true, true, true, true, false, false] rfl rfl (one_of HT_.out (by kernel_rfl)) (by decide) (fun Kc hK => ?_)
   refine kgo Tryd.func108 #[.slice A0_1 l0_1.length c0_1, .slice A1_1 l1_1.length c1_1] (by rfl) rfl rfl ?_
   refine (tribunalref02_subD.calls _ _ _ l0_1 _ _ l1_1 x10 _ (K.C 0 (by rw [hVs.out]; rfl)) (K.le 0 (by rw [hVs.out]; rfl)) (K.C 1 (by rw [hVs.out]; rfl)) (K.le 1 (by rw [hVs.out]; rfl)) A11.out).mono ?_
   rintro e W' ⟨v15, rfl, ho18, hb⟩
   replace K := K.addFI 0 (fun _ => False) hb ho18
   clear hb ho18
   refine ⟨_, rfl, hK.out _ _ (HS.out _ _ _ _ K) fun hH => ?_⟩
   clear hK Kc
   refine norm_ (a' := ?_) ?_ ?_
   rotate_left
   ·show Act.put _ (some 30) _ = _
    simp only [Act.put, kss, i64_w, i32_w]
    rfl
   refine one_ (i := 7) (N := some 31) #[true, true, true, true, true, true, true, true, false] rfl rfl (one_of HT_.out (by kernel_rfl)) (by decide) (fun Kc hK => ?_)
   obtain ⟨P19, c20, e21⟩ := K.slice 2 (by rw [hVs.out]; rfl)
   subst e21
   refine kgo Tryd.func87 #[.bool a0_0, .slice P19 x10.length c20] (by rfl) rfl rfl ?_
   refine (tribunalref02_Make.calls _ a0_0 _ _ _ x10 z12 x13 _ (K.V 2 (by rw [hVs.out]; rfl)) A14.out).mono ?_
   rintro e W' ⟨v16, rfl, ho22, hb⟩
   replace K := K.addI 1 (fun _ => False) hb ho22 (fun _ h => h)
   clear hb ho22
   refine ⟨_, rfl, hK.out _ _ (HS.out _ _ _ _ K) fun hH => ?_⟩
   clear hK Kc
   refine norm_ (a' := ?_) ?_ ?_
   rotate_left
   ·show Act.put _ (some 31) _ = _
    simp only [Act.put, kss, i64_w, i32_w]
    rfl
   obtain ⟨P23, c24, e25⟩ := K.slice 3 (by rw [hVs.out]; rfl)
   subst e25
   rw [hBs.out, hVs.out, hOs.out] at K
   simp only [kls, klv] at K
   clear hBs hVs hOs HS hH
   refine kone2 (i := 8) #[true, true, true, true, true, true, true, true, true] 2 (.bool z12) (.slice P23 x13.length c24) K rfl rfl rfl (one_of HT_.out (by kernel_rfl)) (by decide) (by rfl) ?_ (fun W K => ⟨K.cell 0 rfl 0 rfl, K.cell 0 rfl 1 rfl, K.cell 1 rfl 0 rfl, K.cell 1 rfl 1 rfl⟩) ?_
   ·intro c0 c1 f0 f1
    first | (go_simp; done) | (go_simp; rfl)
   clear K
   intro W26 K
   simp only [kls, klv] at K
   refine done_ (done_of HT_.out (by kernel_rfl)) ?_
   clear HT_ HW_
   simp only [Option.some.injEq, Prod.mk.injEq] at h
   obtain ⟨rfl, rfl⟩ := h
   go_wp2
   refine bodyPost_ret (results_single rfl (.cell g5 72 #[.bool z12, .slice P23 x13.length c24] (0, 0) _ rfl (K.u.heap 2 rfl) Tryd.underlying72 rfl (by kernel_rfl) .nil)) rfl ?_
   exact ⟨_, rfl, K.u.hand 3 rfl (fun _ h => h.elim (fun h => h.elim) id), K.u.below⟩
  ·rw [if_neg c_1] at h
   have c_1b : decide (n7 ≥ 0) = false := decide_eq_false c_1
   replace h := bindA h
   obtain ⟨x10, A11, h⟩ := h
   replace h := bindA h
   obtain ⟨⟨z12, x13⟩, A14, h⟩ := h
   dsimp only at h
   go_enter Tryd.func78, Tryd.ntmps78
   go_wp2_with (first | ((with_reducible refine gate_dst (N := 2) rfl ?_); refine kbe 2 #[.bool a0_0, .slice A0_1 l0_1.length c0_1] 72 ?_; intro g1 hg W2 hx hb; replace K := K.u.box hg hx hb; clear hg hx hb) | ((with_reducible refine gate_dst (N := 3) rfl ?_); refine kbe 3 #[.bool a1_0, .slice A1_1 l1_1.length c1_1] 72 ?_; intro g3 hg W4 hx hb; replace K := K.u.box hg hx hb; clear hg hx hb) | ((with_reducible refine gate_dst (N := 4) rfl ?_); refine kbe 4 #[.bool false, .slice none 0 0] 72 ?_; intro g5 hg W6 hx hb; replace K := K.u.box hg hx hb; clear hg hx hb; obtain ⟨ua0, ub0⟩ := K.cell2 0 rfl; obtain ⟨ua1, ub1⟩ := K.cell2 1 rfl) | ((with_reducible refine gate_dst (N := 22) rfl ?_); clear ua0 ub0 ua1 ub1; refine kgl (some 22) rfl rfl Tryd.func107 #[.slice A0_1 l0_1.length c0_1, .slice A1_1 l1_1.length c1_1] rfl ?_; refine (tribunalref02_cmpD.calls _ _ _ l0_1 _ _ l1_1 n7 _ (K.C 0 rfl) (K.le 0 rfl) (K.C 1 rfl) (K.le 1 rfl) A8.out).mono ?_; rintro e W9 ⟨rfl, hb⟩; refine ⟨_, rfl, ?_⟩; replace K := K.u.up hb.below; clear hb))
   obtain ⟨Bs, Vs, Os, hBs, hVs, hOs, K⟩ := K.abs
   have HS : Aside0 (∀ l m o W, Kp w (Bs ++ l) m o W → W.cell? ⟨g3, 0, none⟩ = some (.bool a1_0) ∧ W.cell? ⟨g3, 1, none⟩ = some (.slice A1_1 l1_1.length c1_1) ∧ W.cell? ⟨g1, 0, none⟩ = some (.bool a0_0) ∧ W.cell? ⟨g1, 1, none⟩ = some (.slice A0_1 l0_1.length c0_1)) := ⟨fun l m o W K => by rw [hBs.out] at K; exact ⟨K.cell 1 rfl 0 rfl, K.cell 1 rfl 1 rfl, K.cell 0 rfl 0 rfl, K.cell 0 rfl 1 rfl⟩⟩
   refine kpstart (n := 9) (ds := []) (S := fun W => W.cell? ⟨g3, 0, none⟩ = some (.bool a1_0) ∧ W.cell? ⟨g3, 1, none⟩ = some (.slice A1_1 l1_1.length c1_1) ∧ W.cell? ⟨g1, 0, none⟩ = some (.bool a0_0) ∧ W.cell? ⟨g1, 1, none⟩ = some (.slice A0_1 l0_1.length c0_1)) #[false, false, false, false, false, false, false, false, false] (by kernel_rfl) rfl rfl K (HS.out [] _ _) (fun W17 K hH => ?_)
   refine with_tabW tribunalref02_Plus.tab5 tribunalref02_Plus.bits5 (fun HT_ HW_ => ?_)
   refine pure_ (i := 0) (N := some 32) (v := ?_) (a' := ?_) #[true, false, false, false, false, false, false, false, false] rfl rfl (any_of HT_.out (by kernel_rfl)) (fun _ _ _ h => h) (Or.inl ⟨by rfl, ?_⟩) ?_ ?_
   rotate_left
   ·intro w'
    go_simp
    with_reducible rfl
   rotate_left
   ·simp only [Act.put, kss, i64_w, i32_w]
    rfl
   refine take_ (i := 1) (N := some 33) (v := ?_) (a' := ?_) #[true, true, false, false, false, false, false, false, false] rfl rfl (take_ofW HT_.out HW_.out (by kernel_rfl)) (fun _ _ _ h => h) (Or.inl ⟨by rfl, ?_⟩) hH ?_ ?_
   rotate_left
   ·rintro w' ⟨s0, s1, s2, s3⟩
    go_simp
    with_reducible rfl
   rotate_left
   ·simp only [Act.put, kss, i64_w, i32_w]
    rfl
   refine pure_ (i := 2) (N := some 34) (v := ?_) (a' := ?_) #[true, true, true, false, false, false, false, false, false] rfl rfl (any_of HT_.out (by kernel_rfl)) (fun _ _ _ h => h) (Or.inl ⟨by rfl, ?_⟩) ?_ ?_
   rotate_left
   ·intro w'
    go_simp
    with_reducible rfl
   rotate_left
   ·simp only [Act.put, kss, i64_w, i32_w]
    rfl
   refine take_ (i := 3) (N := some 35) (v := ?_) (a' := ?_) #[true, true, true, true, false, false, false, false, false] rfl rfl (take_ofW HT_.out HW_.out (by kernel_rfl)) (fun _ _ _ h => h) (Or.inl ⟨by rfl, ?_⟩) hH ?_ ?_
   rotate_left
   ·rintro w' ⟨s0, s1, s2, s3⟩
    go_simp
    with_reducible rfl
   rotate_left
   ·simp only [Act.put, kss, i64_w, i32_w]
    rfl
   refine pure_ (i := 4) (N := some 36) (v := ?_) (a' := ?_) #[true, true, true, true, true, false, false, false, false] rfl rfl (any_of HT_.out (by kernel_rfl)) (fun _ _ _ h => h) (Or.inl ⟨by rfl, ?_⟩) ?_ ?_
   rotate_left
   ·intro w'
    go_simp
    with_reducible rfl
   rotate_left
   ·simp only [Act.put, kss, i64_w, i32_w]
    rfl
   refine take_ (i := 5) (N := some 37) (v := ?_) (a' := ?_) #[true, true, true, true, true, true, false, false, false] rfl rfl (take_ofW HT_.out HW_.out (by kernel_rfl)) (fun _ _ _ h => h) (Or.inl ⟨by rfl, ?_⟩) hH ?_ ?_
   rotate_left
   ·rintro w' ⟨s0, s1, s2, s3⟩
    go_simp
    with_reducible rfl
   rotate_left
   ·simp only [Act.put, kss, i64_w, i32_w]
    rfl
   refine one_ (i := 6) (N := some 38) #[true, true, true, true, true, true, true, false, false] rfl rfl (one_of HT_.out (by kernel_rfl)) (by decide) (fun Kc hK => ?_)
   refine kgo Tryd.func108 #[.slice A1_1 l1_1.length c1_1, .slice A0_1 l0_1.length c0_1] (by rfl) rfl rfl ?_
   refine (tribunalref02_subD.calls _ _ _ l1_1 _ _ l0_1 x10 _ (K.C 1 (by rw [hVs.out]; rfl)) (K.le 1 (by rw [hVs.out]; rfl)) (K.C 0 (by rw [hVs.out]; rfl)) (K.le 0 (by rw [hVs.out]; rfl)) A11.out).mono ?_
   rintro e W' ⟨v15, rfl, ho18, hb⟩
   replace K := K.addFI 0 (fun _ => False) hb ho18
   clear hb ho18
   refine ⟨_, rfl, hK.out _ _ (HS.out _ _ _ _ K) fun hH => ?_⟩
   clear hK Kc
   refine norm_ (a' := ?_) ?_ ?_
   rotate_left
   ·show Act.put _ (some 38) _ = _
    simp only [Act.put, kss, i64_w, i32_w]
    rfl
   refine one_ (i := 7) (N := some 39) #[true, true, true, true, true, true, true, true, false] rfl rfl (one_of HT_.out (by kernel_rfl)) (by decide) (fun Kc hK => ?_)
   obtain ⟨P19, c20, e21⟩ := K.slice 2 (by rw [hVs.out]; rfl)
   subst e21
   refine kgo Tryd.func87 #[.bool a1_0, .slice P19 x10.length c20] (by rfl) rfl rfl ?_
   refine (tribunalref02_Make.calls _ a1_0 _ _ _ x10 z12 x13 _ (K.V 2 (by rw [hVs.out]; rfl)) A14.out).mono ?_
   rintro e W' ⟨v16, rfl, ho22, hb⟩
   replace K := K.addI 1 (fun _ => False) hb ho22 (fun _ h => h)
   clear hb ho22
   refine ⟨_, rfl, hK.out _ _ (HS.out _ _ _ _ K) fun hH => ?_⟩
   clear hK Kc
   refine norm_ (a' := ?_) ?_ ?_
   rotate_left
   ·show Act.put _ (some 39) _ = _
    simp only [Act.put, kss, i64_w, i32_w]
    rfl
   obtain ⟨P23, c24, e25⟩ := K.slice 3 (by rw [hVs.out]; rfl)
   subst e25
   rw [hBs.out, hVs.out, hOs.out] at K
   simp only [kls, klv] at K
   clear hBs hVs hOs HS hH
   refine kone2 (i := 8) #[true, true, true, true, true, true, true, true, true] 2 (.bool z12) (.slice P23 x13.length c24) K rfl rfl rfl (one_of HT_.out (by kernel_rfl)) (by decide) (by rfl) ?_ (fun W K => ⟨K.cell 1 rfl 0 rfl, K.cell 1 rfl 1 rfl, K.cell 0 rfl 0 rfl, K.cell 0 rfl 1 rfl⟩) ?_
   ·intro c0 c1 f0 f1
    first | (go_simp; done) | (go_simp; rfl)
   clear K
   intro W26 K
   simp only [kls, klv] at K
   refine done_ (done_of HT_.out (by kernel_rfl)) ?_
   clear HT_ HW_
   simp only [Option.some.injEq, Prod.mk.injEq] at h
   obtain ⟨rfl, rfl⟩ := h
   go_wp2
   refine bodyPost_ret (results_single rfl (.cell g5 72 #[.bool z12, .slice P23 x13.length c24] (0, 0) _ rfl (K.u.heap 2 rfl) Tryd.underlying72 rfl (by kernel_rfl) .nil)) rfl ?_
   exact ⟨_, rfl, K.u.hand 3 rfl (fun _ h => h.elim (fun h => h.elim) id), K.u.below⟩
end Go.Proofs.YtodhkpdcpneeeaaDoor.PDv
namespace Go.Proofs.YtodhkpdcpneeeaaDoor.PDv
open Go.RowKit Go.Proofs.YtodhkpdcpneeeaaDoorW.PrintWords Go.Proofs.YtodhkpdcpneeeaaDoorW.PrintLast Go.Proofs.YtodhkpdcpneeeaaDoorW.PrintMore
open Go.Proofs.YtodhkpdcpneeeaaDoor.Mine
attribute [local go_sem] max2_int min2_int max_two min_two max_three min_three max_four min_four
set_option linter.unusedVariables false
set_option linter.unusedSimpArgs false
def tribunalref02_Small1.f (k : Nat) (a0 : Int) : Option (Bool × List Int) := if a0 < 0 then ((tribunalref02_Make.f k true (([IntKind.u16.wrap (IntKind.u64.wrap (-(IntKind.u64.wrap (a0)))), IntKind.u16.wrap ((IntKind.u64.wrap (-(IntKind.u64.wrap (a0)))) / 65536), IntKind.u16.wrap ((IntKind.u64.wrap (-(IntKind.u64.wrap (a0)))) / 4294967296), IntKind.u16.wrap ((IntKind.u64.wrap (-(IntKind.u64.wrap (a0)))) / 281474976710656)] : List Int))).bind fun bt531 => (some (bt531.1, bt531.2))) else ((tribunalref02_Make.f k false (([IntKind.u16.wrap (IntKind.u64.wrap (a0)), IntKind.u16.wrap ((IntKind.u64.wrap (a0)) / 65536), IntKind.u16.wrap ((IntKind.u64.wrap (a0)) / 4294967296), IntKind.u16.wrap ((IntKind.u64.wrap (a0)) / 281474976710656)] : List Int))).bind fun bt538 => (some (bt538.1, bt538.2)))
theorem tribunalref02_Small1.calls (k : Nat) (a0 : Int) (r1 : Bool) (r2 : List Int) (w : World) (h : tribunalref02_Small1.f k a0 = some (r1, r2)) :
  Calls Tryd.prog 82 #[.int .i64 a0] w fun e w' => ∃ v1_ : Value, e = .returned (.agg #[.bool r1, v1_]) ∧ Kd.V (Kd.int .u16) 94 w' w.heap.size (fun k_ => (w.heap.size ≤ k_)) v1_ r2 ∧ Below w.heap.size w w' := by
 have hu72 := Tryd.underlying72
 have HB := Aside0.mk (Below.refl w.heap.size w)
 have H : (if a0 < 0 then ((tribunalref02_Make.f k true (([IntKind.u16.wrap (IntKind.u64.wrap (-(IntKind.u64.wrap (a0)))), IntKind.u16.wrap ((IntKind.u64.wrap (-(IntKind.u64.wrap (a0)))) / 65536), IntKind.u16.wrap ((IntKind.u64.wrap (-(IntKind.u64.wrap (a0)))) / 4294967296), IntKind.u16.wrap ((IntKind.u64.wrap (-(IntKind.u64.wrap (a0)))) / 281474976710656)] : List Int))).bind fun bt531 => (some (bt531.1, bt531.2))) else ((tribunalref02_Make.f k false (([IntKind.u16.wrap (IntKind.u64.wrap (a0)), IntKind.u16.wrap ((IntKind.u64.wrap (a0)) / 65536), IntKind.u16.wrap ((IntKind.u64.wrap (a0)) / 4294967296), IntKind.u16.wrap ((IntKind.u64.wrap (a0)) / 281474976710656)] : List Int))).bind fun bt538 => (some (bt538.1, bt538.2)))) = some (r1, r2) := h
 clear h
 by_cases c2 : a0 < 0
 ·rw [if_pos c2] at H
  have c2b0 : decide (a0 < 0) = true := decide_eq_true c2
  clear c2
  obtain ⟨y528, hy528⟩ : ∃ y_ : List Int, y_ = (([IntKind.u16.wrap (IntKind.u64.wrap (-(IntKind.u64.wrap (a0)))), IntKind.u16.wrap ((IntKind.u64.wrap (-(IntKind.u64.wrap (a0)))) / 65536), IntKind.u16.wrap ((IntKind.u64.wrap (-(IntKind.u64.wrap (a0)))) / 4294967296), IntKind.u16.wrap ((IntKind.u64.wrap (-(IntKind.u64.wrap (a0)))) / 281474976710656)] : List Int)) := ⟨_, rfl⟩
  replace H : ((tribunalref02_Make.f k true y528).bind fun bt531 => (some (bt531.1, bt531.2))) = some (r1, r2) := by first | (rw [hy528]; with_reducible exact H) | (have H2_ := (Option.bind_some _ _).symm.trans H; rw [hy528]; with_reducible exact H2_) | (have H2_ := (Option.bind_some _ _).symm.trans H; with_reducible exact H2_) | with_reducible exact H | (rw [hy528]; exact H) | exact H
  have Ny528 := Aside0.mk hy528
  clear hy528
  replace H := Option.bind_eq_some_iff.mp H
  obtain ⟨⟨t531, t532⟩, A30, H⟩ := H
  replace H : (some (t531, t532)) = some (r1, r2) := H
  have A3 := Aside0.mk A30
  clear A30
  simp only [Option.some.injEq, Prod.mk.injEq] at H
  obtain ⟨rfl, rfl⟩ := H
  go_enter Tryd.func82, Tryd.ntmps82
  go_wp2_with (first | ((with_reducible refine gate_dst (N := 2) rfl ?_); refine kbe 2 #[.bool false, .slice none 0 0] 72 ?_; intro gb527 hg w4 hbox hb; have BK527 := Aside0.mk (hbox); have GW527 := kbz hg HB; have GE527 := kbz hg HB; replace HB := kbs HB hb; clear hb hbox hg) | ((with_reducible refine gate_dst (N := 23) rfl ?_); refine Kd.R_lit (Kd.int .u16) _ 94 ?hg (N := 23) ?hd (xs := ([IntKind.u16.wrap (IntKind.u64.wrap (-(IntKind.u64.wrap (a0)))), IntKind.u16.wrap ((IntKind.u64.wrap (-(IntKind.u64.wrap (a0)))) / 65536), IntKind.u16.wrap ((IntKind.u64.wrap (-(IntKind.u64.wrap (a0)))) / 4294967296), IntKind.u16.wrap ((IntKind.u64.wrap (-(IntKind.u64.wrap (a0)))) / 281474976710656)] : List Int)) (inner := [.int .u16 (IntKind.u16.wrap (IntKind.u64.wrap (-(IntKind.u64.wrap (a0))))), .int .u16 (IntKind.u16.wrap ((IntKind.u64.wrap (-(IntKind.u64.wrap (a0)))) / 65536)), .int .u16 (IntKind.u16.wrap ((IntKind.u64.wrap (-(IntKind.u64.wrap (a0)))) / 4294967296)), .int .u16 (IntKind.u16.wrap ((IntKind.u64.wrap (-(IntKind.u64.wrap (a0)))) / 281474976710656))]) (ok := fun _ => True) (okp := fun _ => True) ?hr ?hp (fun _ hk => hk) trivial (Below.refl _ _) (Nat.le_refl _) (by simp) ?_; (case hd => rfl); (case hg => rfl); (case hr => first | (go_simp; done) | (go_simp; rfl)); (case hp => exact (Reps.one (show Kd.M (Kd.int .u16) _ _ _ (IntKind.u16.wrap (IntKind.u64.wrap (-(IntKind.u64.wrap (a0))))) [.int .u16 (IntKind.u16.wrap (IntKind.u64.wrap (-(IntKind.u64.wrap (a0)))))] from rfl) (Reps.one (show Kd.M (Kd.int .u16) _ _ _ (IntKind.u16.wrap ((IntKind.u64.wrap (-(IntKind.u64.wrap (a0)))) / 65536)) [.int .u16 (IntKind.u16.wrap ((IntKind.u64.wrap (-(IntKind.u64.wrap (a0)))) / 65536))] from rfl) (Reps.one (show Kd.M (Kd.int .u16) _ _ _ (IntKind.u16.wrap ((IntKind.u64.wrap (-(IntKind.u64.wrap (a0)))) / 4294967296)) [.int .u16 (IntKind.u16.wrap ((IntKind.u64.wrap (-(IntKind.u64.wrap (a0)))) / 4294967296))] from rfl) (Reps.one (show Kd.M (Kd.int .u16) _ _ _ (IntKind.u16.wrap ((IntKind.u64.wrap (-(IntKind.u64.wrap (a0)))) / 281474976710656)) [.int .u16 (IntKind.u16.wrap ((IntKind.u64.wrap (-(IntKind.u64.wrap (a0)))) / 281474976710656))] from rfl) (Reps.none _ _)))))); intro v529 w5 ho6 hb hg_ hnew_; clear hg_ hnew_; (first | rw [← Ny528.out] at ho6 | (simp only [Int.reduceToNat] at ho6; rw [← Ny528.out] at ho6)); have HO530 := Aside0.mk (Kd.R_lower (Kd.R_newM (M := fun k_ => (w.heap.size ≤ k_)) ho6 (below_size (khu HB.out)) (fun k_ h_ => h_)) (below_size (khu HB.out))); replace BK527 := kbb BK527 hb; replace HB := kbs HB hb; clear hb ho6; obtain ⟨Ao7, co7, eo7⟩ := Kd.R_slice HO530.out; subst eo7) | ((with_reducible refine gate_callee (f := 87) rfl ?_); refine kgl (some 24) rfl rfl Tryd.func87 #[.bool true, .slice Ao7 y528.length co7] rfl ?_; (with_reducible refine (tribunalref02_Make.calls k true (fun k_ => some k_ = (.slice Ao7 y528.length co7 : Value).ownBlock) _ _ y528 t531 t532 _ ?side1 A3.out).mono ?_); (case side1 => exact Kd.R_V (Kd.R_tight rfl (Kd.R_types (HO530.out) BK527.out (by decide)))); rintro e w8 ⟨v533, rfl, ho0, hb⟩; refine ⟨_, rfl, ?_⟩; have HO534 := Aside0.mk (Kd.V_lower (Kd.V_mono (ok' := fun k_ => (w.heap.size ≤ k_) ∧ k_ ≠ gb527) ho0 (fun k_ hk_ => ⟨Or.elim hk_ (fun hs_ => ((Kd.R_types (HO530.out) BK527.out (by decide)).1 k_ hs_.symm).1.1) (fun hn_ => (Nat.le_trans (below_size (khu HB.out)) hn_)), Or.elim hk_ (fun hs_ => ((Kd.R_types (HO530.out) BK527.out (by decide)).1 k_ hs_.symm).2) (kfb BK527)⟩)) (below_size (khu HB.out))); replace HO530 := krb HO530 hb; replace BK527 := kbb BK527 hb; replace HB := kbs HB hb; (try clear hb); (try clear hb2); (try clear hk); (try clear hi); (try clear ho0); have hcz9_0 : w8.cell? ⟨gb527, 0, none⟩ = some (.bool false) := (blk_cell BK527.out 0).trans rfl; have hcz9_1 : w8.cell? ⟨gb527, 1, none⟩ = some (.slice none 0 0) := (blk_cell BK527.out 1).trans rfl; have hfz9_0 := blk_frozen BK527.out 0; have hfz9_1 := blk_frozen BK527.out 1; obtain ⟨Ao10, co10, eo10⟩ := Kd.V_slice HO534.out; subst eo10))
  refine bodyPost_ret (results_cell_row rfl _ _ gb527 72 #[.bool t531, .slice Ao10 t532.length co10] (0, 0) _ rfl (kpu #[.bool t531, .slice none 0 0] 1 (kpu #[.bool false, .slice none 0 0] 0 (kbu BK527.out))) Tryd.underlying72 rfl (by kernel_rfl)) rfl ?_
  exact ⟨_, by first | rfl | (simp [errW_none, errW_some] <;> rfl) | (simp [*, errW_none, errW_some] <;> rfl), by (with_reducible repeat (first | apply Kd.V_alloc | apply Kd.V_drewN | apply Kd.V_drew)); exact Kd.V_mono (Kd.V_far (p := ⟨gb527, 1, none⟩) (Kd.V_far (p := ⟨gb527, 0, none⟩) (Kd.V_mono HO534.out (fun k_ hk => (⟨hk, hk.2⟩ : _ ∧ k_ ≠ gb527))) (fun _ hk => hk.2) (.bool t531)) (fun _ hk => hk.2) (.slice Ao10 t532.length co10)) (fun _ hk => hk.1.1), by repeat (first | (with_reducible first | exact HB.out | apply below_alloc | apply pw_below_drewN | apply below_drew1 | refine below_set ?_ GE527.out) | exact HB.out)⟩
 ·rw [if_neg c2] at H
  have c2b0 : decide (a0 < 0) = false := decide_eq_false c2
  clear c2
  obtain ⟨y535, hy535⟩ : ∃ y_ : List Int, y_ = (([IntKind.u16.wrap (IntKind.u64.wrap (a0)), IntKind.u16.wrap ((IntKind.u64.wrap (a0)) / 65536), IntKind.u16.wrap ((IntKind.u64.wrap (a0)) / 4294967296), IntKind.u16.wrap ((IntKind.u64.wrap (a0)) / 281474976710656)] : List Int)) := ⟨_, rfl⟩
  replace H : ((tribunalref02_Make.f k false y535).bind fun bt538 => (some (bt538.1, bt538.2))) = some (r1, r2) := by first | (rw [hy535]; with_reducible exact H) | (have H2_ := (Option.bind_some _ _).symm.trans H; rw [hy535]; with_reducible exact H2_) | (have H2_ := (Option.bind_some _ _).symm.trans H; with_reducible exact H2_) | with_reducible exact H | (rw [hy535]; exact H) | exact H
  have Ny535 := Aside0.mk hy535
  clear hy535
  replace H := Option.bind_eq_some_iff.mp H
  obtain ⟨⟨t538, t539⟩, A110, H⟩ := H
  replace H : (some (t538, t539)) = some (r1, r2) := H
  have A11 := Aside0.mk A110
  clear A110
  simp only [Option.some.injEq, Prod.mk.injEq] at H
  obtain ⟨rfl, rfl⟩ := H
  go_enter Tryd.func82, Tryd.ntmps82
  go_wp2_with (first | ((with_reducible refine gate_dst (N := 2) rfl ?_); refine kbe 2 #[.bool false, .slice none 0 0] 72 ?_; intro gb527 hg w12 hbox hb; have BK527 := Aside0.mk (hbox); have GW527 := kbz hg HB; have GE527 := kbz hg HB; replace HB := kbs HB hb; clear hb hbox hg) | ((with_reducible refine gate_dst (N := 23) rfl ?_); refine Kd.R_lit (Kd.int .u16) _ 94 ?hg (N := 23) ?hd (xs := ([IntKind.u16.wrap (IntKind.u64.wrap (a0)), IntKind.u16.wrap ((IntKind.u64.wrap (a0)) / 65536), IntKind.u16.wrap ((IntKind.u64.wrap (a0)) / 4294967296), IntKind.u16.wrap ((IntKind.u64.wrap (a0)) / 281474976710656)] : List Int)) (inner := [.int .u16 (IntKind.u16.wrap (IntKind.u64.wrap (a0))), .int .u16 (IntKind.u16.wrap ((IntKind.u64.wrap (a0)) / 65536)), .int .u16 (IntKind.u16.wrap ((IntKind.u64.wrap (a0)) / 4294967296)), .int .u16 (IntKind.u16.wrap ((IntKind.u64.wrap (a0)) / 281474976710656))]) (ok := fun _ => True) (okp := fun _ => True) ?hr ?hp (fun _ hk => hk) trivial (Below.refl _ _) (Nat.le_refl _) (by simp) ?_; (case hd => rfl); (case hg => rfl); (case hr => first | (go_simp; done) | (go_simp; rfl)); (case hp => exact (Reps.one (show Kd.M (Kd.int .u16) _ _ _ (IntKind.u16.wrap (IntKind.u64.wrap (a0))) [.int .u16 (IntKind.u16.wrap (IntKind.u64.wrap (a0)))] from rfl) (Reps.one (show Kd.M (Kd.int .u16) _ _ _ (IntKind.u16.wrap ((IntKind.u64.wrap (a0)) / 65536)) [.int .u16 (IntKind.u16.wrap ((IntKind.u64.wrap (a0)) / 65536))] from rfl) (Reps.one (show Kd.M (Kd.int .u16) _ _ _ (IntKind.u16.wrap ((IntKind.u64.wrap (a0)) / 4294967296)) [.int .u16 (IntKind.u16.wrap ((IntKind.u64.wrap (a0)) / 4294967296))] from rfl) (Reps.one (show Kd.M (Kd.int .u16) _ _ _ (IntKind.u16.wrap ((IntKind.u64.wrap (a0)) / 281474976710656)) [.int .u16 (IntKind.u16.wrap ((IntKind.u64.wrap (a0)) / 281474976710656))] from rfl) (Reps.none _ _)))))); intro v536 w13 ho14 hb hg_ hnew_; clear hg_ hnew_; (first | rw [← Ny535.out] at ho14 | (simp only [Int.reduceToNat] at ho14; rw [← Ny535.out] at ho14)); have HO537 := Aside0.mk (Kd.R_lower (Kd.R_newM (M := fun k_ => (w.heap.size ≤ k_)) ho14 (below_size (khu HB.out)) (fun k_ h_ => h_)) (below_size (khu HB.out))); replace BK527 := kbb BK527 hb; replace HB := kbs HB hb; clear hb ho14; obtain ⟨Ao15, co15, eo15⟩ := Kd.R_slice HO537.out; subst eo15) | ((with_reducible refine gate_callee (f := 87) rfl ?_); refine kgl (some 24) rfl rfl Tryd.func87 #[.bool false, .slice Ao15 y535.length co15] rfl ?_; (with_reducible refine (tribunalref02_Make.calls k false (fun k_ => some k_ = (.slice Ao15 y535.length co15 : Value).ownBlock) _ _ y535 t538 t539 _ ?side1 A11.out).mono ?_); (case side1 => exact Kd.R_V (Kd.R_tight rfl (Kd.R_types (HO537.out) BK527.out (by decide)))); rintro e w16 ⟨v540, rfl, ho0, hb⟩; refine ⟨_, rfl, ?_⟩; have HO541 := Aside0.mk (Kd.V_lower (Kd.V_mono (ok' := fun k_ => (w.heap.size ≤ k_) ∧ k_ ≠ gb527) ho0 (fun k_ hk_ => ⟨Or.elim hk_ (fun hs_ => ((Kd.R_types (HO537.out) BK527.out (by decide)).1 k_ hs_.symm).1.1) (fun hn_ => (Nat.le_trans (below_size (khu HB.out)) hn_)), Or.elim hk_ (fun hs_ => ((Kd.R_types (HO537.out) BK527.out (by decide)).1 k_ hs_.symm).2) (kfb BK527)⟩)) (below_size (khu HB.out))); replace HO537 := krb HO537 hb; replace BK527 := kbb BK527 hb; replace HB := kbs HB hb; (try clear hb); (try clear hb2); (try clear hk); (try clear hi); (try clear ho0); have hcz17_0 : w16.cell? ⟨gb527, 0, none⟩ = some (.bool false) := (blk_cell BK527.out 0).trans rfl; have hcz17_1 : w16.cell? ⟨gb527, 1, none⟩ = some (.slice none 0 0) := (blk_cell BK527.out 1).trans rfl; have hfz17_0 := blk_frozen BK527.out 0; have hfz17_1 := blk_frozen BK527.out 1; obtain ⟨Ao18, co18, eo18⟩ := Kd.V_slice HO541.out; subst eo18))
  refine bodyPost_ret (results_cell_row rfl _ _ gb527 72 #[.bool t538, .slice Ao18 t539.length co18] (0, 0) _ rfl (kpu #[.bool t538, .slice none 0 0] 1 (kpu #[.bool false, .slice none 0 0] 0 (kbu BK527.out))) Tryd.underlying72 rfl (by kernel_rfl)) rfl ?_
  exact ⟨_, by first | rfl | (simp [errW_none, errW_some] <;> rfl) | (simp [*, errW_none, errW_some] <;> rfl), by (with_reducible repeat (first | apply Kd.V_alloc | apply Kd.V_drewN | apply Kd.V_drew)); exact Kd.V_mono (Kd.V_far (p := ⟨gb527, 1, none⟩) (Kd.V_far (p := ⟨gb527, 0, none⟩) (Kd.V_mono HO541.out (fun k_ hk => (⟨hk, hk.2⟩ : _ ∧ k_ ≠ gb527))) (fun _ hk => hk.2) (.bool t538)) (fun _ hk => hk.2) (.slice Ao18 t539.length co18)) (fun _ hk => hk.1.1), by repeat (first | (with_reducible first | exact HB.out | apply below_alloc | apply pw_below_drewN | apply below_drew1 | refine below_set ?_ GE527.out) | exact HB.out)⟩
end Go.Proofs.YtodhkpdcpneeeaaDoor.PDv
