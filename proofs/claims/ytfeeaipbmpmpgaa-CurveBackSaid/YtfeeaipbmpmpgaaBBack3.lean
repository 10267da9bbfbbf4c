/- The conjugate of the conjugate is the curve itself, if the prices range over all its slopes: what CurveBack computes is true for every curve, prices and number. No condition beyond what the row itself says. -/
import Derived.WalkKit
import Derived.ProofKit
import Derived.OpenShut
import Derived.ShutString
import Derived.ChangeOld
import Derived.Below
import Derived.SizedLaws
import Derived.Test.YtfeeaipbmpmpgaaBBack1
import Derived.Test.YtfeeaipbmpmpgaaBBack2
import Derived.Test.YtfeeaipbmpmpgaaRows
namespace Go.Proofs.Ytfeeaipbmpmpgaa.PX
open Go.RowKit Go.Proofs.YtfeeaipbmpmpgaaW.PrintWords Go.Proofs.YtfeeaipbmpmpgaaW.PrintLast Go.Proofs.YtfeeaipbmpmpgaaW.PrintMore
attribute [local go_sem] max2_int min2_int max_two min_two max_three min_three max_four min_four   -- for this text's walks alone
set_option linter.unusedVariables false
set_option linter.unusedSimpArgs false
/-! ### kimberlitelaw03_CurveBack: function 10 -/
mutual
def kimberlitelaw03_CurveBack.j0 : Nat → Int → Int → Int → Bool → Int → Int → List Int → Int → Int → List Int → Option (Bool)
 | 0, _, _, _, _, _, _, _, _, _, _ => none
 | k + 1, x1, x2, x3, x31, x747000, x747001, x747002, x754000, x754001, x754002 => if x31 = true then ((kimberlitelaw03_alive.f).bind fun t756 => (some t756)) else (kimberlitelaw03_CurveBack.l0 k x1 x2 x3 0 x747000 x747001 x747002 x754000 x754001 x754002)
def kimberlitelaw03_CurveBack.l0 : Nat → Int → Int → Int → Int → Int → Int → List Int → Int → Int → List Int → Option (Bool)
 | 0, _, _, _, _, _, _, _, _, _, _ => none
 | k + 1, x1, x2, x3, x11, x747000, x747001, x747002, x754000, x754001, x754002 => if x11 < (x747002.length : Int) then (if 0 ≤ x11 then (if (rd x747002 x11) < x1 then (kimberlitelaw03_CurveBack.j2 k x1 x2 x3 x11 true x747000 x747001 x747002 x754000 x754001 x754002) else (kimberlitelaw03_CurveBack.j2 k x1 x2 x3 x11 (decide ((rd x747002 x11) > x2)) x747000 x747001 x747002 x754000 x754001 x754002)) else (none)) else ((kimberlitelaw03_at.f x747000 x747001 x747002 x3).bind fun bt763 => (if bt763.2 = true then ((kimberlitelaw03_at.f x754000 x754001 x754002 x1).bind fun bt768 => (kimberlitelaw03_CurveBack.l1 k x2 x3 bt763.1 bt768.2 (wrap64 ((wrap64 (x1 * x3)) - bt768.1)) x1 x754000 x754001 x754002)) else ((kimberlitelaw03_alive.f).bind fun t765 => (some t765))))
def kimberlitelaw03_CurveBack.j2 : Nat → Int → Int → Int → Int → Bool → Int → Int → List Int → Int → Int → List Int → Option (Bool)
 | 0, _, _, _, _, _, _, _, _, _, _, _ => none
 | k + 1, x1, x2, x3, x11, x55, x747000, x747001, x747002, x754000, x754001, x754002 => if x55 = true then ((kimberlitelaw03_alive.f).bind fun t760 => (some t760)) else (kimberlitelaw03_CurveBack.l0 k x1 x2 x3 (wrap64 (x11 + 1)) x747000 x747001 x747002 x754000 x754001 x754002)
def kimberlitelaw03_CurveBack.l1 : Nat → Int → Int → Int → Bool → Int → Int → Int → Int → List Int → Option (Bool)
 | 0, _, _, _, _, _, _, _, _, _ => none
 | k + 1, x2, x3, x12, x15, x16, x17, x754000, x754001, x754002 => if x17 ≤ x2 then (kimberlitelaw03_CurveBack.j4 k x2 x3 x12 x15 x16 x17 x15 x754000 x754001 x754002) else (kimberlitelaw03_CurveBack.j4 k x2 x3 x12 x15 x16 x17 false x754000 x754001 x754002)
def kimberlitelaw03_CurveBack.j4 : Nat → Int → Int → Int → Bool → Int → Int → Bool → Int → Int → List Int → Option (Bool)
 | 0, _, _, _, _, _, _, _, _, _, _ => none
 | k + 1, x2, x3, x12, x15, x16, x17, x83, x754000, x754001, x754002 => if x83 = true then ((kimberlitelaw03_at.f x754000 x754001 x754002 x17).bind fun bt770 => (kimberlitelaw03_CurveBack.l1 k x2 x3 x12 bt770.2 (mx x16 (wrap64 ((wrap64 (x17 * x3)) - bt770.1))) (wrap64 (x17 + 1)) x754000 x754001 x754002)) else (if x15 = true then (if x16 = x12 then ((kimberlitelaw03_alive.f).bind fun t772 => (some t772)) else (none)) else (none))
end
def kimberlitelaw03_CurveBack.f (k : Nat) (a0_0 : Int) (a0_1 : Int) (l0_2 : List Int) (a1 : Int) (a2 : Int) (a3 : Int) : Option (Bool) := (curve_Conj.f k a0_0 a0_1 l0_2 a1 a2).bind fun bt747 => (if bt747.2.2.2 = 0 then ((curve_Valid.f a0_0 a0_1 l0_2).bind fun t754 => (kimberlitelaw03_CurveBack.j0 k a1 a2 a3 (!t754) a0_0 a0_1 l0_2 bt747.1 bt747.2.1 bt747.2.2.1)) else (kimberlitelaw03_CurveBack.j0 k a1 a2 a3 true a0_0 a0_1 l0_2 bt747.1 bt747.2.1 bt747.2.2.1))
theorem kimberlitelaw03_CurveBack.mono_l : ∀ k, (∀ y0 y1 y2 y3 y4 y5 y6 y7 y8 y9, LeO (kimberlitelaw03_CurveBack.j0 k y0 y1 y2 y3 y4 y5 y6 y7 y8 y9) (kimberlitelaw03_CurveBack.j0 (k + 1) y0 y1 y2 y3 y4 y5 y6 y7 y8 y9)) ∧ (∀ y0 y1 y2 y3 y4 y5 y6 y7 y8 y9, LeO (kimberlitelaw03_CurveBack.l0 k y0 y1 y2 y3 y4 y5 y6 y7 y8 y9) (kimberlitelaw03_CurveBack.l0 (k + 1) y0 y1 y2 y3 y4 y5 y6 y7 y8 y9)) ∧ (∀ y0 y1 y2 y3 y4 y5 y6 y7 y8 y9 y10, LeO (kimberlitelaw03_CurveBack.j2 k y0 y1 y2 y3 y4 y5 y6 y7 y8 y9 y10) (kimberlitelaw03_CurveBack.j2 (k + 1) y0 y1 y2 y3 y4 y5 y6 y7 y8 y9 y10)) ∧ (∀ y0 y1 y2 y3 y4 y5 y6 y7 y8, LeO (kimberlitelaw03_CurveBack.l1 k y0 y1 y2 y3 y4 y5 y6 y7 y8) (kimberlitelaw03_CurveBack.l1 (k + 1) y0 y1 y2 y3 y4 y5 y6 y7 y8)) ∧ (∀ y0 y1 y2 y3 y4 y5 y6 y7 y8 y9, LeO (kimberlitelaw03_CurveBack.j4 k y0 y1 y2 y3 y4 y5 y6 y7 y8 y9) (kimberlitelaw03_CurveBack.j4 (k + 1) y0 y1 y2 y3 y4 y5 y6 y7 y8 y9))
 | 0 => ⟨fun _ _ _ _ _ _ _ _ _ _ r h => by simp [kimberlitelaw03_CurveBack.j0] at h, fun _ _ _ _ _ _ _ _ _ _ r h => by simp [kimberlitelaw03_CurveBack.l0] at h, fun _ _ _ _ _ _ _ _ _ _ _ r h => by simp [kimberlitelaw03_CurveBack.j2] at h, fun _ _ _ _ _ _ _ _ _ r h => by simp [kimberlitelaw03_CurveBack.l1] at h, fun _ _ _ _ _ _ _ _ _ _ r h => by simp [kimberlitelaw03_CurveBack.j4] at h⟩
 | k + 1 => by
  obtain ⟨ih0, ih1, ih2, ih3, ih4⟩ := kimberlitelaw03_CurveBack.mono_l k
  refine ⟨?_, ?_, ?_, ?_, ?_⟩
  ·
   intro y0 y1 y2 y3 y4 y5 y6 y7 y8 y9
   unfold kimberlitelaw03_CurveBack.j0
   repeat' first
   | (with_reducible exact ih0 _ _ _ _ _ _ _ _ _ _)
   | (with_reducible exact ih1 _ _ _ _ _ _ _ _ _ _)
   | (with_reducible exact ih2 _ _ _ _ _ _ _ _ _ _ _)
   | (with_reducible exact ih3 _ _ _ _ _ _ _ _ _)
   | (with_reducible exact ih4 _ _ _ _ _ _ _ _ _ _)
   | (with_reducible exact curve_Conj.mono _ _ _ _ _ _)
   | (with_reducible exact LeO.refl _)
   | (with_reducible exact LeO.none _)
   | (with_reducible refine LeO.ite ?_ ?_)
   | (with_reducible refine LeO.bind ?_ (fun _ => ?_))
   | exact ih0 _ _ _ _ _ _ _ _ _ _
   | exact ih1 _ _ _ _ _ _ _ _ _ _
   | exact ih2 _ _ _ _ _ _ _ _ _ _ _
   | exact ih3 _ _ _ _ _ _ _ _ _
   | exact ih4 _ _ _ _ _ _ _ _ _ _
   | exact curve_Conj.mono _ _ _ _ _ _
   | exact LeO.none _
   | refine LeO.ite ?_ ?_
   | refine LeO.bind ?_ (fun _ => ?_)
  ·
   intro y0 y1 y2 y3 y4 y5 y6 y7 y8 y9
   unfold kimberlitelaw03_CurveBack.l0
   repeat' first
   | (with_reducible exact ih0 _ _ _ _ _ _ _ _ _ _)
   | (with_reducible exact ih1 _ _ _ _ _ _ _ _ _ _)
   | (with_reducible exact ih2 _ _ _ _ _ _ _ _ _ _ _)
   | (with_reducible exact ih3 _ _ _ _ _ _ _ _ _)
   | (with_reducible exact ih4 _ _ _ _ _ _ _ _ _ _)
   | (with_reducible exact curve_Conj.mono _ _ _ _ _ _)
   | (with_reducible exact LeO.refl _)
   | (with_reducible exact LeO.none _)
   | (with_reducible refine LeO.ite ?_ ?_)
   | (with_reducible refine LeO.bind ?_ (fun _ => ?_))
   | exact ih0 _ _ _ _ _ _ _ _ _ _
   | exact ih1 _ _ _ _ _ _ _ _ _ _
   | exact ih2 _ _ _ _ _ _ _ _ _ _ _
   | exact ih3 _ _ _ _ _ _ _ _ _
   | exact ih4 _ _ _ _ _ _ _ _ _ _
   | exact curve_Conj.mono _ _ _ _ _ _
   | exact LeO.none _
   | refine LeO.ite ?_ ?_
   | refine LeO.bind ?_ (fun _ => ?_)
  ·
   intro y0 y1 y2 y3 y4 y5 y6 y7 y8 y9 y10
   unfold kimberlitelaw03_CurveBack.j2
   repeat' first
   | (with_reducible exact ih0 _ _ _ _ _ _ _ _ _ _)
   | (with_reducible exact ih1 _ _ _ _ _ _ _ _ _ _)
   | (with_reducible exact ih2 _ _ _ _ _ _ _ _ _ _ _)
   | (with_reducible exact ih3 _ _ _ _ _ _ _ _ _)
   | (with_reducible exact ih4 _ _ _ _ _ _ _ _ _ _)
   | (with_reducible exact curve_Conj.mono _ _ _ _ _ _)
   | (with_reducible exact LeO.refl _)
   | (with_reducible exact LeO.none _)
   | (with_reducible refine LeO.ite ?_ ?_)
   | (with_reducible refine LeO.bind ?_ (fun _ => ?_))
   | exact ih0 _ _ _ _ _ _ _ _ _ _
   | exact ih1 _ _ _ _ _ _ _ _ _ _
   | exact ih2 _ _ _ _ _ _ _ _ _ _ _
   | exact ih3 _ _ _ _ _ _ _ _ _
   | exact ih4 _ _ _ _ _ _ _ _ _ _
   | exact curve_Conj.mono _ _ _ _ _ _
   | exact LeO.none _
   | refine LeO.ite ?_ ?_
   | refine LeO.bind ?_ (fun _ => ?_)
  ·
   intro y0 y1 y2 y3 y4 y5 y6 y7 y8
   unfold kimberlitelaw03_CurveBack.l1
   repeat' first
   | (with_reducible exact ih0 _ _ _ _ _ _ _ _ _ _)
   | (with_reducible exact ih1 _ _ _ _ _ _ _ _ _ _)
   | (with_reducible exact ih2 _ _ _ _ _ _ _ _ _ _ _)
   | (with_reducible exact ih3 _ _ _ _ _ _ _ _ _)
   | (with_reducible exact ih4 _ _ _ _ _ _ _ _ _ _)
   | (with_reducible exact curve_Conj.mono _ _ _ _ _ _)
   | (with_reducible exact LeO.refl _)
   | (with_reducible exact LeO.none _)
   | (with_reducible refine LeO.ite ?_ ?_)
   | (with_reducible refine LeO.bind ?_ (fun _ => ?_))
   | exact ih0 _ _ _ _ _ _ _ _ _ _
   | exact ih1 _ _ _ _ _ _ _ _ _ _
   | exact ih2 _ _ _ _ _ _ _ _ _ _ _
   | exact ih3 _ _ _ _ _ _ _ _ _
   | exact ih4 _ _ _ _ _ _ _ _ _ _
   | exact curve_Conj.mono _ _ _ _ _ _
   | exact LeO.none _
   | refine LeO.ite ?_ ?_
   | refine LeO.bind ?_ (fun _ => ?_)
  ·
   intro y0 y1 y2 y3 y4 y5 y6 y7 y8 y9
   unfold kimberlitelaw03_CurveBack.j4
   repeat' first
   | (with_reducible exact ih0 _ _ _ _ _ _ _ _ _ _)
   | (with_reducible exact ih1 _ _ _ _ _ _ _ _ _ _)
   | (with_reducible exact ih2 _ _ _ _ _ _ _ _ _ _ _)
   | (with_reducible exact ih3 _ _ _ _ _ _ _ _ _)
   | (with_reducible exact ih4 _ _ _ _ _ _ _ _ _ _)
   | (with_reducible exact curve_Conj.mono _ _ _ _ _ _)
   | (with_reducible exact LeO.refl _)
   | (with_reducible exact LeO.none _)
   | (with_reducible refine LeO.ite ?_ ?_)
   | (with_reducible refine LeO.bind ?_ (fun _ => ?_))
   | exact ih0 _ _ _ _ _ _ _ _ _ _
   | exact ih1 _ _ _ _ _ _ _ _ _ _
   | exact ih2 _ _ _ _ _ _ _ _ _ _ _
   | exact ih3 _ _ _ _ _ _ _ _ _
   | exact ih4 _ _ _ _ _ _ _ _ _ _
   | exact curve_Conj.mono _ _ _ _ _ _
   | exact LeO.none _
   | refine LeO.ite ?_ ?_
   | refine LeO.bind ?_ (fun _ => ?_)
theorem kimberlitelaw03_CurveBack.mono : ∀ a0 a1 a2 a3 a4 a5 k, LeO (kimberlitelaw03_CurveBack.f k a0 a1 a2 a3 a4 a5) (kimberlitelaw03_CurveBack.f (k + 1) a0 a1 a2 a3 a4 a5) := by
 intro a0 a1 a2 a3 a4 a5 k
 obtain ⟨ih0, ih1, ih2, ih3, ih4⟩ := kimberlitelaw03_CurveBack.mono_l k
 unfold kimberlitelaw03_CurveBack.f
 repeat' first
   | (with_reducible exact ih0 _ _ _ _ _ _ _ _ _ _)
   | (with_reducible exact ih1 _ _ _ _ _ _ _ _ _ _)
   | (with_reducible exact ih2 _ _ _ _ _ _ _ _ _ _ _)
   | (with_reducible exact ih3 _ _ _ _ _ _ _ _ _)
   | (with_reducible exact ih4 _ _ _ _ _ _ _ _ _ _)
   | (with_reducible exact curve_Conj.mono _ _ _ _ _ _)
   | (with_reducible exact LeO.refl _)
   | (with_reducible exact LeO.none _)
   | (with_reducible refine LeO.ite ?_ ?_)
   | (with_reducible refine LeO.bind ?_ (fun _ => ?_))
   | exact ih0 _ _ _ _ _ _ _ _ _ _
   | exact ih1 _ _ _ _ _ _ _ _ _ _
   | exact ih2 _ _ _ _ _ _ _ _ _ _ _
   | exact ih3 _ _ _ _ _ _ _ _ _
   | exact ih4 _ _ _ _ _ _ _ _ _ _
   | exact curve_Conj.mono _ _ _ _ _ _
   | exact LeO.none _
   | refine LeO.ite ?_ ?_
   | refine LeO.bind ?_ (fun _ => ?_)
set_option maxHeartbeats 8000000 in
set_option maxRecDepth 100000 in
theorem kimberlitelaw03_CurveBack.calls (k : Nat) (a0_0 : Int) (a0_1 : Int) (A0_2 : Option Addr) (c0_2 : Nat) (l0_2 : List Int) (a1 : Int) (a2 : Int) (a3 : Int) (r : Bool) (w : World) (hr0_2 : Kd.C (Kd.int .i64) w A0_2 l0_2.length l0_2) (hc0_2 : l0_2.length ≤ c0_2) (h : kimberlitelaw03_CurveBack.f k a0_0 a0_1 l0_2 a1 a2 a3 = some r) :
  Calls Try.prog 10 #[.agg #[.int .i64 a0_0, .int .i64 a0_1, .slice A0_2 l0_2.length c0_2], .int .i64 a1, .int .i64 a2, .int .i64 a3] w fun e w' => e = .returned (.bool r) ∧ Below w.heap.size w w' := by
 have hu24 := Try.underlying24
 have HR0_2 := zA hr0_2
 have HC0_2 := zA hc0_2
 clear hr0_2 hc0_2
 have HB := zA (Below.refl w.heap.size w)
 have H : ((curve_Conj.f k a0_0 a0_1 l0_2 a1 a2).bind fun bt747 => (if bt747.2.2.2 = 0 then ((curve_Valid.f a0_0 a0_1 l0_2).bind fun t754 => (kimberlitelaw03_CurveBack.j0 k a1 a2 a3 (!t754) a0_0 a0_1 l0_2 bt747.1 bt747.2.1 bt747.2.2.1)) else (kimberlitelaw03_CurveBack.j0 k a1 a2 a3 true a0_0 a0_1 l0_2 bt747.1 bt747.2.1 bt747.2.2.1))) = some r := h
 clear h
 replace H := Option.bind_eq_some_iff.mp H
 obtain ⟨⟨t747, t748, t749, t752⟩, A50, H⟩ := H
 replace H : (if t752 = 0 then ((curve_Valid.f a0_0 a0_1 l0_2).bind fun t754 => (kimberlitelaw03_CurveBack.j0 k a1 a2 a3 (!t754) a0_0 a0_1 l0_2 t747 t748 t749)) else (kimberlitelaw03_CurveBack.j0 k a1 a2 a3 true a0_0 a0_1 l0_2 t747 t748 t749)) = some r := H
 have A5 := zA A50
 clear A50
 have HC6 := zA H
 clear H
 go_enter Try.func10, Try.ntmps10
 go_upto_region 2 with (first | ((with_reducible refine gate_dst (N := 4) rfl ?_); refine box_event ?hg (N := 4) ?hd (cs := #[.int .i64 a0_0, .int .i64 a0_1, .slice A0_2 l0_2.length c0_2]) (t := 24) ?hr ?_; (case hd => rfl); (case hg => rfl); (case hr => first | (go_simp; done) | (go_simp; rfl)); intro gA hg w7 hbox hb; have n0_ := zA (below_step (by repeat (first | (with_reducible first | exact HB.out | apply zW | apply zX | apply zY) | exact HB.out)) hb); have n1_ := zA (hbox); have n2_ := zA ((by rw [hg]; exact (below_size (by repeat (first | (with_reducible first | exact HB.out | apply zW | apply zX | apply zY) | exact HB.out))) : w.heap.size ≤ gA)); have n3_ := zA ((by rw [hg]; exact (below_size (by repeat (first | (with_reducible first | exact HB.out | apply zW | apply zX | apply zY) | exact HB.out))) : w.heap.size ≤ gA)); clear HB; have HB := n0_; have BKC2 := n1_; have GWC2 := n2_; have GEC2 := n3_; clear n0_ n1_ n2_ n3_; clear hb hbox hg; have hcz8_0 : w7.cell? ⟨gA, 0, none⟩ = some (.int .i64 a0_0) := (blk_cell BKC2.out 0).trans rfl; have hcz8_1 : w7.cell? ⟨gA, 1, none⟩ = some (.int .i64 a0_1) := (blk_cell BKC2.out 1).trans rfl; have hcz8_2 : w7.cell? ⟨gA, 2, none⟩ = some (.slice A0_2 l0_2.length c0_2) := (blk_cell BKC2.out 2).trans rfl; have hfz8_0 := blk_frozen BKC2.out 0; have hfz8_1 := blk_frozen BKC2.out 1; have hfz8_2 := blk_frozen BKC2.out 2) | ((with_reducible refine gate_callee (f := 36) rfl ?_); refine goesL_ (some 22) rfl rfl Try.func36 (by kernel_rfl) rfl #[.agg #[.int .i64 a0_0, .int .i64 a0_1, .slice A0_2 l0_2.length c0_2], .int .i64 a1, .int .i64 a2] rfl (by (try simp only [List.map_toArray, List.map_cons, List.map_nil]); first | done | rfl | (simp only [List.length_drop, List.length_take]; rfl)) ?_; (with_reducible refine (curve_Conj.calls k a0_0 a0_1 _ _ l0_2 a1 a2 t747 t748 t749 t752 _ ?side1 ?side2 A5.out).mono ?_); (case side1 => repeat (first | exact (Kd.C_below HR0_2.out HB.out) | (with_reducible refine Kd.C_alloc ?_ _) | (with_reducible refine Kd.C_drewN ?_ _) | (with_reducible refine Kd.C_drew ?_))); (case side2 => exact HC0_2.out); rintro e w9 ⟨v750, rfl, ho0, hb⟩; refine ⟨_, rfl, ?_⟩; have n0_ := zA (Kd.R_lower ho0 (below_size (by repeat (first | (with_reducible first | exact HB.out | apply zW | apply zX | apply zY | refine zS ?_ GEC2.out) | exact HB.out)))); have n1_ := zA (blk_below (g := gA) (o := .cells #[.int .i64 a0_0, .int .i64 a0_1, .slice A0_2 l0_2.length c0_2] 24 (0, 0)) (by (with_reducible repeat (first | refine zN ?_ _ | refine zD ?_ | refine zB ?_ _)); exact BKC2.out) hb); have n2_ := zA (below_step (by repeat (first | (with_reducible first | exact HB.out | apply zW | apply zX | apply zY | refine zS ?_ GEC2.out) | exact HB.out)) hb); clear BKC2; clear HB; have HOC7 := n0_; have BKC2 := n1_; have HB := n2_; clear n0_ n1_ n2_; (try clear hb); (try clear hb2); (try clear hk); (try clear hi); (try clear ho0)) | ((with_reducible refine gate_dst (N := 9) rfl ?_); refine box_event ?hg (N := 9) ?hd (cs := #[.int .i64 0, .int .i64 0, .slice none 0 0]) (t := 24) ?hr ?_; (case hd => rfl); (case hg => rfl); (case hr => first | (go_simp; done) | (go_simp; rfl)); intro gB hg w10 hbox hb; have n0_ := zA (Kd.R_below (by (with_reducible repeat (first | apply Kd.R_alloc | apply Kd.R_drewN | apply Kd.R_drew)); exact HOC7.out) hb); have n1_ := zA (blk_below (g := gA) (o := .cells #[.int .i64 a0_0, .int .i64 a0_1, .slice A0_2 l0_2.length c0_2] 24 (0, 0)) (by (with_reducible repeat (first | refine zN ?_ _ | refine zD ?_ | refine zB ?_ _)); exact BKC2.out) hb); have n2_ := zA (below_step (by repeat (first | (with_reducible first | exact HB.out | apply zW | apply zX | apply zY | refine zS ?_ GEC2.out) | exact HB.out)) hb); have n3_ := zA (hbox); have n4_ := zA ((by rw [hg]; exact (below_size (by repeat (first | (with_reducible first | exact HB.out | apply zW | apply zX | apply zY | refine zS ?_ GEC2.out) | exact HB.out))) : w.heap.size ≤ gB)); have n5_ := zA ((by rw [hg]; exact (below_size (by repeat (first | (with_reducible first | exact HB.out | apply zW | apply zX | apply zY | refine zS ?_ GEC2.out) | exact HB.out))) : w.heap.size ≤ gB)); have n6_ := zA ((by rw [hg]; exact Nat.ne_of_lt (blk_lt (g := gA) (o := .cells #[.int .i64 a0_0, .int .i64 a0_1, .slice A0_2 l0_2.length c0_2] 24 (0, 0)) (by (with_reducible repeat (first | refine zN ?_ _ | refine zD ?_ | refine zB ?_ _)); exact BKC2.out)) : gA ≠ gB)); have n7_ := zA ((by rw [hg]; exact Nat.ne_of_gt (blk_lt (g := gA) (o := .cells #[.int .i64 a0_0, .int .i64 a0_1, .slice A0_2 l0_2.length c0_2] 24 (0, 0)) (by (with_reducible repeat (first | refine zN ?_ _ | refine zD ?_ | refine zB ?_ _)); exact BKC2.out)) : gB ≠ gA)); clear HOC7; clear BKC2; clear HB; have HOC7 := n0_; have BKC2 := n1_; have HB := n2_; have BKC9 := n3_; have GWC9 := n4_; have GEC9 := n5_; have NB746_753 := n6_; have NB753_746 := n7_; clear n0_ n1_ n2_ n3_ n4_ n5_ n6_ n7_; clear hb hbox hg; have hnb11 := NB753_746.out; have hnc11 := NB746_753.out; have hcz12_0 : w10.cell? ⟨gB, 0, none⟩ = some (.int .i64 0) := (blk_cell BKC9.out 0).trans rfl; have hcz12_1 : w10.cell? ⟨gB, 1, none⟩ = some (.int .i64 0) := (blk_cell BKC9.out 1).trans rfl; have hcz12_2 : w10.cell? ⟨gB, 2, none⟩ = some (.slice none 0 0) := (blk_cell BKC9.out 2).trans rfl; have hfz12_0 := blk_frozen BKC9.out 0; have hfz12_1 := blk_frozen BKC9.out 1; have hfz12_2 := blk_frozen BKC9.out 2; obtain ⟨Ao13, co13, eo13⟩ := Kd.R_slice HOC7.out; subst eo13))
 (try simp only [Act.put, z1, z2, z3])
 go_cut [31] (fun v31 wc => ∃ (kq : Nat) (x31_5 : Bool), v31 = .bool x31_5 ∧ Aside0 (kimberlitelaw03_CurveBack.j0 kq a1 a2 a3 x31_5 a0_0 a0_1 l0_2 t747 t748 t749 = some r) ∧ Aside0 (kq ≤ k) ∧ Aside0 (Kd.R (Kd.int .i64) 3 wc w.heap.size (fun _ => True) (.slice Ao13 t749.length co13) t749) ∧ Aside0 (wc.heap[gA]? = some (.cells #[.int .i64 a0_0, .int .i64 a0_1, (.slice A0_2 l0_2.length c0_2)] 24 (0, 0))) ∧ Aside0 (wc.heap[gB]? = some (.cells #[.int .i64 t747, .int .i64 t748, (.slice Ao13 t749.length co13)] 24 (0, 0))) ∧ Aside0 (Below w.heap.size w wc))
 case first =>
  have H := HC6.out
  clear HC6
  by_cases c14 : t752 = 0
  ·
   rw [if_pos c14] at H
   have c14b0 : (t752 == 0) = true := beq_iff_eq.mpr c14
   have c14b1 : (t752 != 0) = false := bne_eq_false_iff_eq.mpr c14
   clear c14
   (first | rw [c14b0] | (simp only [i64_w, i32_w]; rw [c14b0]) | skip)
   replace H := Option.bind_eq_some_iff.mp H
   obtain ⟨t754, A150, H⟩ := H
   replace H : (kimberlitelaw03_CurveBack.j0 k a1 a2 a3 (!t754) a0_0 a0_1 l0_2 t747 t748 t749) = some r := H
   have A15 := zA A150
   clear A150
   have H' := zA H
   clear H
   have hnb16 := NB746_753.out
   have hnc16 := NB753_746.out
   have hcz17_0 : w10.cell? ⟨gA, 0, none⟩ = some (.int .i64 a0_0) := (blk_cell BKC2.out 0).trans rfl
   have hcz17_1 : w10.cell? ⟨gA, 1, none⟩ = some (.int .i64 a0_1) := (blk_cell BKC2.out 1).trans rfl
   have hcz17_2 : w10.cell? ⟨gA, 2, none⟩ = some (.slice A0_2 l0_2.length c0_2) := (blk_cell BKC2.out 2).trans rfl
   have hfz17_0 := blk_frozen BKC2.out 0
   have hfz17_1 := blk_frozen BKC2.out 1
   have hfz17_2 := blk_frozen BKC2.out 2
   go_wp2_with (first | (go_at_call 16; (with_reducible refine (curve_Valid.calls a0_0 a0_1 _ _ l0_2 t754 _ ?side1 ?side2 A15.out).mono ?_); (case side1 => exact Kd.C_below HR0_2.out (by repeat (first | (with_reducible first | exact HB.out | apply zW | apply zX | apply zY | refine zS ?_ GEC2.out | refine zS ?_ GEC9.out) | exact HB.out))); (case side2 => exact HC0_2.out); rintro e w18 ⟨rfl, hb⟩; have n0_ := zA (Kd.R_below (by (with_reducible repeat (first | apply Kd.R_alloc | apply Kd.R_drewN | apply Kd.R_drew)); exact (Kd.R_mono (Kd.R_far (p := ⟨gB, 2, none⟩) (Kd.R_far (p := ⟨gB, 1, none⟩) (Kd.R_far (p := ⟨gB, 0, none⟩) (Kd.R_types HOC7.out BKC9.out (by decide)) (fun _ hk => hk.2) (.int .i64 t747)) (fun _ hk => hk.2) (.int .i64 t748)) (fun _ hk => hk.2) (.slice Ao13 t749.length co13)) (fun _ h_ => h_.1))) hb); have n1_ := zA (blk_below (g := gA) (o := .cells #[.int .i64 a0_0, .int .i64 a0_1, .slice A0_2 l0_2.length c0_2] 24 (0, 0)) (by (with_reducible repeat (first | refine zN ?_ _ | refine zD ?_ | refine zB ?_ _)); refine blk_far ?_ NB746_753.out _; (with_reducible repeat (first | refine zN ?_ _ | refine zD ?_ | refine zB ?_ _)); refine blk_far ?_ NB746_753.out _; (with_reducible repeat (first | refine zN ?_ _ | refine zD ?_ | refine zB ?_ _)); refine blk_far ?_ NB746_753.out _; (with_reducible repeat (first | refine zN ?_ _ | refine zD ?_ | refine zB ?_ _)); exact BKC2.out) hb); have n2_ := zA (blk_below (g := gB) (o := .cells #[.int .i64 t747, .int .i64 t748, .slice Ao13 t749.length co13] 24 (0, 0)) (by (with_reducible repeat (first | refine zN ?_ _ | refine zD ?_ | refine zB ?_ _)); refine blk_put (cs := #[.int .i64 t747, .int .i64 t748, .slice none 0 0]) ?_ 2 _ rfl; (with_reducible repeat (first | refine zN ?_ _ | refine zD ?_ | refine zB ?_ _)); refine blk_put (cs := #[.int .i64 t747, .int .i64 0, .slice none 0 0]) ?_ 1 _ rfl; (with_reducible repeat (first | refine zN ?_ _ | refine zD ?_ | refine zB ?_ _)); refine blk_put (cs := #[.int .i64 0, .int .i64 0, .slice none 0 0]) ?_ 0 _ rfl; (with_reducible repeat (first | refine zN ?_ _ | refine zD ?_ | refine zB ?_ _)); exact BKC9.out) hb); have n3_ := zA (below_step (by repeat (first | (with_reducible first | exact HB.out | apply zW | apply zX | apply zY | refine zS ?_ GEC2.out | refine zS ?_ GEC9.out) | exact HB.out)) hb); clear HOC7; clear BKC2; clear BKC9; clear HB; have HOC7 := n0_; have BKC2 := n1_; have BKC9 := n2_; have HB := n3_; clear n0_ n1_ n2_ n3_; (try clear hb); (try clear hb2); (try clear hk); (try clear hi)))
   go_meet
   case rel => exact ⟨_, (!t754), (by first | rfl | (simp; done) | (simp [*]; done)), H', ⟨by first | omega | exact Nat.le_refl _⟩, ⟨by (with_reducible repeat (first | apply Kd.R_alloc | apply Kd.R_drewN | apply Kd.R_drew)); exact HOC7.out⟩, ⟨by (with_reducible repeat (first | refine zN ?_ _ | refine zD ?_ | refine zB ?_ _)); exact BKC2.out⟩, ⟨by (with_reducible repeat (first | refine zN ?_ _ | refine zD ?_ | refine zB ?_ _)); exact BKC9.out⟩, ⟨by repeat (first | (with_reducible first | exact HB.out | apply zW | apply zX | apply zY | refine zS ?_ GEC2.out | refine zS ?_ GEC9.out) | exact HB.out)⟩⟩
  ·
   rw [if_neg c14] at H
   have c14b0 : (t752 == 0) = false := beq_eq_false_iff_ne.mpr c14
   have c14b1 : (t752 != 0) = true := bne_iff_ne.mpr c14
   (first | rw [c14b0] | (simp only [i64_w, i32_w]; rw [c14b0]) | skip)
   have H' := zA H
   clear H
   go_wp2
   go_meet
   case rel => exact ⟨_, (true), (by first | rfl | (simp; done) | (simp [*]; done)), H', ⟨by first | omega | exact Nat.le_refl _⟩, ⟨by (with_reducible repeat (first | apply Kd.R_alloc | apply Kd.R_drewN | apply Kd.R_drew)); exact Kd.R_mono (Kd.R_far (p := ⟨gB, 2, none⟩) (Kd.R_far (p := ⟨gB, 1, none⟩) (Kd.R_far (p := ⟨gB, 0, none⟩) (Kd.R_types HOC7.out BKC9.out (by decide)) (fun _ hk => hk.2) (.int .i64 t747)) (fun _ hk => hk.2) (.int .i64 t748)) (fun _ hk => hk.2) (.slice Ao13 t749.length co13)) (fun _ hk => trivial)⟩, ⟨by (with_reducible repeat (first | refine zN ?_ _ | refine zD ?_ | refine zB ?_ _)); refine blk_far ?_ NB746_753.out _; (with_reducible repeat (first | refine zN ?_ _ | refine zD ?_ | refine zB ?_ _)); refine blk_far ?_ NB746_753.out _; (with_reducible repeat (first | refine zN ?_ _ | refine zD ?_ | refine zB ?_ _)); refine blk_far ?_ NB746_753.out _; (with_reducible repeat (first | refine zN ?_ _ | refine zD ?_ | refine zB ?_ _)); exact BKC2.out⟩, ⟨by (with_reducible repeat (first | refine zN ?_ _ | refine zD ?_ | refine zB ?_ _)); refine blk_put (cs := #[.int .i64 t747, .int .i64 t748, .slice none 0 0]) ?_ 2 _ rfl; (with_reducible repeat (first | refine zN ?_ _ | refine zD ?_ | refine zB ?_ _)); refine blk_put (cs := #[.int .i64 t747, .int .i64 0, .slice none 0 0]) ?_ 1 _ rfl; (with_reducible repeat (first | refine zN ?_ _ | refine zD ?_ | refine zB ?_ _)); refine blk_put (cs := #[.int .i64 0, .int .i64 0, .slice none 0 0]) ?_ 0 _ rfl; (with_reducible repeat (first | refine zN ?_ _ | refine zD ?_ | refine zB ?_ _)); exact BKC9.out⟩, ⟨by repeat (first | (with_reducible first | exact HB.out | apply zW | apply zX | apply zY | refine zS ?_ GEC2.out | refine zS ?_ GEC9.out) | exact HB.out)⟩⟩
 case rest =>
  clear HC6
  try clear c1
  try clear p2
  try clear c3
  try clear c10
  try clear c11
  try clear c14
  try clear c14b0
  try clear c14b1
  try clear c16
  try clear hcz12_0
  try clear hcz12_1
  try clear hcz12_2
  try clear hcz17_0
  try clear hcz17_1
  try clear hcz17_2
  try clear hcz8_0
  try clear hcz8_1
  try clear hcz8_2
  try clear hfz12_0
  try clear hfz12_1
  try clear hfz12_2
  try clear hfz17_0
  try clear hfz17_1
  try clear hfz17_2
  try clear hfz8_0
  try clear hfz8_1
  try clear hfz8_2
  obtain ⟨kq, x31_5, rfl, HA, HJ5, HO_754002, BKC2, BKC9, HB⟩ := hcut
  cases kq with
  | zero => exact absurd HA.out (by simp [kimberlitelaw03_CurveBack.j0])
  | succ kj5 =>
   have H := HA.out
   clear HA
   simp only [kimberlitelaw03_CurveBack.j0] at H
   by_cases c19 : x31_5 = true
   ·
    subst c19
    have H1 : ((kimberlitelaw03_alive.f).bind fun t756 => (some t756)) = some r := by rw [if_pos rfl] at H; exact H
    clear H
    have H := H1
    clear H1
    replace H := Option.bind_eq_some_iff.mp H
    obtain ⟨t756, A200, H⟩ := H
    replace H : (some t756) = some r := H
    have A20 := zA A200
    clear A200
    obtain rfl := Option.some.inj H
    go_wp2_with (first | ((with_reducible refine gate_callee (f := 17) rfl ?_); refine goesL_ (some 32) rfl rfl Try.func17 (by kernel_rfl) rfl #[] rfl (by (try simp only [List.map_toArray, List.map_cons, List.map_nil]); first | done | rfl | (simp only [List.length_drop, List.length_take]; rfl)) ?_; (with_reducible refine (kimberlitelaw03_alive.calls  t756 _ A20.out).mono ?_); rintro e w21 ⟨rfl, hb⟩; refine ⟨_, rfl, ?_⟩; have n0_ := zA (Kd.R_below (by (with_reducible repeat (first | apply Kd.R_alloc | apply Kd.R_drewN | apply Kd.R_drew)); exact HO_754002.out) hb); have n1_ := zA (blk_below (g := gA) (o := .cells #[.int .i64 a0_0, .int .i64 a0_1, .slice A0_2 l0_2.length c0_2] 24 (0, 0)) (by (with_reducible repeat (first | refine zN ?_ _ | refine zD ?_ | refine zB ?_ _)); exact BKC2.out) hb); have n2_ := zA (blk_below (g := gB) (o := .cells #[.int .i64 t747, .int .i64 t748, .slice Ao13 t749.length co13] 24 (0, 0)) (by (with_reducible repeat (first | refine zN ?_ _ | refine zD ?_ | refine zB ?_ _)); exact BKC9.out) hb); have n3_ := zA (below_step (by repeat (first | (with_reducible first | exact HB.out | apply zW | apply zX | apply zY | refine zS ?_ GEC2.out | refine zS ?_ GEC9.out) | exact HB.out)) hb); clear HO_754002; clear BKC2; clear BKC9; clear HB; have HO_754002 := n0_; have BKC2 := n1_; have BKC9 := n2_; have HB := n3_; clear n0_ n1_ n2_ n3_; (try clear hb); (try clear hb2); (try clear hk); (try clear hi)))
    go_ret
    exact ⟨by first | rfl | (simp [errW_none, errW_some] <;> rfl) | (simp [*, errW_none, errW_some] <;> rfl), by repeat (first | (with_reducible first | exact HB.out | apply zW | apply zX | apply zY | refine zS ?_ GEC2.out | refine zS ?_ GEC9.out) | exact HB.out)⟩
   ·
    replace c19 := Bool.eq_false_iff.mpr c19
    subst c19
    have H1 : (kimberlitelaw03_CurveBack.l0 kj5 a1 a2 a3 0 a0_0 a0_1 l0_2 t747 t748 t749) = some r := by rw [if_neg (show ¬ (false = true) by decide)] at H; exact H
    clear H
    have H := H1
    clear H1
    have H' := zA H
    clear H
    go_wp2
    go_loopg [11] kj5 (fun kq v11 w' => ∃ (x11_2 : Int), v11 = .int .i64 x11_2 ∧ Aside0 (kimberlitelaw03_CurveBack.l0 kq a1 a2 a3 x11_2 a0_0 a0_1 l0_2 t747 t748 t749 = some r) ∧ Aside0 (kq ≤ kj5) ∧ Aside0 (Kd.R (Kd.int .i64) 3 w' w.heap.size (fun _ => True) (.slice Ao13 t749.length co13) t749) ∧ Aside0 (w'.heap[gA]? = some (.cells #[.int .i64 a0_0, .int .i64 a0_1, (.slice A0_2 l0_2.length c0_2)] 24 (0, 0))) ∧ Aside0 (w'.heap[gB]? = some (.cells #[.int .i64 t747, .int .i64 t748, (.slice Ao13 t749.length co13)] 24 (0, 0))) ∧ Aside0 (Below w.heap.size w w'))
    case atStart => exact ⟨(0), (by first | rfl | (simp; done) | (simp [*]; done)), H', ⟨Nat.le_refl _⟩, ⟨by (with_reducible repeat (first | apply Kd.R_alloc | apply Kd.R_drewN | apply Kd.R_drew)); exact HO_754002.out⟩, ⟨by (with_reducible repeat (first | refine zN ?_ _ | refine zD ?_ | refine zB ?_ _)); exact BKC2.out⟩, ⟨by (with_reducible repeat (first | refine zN ?_ _ | refine zD ?_ | refine zB ?_ _)); exact BKC9.out⟩, ⟨by repeat (first | (with_reducible first | exact HB.out | apply zW | apply zX | apply zY | refine zS ?_ GEC2.out | refine zS ?_ GEC9.out) | exact HB.out)⟩⟩
    case round =>
     clear H'
     try clear c1
     try clear p2
     try clear c3
     try clear c10
     try clear c11
     try clear c14
     try clear c14b0
     try clear c14b1
     try clear c16
     try clear c17
     try clear c19
     try clear hcz12_0
     try clear hcz12_1
     try clear hcz12_2
     try clear hcz17_0
     try clear hcz17_1
     try clear hcz17_2
     try clear hcz8_0
     try clear hcz8_1
     try clear hcz8_2
     try clear hfz12_0
     try clear hfz12_1
     try clear hfz12_2
     try clear hfz17_0
     try clear hfz17_1
     try clear hfz17_2
     try clear hfz8_0
     try clear hfz8_1
     try clear hfz8_2
     try clear p2
     obtain ⟨x11_2, rfl, HA, HK2, HO_754002, BKC2, BKC9, HB⟩ := hrel
     cases gk with
     | zero => exact absurd HA.out (by simp [kimberlitelaw03_CurveBack.l0])
     | succ k2 =>
      have H := HA.out
      clear HA
      simp only [kimberlitelaw03_CurveBack.l0] at H
      by_cases c22 : x11_2 < (l0_2.length : Int)
      ·
       rw [if_pos c22] at H
       have c22b0 : decide (x11_2 < (l0_2.length : Int)) = true := decide_eq_true c22
       clear c22
       have HC23 := zA H
       clear H
       have hnb24 := NB746_753.out
       have hnc24 := NB753_746.out
       have hcz25_0 : wr.cell? ⟨gA, 0, none⟩ = some (.int .i64 a0_0) := (blk_cell BKC2.out 0).trans rfl
       have hcz25_1 : wr.cell? ⟨gA, 1, none⟩ = some (.int .i64 a0_1) := (blk_cell BKC2.out 1).trans rfl
       have hcz25_2 : wr.cell? ⟨gA, 2, none⟩ = some (.slice A0_2 l0_2.length c0_2) := (blk_cell BKC2.out 2).trans rfl
       have hfz25_0 := blk_frozen BKC2.out 0
       have hfz25_1 := blk_frozen BKC2.out 1
       have hfz25_2 := blk_frozen BKC2.out 2
       go_upto_region 7 with (fail)
       go_cut [55] (fun v55 wc => ∃ (kq : Nat) (x55_22 : Bool), v55 = .bool x55_22 ∧ Aside0 (kimberlitelaw03_CurveBack.j2 kq a1 a2 a3 x11_2 x55_22 a0_0 a0_1 l0_2 t747 t748 t749 = some r) ∧ Aside0 (kq ≤ k2) ∧ Aside0 (Kd.R (Kd.int .i64) 3 wc w.heap.size (fun _ => True) (.slice Ao13 t749.length co13) t749) ∧ Aside0 (wc.heap[gA]? = some (.cells #[.int .i64 a0_0, .int .i64 a0_1, (.slice A0_2 l0_2.length c0_2)] 24 (0, 0))) ∧ Aside0 (wc.heap[gB]? = some (.cells #[.int .i64 t747, .int .i64 t748, (.slice Ao13 t749.length co13)] 24 (0, 0))) ∧ Aside0 (Below w.heap.size w wc))
       case first =>
        have H := HC23.out
        clear HC23
        by_cases c26 : 0 ≤ x11_2
        ·
         rw [if_pos c26] at H
         have c26b0 : decide (0 ≤ x11_2) = true := decide_eq_true c26
         clear c26
         (first | rw [c26b0] | (simp only [i64_w, i32_w]; rw [c26b0]) | skip)
         by_cases c27 : (rd l0_2 x11_2) < a1
         ·
          rw [if_pos c27] at H
          have c27b0 : decide ((rd l0_2 x11_2) < a1) = true := decide_eq_true c27
          clear c27
          have H' := zA H
          clear H
          have hnb28 := NB746_753.out
          have hnc28 := NB753_746.out
          have hcz29_0 : wr.cell? ⟨gA, 0, none⟩ = some (.int .i64 a0_0) := (blk_cell BKC2.out 0).trans rfl
          have hcz29_1 : wr.cell? ⟨gA, 1, none⟩ = some (.int .i64 a0_1) := (blk_cell BKC2.out 1).trans rfl
          have hcz29_2 : wr.cell? ⟨gA, 2, none⟩ = some (.slice A0_2 l0_2.length c0_2) := (blk_cell BKC2.out 2).trans rfl
          have hfz29_0 := blk_frozen BKC2.out 0
          have hfz29_1 := blk_frozen BKC2.out 1
          have hfz29_2 := blk_frozen BKC2.out 2
          have p757 : 0 ≤ (x11_2 : Int) := of_decide_eq_true (by first | (with_reducible assumption) | assumption)
          have q757 : x11_2 < (l0_2.length : Int) := of_decide_eq_true (by first | (with_reducible assumption) | assumption)
          obtain ⟨ad757, e757, hx757_0⟩ := Kd.at_int HR0_2.out x11_2 p757 q757
          cases e757
          replace hx757_0 := (HB.out.cell (World.block_lt_of_cell? w _ hx757_0)).trans hx757_0
          replace p757 := eq_true p757
          replace q757 := eq_true q757
          go_wp2
          go_meet
          case rel => exact ⟨_, (true), (by first | rfl | (simp; done) | (simp [*]; done)), H', ⟨by have := HJ5.out; have := HK2.out; first | omega | exact Nat.le_refl _⟩, ⟨by (with_reducible repeat (first | apply Kd.R_alloc | apply Kd.R_drewN | apply Kd.R_drew)); exact HO_754002.out⟩, ⟨by (with_reducible repeat (first | refine zN ?_ _ | refine zD ?_ | refine zB ?_ _)); exact BKC2.out⟩, ⟨by (with_reducible repeat (first | refine zN ?_ _ | refine zD ?_ | refine zB ?_ _)); exact BKC9.out⟩, ⟨by repeat (first | (with_reducible first | exact HB.out | apply zW | apply zX | apply zY | refine zS ?_ GEC2.out | refine zS ?_ GEC9.out) | exact HB.out)⟩⟩
         ·
          rw [if_neg c27] at H
          have c27b0 : decide ((rd l0_2 x11_2) < a1) = false := decide_eq_false c27
          clear c27
          have H' := zA H
          clear H
          have hnb30 := NB746_753.out
          have hnc30 := NB753_746.out
          have hcz31_0 : wr.cell? ⟨gA, 0, none⟩ = some (.int .i64 a0_0) := (blk_cell BKC2.out 0).trans rfl
          have hcz31_1 : wr.cell? ⟨gA, 1, none⟩ = some (.int .i64 a0_1) := (blk_cell BKC2.out 1).trans rfl
          have hcz31_2 : wr.cell? ⟨gA, 2, none⟩ = some (.slice A0_2 l0_2.length c0_2) := (blk_cell BKC2.out 2).trans rfl
          have hfz31_0 := blk_frozen BKC2.out 0
          have hfz31_1 := blk_frozen BKC2.out 1
          have hfz31_2 := blk_frozen BKC2.out 2
          have p757 : 0 ≤ (x11_2 : Int) := of_decide_eq_true (by first | (with_reducible assumption) | assumption)
          have q757 : x11_2 < (l0_2.length : Int) := of_decide_eq_true (by first | (with_reducible assumption) | assumption)
          obtain ⟨ad757, e757, hx757_0⟩ := Kd.at_int HR0_2.out x11_2 p757 q757
          cases e757
          replace hx757_0 := (HB.out.cell (World.block_lt_of_cell? w _ hx757_0)).trans hx757_0
          replace p757 := eq_true p757
          replace q757 := eq_true q757
          have p758 : 0 ≤ (x11_2 : Int) := of_decide_eq_true (by first | (with_reducible assumption) | assumption)
          have q758 : x11_2 < (l0_2.length : Int) := of_decide_eq_true (by first | (with_reducible assumption) | assumption)
          obtain ⟨ad758, e758, hx758_0⟩ := Kd.at_int HR0_2.out x11_2 p758 q758
          obtain rfl : ad757 = ad758 := (by injection e758)
          replace hx758_0 := (HB.out.cell (World.block_lt_of_cell? w _ hx758_0)).trans hx758_0
          replace p758 := eq_true p758
          replace q758 := eq_true q758
          go_wp2
          go_meet
          case rel => exact ⟨_, (decide ((rd l0_2 x11_2) > a2)), (by first | rfl | (simp; done) | (simp [*]; done)), H', ⟨by have := HJ5.out; have := HK2.out; first | omega | exact Nat.le_refl _⟩, ⟨by (with_reducible repeat (first | apply Kd.R_alloc | apply Kd.R_drewN | apply Kd.R_drew)); exact HO_754002.out⟩, ⟨by (with_reducible repeat (first | refine zN ?_ _ | refine zD ?_ | refine zB ?_ _)); exact BKC2.out⟩, ⟨by (with_reducible repeat (first | refine zN ?_ _ | refine zD ?_ | refine zB ?_ _)); exact BKC9.out⟩, ⟨by repeat (first | (with_reducible first | exact HB.out | apply zW | apply zX | apply zY | refine zS ?_ GEC2.out | refine zS ?_ GEC9.out) | exact HB.out)⟩⟩
        ·
         rw [if_neg c26] at H
         exact absurd H (by simp)
       case rest =>
        clear HC23
        try clear c1
        try clear c2
        try clear p2
        try clear c3
        try clear p7
        try clear q7
        try clear hx7
        try clear c10
        try clear c11
        try clear c14
        try clear c14b0
        try clear c14b1
        try clear c16
        try clear c17
        try clear c19
        try clear c22
        try clear c22b0
        try clear c24
        try clear c26
        try clear c26b0
        try clear c27
        try clear c27b0
        try clear c28
        try clear c30
        try clear hcz12_0
        try clear hcz12_1
        try clear hcz12_2
        try clear hcz17_0
        try clear hcz17_1
        try clear hcz17_2
        try clear hcz25_0
        try clear hcz25_1
        try clear hcz25_2
        try clear hcz29_0
        try clear hcz29_1
        try clear hcz29_2
        try clear hcz31_0
        try clear hcz31_1
        try clear hcz31_2
        try clear hcz8_0
        try clear hcz8_1
        try clear hcz8_2
        try clear hfz12_0
        try clear hfz12_1
        try clear hfz12_2
        try clear hfz17_0
        try clear hfz17_1
        try clear hfz17_2
        try clear hfz25_0
        try clear hfz25_1
        try clear hfz25_2
        try clear hfz29_0
        try clear hfz29_1
        try clear hfz29_2
        try clear hfz31_0
        try clear hfz31_1
        try clear hfz31_2
        try clear hfz8_0
        try clear hfz8_1
        try clear hfz8_2
        try clear hx757_0
        try clear hx758_0
        try clear p2
        try clear p757
        try clear p758
        try clear q757
        try clear q758
        obtain ⟨kq, x55_22, rfl, HA, HJ22, HO_754002, BKC2, BKC9, HB⟩ := hcut
        cases kq with
        | zero => exact absurd HA.out (by simp [kimberlitelaw03_CurveBack.j2])
        | succ kj22 =>
         have H := HA.out
         clear HA
         simp only [kimberlitelaw03_CurveBack.j2] at H
         by_cases c32 : x55_22 = true
         ·
          subst c32
          have H1 : ((kimberlitelaw03_alive.f).bind fun t760 => (some t760)) = some r := by rw [if_pos rfl] at H; exact H
          clear H
          have H := H1
          clear H1
          replace H := Option.bind_eq_some_iff.mp H
          obtain ⟨t760, A330, H⟩ := H
          replace H : (some t760) = some r := H
          have A33 := zA A330
          clear A330
          obtain rfl := Option.some.inj H
          go_wp2_with (first | ((with_reducible refine gate_callee (f := 17) rfl ?_); refine goesL_ (some 56) rfl rfl Try.func17 (by kernel_rfl) rfl #[] rfl (by (try simp only [List.map_toArray, List.map_cons, List.map_nil]); first | done | rfl | (simp only [List.length_drop, List.length_take]; rfl)) ?_; (with_reducible refine (kimberlitelaw03_alive.calls  t760 _ A33.out).mono ?_); rintro e w34 ⟨rfl, hb⟩; refine ⟨_, rfl, ?_⟩; have n0_ := zA (Kd.R_below (by (with_reducible repeat (first | apply Kd.R_alloc | apply Kd.R_drewN | apply Kd.R_drew)); exact HO_754002.out) hb); have n1_ := zA (blk_below (g := gA) (o := .cells #[.int .i64 a0_0, .int .i64 a0_1, .slice A0_2 l0_2.length c0_2] 24 (0, 0)) (by (with_reducible repeat (first | refine zN ?_ _ | refine zD ?_ | refine zB ?_ _)); exact BKC2.out) hb); have n2_ := zA (blk_below (g := gB) (o := .cells #[.int .i64 t747, .int .i64 t748, .slice Ao13 t749.length co13] 24 (0, 0)) (by (with_reducible repeat (first | refine zN ?_ _ | refine zD ?_ | refine zB ?_ _)); exact BKC9.out) hb); have n3_ := zA (below_step (by repeat (first | (with_reducible first | exact HB.out | apply zW | apply zX | apply zY | refine zS ?_ GEC2.out | refine zS ?_ GEC9.out) | exact HB.out)) hb); clear HO_754002; clear BKC2; clear BKC9; clear HB; have HO_754002 := n0_; have BKC2 := n1_; have BKC9 := n2_; have HB := n3_; clear n0_ n1_ n2_ n3_; (try clear hb); (try clear hb2); (try clear hk); (try clear hi)))
          go_ret
          exact ⟨by first | rfl | (simp [errW_none, errW_some] <;> rfl) | (simp [*, errW_none, errW_some] <;> rfl), by repeat (first | (with_reducible first | exact HB.out | apply zW | apply zX | apply zY | refine zS ?_ GEC2.out | refine zS ?_ GEC9.out) | exact HB.out)⟩
         ·
          replace c32 := Bool.eq_false_iff.mpr c32
          subst c32
          have H1 : (kimberlitelaw03_CurveBack.l0 kj22 a1 a2 a3 (wrap64 (x11_2 + 1)) a0_0 a0_1 l0_2 t747 t748 t749) = some r := by rw [if_neg (show ¬ (false = true) by decide)] at H; exact H
          clear H
          have H := H1
          clear H1
          have H' := zA H
          clear H
          go_wp2
          go_roundg kj22
          case measure => have := HJ5.out; have := HK2.out; have := HJ22.out; omega
          case rel => exact ⟨(wrap64 (x11_2 + 1)), (by first | rfl | (simp; done) | (simp [*]; done)), H', ⟨by have := HJ5.out; have := HK2.out; have := HJ22.out; omega⟩, ⟨by (with_reducible repeat (first | apply Kd.R_alloc | apply Kd.R_drewN | apply Kd.R_drew)); exact HO_754002.out⟩, ⟨by (with_reducible repeat (first | refine zN ?_ _ | refine zD ?_ | refine zB ?_ _)); exact BKC2.out⟩, ⟨by (with_reducible repeat (first | refine zN ?_ _ | refine zD ?_ | refine zB ?_ _)); exact BKC9.out⟩, ⟨by repeat (first | (with_reducible first | exact HB.out | apply zW | apply zX | apply zY | refine zS ?_ GEC2.out | refine zS ?_ GEC9.out) | exact HB.out)⟩⟩
      ·
       rw [if_neg c22] at H
       have c22b0 : decide (x11_2 < (l0_2.length : Int)) = false := decide_eq_false c22
       clear c22
       replace H := Option.bind_eq_some_iff.mp H
       obtain ⟨⟨t763, t764⟩, A350, H⟩ := H
       replace H : (if t764 = true then ((kimberlitelaw03_at.f t747 t748 t749 a1).bind fun bt768 => (kimberlitelaw03_CurveBack.l1 k2 a2 a3 t763 bt768.2 (wrap64 ((wrap64 (a1 * a3)) - bt768.1)) a1 t747 t748 t749)) else ((kimberlitelaw03_alive.f).bind fun t765 => (some t765))) = some r := H
       have A35 := zA A350
       clear A350
       by_cases c36 : t764 = true
       ·
        subst c36
        have H1 : ((kimberlitelaw03_at.f t747 t748 t749 a1).bind fun bt768 => (kimberlitelaw03_CurveBack.l1 k2 a2 a3 t763 bt768.2 (wrap64 ((wrap64 (a1 * a3)) - bt768.1)) a1 t747 t748 t749)) = some r := by rw [if_pos rfl] at H; exact H
        clear H
        have H := H1
        clear H1
        replace H := Option.bind_eq_some_iff.mp H
        obtain ⟨⟨t768, t769⟩, A370, H⟩ := H
        replace H : (kimberlitelaw03_CurveBack.l1 k2 a2 a3 t763 t769 (wrap64 ((wrap64 (a1 * a3)) - t768)) a1 t747 t748 t749) = some r := H
        have A37 := zA A370
        clear A370
        have H' := zA H
        clear H
        have hnb38 := NB746_753.out
        have hnc38 := NB753_746.out
        have hcz39_0 : wr.cell? ⟨gA, 0, none⟩ = some (.int .i64 a0_0) := (blk_cell BKC2.out 0).trans rfl
        have hcz39_1 : wr.cell? ⟨gA, 1, none⟩ = some (.int .i64 a0_1) := (blk_cell BKC2.out 1).trans rfl
        have hcz39_2 : wr.cell? ⟨gA, 2, none⟩ = some (.slice A0_2 l0_2.length c0_2) := (blk_cell BKC2.out 2).trans rfl
        have hfz39_0 := blk_frozen BKC2.out 0
        have hfz39_1 := blk_frozen BKC2.out 1
        have hfz39_2 := blk_frozen BKC2.out 2
        go_wp2_with (first | ((with_reducible refine gate_callee (f := 18) rfl ?_); refine goesL_ (some 60) rfl rfl Try.func18 (by kernel_rfl) rfl #[.agg #[.int .i64 a0_0, .int .i64 a0_1, .slice A0_2 l0_2.length c0_2], .int .i64 a3] rfl (by (try simp only [List.map_toArray, List.map_cons, List.map_nil]); first | done | rfl | (simp only [List.length_drop, List.length_take]; rfl)) ?_; (with_reducible refine (kimberlitelaw03_at.calls a0_0 a0_1 _ _ l0_2 a3 t763 true _ ?side1 ?side2 A35.out).mono ?_); (case side1 => repeat (first | exact (Kd.C_below HR0_2.out HB.out) | (with_reducible refine Kd.C_alloc ?_ _) | (with_reducible refine Kd.C_drewN ?_ _) | (with_reducible refine Kd.C_drew ?_))); (case side2 => exact HC0_2.out); rintro e w40 ⟨rfl, hb⟩; refine ⟨_, rfl, ?_⟩; have n0_ := zA (Kd.R_below (by (with_reducible repeat (first | apply Kd.R_alloc | apply Kd.R_drewN | apply Kd.R_drew)); exact HO_754002.out) hb); have n1_ := zA (blk_below (g := gA) (o := .cells #[.int .i64 a0_0, .int .i64 a0_1, .slice A0_2 l0_2.length c0_2] 24 (0, 0)) (by (with_reducible repeat (first | refine zN ?_ _ | refine zD ?_ | refine zB ?_ _)); exact BKC2.out) hb); have n2_ := zA (blk_below (g := gB) (o := .cells #[.int .i64 t747, .int .i64 t748, .slice Ao13 t749.length co13] 24 (0, 0)) (by (with_reducible repeat (first | refine zN ?_ _ | refine zD ?_ | refine zB ?_ _)); exact BKC9.out) hb); have n3_ := zA (below_step (by repeat (first | (with_reducible first | exact HB.out | apply zW | apply zX | apply zY | refine zS ?_ GEC2.out | refine zS ?_ GEC9.out) | exact HB.out)) hb); clear HO_754002; clear BKC2; clear BKC9; clear HB; have HO_754002 := n0_; have BKC2 := n1_; have BKC9 := n2_; have HB := n3_; clear n0_ n1_ n2_ n3_; (try clear hb); (try clear hb2); (try clear hk); (try clear hi); have hcz41_0 : w40.cell? ⟨gB, 0, none⟩ = some (.int .i64 t747) := (blk_cell BKC9.out 0).trans rfl; have hcz41_1 : w40.cell? ⟨gB, 1, none⟩ = some (.int .i64 t748) := (blk_cell BKC9.out 1).trans rfl; have hcz41_2 : w40.cell? ⟨gB, 2, none⟩ = some (.slice Ao13 t749.length co13) := (blk_cell BKC9.out 2).trans rfl; have hfz41_0 := blk_frozen BKC9.out 0; have hfz41_1 := blk_frozen BKC9.out 1; have hfz41_2 := blk_frozen BKC9.out 2) | ((with_reducible refine gate_callee (f := 18) rfl ?_); refine goesL_ (some 69) rfl rfl Try.func18 (by kernel_rfl) rfl #[.agg #[.int .i64 t747, .int .i64 t748, .slice Ao13 t749.length co13], .int .i64 a1] rfl (by (try simp only [List.map_toArray, List.map_cons, List.map_nil]); first | done | rfl | (simp only [List.length_drop, List.length_take]; rfl)) ?_; (with_reducible refine (kimberlitelaw03_at.calls t747 t748 _ _ t749 a1 t768 t769 _ ?side1 ?side2 A37.out).mono ?_); (case side1 => repeat (first | exact (Kd.R_reads' HO_754002.out).2.2 | (with_reducible refine Kd.C_alloc ?_ _) | (with_reducible refine Kd.C_drewN ?_ _) | (with_reducible refine Kd.C_drew ?_))); (case side2 => exact (Kd.R_reads' HO_754002.out).2.1); rintro e w42 ⟨rfl, hb⟩; refine ⟨_, rfl, ?_⟩; have n0_ := zA (Kd.R_below (by (with_reducible repeat (first | apply Kd.R_alloc | apply Kd.R_drewN | apply Kd.R_drew)); exact HO_754002.out) hb); have n1_ := zA (blk_below (g := gA) (o := .cells #[.int .i64 a0_0, .int .i64 a0_1, .slice A0_2 l0_2.length c0_2] 24 (0, 0)) (by (with_reducible repeat (first | refine zN ?_ _ | refine zD ?_ | refine zB ?_ _)); exact BKC2.out) hb); have n2_ := zA (blk_below (g := gB) (o := .cells #[.int .i64 t747, .int .i64 t748, .slice Ao13 t749.length co13] 24 (0, 0)) (by (with_reducible repeat (first | refine zN ?_ _ | refine zD ?_ | refine zB ?_ _)); exact BKC9.out) hb); have n3_ := zA (below_step (by repeat (first | (with_reducible first | exact HB.out | apply zW | apply zX | apply zY | refine zS ?_ GEC2.out | refine zS ?_ GEC9.out) | exact HB.out)) hb); clear HO_754002; clear BKC2; clear BKC9; clear HB; have HO_754002 := n0_; have BKC2 := n1_; have BKC9 := n2_; have HB := n3_; clear n0_ n1_ n2_ n3_; (try clear hb); (try clear hb2); (try clear hk); (try clear hi)))
        go_loopg [15, 16, 17] k2 (fun kq v15 v16 v17 w' => ∃ (x15_3 : Bool) (x16_3 : Int) (x17_3 : Int), v15 = .bool x15_3 ∧ v16 = .int .i64 x16_3 ∧ v17 = .int .i64 x17_3 ∧ Aside0 (kimberlitelaw03_CurveBack.l1 kq a2 a3 t763 x15_3 x16_3 x17_3 t747 t748 t749 = some r) ∧ Aside0 (kq ≤ k2) ∧ Aside0 (Kd.R (Kd.int .i64) 3 w' w.heap.size (fun _ => True) (.slice Ao13 t749.length co13) t749) ∧ Aside0 (w'.heap[gA]? = some (.cells #[.int .i64 a0_0, .int .i64 a0_1, (.slice A0_2 l0_2.length c0_2)] 24 (0, 0))) ∧ Aside0 (w'.heap[gB]? = some (.cells #[.int .i64 t747, .int .i64 t748, (.slice Ao13 t749.length co13)] 24 (0, 0))) ∧ Aside0 (Below w.heap.size w w'))
        case atStart => exact ⟨(t769), (wrap64 ((wrap64 (a1 * a3)) - t768)), (a1), (by first | rfl | (simp; done) | (simp [*]; done)), (by first | rfl | (simp; done) | (simp [*]; done)), (by first | rfl | (simp; done) | (simp [*]; done)), H', ⟨Nat.le_refl _⟩, ⟨by (with_reducible repeat (first | apply Kd.R_alloc | apply Kd.R_drewN | apply Kd.R_drew)); exact HO_754002.out⟩, ⟨by (with_reducible repeat (first | refine zN ?_ _ | refine zD ?_ | refine zB ?_ _)); exact BKC2.out⟩, ⟨by (with_reducible repeat (first | refine zN ?_ _ | refine zD ?_ | refine zB ?_ _)); exact BKC9.out⟩, ⟨by repeat (first | (with_reducible first | exact HB.out | apply zW | apply zX | apply zY | refine zS ?_ GEC2.out | refine zS ?_ GEC9.out) | exact HB.out)⟩⟩
        case round =>
         clear H'
         try clear c1
         try clear c2
         try clear p2
         try clear c3
         try clear p6
         try clear p7
         try clear q7
         try clear hx7
         try clear c10
         try clear c11
         try clear c14
         try clear c14b0
         try clear c14b1
         try clear c16
         try clear c17
         try clear c18
         try clear c19
         try clear c22
         try clear c22b0
         try clear c24
         try clear c26
         try clear c26b0
         try clear c27
         try clear c27b0
         try clear c28
         try clear c30
         try clear c32
         try clear c36
         try clear c38
         try clear hcz12_0
         try clear hcz12_1
         try clear hcz12_2
         try clear hcz17_0
         try clear hcz17_1
         try clear hcz17_2
         try clear hcz25_0
         try clear hcz25_1
         try clear hcz25_2
         try clear hcz29_0
         try clear hcz29_1
         try clear hcz29_2
         try clear hcz31_0
         try clear hcz31_1
         try clear hcz31_2
         try clear hcz39_0
         try clear hcz39_1
         try clear hcz39_2
         try clear hcz41_0
         try clear hcz41_1
         try clear hcz41_2
         try clear hcz8_0
         try clear hcz8_1
         try clear hcz8_2
         try clear hfz12_0
         try clear hfz12_1
         try clear hfz12_2
         try clear hfz17_0
         try clear hfz17_1
         try clear hfz17_2
         try clear hfz25_0
         try clear hfz25_1
         try clear hfz25_2
         try clear hfz29_0
         try clear hfz29_1
         try clear hfz29_2
         try clear hfz31_0
         try clear hfz31_1
         try clear hfz31_2
         try clear hfz39_0
         try clear hfz39_1
         try clear hfz39_2
         try clear hfz41_0
         try clear hfz41_1
         try clear hfz41_2
         try clear hfz8_0
         try clear hfz8_1
         try clear hfz8_2
         try clear hx757_0
         try clear hx758_0
         try clear p2
         try clear p7
         try clear p757
         try clear p758
         try clear q7
         try clear q757
         try clear q758
         obtain ⟨x15_3, x16_3, x17_3, rfl, rfl, rfl, HA, HK3, HO_754002, BKC2, BKC9, HB⟩ := hrel
         cases gk with
         | zero => exact absurd HA.out (by simp [kimberlitelaw03_CurveBack.l1])
         | succ k3 =>
          have H := HA.out
          clear HA
          simp only [kimberlitelaw03_CurveBack.l1] at H
          have HC43 := zA H
          clear H
          go_upto_region 15 with (fail)
          go_cut [83] (fun v83 wc => ∃ (kq : Nat) (x83_42 : Bool), v83 = .bool x83_42 ∧ Aside0 (kimberlitelaw03_CurveBack.j4 kq a2 a3 t763 x15_3 x16_3 x17_3 x83_42 t747 t748 t749 = some r) ∧ Aside0 (kq ≤ k3) ∧ Aside0 (Kd.R (Kd.int .i64) 3 wc w.heap.size (fun _ => True) (.slice Ao13 t749.length co13) t749) ∧ Aside0 (wc.heap[gA]? = some (.cells #[.int .i64 a0_0, .int .i64 a0_1, (.slice A0_2 l0_2.length c0_2)] 24 (0, 0))) ∧ Aside0 (wc.heap[gB]? = some (.cells #[.int .i64 t747, .int .i64 t748, (.slice Ao13 t749.length co13)] 24 (0, 0))) ∧ Aside0 (Below w.heap.size w wc))
          case first =>
           have H := HC43.out
           clear HC43
           by_cases c44 : x17_3 ≤ a2
           ·
            rw [if_pos c44] at H
            have c44b0 : decide (x17_3 ≤ a2) = true := decide_eq_true c44
            clear c44
            (first | rw [c44b0] | (simp only [i64_w, i32_w]; rw [c44b0]) | skip)
            have H' := zA H
            clear H
            go_wp2
            go_meet
            case rel => exact ⟨_, (x15_3), (by first | rfl | (simp; done) | (simp [*]; done)), H', ⟨by have := HJ5.out; have := HK2.out; have := HK3.out; first | omega | exact Nat.le_refl _⟩, ⟨by (with_reducible repeat (first | apply Kd.R_alloc | apply Kd.R_drewN | apply Kd.R_drew)); exact HO_754002.out⟩, ⟨by (with_reducible repeat (first | refine zN ?_ _ | refine zD ?_ | refine zB ?_ _)); exact BKC2.out⟩, ⟨by (with_reducible repeat (first | refine zN ?_ _ | refine zD ?_ | refine zB ?_ _)); exact BKC9.out⟩, ⟨by repeat (first | (with_reducible first | exact HB.out | apply zW | apply zX | apply zY | refine zS ?_ GEC2.out | refine zS ?_ GEC9.out) | exact HB.out)⟩⟩
           ·
            rw [if_neg c44] at H
            have c44b0 : decide (x17_3 ≤ a2) = false := decide_eq_false c44
            clear c44
            (first | rw [c44b0] | (simp only [i64_w, i32_w]; rw [c44b0]) | skip)
            have H' := zA H
            clear H
            go_wp2
            go_meet
            case rel => exact ⟨_, (false), (by first | rfl | (simp; done) | (simp [*]; done)), H', ⟨by have := HJ5.out; have := HK2.out; have := HK3.out; first | omega | exact Nat.le_refl _⟩, ⟨by (with_reducible repeat (first | apply Kd.R_alloc | apply Kd.R_drewN | apply Kd.R_drew)); exact HO_754002.out⟩, ⟨by (with_reducible repeat (first | refine zN ?_ _ | refine zD ?_ | refine zB ?_ _)); exact BKC2.out⟩, ⟨by (with_reducible repeat (first | refine zN ?_ _ | refine zD ?_ | refine zB ?_ _)); exact BKC9.out⟩, ⟨by repeat (first | (with_reducible first | exact HB.out | apply zW | apply zX | apply zY | refine zS ?_ GEC2.out | refine zS ?_ GEC9.out) | exact HB.out)⟩⟩
          case rest =>
           clear HC43
           try clear c1
           try clear c2
           try clear p2
           try clear c3
           try clear c4
           try clear p6
           try clear p7
           try clear q7
           try clear hx7
           try clear c10
           try clear c11
           try clear c14
           try clear c14b0
           try clear c14b1
           try clear c16
           try clear c17
           try clear c18
           try clear c19
           try clear c22
           try clear c22b0
           try clear c24
           try clear c26
           try clear c26b0
           try clear c27
           try clear c27b0
           try clear c28
           try clear c30
           try clear c32
           try clear c36
           try clear c38
           try clear c44
           try clear c44b0
           try clear hcz12_0
           try clear hcz12_1
           try clear hcz12_2
           try clear hcz17_0
           try clear hcz17_1
           try clear hcz17_2
           try clear hcz25_0
           try clear hcz25_1
           try clear hcz25_2
           try clear hcz29_0
           try clear hcz29_1
           try clear hcz29_2
           try clear hcz31_0
           try clear hcz31_1
           try clear hcz31_2
           try clear hcz39_0
           try clear hcz39_1
           try clear hcz39_2
           try clear hcz41_0
           try clear hcz41_1
           try clear hcz41_2
           try clear hcz8_0
           try clear hcz8_1
           try clear hcz8_2
           try clear hfz12_0
           try clear hfz12_1
           try clear hfz12_2
           try clear hfz17_0
           try clear hfz17_1
           try clear hfz17_2
           try clear hfz25_0
           try clear hfz25_1
           try clear hfz25_2
           try clear hfz29_0
           try clear hfz29_1
           try clear hfz29_2
           try clear hfz31_0
           try clear hfz31_1
           try clear hfz31_2
           try clear hfz39_0
           try clear hfz39_1
           try clear hfz39_2
           try clear hfz41_0
           try clear hfz41_1
           try clear hfz41_2
           try clear hfz8_0
           try clear hfz8_1
           try clear hfz8_2
           try clear hx757_0
           try clear hx758_0
           try clear p2
           try clear p6
           try clear p7
           try clear p757
           try clear p758
           try clear q7
           try clear q757
           try clear q758
           obtain ⟨kq, x83_42, rfl, HA, HJ42, HO_754002, BKC2, BKC9, HB⟩ := hcut
           cases kq with
           | zero => exact absurd HA.out (by simp [kimberlitelaw03_CurveBack.j4])
           | succ kj42 =>
            have H := HA.out
            clear HA
            simp only [kimberlitelaw03_CurveBack.j4] at H
            by_cases c45 : x83_42 = true
            ·
             subst c45
             have H1 : ((kimberlitelaw03_at.f t747 t748 t749 x17_3).bind fun bt770 => (kimberlitelaw03_CurveBack.l1 kj42 a2 a3 t763 bt770.2 (mx x16_3 (wrap64 ((wrap64 (x17_3 * a3)) - bt770.1))) (wrap64 (x17_3 + 1)) t747 t748 t749)) = some r := by rw [if_pos rfl] at H; exact H
             clear H
             have H := H1
             clear H1
             replace H := Option.bind_eq_some_iff.mp H
             obtain ⟨⟨t770, t771⟩, A460, H⟩ := H
             replace H : (kimberlitelaw03_CurveBack.l1 kj42 a2 a3 t763 t771 (mx x16_3 (wrap64 ((wrap64 (x17_3 * a3)) - t770))) (wrap64 (x17_3 + 1)) t747 t748 t749) = some r := H
             have A46 := zA A460
             clear A460
             obtain ⟨ji47, hji47⟩ : ∃ j_ : Int, (mx x16_3 (wrap64 ((wrap64 (x17_3 * a3)) - t770))) = j_ := ⟨_, rfl⟩
             replace H : (kimberlitelaw03_CurveBack.l1 kj42 a2 a3 t763 t771 ji47 (wrap64 (x17_3 + 1)) t747 t748 t749) = some r := by first | (rw [hji47] at H; exact H) | (simp only [hji47] at H ⊢; exact H)
             (try rw [hji47] at A46)
             have hji47_ : (if x16_3 < (wrap64 ((wrap64 (x17_3 * a3)) - t770)) then (wrap64 ((wrap64 (x17_3 * a3)) - t770)) else x16_3) = ji47 := hji47
             have H' := zA H
             clear H
             have hnb48 := NB753_746.out
             have hnc48 := NB746_753.out
             have hcz49_0 : wc.cell? ⟨gB, 0, none⟩ = some (.int .i64 t747) := (blk_cell BKC9.out 0).trans rfl
             have hcz49_1 : wc.cell? ⟨gB, 1, none⟩ = some (.int .i64 t748) := (blk_cell BKC9.out 1).trans rfl
             have hcz49_2 : wc.cell? ⟨gB, 2, none⟩ = some (.slice Ao13 t749.length co13) := (blk_cell BKC9.out 2).trans rfl
             have hfz49_0 := blk_frozen BKC9.out 0
             have hfz49_1 := blk_frozen BKC9.out 1
             have hfz49_2 := blk_frozen BKC9.out 2
             go_wp2_with (first | ((with_reducible refine gate_callee (f := 18) rfl ?_); refine goesL_ (some 89) rfl rfl Try.func18 (by kernel_rfl) rfl #[.agg #[.int .i64 t747, .int .i64 t748, .slice Ao13 t749.length co13], .int .i64 x17_3] rfl (by (try simp only [List.map_toArray, List.map_cons, List.map_nil]); first | done | rfl | (simp only [List.length_drop, List.length_take]; rfl)) ?_; (with_reducible refine (kimberlitelaw03_at.calls t747 t748 _ _ t749 x17_3 t770 t771 _ ?side1 ?side2 A46.out).mono ?_); (case side1 => repeat (first | exact (Kd.R_reads' HO_754002.out).2.2 | (with_reducible refine Kd.C_alloc ?_ _) | (with_reducible refine Kd.C_drewN ?_ _) | (with_reducible refine Kd.C_drew ?_))); (case side2 => exact (Kd.R_reads' HO_754002.out).2.1); rintro e w50 ⟨rfl, hb⟩; refine ⟨_, rfl, ?_⟩; have n0_ := zA (Kd.R_below (by (with_reducible repeat (first | apply Kd.R_alloc | apply Kd.R_drewN | apply Kd.R_drew)); exact HO_754002.out) hb); have n1_ := zA (blk_below (g := gA) (o := .cells #[.int .i64 a0_0, .int .i64 a0_1, .slice A0_2 l0_2.length c0_2] 24 (0, 0)) (by (with_reducible repeat (first | refine zN ?_ _ | refine zD ?_ | refine zB ?_ _)); exact BKC2.out) hb); have n2_ := zA (blk_below (g := gB) (o := .cells #[.int .i64 t747, .int .i64 t748, .slice Ao13 t749.length co13] 24 (0, 0)) (by (with_reducible repeat (first | refine zN ?_ _ | refine zD ?_ | refine zB ?_ _)); exact BKC9.out) hb); have n3_ := zA (below_step (by repeat (first | (with_reducible first | exact HB.out | apply zW | apply zX | apply zY | refine zS ?_ GEC2.out | refine zS ?_ GEC9.out) | exact HB.out)) hb); clear HO_754002; clear BKC2; clear BKC9; clear HB; have HO_754002 := n0_; have BKC2 := n1_; have BKC9 := n2_; have HB := n3_; clear n0_ n1_ n2_ n3_; (try clear hb); (try clear hb2); (try clear hk); (try clear hi)))
             go_roundg kj42
             case measure => have := HJ5.out; have := HK2.out; have := HK3.out; have := HJ42.out; omega
             case rel => exact ⟨(t771), (ji47), (wrap64 (x17_3 + 1)), (by first | rfl | (simp; done) | (simp [*]; done)), (by first | rfl | (simp; done) | (simp only [← hji47] <;> (first | rfl | simp)) | (simp [*]; done)), (by first | rfl | (simp; done) | (simp [*]; done)), H', ⟨by have := HJ5.out; have := HK2.out; have := HK3.out; have := HJ42.out; omega⟩, ⟨by (with_reducible repeat (first | apply Kd.R_alloc | apply Kd.R_drewN | apply Kd.R_drew)); exact HO_754002.out⟩, ⟨by (with_reducible repeat (first | refine zN ?_ _ | refine zD ?_ | refine zB ?_ _)); exact BKC2.out⟩, ⟨by (with_reducible repeat (first | refine zN ?_ _ | refine zD ?_ | refine zB ?_ _)); exact BKC9.out⟩, ⟨by repeat (first | (with_reducible first | exact HB.out | apply zW | apply zX | apply zY | refine zS ?_ GEC2.out | refine zS ?_ GEC9.out) | exact HB.out)⟩⟩
            ·
             replace c45 := Bool.eq_false_iff.mpr c45
             subst c45
             have H1 : (if x15_3 = true then (if x16_3 = t763 then ((kimberlitelaw03_alive.f).bind fun t772 => (some t772)) else (none)) else (none)) = some r := by rw [if_neg (show ¬ (false = true) by decide)] at H; exact H
             clear H
             have H := H1
             clear H1
             by_cases c51 : x15_3 = true
             ·
              subst c51
              have H1 : (if x16_3 = t763 then ((kimberlitelaw03_alive.f).bind fun t772 => (some t772)) else (none)) = some r := by rw [if_pos rfl] at H; exact H
              clear H
              have H := H1
              clear H1
              by_cases c52 : x16_3 = t763
              ·
               rw [if_pos c52] at H
               have c52b0 : (x16_3 == t763) = true := beq_iff_eq.mpr c52
               have c52b1 : (x16_3 != t763) = false := bne_eq_false_iff_eq.mpr c52
               clear c52
               replace H := Option.bind_eq_some_iff.mp H
               obtain ⟨t772, A530, H⟩ := H
               replace H : (some t772) = some r := H
               have A53 := zA A530
               clear A530
               obtain rfl := Option.some.inj H
               go_wp2_with (first | (go_at_call 17; (with_reducible refine (kimberlitelaw03_alive.calls  t772 _ A53.out).mono ?_); rintro e w54 ⟨rfl, hb⟩; have n0_ := zA (Kd.R_below (by (with_reducible repeat (first | apply Kd.R_alloc | apply Kd.R_drewN | apply Kd.R_drew)); exact HO_754002.out) hb); have n1_ := zA (blk_below (g := gA) (o := .cells #[.int .i64 a0_0, .int .i64 a0_1, .slice A0_2 l0_2.length c0_2] 24 (0, 0)) (by (with_reducible repeat (first | refine zN ?_ _ | refine zD ?_ | refine zB ?_ _)); exact BKC2.out) hb); have n2_ := zA (blk_below (g := gB) (o := .cells #[.int .i64 t747, .int .i64 t748, .slice Ao13 t749.length co13] 24 (0, 0)) (by (with_reducible repeat (first | refine zN ?_ _ | refine zD ?_ | refine zB ?_ _)); exact BKC9.out) hb); have n3_ := zA (below_step (by repeat (first | (with_reducible first | exact HB.out | apply zW | apply zX | apply zY | refine zS ?_ GEC2.out | refine zS ?_ GEC9.out) | exact HB.out)) hb); clear HO_754002; clear BKC2; clear BKC9; clear HB; have HO_754002 := n0_; have BKC2 := n1_; have BKC9 := n2_; have HB := n3_; clear n0_ n1_ n2_ n3_; (try clear hb); (try clear hb2); (try clear hk); (try clear hi)))
               go_ret
               exact ⟨by first | rfl | (simp [errW_none, errW_some] <;> rfl) | (simp [*, errW_none, errW_some] <;> rfl), by repeat (first | (with_reducible first | exact HB.out | apply zW | apply zX | apply zY | refine zS ?_ GEC2.out | refine zS ?_ GEC9.out) | exact HB.out)⟩
              ·
               rw [if_neg c52] at H
               exact absurd H (by simp)
             ·
              replace c51 := Bool.eq_false_iff.mpr c51
              subst c51
              have H1 : (none) = some r := by rw [if_neg (show ¬ (false = true) by decide)] at H; exact H
              clear H
              have H := H1
              clear H1
              exact absurd H (by simp)
       ·
        replace c36 := Bool.eq_false_iff.mpr c36
        subst c36
        have H1 : ((kimberlitelaw03_alive.f).bind fun t765 => (some t765)) = some r := by rw [if_neg (show ¬ (false = true) by decide)] at H; exact H
        clear H
        have H := H1
        clear H1
        replace H := Option.bind_eq_some_iff.mp H
        obtain ⟨t765, A550, H⟩ := H
        replace H : (some t765) = some r := H
        have A55 := zA A550
        clear A550
        obtain rfl := Option.some.inj H
        have hnb56 := NB746_753.out
        have hnc56 := NB753_746.out
        have hcz57_0 : wr.cell? ⟨gA, 0, none⟩ = some (.int .i64 a0_0) := (blk_cell BKC2.out 0).trans rfl
        have hcz57_1 : wr.cell? ⟨gA, 1, none⟩ = some (.int .i64 a0_1) := (blk_cell BKC2.out 1).trans rfl
        have hcz57_2 : wr.cell? ⟨gA, 2, none⟩ = some (.slice A0_2 l0_2.length c0_2) := (blk_cell BKC2.out 2).trans rfl
        have hfz57_0 := blk_frozen BKC2.out 0
        have hfz57_1 := blk_frozen BKC2.out 1
        have hfz57_2 := blk_frozen BKC2.out 2
        go_wp2_with (first | ((with_reducible refine gate_callee (f := 18) rfl ?_); refine goesL_ (some 60) rfl rfl Try.func18 (by kernel_rfl) rfl #[.agg #[.int .i64 a0_0, .int .i64 a0_1, .slice A0_2 l0_2.length c0_2], .int .i64 a3] rfl (by (try simp only [List.map_toArray, List.map_cons, List.map_nil]); first | done | rfl | (simp only [List.length_drop, List.length_take]; rfl)) ?_; (with_reducible refine (kimberlitelaw03_at.calls a0_0 a0_1 _ _ l0_2 a3 t763 false _ ?side1 ?side2 A35.out).mono ?_); (case side1 => repeat (first | exact (Kd.C_below HR0_2.out HB.out) | (with_reducible refine Kd.C_alloc ?_ _) | (with_reducible refine Kd.C_drewN ?_ _) | (with_reducible refine Kd.C_drew ?_))); (case side2 => exact HC0_2.out); rintro e w58 ⟨rfl, hb⟩; refine ⟨_, rfl, ?_⟩; have n0_ := zA (Kd.R_below (by (with_reducible repeat (first | apply Kd.R_alloc | apply Kd.R_drewN | apply Kd.R_drew)); exact HO_754002.out) hb); have n1_ := zA (blk_below (g := gA) (o := .cells #[.int .i64 a0_0, .int .i64 a0_1, .slice A0_2 l0_2.length c0_2] 24 (0, 0)) (by (with_reducible repeat (first | refine zN ?_ _ | refine zD ?_ | refine zB ?_ _)); exact BKC2.out) hb); have n2_ := zA (blk_below (g := gB) (o := .cells #[.int .i64 t747, .int .i64 t748, .slice Ao13 t749.length co13] 24 (0, 0)) (by (with_reducible repeat (first | refine zN ?_ _ | refine zD ?_ | refine zB ?_ _)); exact BKC9.out) hb); have n3_ := zA (below_step (by repeat (first | (with_reducible first | exact HB.out | apply zW | apply zX | apply zY | refine zS ?_ GEC2.out | refine zS ?_ GEC9.out) | exact HB.out)) hb); clear HO_754002; clear BKC2; clear BKC9; clear HB; have HO_754002 := n0_; have BKC2 := n1_; have BKC9 := n2_; have HB := n3_; clear n0_ n1_ n2_ n3_; (try clear hb); (try clear hb2); (try clear hk); (try clear hi)) | ((with_reducible refine gate_callee (f := 17) rfl ?_); refine goesL_ (some 65) rfl rfl Try.func17 (by kernel_rfl) rfl #[] rfl (by (try simp only [List.map_toArray, List.map_cons, List.map_nil]); first | done | rfl | (simp only [List.length_drop, List.length_take]; rfl)) ?_; (with_reducible refine (kimberlitelaw03_alive.calls  t765 _ A55.out).mono ?_); rintro e w59 ⟨rfl, hb⟩; refine ⟨_, rfl, ?_⟩; have n0_ := zA (Kd.R_below (by (with_reducible repeat (first | apply Kd.R_alloc | apply Kd.R_drewN | apply Kd.R_drew)); exact HO_754002.out) hb); have n1_ := zA (blk_below (g := gA) (o := .cells #[.int .i64 a0_0, .int .i64 a0_1, .slice A0_2 l0_2.length c0_2] 24 (0, 0)) (by (with_reducible repeat (first | refine zN ?_ _ | refine zD ?_ | refine zB ?_ _)); exact BKC2.out) hb); have n2_ := zA (blk_below (g := gB) (o := .cells #[.int .i64 t747, .int .i64 t748, .slice Ao13 t749.length co13] 24 (0, 0)) (by (with_reducible repeat (first | refine zN ?_ _ | refine zD ?_ | refine zB ?_ _)); exact BKC9.out) hb); have n3_ := zA (below_step (by repeat (first | (with_reducible first | exact HB.out | apply zW | apply zX | apply zY | refine zS ?_ GEC2.out | refine zS ?_ GEC9.out) | exact HB.out)) hb); clear HO_754002; clear BKC2; clear BKC9; clear HB; have HO_754002 := n0_; have BKC2 := n1_; have BKC9 := n2_; have HB := n3_; clear n0_ n1_ n2_ n3_; (try clear hb); (try clear hb2); (try clear hk); (try clear hi)))
        go_ret
        exact ⟨by first | rfl | (simp [errW_none, errW_some] <;> rfl) | (simp [*, errW_none, errW_some] <;> rfl), by repeat (first | (with_reducible first | exact HB.out | apply zW | apply zX | apply zY | refine zS ?_ GEC2.out | refine zS ?_ GEC9.out) | exact HB.out)⟩
end Go.Proofs.Ytfeeaipbmpmpgaa.PX

namespace Go.Proofs.Ytfeeaipbmpmpgaa.Pure
open Go.RowKit Go.Proofs.YtfeeaipbmpmpgaaW.PrintWords Go.Proofs.YtfeeaipbmpmpgaaW.PrintLast Go.Proofs.YtfeeaipbmpmpgaaW.PrintMore Go.Proofs.Ytfeeaipbmpmpgaa.PX
set_option linter.unusedVariables false
set_option linter.unusedSimpArgs false

theorem back_l1 {a b : Int} {l : List Int} {lo hi : Int} (hok : conjOk a b l lo hi) (hv2 : valB lo (gr a b l lo) (conjL a b l lo hi) = true) {x : Int} (hd : cdom a l x = true) (q : Int) (hq1 : lo ≤ q) (hq2 : q ≤ hi) (hq : gr a b l q = q * x - cval a b l x) (d : Nat) :
    ∀ (k : Nat) (p best : Int), p + (d : Int) = hi + 1 → 2 * d + 5 < k → lo ≤ p → best ≤ cval a b l x → (best = cval a b l x ∨ p ≤ q) → kimberlitelaw03_CurveBack.l1 k hi x (cval a b l x) true best p lo (gr a b l lo) (conjL a b l lo hi) = some true := by
  obtain ⟨hv, o1, o2, o3, o4, o5⟩ := hok
  have v1 := val_from hv
  have dd := cdom_iff.1 hd
  induction d with
  | zero =>
    intro k p best hp hk hl hb hbq
    obtain ⟨k, rfl⟩ : ∃ m, k = m + 2 := ⟨k - 2, by omega⟩
    simp only [kimberlitelaw03_CurveBack.l1]
    rw [if_neg (by omega)]
    simp only [kimberlitelaw03_CurveBack.j4]
    rw [if_neg (by decide), if_pos trivial, if_pos (by omega)]
    rfl
  | succ d ih =>
    intro k p best hp hk hl hb hbq
    obtain ⟨k, rfl⟩ : ∃ m, k = m + 2 := ⟨k - 2, by omega⟩
    simp only [kimberlitelaw03_CurveBack.l1]
    rw [if_pos (by omega)]
    simp only [kimberlitelaw03_CurveBack.j4]
    have ea : atV lo (gr a b l lo) (conjL a b l lo hi) p = (gr a b l p, true) := by
      unfold atV
      rw [if_pos hv2, if_pos ((conj_cdom o3 p).2 (by omega)), conj_cval a b l p (by omega) (by omega)]
    have hge := gr_ge a b l p x hd
    have hbd := gr_bound hv (p := p) (by omega)
    have hm := mul_small (p := p) (x := x) (by omega) (by omega)
    rw [if_pos trivial, law_at, ea]
    simp only [Option.bind_some]
    rw [w64 (x := p * x) (by omega) (by omega), w64 (x := p * x - gr a b l p) (by omega) (by omega), w64 (x := p + 1) (by omega) (by omega)]
    have hmx : mx best (p * x - gr a b l p) ≤ cval a b l x := by unfold mx; split <;> omega
    refine ih k (p + 1) _ (by omega) (by omega) (by omega) hmx ?_
    by_cases e : p = q
    · left
      subst e
      unfold mx at hmx ⊢
      split <;> omega
    · rcases hbq with h | h
      · left
        unfold mx at hmx ⊢
        split <;> omega
      · right; omega
theorem back_price {a b : Int} {l : List Int} {lo hi : Int} (hok : conjOk a b l lo hi) (hs : ∀ s ∈ l, lo ≤ s ∧ s ≤ hi) {x : Int} (hd : cdom a l x = true) : ∃ q, lo ≤ q ∧ q ≤ hi ∧ gr a b l q = q * x - cval a b l x := by
  obtain ⟨hv, o1, o2, o3, o4, o5⟩ := hok
  have dd := cdom_iff.1 hd
  obtain ⟨t, ht⟩ := Int.eq_ofNat_of_zero_le (show 0 ≤ x - a from by omega)
  have key : ∀ q, lo ≤ q → q ≤ hi → (∀ (i : Nat) (h : i < l.length), i < t → l[i] ≤ q) → (∀ (i : Nat) (h : i < l.length), t ≤ i → q ≤ l[i]) → gr a b l q = q * x - cval a b l x := by
    intro q h1 h2 h3 h4
    have hge := gr_ge a b l q x hd
    obtain ⟨y, hy, e⟩ := gr_ex a b l q
    have dy := cdom_iff.1 hy
    obtain ⟨u, hu⟩ := Int.eq_ofNat_of_zero_le (show 0 ≤ y - a from by omega)
    have c1 : cval a b l x = b + sm l t := by unfold cval; rw [ht, Int.toNat_natCast]
    have c2 : cval a b l y = b + sm l u := by unfold cval; rw [hu, Int.toNat_natCast]
    have ex : x = a + (t : Int) := by omega
    have ey : y = a + (u : Int) := by omega
    rw [c2] at e
    rw [c1] at hge ⊢
    have m1 : q * x = q * a + q * (t : Int) := by rw [ex, Int.mul_add]
    have m2 : q * y = q * a + q * (u : Int) := by rw [ey, Int.mul_add]
    rcases Nat.le_total t u with h | h
    · have h5 := sm_up l q t u h (by omega) (fun k hk hkt => h4 k hk hkt)
      have e2 : q * ((u - t : Nat) : Int) = q * (u : Int) - q * (t : Int) := by
        rw [← Int.mul_sub]
        congr 1
        omega
      omega
    · have h5 := sm_down l q t u h (by omega) (fun k hk hkt => h3 k hk hkt)
      have e2 : q * ((t - u : Nat) : Int) = q * (t : Int) - q * (u : Int) := by
        rw [← Int.mul_sub]
        congr 1
        omega
      omega
  have hp := List.pairwise_iff_getElem.1 (val_all hv).1
  have le : ∀ (i j : Nat) (hi : i < l.length) (hj : j < l.length), i ≤ j → l[i] ≤ l[j] := by
    intro i j hi hj hij
    by_cases e : i = j
    · subst e; exact Int.le_refl _
    · exact hp i j hi hj (by omega)
  by_cases c : 0 < t
  · have hm := hs _ (List.getElem_mem (show t - 1 < l.length by omega))
    exact ⟨l[t - 1], hm.1, hm.2, key _ hm.1 hm.2 (fun i h h' => le i (t - 1) h (by omega) (by omega)) (fun i h h' => le (t - 1) i (by omega) h (by omega))⟩
  · by_cases c2 : 0 < l.length
    · have hm := hs _ (List.getElem_mem c2)
      exact ⟨l[0], hm.1, hm.2, key _ hm.1 hm.2 (fun i h h' => by omega) (fun i h h' => le 0 i c2 h (by omega))⟩
    · exact ⟨lo, by omega, o3, key lo (by omega) o3 (fun i h h' => by omega) (fun i h h' => by omega)⟩
theorem back_l0 {a b : Int} {l : List Int} {lo hi : Int} (hok : conjOk a b l lo hi) (hv2 : valB lo (gr a b l lo) (conjL a b l lo hi) = true) (x : Int) (d : Nat) :
    ∀ (k i : Nat), i + d = l.length → 2 * d + 300 < k → (∀ (j : Nat) (h : j < l.length), j < i → lo ≤ l[j] ∧ l[j] ≤ hi) → kimberlitelaw03_CurveBack.l0 k lo hi x (i : Int) a b l lo (gr a b l lo) (conjL a b l lo hi) = some true := by
  have hok' := hok
  obtain ⟨hv, o1, o2, o3, o4, o5⟩ := hok'
  have v1 := val_from hv
  induction d with
  | zero =>
    intro k i hin hk hs
    obtain ⟨k, rfl⟩ : ∃ m, k = m + 1 := ⟨k - 1, by omega⟩
    simp only [kimberlitelaw03_CurveBack.l0, law_at]
    rw [if_neg (by omega)]
    simp only [Option.bind_some]
    by_cases hd : cdom a l x = true
    · have ea : atV a b l x = (cval a b l x, true) := by unfold atV; rw [if_pos hv, if_pos hd]
      have eb : atV lo (gr a b l lo) (conjL a b l lo hi) lo = (gr a b l lo, true) := by
        unfold atV
        rw [if_pos hv2, if_pos ((conj_cdom o3 lo).2 (by omega)), conj_cval a b l lo (by omega) (by omega)]
      rw [ea, eb]
      simp only [if_true]
      have dd := cdom_iff.1 hd
      have hm := mul_small (p := lo) (x := x) (by omega) (by omega)
      have hbd := gr_bound hv (p := lo) (by omega)
      have hge := gr_ge a b l lo x hd
      rw [w64 (x := lo * x) (by omega) (by omega), w64 (x := lo * x - gr a b l lo) (by omega) (by omega)]
      obtain ⟨q, q1, q2, q3⟩ := back_price hok (fun s hs' => by
        obtain ⟨j, hj, rfl⟩ := List.getElem_of_mem hs'
        exact hs j hj (by omega)) hd
      exact back_l1 hok hv2 hd q q1 q2 q3 (conjN lo hi) k lo _ (by unfold conjN; omega) (by unfold conjN; omega) (Int.le_refl _) (by omega) (.inr q1)
    · have ea : atV a b l x = (0, false) := by unfold atV; rw [if_pos hv, if_neg hd]
      rw [ea]
      rfl
  | succ d ih =>
    intro k i hin hk hs
    obtain ⟨k, rfl⟩ : ∃ m, k = m + 2 := ⟨k - 2, by omega⟩
    simp only [kimberlitelaw03_CurveBack.l0]
    rw [if_pos (by omega), if_pos (by omega), rd_getElem l i (by omega)]
    by_cases c1 : l[i] < lo
    · rw [if_pos c1]
      simp only [kimberlitelaw03_CurveBack.j2]
      rw [if_pos trivial]
      rfl
    · rw [if_neg c1]
      simp only [kimberlitelaw03_CurveBack.j2]
      by_cases c2 : l[i] > hi
      · rw [if_pos (by simpa using c2)]
        rfl
      · rw [if_neg (by simpa using c2), w64 (x := (i : Int) + 1) (by omega) (by omega)]
        exact ih k (i + 1) (by omega) (by omega) (fun j h hj => by
          by_cases e : j = i
          · subst e; omega
          · exact hs j h (by omega))
theorem CurveBack (x0 y0 : Int) (l0 : List Int) (a1 a2 a3 : Int) (J0 : CurveI x0 y0 l0) (n0 : l0.length ≤ 9223372036854775807) (h1 : I64 a1) (h2 : I64 a2) (h3 : I64 a3) :
    ∃ k, kimberlitelaw03_CurveBack.f k x0 y0 l0 a1 a2 a3 = some true := by
  obtain ⟨K, hK⟩ : ∃ K : Nat, 1000 ≤ K := ⟨1000, Nat.le_refl _⟩
  refine ⟨K + 1, ?_⟩
  have e : ∀ A B L, kimberlitelaw03_CurveBack.j0 (K + 1) a1 a2 a3 true x0 y0 l0 A B L = some true := by
    intro A B L
    simp only [kimberlitelaw03_CurveBack.j0]
    rw [if_pos trivial]
    rfl
  unfold kimberlitelaw03_CurveBack.f
  rcases Conj_some x0 y0 l0 a1 a2 h1 h2 (K + 1) (by omega) with ⟨hok, h⟩ | ⟨hok, h⟩
  · rw [h]
    unfold madeR
    simp only [Option.bind_some]
    by_cases hv2 : valB a1 (gr x0 y0 l0 a1) (conjL x0 y0 l0 a1 a2) = true
    · rw [if_pos hv2]
      simp only [if_true]
      unfold curve_Valid.f
      rw [hok.1]
      simp only [Option.bind_some, Bool.not_true, kimberlitelaw03_CurveBack.j0]
      rw [if_neg (by decide)]
      have hl := (val_from hok.1).2.2.2.2
      exact back_l0 hok hv2 a3 l0.length K 0 (by omega) (by omega) (fun j h hj => by omega)
    · rw [if_neg hv2]
      simp only
      rw [if_neg (by decide)]
      exact e _ _ _
  · rw [h]
    simp only [Option.bind_some]
    rw [if_neg (by decide)]
    exact e _ _ _
end Go.Proofs.Ytfeeaipbmpmpgaa.Pure

namespace Go.Proofs.Ytfeeaipbmpmpgaa.curveBack
open Go.ChangeShapes Go.WideShapes Go.ChangeAt Go.RowKit
open Go.ChangeMaps (open_string shut_string)
open Go.Proofs.YtfeeaipbmpmpgaaW.PrintWords Go.Proofs.YtfeeaipbmpmpgaaW.PrintLast Go.Proofs.YtfeeaipbmpmpgaaW.PrintMore Go.Proofs.Ytfeeaipbmpmpgaa.PX
set_option linter.unusedVariables false
theorem own : ownKnob Try.prog.godebug = none := by kernel_rfl
theorem laidOut : laidOutB Try.prog = true := by kernel_rfl
set_option maxRecDepth 100000 in
theorem lifted (os : Os) (started : os.Started) (H : Type) (enc : TypeId × Value → H) :
    ReturnsInHanded {} Try.checked os 10 .any (Rows.curveBackSpec.pre6 enc Try.prog Try.f10 Rows.curveBackRow.domain false) (Rows.curveBackSpec.post enc Try.prog Try.f10 false true false false) := by
  refine returnsInHanded_of_change_sized (C := Try.checked) own started (by kernel_rfl) Try.func10
    (ChangeSpec.witness6 (enc := enc) (C := Try.checked) false ⟨#[], #[.agg #[.int .i64 0, .int .i64 0, .slice none 0 0], .int .i64 0, .int .i64 0, .int .i64 0], []⟩ 8 (by kernel_rfl) (by kernel_rfl) (by kernel_rfl) (by kernel_rfl)) ?_
  intro W base args ds gs before hval0 hW hcnd hsz0 _
  have hval : ∀ (j : Nat) t v, Try.f10.params[j]? = some t → args[j]? = some v → Value.okWide Try.prog W .any base t v := hval0
  have hW' := hW
  obtain ⟨p, q, hA0, hV, rfl, hfz, hnd⟩ := hW
  have hA : DataW.TrodAll enc Try.prog W 0 (fun _ => true) true Try.f10.params.toList args.toList ds p := hA0
  rw [Try.params10] at hA hval
  obtain ⟨v0, vs0, d0, ds0, p0, q0, hargs, rfl, rfl, h0, r0⟩ := trodAll_cons hA
  obtain ⟨v1, vs1, d1, ds1, p1, q1, rfl, rfl, rfl, h1, r1⟩ := trodAll_cons r0
  obtain ⟨v2, vs2, d2, ds2, p2, q2, rfl, rfl, rfl, h2, r2⟩ := trodAll_cons r1
  obtain ⟨v3, vs3, d3, ds3, p3, q3, rfl, rfl, rfl, h3, r3⟩ := trodAll_cons r2
  obtain ⟨rfl, rfl, rfl⟩ := trodAll_nil r3
  obtain rfl : args = #[v0, v1, v2, v3] := by cases args; simp_all
  obtain ⟨rfl, rfl⟩ := trodVars_none hV
  have k0 := h0
  have lt0 : ∀ x ∈ p0, x.block < W.heap.size := by obtain ⟨m, hm⟩ := k0; exact DataW.trod_lt m _ _ _ hm
  obtain ⟨x0, y0, l0, A0, c0, rfl, e0, C0, J0⟩ := open_curve (hval 0 24 v0 rfl rfl) h0
  obtain ⟨a1, rfl, rfl, rfl, w1⟩ := open_int Try.underlying3 (hval 1 3 v1 rfl rfl) h1
  obtain ⟨a2, rfl, rfl, rfl, w2⟩ := open_int Try.underlying3 (hval 2 3 v2 rfl rfl) h2
  obtain ⟨a3, rfl, rfl, rfl, w3⟩ := open_int Try.underlying3 (hval 3 3 v3 rfl rfl) h3
  clear hA0 hval0 hsz0
  obtain ⟨n, hn⟩ := Pure.CurveBack x0 y0 l0 a1 a2 a3 J0 C0.2.1 (i64_of_wf w1) (i64_of_wf w2) (i64_of_wf w3)
  refine (kimberlitelaw03_CurveBack.calls n x0 y0 A0 c0 l0 a1 a2 a3 true W C0 e0 hn).mono fun e W' ⟨he, bel⟩ => ?_
  subst he
  exact ⟨_, rfl, _, _, _, [], _, [], hW', trodAll_mk1 (shut_bool Try.underlying4 _), (trodAll_cons_mk (Below.trod laidOut (by kernel_rfl) (of_decide_eq_true (by kernel_rfl)) k0 bel lt0) (trodAll_cons_mk (shut_int Try.underlying3 w1) (trodAll_cons_mk (shut_int Try.underlying3 w2) (trodAll_cons_mk (shut_int Try.underlying3 w3) trodAll_mk0)))), rfl, bel.frame _, fun h => by cases h⟩
theorem over : Rows.curveBackRow.holds Try.pinned (OpenSpec.ofChange Rows.curveBackSpec) :=
  OpenClaim.holds_of_wide 10 Try.f10 rfl rfl rfl rfl rfl rfl rfl ⟨rfl, rfl, rfl, rfl, rfl⟩ rfl rfl rfl rfl rfl (by kernel_rfl) Try.func10 (by kernel_rfl)
    (of_decide_eq_true (by kernel_rfl)) (by unfold Func.isWrapper; first | (rw [if_pos (by decide +kernel)]; kernel_rfl) | (rw [if_neg (by decide +kernel)]; exact ⟨rfl, rfl⟩))
    (fun os started H enc _ => lifted os started H enc)
theorem proved : Rows.CurveBackSaid := over
end Go.Proofs.Ytfeeaipbmpmpgaa.curveBack
namespace Go.Proofs.Ytfeeaipbmpmpgaa
/-- The row, under a short name, for the claim. -/
theorem curveBack_holds : Rows.CurveBackSaid := curveBack.proved
#print axioms curveBack_holds
end Go.Proofs.Ytfeeaipbmpmpgaa

