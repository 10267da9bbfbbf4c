/- Bottom and Conj return the specified minimum and conjugate, or the specified error: what CurveBottoms computes is true for every curve and prices. No condition beyond what the row itself says. -/
import Derived.WalkKit
import Derived.ProofKit
import Derived.OpenShut
import Derived.ShutString
import Derived.ChangeOld
import Derived.Below
import Derived.SizedLaws
import Derived.Test.YtfeeaipbmpmpgaaBBottoms1
import Derived.Test.YtfeeaipbmpmpgaaBBottoms2
import Derived.Test.YtfeeaipbmpmpgaaBBottoms3
import Derived.Test.YtfeeaipbmpmpgaaRows
namespace Go.Proofs.Ytfeeaipbmpmpgaa.PX
open Go.RowKit Go.Proofs.YtfeeaipbmpmpgaaW.PrintWords Go.Proofs.YtfeeaipbmpmpgaaW.PrintLast Go.Proofs.YtfeeaipbmpmpgaaW.PrintMore
attribute [local go_sem] max2_int min2_int max_two min_two max_three min_three max_four min_four   -- for this text's walks alone
set_option linter.unusedVariables false
set_option linter.unusedSimpArgs false
/-! ### kimberliteref03_Conj: function 37 -/
mutual
def kimberliteref03_Conj.j0 : Nat → Int → Int → Bool → Int → Int → List Int → Option (Int × Int × List Int × Int)
 | 0, _, _, _, _, _, _ => none
 | k + 1, x1, x2, x36, x681000, x681001, x681002 => if x36 = true then (some (0, 0, ([] : List Int), 2)) else ((kimberliteref03_Out.f k x681000 x681001 x681002).bind fun bt683 => (kimberliteref03_Conj.l0 k x2 x1 bt683.1 bt683.2 x1 ([] : List Int)))
def kimberliteref03_Conj.l0 : Nat → Int → Int → Int → List Int → Int → List Int → Option (Int × Int × List Int × Int)
 | 0, _, _, _, _, _, _ => none
 | k + 1, x2, x10, x688000, x688001, x689000, x689001 => if x10 ≤ x2 then ((kimberliteref03_Greatest.f k x688000 x688001 x10).bind fun t689 => (if x689001.length < 17592186044416 then (kimberliteref03_Conj.l0 k x2 (wrap64 (x10 + 1)) x688000 x688001 x689000 (x689001 ++ [t689])) else (none))) else ((kimberliteref03_ranged.f k x689000 x689001).bind fun bt693 => (some (bt693.1, bt693.2.1, bt693.2.2.1, bt693.2.2.2)))
end
def kimberliteref03_Conj.f (k : Nat) (a0_0 : Int) (a0_1 : Int) (l0_2 : List Int) (a1 : Int) (a2 : Int) : Option (Int × Int × List Int × Int) := (kimberliteref03_Valid.f k a0_0 a0_1 l0_2).bind fun t682 => (if t682 = true then (if a1 < (-1048576) then (kimberliteref03_Conj.j0 k a1 a2 true a0_0 a0_1 l0_2) else (if a1 > 1048576 then (kimberliteref03_Conj.j0 k a1 a2 true a0_0 a0_1 l0_2) else (if a2 < a1 then (kimberliteref03_Conj.j0 k a1 a2 true a0_0 a0_1 l0_2) else (if a2 > 1048576 then (kimberliteref03_Conj.j0 k a1 a2 true a0_0 a0_1 l0_2) else (kimberliteref03_Conj.j0 k a1 a2 (decide (a2 > (wrap64 (a1 + 64)))) a0_0 a0_1 l0_2))))) else (kimberliteref03_Conj.j0 k a1 a2 true a0_0 a0_1 l0_2))
theorem kimberliteref03_Conj.mono_l : ∀ k, (∀ y0 y1 y2 y3 y4 y5, LeO (kimberliteref03_Conj.j0 k y0 y1 y2 y3 y4 y5) (kimberliteref03_Conj.j0 (k + 1) y0 y1 y2 y3 y4 y5)) ∧ (∀ y0 y1 y2 y3 y4 y5, LeO (kimberliteref03_Conj.l0 k y0 y1 y2 y3 y4 y5) (kimberliteref03_Conj.l0 (k + 1) y0 y1 y2 y3 y4 y5))
 | 0 => ⟨fun _ _ _ _ _ _ r h => by simp [kimberliteref03_Conj.j0] at h, fun _ _ _ _ _ _ r h => by simp [kimberliteref03_Conj.l0] at h⟩
 | k + 1 => by
  obtain ⟨ih0, ih1⟩ := kimberliteref03_Conj.mono_l k
  refine ⟨?_, ?_⟩
  ·
   intro y0 y1 y2 y3 y4 y5
   unfold kimberliteref03_Conj.j0
   repeat' first
   | (with_reducible exact ih0 _ _ _ _ _ _)
   | (with_reducible exact ih1 _ _ _ _ _ _)
   | (with_reducible exact kimberliteref03_Greatest.mono _ _ _ _)
   | (with_reducible exact kimberliteref03_Out.mono _ _ _ _)
   | (with_reducible exact kimberliteref03_Valid.mono _ _ _ _)
   | (with_reducible exact kimberliteref03_ranged.mono _ _ _)
   | (with_reducible exact LeO.refl _)
   | (with_reducible exact LeO.none _)
   | (with_reducible refine LeO.ite ?_ ?_)
   | (with_reducible refine LeO.bind ?_ (fun _ => ?_))
   | exact ih0 _ _ _ _ _ _
   | exact ih1 _ _ _ _ _ _
   | exact kimberliteref03_Greatest.mono _ _ _ _
   | exact kimberliteref03_Out.mono _ _ _ _
   | exact kimberliteref03_Valid.mono _ _ _ _
   | exact kimberliteref03_ranged.mono _ _ _
   | exact LeO.none _
   | refine LeO.ite ?_ ?_
   | refine LeO.bind ?_ (fun _ => ?_)
  ·
   intro y0 y1 y2 y3 y4 y5
   unfold kimberliteref03_Conj.l0
   repeat' first
   | (with_reducible exact ih0 _ _ _ _ _ _)
   | (with_reducible exact ih1 _ _ _ _ _ _)
   | (with_reducible exact kimberliteref03_Greatest.mono _ _ _ _)
   | (with_reducible exact kimberliteref03_Out.mono _ _ _ _)
   | (with_reducible exact kimberliteref03_Valid.mono _ _ _ _)
   | (with_reducible exact kimberliteref03_ranged.mono _ _ _)
   | (with_reducible exact LeO.refl _)
   | (with_reducible exact LeO.none _)
   | (with_reducible refine LeO.ite ?_ ?_)
   | (with_reducible refine LeO.bind ?_ (fun _ => ?_))
   | exact ih0 _ _ _ _ _ _
   | exact ih1 _ _ _ _ _ _
   | exact kimberliteref03_Greatest.mono _ _ _ _
   | exact kimberliteref03_Out.mono _ _ _ _
   | exact kimberliteref03_Valid.mono _ _ _ _
   | exact kimberliteref03_ranged.mono _ _ _
   | exact LeO.none _
   | refine LeO.ite ?_ ?_
   | refine LeO.bind ?_ (fun _ => ?_)
theorem kimberliteref03_Conj.mono : ∀ a0 a1 a2 a3 a4 k, LeO (kimberliteref03_Conj.f k a0 a1 a2 a3 a4) (kimberliteref03_Conj.f (k + 1) a0 a1 a2 a3 a4) := by
 intro a0 a1 a2 a3 a4 k
 obtain ⟨ih0, ih1⟩ := kimberliteref03_Conj.mono_l k
 unfold kimberliteref03_Conj.f
 repeat' first
   | (with_reducible exact ih0 _ _ _ _ _ _)
   | (with_reducible exact ih1 _ _ _ _ _ _)
   | (with_reducible exact kimberliteref03_Greatest.mono _ _ _ _)
   | (with_reducible exact kimberliteref03_Out.mono _ _ _ _)
   | (with_reducible exact kimberliteref03_Valid.mono _ _ _ _)
   | (with_reducible exact kimberliteref03_ranged.mono _ _ _)
   | (with_reducible exact LeO.refl _)
   | (with_reducible exact LeO.none _)
   | (with_reducible refine LeO.ite ?_ ?_)
   | (with_reducible refine LeO.bind ?_ (fun _ => ?_))
   | exact ih0 _ _ _ _ _ _
   | exact ih1 _ _ _ _ _ _
   | exact kimberliteref03_Greatest.mono _ _ _ _
   | exact kimberliteref03_Out.mono _ _ _ _
   | exact kimberliteref03_Valid.mono _ _ _ _
   | exact kimberliteref03_ranged.mono _ _ _
   | exact LeO.none _
   | refine LeO.ite ?_ ?_
   | refine LeO.bind ?_ (fun _ => ?_)
def kimberliteref03_Conj.T8 : Bool × List (List Nat × List Nat) := (true, [([], []), ([0], [0]), ([], []), ([], []), ([2, 3], [2, 3]), ([4], [4]), ([1, 5, 4], [1, 5]), ([0, 1, 2, 3, 4, 5, 6], []), ([7, 6, 6, 0, 1, 2, 3, 4, 5, 6], [6, 7])])
def kimberliteref03_Conj.B8 : List Nat := [0, 1, 0, 0, 12, 28, 63, 127, 255]
theorem kimberliteref03_Conj.tab8 : rtab .any (opsOf Try.f37 8) = kimberliteref03_Conj.T8 := by kernel_rfl
theorem kimberliteref03_Conj.bits8 : waitsOk kimberliteref03_Conj.T8.2 kimberliteref03_Conj.B8 = true := by kernel_rfl
set_option maxHeartbeats 8000000 in
set_option maxRecDepth 100000 in
theorem kimberliteref03_Conj.calls (k : Nat) (a0_0 : Int) (a0_1 : Int) (A0_2 : Option Addr) (c0_2 : Nat) (l0_2 : List Int) (a1 : Int) (a2 : Int) (r1 : Int) (r2 : Int) (r3 : List Int) (r4 : Int) (w : World) (hr0_2 : Kd.C (Kd.int .i64) w A0_2 l0_2.length l0_2) (hc0_2 : l0_2.length ≤ c0_2) (h : kimberliteref03_Conj.f k a0_0 a0_1 l0_2 a1 a2 = some (r1, r2, r3, r4)) :
  Calls Try.prog 37 #[.agg #[.int .i64 a0_0, .int .i64 a0_1, .slice A0_2 l0_2.length c0_2], .int .i64 a1, .int .i64 a2] w fun e w' => ∃ v2_ : Value, e = .returned (.tuple #[.agg #[.int .i64 r1, .int .i64 r2, v2_], .int .i64 r4]) ∧ Kd.R (Kd.int .i64) 3 w' w.heap.size (fun _ => True) v2_ r3 ∧ Below w.heap.size w w' := by
 have hu24 := Try.underlying24
 have hu78 := Try.underlying78
 have HR0_2 := zA hr0_2
 have HC0_2 := zA hc0_2
 clear hr0_2 hc0_2
 have HB := zA (Below.refl w.heap.size w)
 have H : ((kimberliteref03_Valid.f k a0_0 a0_1 l0_2).bind fun t682 => (if t682 = true then (if a1 < (-1048576) then (kimberliteref03_Conj.j0 k a1 a2 true a0_0 a0_1 l0_2) else (if a1 > 1048576 then (kimberliteref03_Conj.j0 k a1 a2 true a0_0 a0_1 l0_2) else (if a2 < a1 then (kimberliteref03_Conj.j0 k a1 a2 true a0_0 a0_1 l0_2) else (if a2 > 1048576 then (kimberliteref03_Conj.j0 k a1 a2 true a0_0 a0_1 l0_2) else (kimberliteref03_Conj.j0 k a1 a2 (decide (a2 > (wrap64 (a1 + 64)))) a0_0 a0_1 l0_2))))) else (kimberliteref03_Conj.j0 k a1 a2 true a0_0 a0_1 l0_2))) = some (r1, r2, r3, r4) := h
 clear h
 have HC4 := zA H
 clear H
 go_enter Try.func37, Try.ntmps37
 go_upto_region 1 with (first | ((with_reducible refine gate_dst (N := 3) rfl ?_); refine box_event ?hg (N := 3) ?hd (cs := #[.int .i64 a0_0, .int .i64 a0_1, .slice A0_2 l0_2.length c0_2]) (t := 24) ?hr ?_; (case hd => rfl); (case hg => rfl); (case hr => first | (go_simp; done) | (go_simp; rfl)); intro gA hg w5 hbox hb; have n0_ := zA (below_step (by repeat (first | (with_reducible first | exact HB.out | apply zW | apply zX | apply zY) | exact HB.out)) hb); have n1_ := zA (hbox); have n2_ := zA ((by rw [hg]; exact (below_size (by repeat (first | (with_reducible first | exact HB.out | apply zW | apply zX | apply zY) | exact HB.out))) : w.heap.size ≤ gA)); have n3_ := zA ((by rw [hg]; exact (below_size (by repeat (first | (with_reducible first | exact HB.out | apply zW | apply zX | apply zY) | exact HB.out))) : w.heap.size ≤ gA)); clear HB; have HB := n0_; have BKAy := n1_; have GWAy := n2_; have GEAy := n3_; clear n0_ n1_ n2_ n3_; clear hb hbox hg) | ((with_reducible refine gate_dst (N := 6) rfl ?_); refine box_event ?hg (N := 6) ?hd (cs := #[.int .i64 0, .int .i64 0, .slice none 0 0]) (t := 24) ?hr ?_; (case hd => rfl); (case hg => rfl); (case hr => first | (go_simp; done) | (go_simp; rfl)); intro gB hg w6 hbox hb; have n0_ := zA (blk_below (g := gA) (o := .cells #[.int .i64 a0_0, .int .i64 a0_1, .slice A0_2 l0_2.length c0_2] 24 (0, 0)) (by (with_reducible repeat (first | refine zN ?_ _ | refine zD ?_ | refine zB ?_ _)); exact BKAy.out) hb); have n1_ := zA (below_step (by repeat (first | (with_reducible first | exact HB.out | apply zW | apply zX | apply zY | refine zS ?_ GEAy.out) | exact HB.out)) hb); have n2_ := zA (hbox); have n3_ := zA ((by rw [hg]; exact (below_size (by repeat (first | (with_reducible first | exact HB.out | apply zW | apply zX | apply zY | refine zS ?_ GEAy.out) | exact HB.out))) : w.heap.size ≤ gB)); have n4_ := zA ((by rw [hg]; exact (below_size (by repeat (first | (with_reducible first | exact HB.out | apply zW | apply zX | apply zY | refine zS ?_ GEAy.out) | exact HB.out))) : w.heap.size ≤ gB)); have n5_ := zA ((by rw [hg]; exact Nat.ne_of_lt (blk_lt (g := gA) (o := .cells #[.int .i64 a0_0, .int .i64 a0_1, .slice A0_2 l0_2.length c0_2] 24 (0, 0)) (by (with_reducible repeat (first | refine zN ?_ _ | refine zD ?_ | refine zB ?_ _)); exact BKAy.out)) : gA ≠ gB)); have n6_ := zA ((by rw [hg]; exact Nat.ne_of_gt (blk_lt (g := gA) (o := .cells #[.int .i64 a0_0, .int .i64 a0_1, .slice A0_2 l0_2.length c0_2] 24 (0, 0)) (by (with_reducible repeat (first | refine zN ?_ _ | refine zD ?_ | refine zB ?_ _)); exact BKAy.out)) : gB ≠ gA)); clear BKAy; clear HB; have BKAy := n0_; have HB := n1_; have BKAz := n2_; have GWAz := n3_; have GEAz := n4_; have NB680_681 := n5_; have NB681_680 := n6_; clear n0_ n1_ n2_ n3_ n4_ n5_ n6_; clear hb hbox hg))
 (try simp only [Act.put, z1, z2, z3])
 go_cut [36] (fun v36 wc => ∃ (kq : Nat) (x36_3 : Bool), v36 = .bool x36_3 ∧ Aside0 (kimberliteref03_Conj.j0 kq a1 a2 x36_3 a0_0 a0_1 l0_2 = some (r1, r2, r3, r4)) ∧ Aside0 (kq ≤ k) ∧ Aside0 (wc.heap[gA]? = some (.cells #[.int .i64 a0_0, .int .i64 a0_1, (.slice A0_2 l0_2.length c0_2)] 24 (0, 0))) ∧ Aside0 (wc.heap[gB]? = some (.cells #[.int .i64 0, .int .i64 0, (.slice none 0 0)] 24 (0, 0))) ∧ Aside0 (Below w.heap.size w wc))
 case first =>
  have H := HC4.out
  clear HC4
  replace H := Option.bind_eq_some_iff.mp H
  obtain ⟨t682, A70, H⟩ := H
  replace H : (if t682 = true then (if a1 < (-1048576) then (kimberliteref03_Conj.j0 k a1 a2 true a0_0 a0_1 l0_2) else (if a1 > 1048576 then (kimberliteref03_Conj.j0 k a1 a2 true a0_0 a0_1 l0_2) else (if a2 < a1 then (kimberliteref03_Conj.j0 k a1 a2 true a0_0 a0_1 l0_2) else (if a2 > 1048576 then (kimberliteref03_Conj.j0 k a1 a2 true a0_0 a0_1 l0_2) else (kimberliteref03_Conj.j0 k a1 a2 (decide (a2 > (wrap64 (a1 + 64)))) a0_0 a0_1 l0_2))))) else (kimberliteref03_Conj.j0 k a1 a2 true a0_0 a0_1 l0_2)) = some (r1, r2, r3, r4) := H
  have A7 := zA A70
  clear A70
  by_cases c8 : t682 = true
  ·
   subst c8
   have H1 : (if a1 < (-1048576) then (kimberliteref03_Conj.j0 k a1 a2 true a0_0 a0_1 l0_2) else (if a1 > 1048576 then (kimberliteref03_Conj.j0 k a1 a2 true a0_0 a0_1 l0_2) else (if a2 < a1 then (kimberliteref03_Conj.j0 k a1 a2 true a0_0 a0_1 l0_2) else (if a2 > 1048576 then (kimberliteref03_Conj.j0 k a1 a2 true a0_0 a0_1 l0_2) else (kimberliteref03_Conj.j0 k a1 a2 (decide (a2 > (wrap64 (a1 + 64)))) a0_0 a0_1 l0_2))))) = some (r1, r2, r3, r4) := by rw [if_pos rfl] at H; exact H
   clear H
   have H := H1
   clear H1
   by_cases c9 : a1 < (-1048576)
   ·
    rw [if_pos c9] at H
    have c9b0 : decide (a1 < (-1048576)) = true := decide_eq_true c9
    clear c9
    (first | rw [c9b0] | (simp only [i64_w, i32_w]; rw [c9b0]) | skip)
    have H' := zA H
    clear H
    have hnb10 := NB680_681.out
    have hnc10 := NB681_680.out
    have hcz11_0 : w6.cell? ⟨gA, 0, none⟩ = some (.int .i64 a0_0) := (blk_cell BKAy.out 0).trans rfl
    have hcz11_1 : w6.cell? ⟨gA, 1, none⟩ = some (.int .i64 a0_1) := (blk_cell BKAy.out 1).trans rfl
    have hcz11_2 : w6.cell? ⟨gA, 2, none⟩ = some (.slice A0_2 l0_2.length c0_2) := (blk_cell BKAy.out 2).trans rfl
    have hfz11_0 := blk_frozen BKAy.out 0
    have hfz11_1 := blk_frozen BKAy.out 1
    have hfz11_2 := blk_frozen BKAy.out 2
    go_wp2_with (first | ((with_reducible refine gate_callee (f := 30) rfl ?_); refine goesL_ (some 12) rfl rfl Try.func30 (by kernel_rfl) rfl #[.agg #[.int .i64 a0_0, .int .i64 a0_1, .slice A0_2 l0_2.length c0_2]] rfl (by (try simp only [List.map_toArray, List.map_cons, List.map_nil]); first | done | rfl | (simp only [List.length_drop, List.length_take]; rfl)) ?_; (with_reducible refine (kimberliteref03_Valid.calls k a0_0 a0_1 _ _ l0_2 true _ ?side1 ?side2 A7.out).mono ?_); (case side1 => repeat (first | exact (Kd.C_below HR0_2.out HB.out) | (with_reducible refine Kd.C_alloc ?_ _) | (with_reducible refine Kd.C_drewN ?_ _) | (with_reducible refine Kd.C_drew ?_))); (case side2 => exact HC0_2.out); rintro e w12 ⟨rfl, hb⟩; refine ⟨_, rfl, ?_⟩; have n0_ := zA (blk_below (g := gA) (o := .cells #[.int .i64 a0_0, .int .i64 a0_1, .slice A0_2 l0_2.length c0_2] 24 (0, 0)) (by (with_reducible repeat (first | refine zN ?_ _ | refine zD ?_ | refine zB ?_ _)); exact BKAy.out) hb); have n1_ := zA (blk_below (g := gB) (o := .cells #[.int .i64 0, .int .i64 0, .slice none 0 0] 24 (0, 0)) (by (with_reducible repeat (first | refine zN ?_ _ | refine zD ?_ | refine zB ?_ _)); exact BKAz.out) hb); have n2_ := zA (below_step (by repeat (first | (with_reducible first | exact HB.out | apply zW | apply zX | apply zY | refine zS ?_ GEAy.out | refine zS ?_ GEAz.out) | exact HB.out)) hb); clear BKAy; clear BKAz; clear HB; have BKAy := n0_; have BKAz := n1_; have HB := n2_; clear n0_ n1_ n2_; (try clear hb); (try clear hb2); (try clear hk); (try clear hi)))
    go_meet
    case rel => exact ⟨_, (true), (by first | rfl | (simp; done) | (simp [*]; done)), H', ⟨by first | omega | exact Nat.le_refl _⟩, ⟨by (with_reducible repeat (first | refine zN ?_ _ | refine zD ?_ | refine zB ?_ _)); exact BKAy.out⟩, ⟨by (with_reducible repeat (first | refine zN ?_ _ | refine zD ?_ | refine zB ?_ _)); exact BKAz.out⟩, ⟨by repeat (first | (with_reducible first | exact HB.out | apply zW | apply zX | apply zY | refine zS ?_ GEAy.out | refine zS ?_ GEAz.out) | exact HB.out)⟩⟩
   ·
    rw [if_neg c9] at H
    have c9b0 : decide (a1 < (-1048576)) = false := decide_eq_false c9
    clear c9
    (first | rw [c9b0] | (simp only [i64_w, i32_w]; rw [c9b0]) | skip)
    by_cases c13 : a1 > 1048576
    ·
     rw [if_pos c13] at H
     have c13b0 : decide (1048576 < a1) = true := decide_eq_true c13
     clear c13
     have H' := zA H
     clear H
     have hnb14 := NB680_681.out
     have hnc14 := NB681_680.out
     have hcz15_0 : w6.cell? ⟨gA, 0, none⟩ = some (.int .i64 a0_0) := (blk_cell BKAy.out 0).trans rfl
     have hcz15_1 : w6.cell? ⟨gA, 1, none⟩ = some (.int .i64 a0_1) := (blk_cell BKAy.out 1).trans rfl
     have hcz15_2 : w6.cell? ⟨gA, 2, none⟩ = some (.slice A0_2 l0_2.length c0_2) := (blk_cell BKAy.out 2).trans rfl
     have hfz15_0 := blk_frozen BKAy.out 0
     have hfz15_1 := blk_frozen BKAy.out 1
     have hfz15_2 := blk_frozen BKAy.out 2
     go_wp2_with (first | ((with_reducible refine gate_callee (f := 30) rfl ?_); refine goesL_ (some 12) rfl rfl Try.func30 (by kernel_rfl) rfl #[.agg #[.int .i64 a0_0, .int .i64 a0_1, .slice A0_2 l0_2.length c0_2]] rfl (by (try simp only [List.map_toArray, List.map_cons, List.map_nil]); first | done | rfl | (simp only [List.length_drop, List.length_take]; rfl)) ?_; (with_reducible refine (kimberliteref03_Valid.calls k a0_0 a0_1 _ _ l0_2 true _ ?side1 ?side2 A7.out).mono ?_); (case side1 => repeat (first | exact (Kd.C_below HR0_2.out HB.out) | (with_reducible refine Kd.C_alloc ?_ _) | (with_reducible refine Kd.C_drewN ?_ _) | (with_reducible refine Kd.C_drew ?_))); (case side2 => exact HC0_2.out); rintro e w16 ⟨rfl, hb⟩; refine ⟨_, rfl, ?_⟩; have n0_ := zA (blk_below (g := gA) (o := .cells #[.int .i64 a0_0, .int .i64 a0_1, .slice A0_2 l0_2.length c0_2] 24 (0, 0)) (by (with_reducible repeat (first | refine zN ?_ _ | refine zD ?_ | refine zB ?_ _)); exact BKAy.out) hb); have n1_ := zA (blk_below (g := gB) (o := .cells #[.int .i64 0, .int .i64 0, .slice none 0 0] 24 (0, 0)) (by (with_reducible repeat (first | refine zN ?_ _ | refine zD ?_ | refine zB ?_ _)); exact BKAz.out) hb); have n2_ := zA (below_step (by repeat (first | (with_reducible first | exact HB.out | apply zW | apply zX | apply zY | refine zS ?_ GEAy.out | refine zS ?_ GEAz.out) | exact HB.out)) hb); clear BKAy; clear BKAz; clear HB; have BKAy := n0_; have BKAz := n1_; have HB := n2_; clear n0_ n1_ n2_; (try clear hb); (try clear hb2); (try clear hk); (try clear hi)))
     go_meet
     case rel => exact ⟨_, (true), (by first | rfl | (simp; done) | (simp [*]; done)), H', ⟨by first | omega | exact Nat.le_refl _⟩, ⟨by (with_reducible repeat (first | refine zN ?_ _ | refine zD ?_ | refine zB ?_ _)); exact BKAy.out⟩, ⟨by (with_reducible repeat (first | refine zN ?_ _ | refine zD ?_ | refine zB ?_ _)); exact BKAz.out⟩, ⟨by repeat (first | (with_reducible first | exact HB.out | apply zW | apply zX | apply zY | refine zS ?_ GEAy.out | refine zS ?_ GEAz.out) | exact HB.out)⟩⟩
    ·
     rw [if_neg c13] at H
     have c13b0 : decide (1048576 < a1) = false := decide_eq_false c13
     clear c13
     by_cases c17 : a2 < a1
     ·
      rw [if_pos c17] at H
      have c17b0 : decide (a2 < a1) = true := decide_eq_true c17
      clear c17
      have H' := zA H
      clear H
      have hnb18 := NB680_681.out
      have hnc18 := NB681_680.out
      have hcz19_0 : w6.cell? ⟨gA, 0, none⟩ = some (.int .i64 a0_0) := (blk_cell BKAy.out 0).trans rfl
      have hcz19_1 : w6.cell? ⟨gA, 1, none⟩ = some (.int .i64 a0_1) := (blk_cell BKAy.out 1).trans rfl
      have hcz19_2 : w6.cell? ⟨gA, 2, none⟩ = some (.slice A0_2 l0_2.length c0_2) := (blk_cell BKAy.out 2).trans rfl
      have hfz19_0 := blk_frozen BKAy.out 0
      have hfz19_1 := blk_frozen BKAy.out 1
      have hfz19_2 := blk_frozen BKAy.out 2
      go_wp2_with (first | ((with_reducible refine gate_callee (f := 30) rfl ?_); refine goesL_ (some 12) rfl rfl Try.func30 (by kernel_rfl) rfl #[.agg #[.int .i64 a0_0, .int .i64 a0_1, .slice A0_2 l0_2.length c0_2]] rfl (by (try simp only [List.map_toArray, List.map_cons, List.map_nil]); first | done | rfl | (simp only [List.length_drop, List.length_take]; rfl)) ?_; (with_reducible refine (kimberliteref03_Valid.calls k a0_0 a0_1 _ _ l0_2 true _ ?side1 ?side2 A7.out).mono ?_); (case side1 => repeat (first | exact (Kd.C_below HR0_2.out HB.out) | (with_reducible refine Kd.C_alloc ?_ _) | (with_reducible refine Kd.C_drewN ?_ _) | (with_reducible refine Kd.C_drew ?_))); (case side2 => exact HC0_2.out); rintro e w20 ⟨rfl, hb⟩; refine ⟨_, rfl, ?_⟩; have n0_ := zA (blk_below (g := gA) (o := .cells #[.int .i64 a0_0, .int .i64 a0_1, .slice A0_2 l0_2.length c0_2] 24 (0, 0)) (by (with_reducible repeat (first | refine zN ?_ _ | refine zD ?_ | refine zB ?_ _)); exact BKAy.out) hb); have n1_ := zA (blk_below (g := gB) (o := .cells #[.int .i64 0, .int .i64 0, .slice none 0 0] 24 (0, 0)) (by (with_reducible repeat (first | refine zN ?_ _ | refine zD ?_ | refine zB ?_ _)); exact BKAz.out) hb); have n2_ := zA (below_step (by repeat (first | (with_reducible first | exact HB.out | apply zW | apply zX | apply zY | refine zS ?_ GEAy.out | refine zS ?_ GEAz.out) | exact HB.out)) hb); clear BKAy; clear BKAz; clear HB; have BKAy := n0_; have BKAz := n1_; have HB := n2_; clear n0_ n1_ n2_; (try clear hb); (try clear hb2); (try clear hk); (try clear hi)))
      go_meet
      case rel => exact ⟨_, (true), (by first | rfl | (simp; done) | (simp [*]; done)), H', ⟨by first | omega | exact Nat.le_refl _⟩, ⟨by (with_reducible repeat (first | refine zN ?_ _ | refine zD ?_ | refine zB ?_ _)); exact BKAy.out⟩, ⟨by (with_reducible repeat (first | refine zN ?_ _ | refine zD ?_ | refine zB ?_ _)); exact BKAz.out⟩, ⟨by repeat (first | (with_reducible first | exact HB.out | apply zW | apply zX | apply zY | refine zS ?_ GEAy.out | refine zS ?_ GEAz.out) | exact HB.out)⟩⟩
     ·
      rw [if_neg c17] at H
      have c17b0 : decide (a2 < a1) = false := decide_eq_false c17
      clear c17
      by_cases c21 : a2 > 1048576
      ·
       rw [if_pos c21] at H
       have c21b0 : decide (1048576 < a2) = true := decide_eq_true c21
       clear c21
       have H' := zA H
       clear H
       have hnb22 := NB680_681.out
       have hnc22 := NB681_680.out
       have hcz23_0 : w6.cell? ⟨gA, 0, none⟩ = some (.int .i64 a0_0) := (blk_cell BKAy.out 0).trans rfl
       have hcz23_1 : w6.cell? ⟨gA, 1, none⟩ = some (.int .i64 a0_1) := (blk_cell BKAy.out 1).trans rfl
       have hcz23_2 : w6.cell? ⟨gA, 2, none⟩ = some (.slice A0_2 l0_2.length c0_2) := (blk_cell BKAy.out 2).trans rfl
       have hfz23_0 := blk_frozen BKAy.out 0
       have hfz23_1 := blk_frozen BKAy.out 1
       have hfz23_2 := blk_frozen BKAy.out 2
       go_wp2_with (first | ((with_reducible refine gate_callee (f := 30) rfl ?_); refine goesL_ (some 12) rfl rfl Try.func30 (by kernel_rfl) rfl #[.agg #[.int .i64 a0_0, .int .i64 a0_1, .slice A0_2 l0_2.length c0_2]] rfl (by (try simp only [List.map_toArray, List.map_cons, List.map_nil]); first | done | rfl | (simp only [List.length_drop, List.length_take]; rfl)) ?_; (with_reducible refine (kimberliteref03_Valid.calls k a0_0 a0_1 _ _ l0_2 true _ ?side1 ?side2 A7.out).mono ?_); (case side1 => repeat (first | exact (Kd.C_below HR0_2.out HB.out) | (with_reducible refine Kd.C_alloc ?_ _) | (with_reducible refine Kd.C_drewN ?_ _) | (with_reducible refine Kd.C_drew ?_))); (case side2 => exact HC0_2.out); rintro e w24 ⟨rfl, hb⟩; refine ⟨_, rfl, ?_⟩; have n0_ := zA (blk_below (g := gA) (o := .cells #[.int .i64 a0_0, .int .i64 a0_1, .slice A0_2 l0_2.length c0_2] 24 (0, 0)) (by (with_reducible repeat (first | refine zN ?_ _ | refine zD ?_ | refine zB ?_ _)); exact BKAy.out) hb); have n1_ := zA (blk_below (g := gB) (o := .cells #[.int .i64 0, .int .i64 0, .slice none 0 0] 24 (0, 0)) (by (with_reducible repeat (first | refine zN ?_ _ | refine zD ?_ | refine zB ?_ _)); exact BKAz.out) hb); have n2_ := zA (below_step (by repeat (first | (with_reducible first | exact HB.out | apply zW | apply zX | apply zY | refine zS ?_ GEAy.out | refine zS ?_ GEAz.out) | exact HB.out)) hb); clear BKAy; clear BKAz; clear HB; have BKAy := n0_; have BKAz := n1_; have HB := n2_; clear n0_ n1_ n2_; (try clear hb); (try clear hb2); (try clear hk); (try clear hi)))
       go_meet
       case rel => exact ⟨_, (true), (by first | rfl | (simp; done) | (simp [*]; done)), H', ⟨by first | omega | exact Nat.le_refl _⟩, ⟨by (with_reducible repeat (first | refine zN ?_ _ | refine zD ?_ | refine zB ?_ _)); exact BKAy.out⟩, ⟨by (with_reducible repeat (first | refine zN ?_ _ | refine zD ?_ | refine zB ?_ _)); exact BKAz.out⟩, ⟨by repeat (first | (with_reducible first | exact HB.out | apply zW | apply zX | apply zY | refine zS ?_ GEAy.out | refine zS ?_ GEAz.out) | exact HB.out)⟩⟩
      ·
       rw [if_neg c21] at H
       have c21b0 : decide (1048576 < a2) = false := decide_eq_false c21
       clear c21
       have H' := zA H
       clear H
       have hnb25 := NB680_681.out
       have hnc25 := NB681_680.out
       have hcz26_0 : w6.cell? ⟨gA, 0, none⟩ = some (.int .i64 a0_0) := (blk_cell BKAy.out 0).trans rfl
       have hcz26_1 : w6.cell? ⟨gA, 1, none⟩ = some (.int .i64 a0_1) := (blk_cell BKAy.out 1).trans rfl
       have hcz26_2 : w6.cell? ⟨gA, 2, none⟩ = some (.slice A0_2 l0_2.length c0_2) := (blk_cell BKAy.out 2).trans rfl
       have hfz26_0 := blk_frozen BKAy.out 0
       have hfz26_1 := blk_frozen BKAy.out 1
       have hfz26_2 := blk_frozen BKAy.out 2
       go_wp2_with (first | ((with_reducible refine gate_callee (f := 30) rfl ?_); refine goesL_ (some 12) rfl rfl Try.func30 (by kernel_rfl) rfl #[.agg #[.int .i64 a0_0, .int .i64 a0_1, .slice A0_2 l0_2.length c0_2]] rfl (by (try simp only [List.map_toArray, List.map_cons, List.map_nil]); first | done | rfl | (simp only [List.length_drop, List.length_take]; rfl)) ?_; (with_reducible refine (kimberliteref03_Valid.calls k a0_0 a0_1 _ _ l0_2 true _ ?side1 ?side2 A7.out).mono ?_); (case side1 => repeat (first | exact (Kd.C_below HR0_2.out HB.out) | (with_reducible refine Kd.C_alloc ?_ _) | (with_reducible refine Kd.C_drewN ?_ _) | (with_reducible refine Kd.C_drew ?_))); (case side2 => exact HC0_2.out); rintro e w27 ⟨rfl, hb⟩; refine ⟨_, rfl, ?_⟩; have n0_ := zA (blk_below (g := gA) (o := .cells #[.int .i64 a0_0, .int .i64 a0_1, .slice A0_2 l0_2.length c0_2] 24 (0, 0)) (by (with_reducible repeat (first | refine zN ?_ _ | refine zD ?_ | refine zB ?_ _)); exact BKAy.out) hb); have n1_ := zA (blk_below (g := gB) (o := .cells #[.int .i64 0, .int .i64 0, .slice none 0 0] 24 (0, 0)) (by (with_reducible repeat (first | refine zN ?_ _ | refine zD ?_ | refine zB ?_ _)); exact BKAz.out) hb); have n2_ := zA (below_step (by repeat (first | (with_reducible first | exact HB.out | apply zW | apply zX | apply zY | refine zS ?_ GEAy.out | refine zS ?_ GEAz.out) | exact HB.out)) hb); clear BKAy; clear BKAz; clear HB; have BKAy := n0_; have BKAz := n1_; have HB := n2_; clear n0_ n1_ n2_; (try clear hb); (try clear hb2); (try clear hk); (try clear hi)))
       go_meet
       case rel => exact ⟨_, (decide (a2 > (wrap64 (a1 + 64)))), (by first | rfl | (simp; done) | (simp [*]; done)), H', ⟨by first | omega | exact Nat.le_refl _⟩, ⟨by (with_reducible repeat (first | refine zN ?_ _ | refine zD ?_ | refine zB ?_ _)); exact BKAy.out⟩, ⟨by (with_reducible repeat (first | refine zN ?_ _ | refine zD ?_ | refine zB ?_ _)); exact BKAz.out⟩, ⟨by repeat (first | (with_reducible first | exact HB.out | apply zW | apply zX | apply zY | refine zS ?_ GEAy.out | refine zS ?_ GEAz.out) | exact HB.out)⟩⟩
  ·
   replace c8 := Bool.eq_false_iff.mpr c8
   subst c8
   have H1 : (kimberliteref03_Conj.j0 k a1 a2 true a0_0 a0_1 l0_2) = some (r1, r2, r3, r4) := by rw [if_neg (show ¬ (false = true) by decide)] at H; exact H
   clear H
   have H := H1
   clear H1
   have H' := zA H
   clear H
   have hnb28 := NB680_681.out
   have hnc28 := NB681_680.out
   have hcz29_0 : w6.cell? ⟨gA, 0, none⟩ = some (.int .i64 a0_0) := (blk_cell BKAy.out 0).trans rfl
   have hcz29_1 : w6.cell? ⟨gA, 1, none⟩ = some (.int .i64 a0_1) := (blk_cell BKAy.out 1).trans rfl
   have hcz29_2 : w6.cell? ⟨gA, 2, none⟩ = some (.slice A0_2 l0_2.length c0_2) := (blk_cell BKAy.out 2).trans rfl
   have hfz29_0 := blk_frozen BKAy.out 0
   have hfz29_1 := blk_frozen BKAy.out 1
   have hfz29_2 := blk_frozen BKAy.out 2
   go_wp2_with (first | ((with_reducible refine gate_callee (f := 30) rfl ?_); refine goesL_ (some 12) rfl rfl Try.func30 (by kernel_rfl) rfl #[.agg #[.int .i64 a0_0, .int .i64 a0_1, .slice A0_2 l0_2.length c0_2]] rfl (by (try simp only [List.map_toArray, List.map_cons, List.map_nil]); first | done | rfl | (simp only [List.length_drop, List.length_take]; rfl)) ?_; (with_reducible refine (kimberliteref03_Valid.calls k a0_0 a0_1 _ _ l0_2 false _ ?side1 ?side2 A7.out).mono ?_); (case side1 => repeat (first | exact (Kd.C_below HR0_2.out HB.out) | (with_reducible refine Kd.C_alloc ?_ _) | (with_reducible refine Kd.C_drewN ?_ _) | (with_reducible refine Kd.C_drew ?_))); (case side2 => exact HC0_2.out); rintro e w30 ⟨rfl, hb⟩; refine ⟨_, rfl, ?_⟩; have n0_ := zA (blk_below (g := gA) (o := .cells #[.int .i64 a0_0, .int .i64 a0_1, .slice A0_2 l0_2.length c0_2] 24 (0, 0)) (by (with_reducible repeat (first | refine zN ?_ _ | refine zD ?_ | refine zB ?_ _)); exact BKAy.out) hb); have n1_ := zA (blk_below (g := gB) (o := .cells #[.int .i64 0, .int .i64 0, .slice none 0 0] 24 (0, 0)) (by (with_reducible repeat (first | refine zN ?_ _ | refine zD ?_ | refine zB ?_ _)); exact BKAz.out) hb); have n2_ := zA (below_step (by repeat (first | (with_reducible first | exact HB.out | apply zW | apply zX | apply zY | refine zS ?_ GEAy.out | refine zS ?_ GEAz.out) | exact HB.out)) hb); clear BKAy; clear BKAz; clear HB; have BKAy := n0_; have BKAz := n1_; have HB := n2_; clear n0_ n1_ n2_; (try clear hb); (try clear hb2); (try clear hk); (try clear hi)))
   go_meet
   case rel => exact ⟨_, (true), (by first | rfl | (simp; done) | (simp [*]; done)), H', ⟨by first | omega | exact Nat.le_refl _⟩, ⟨by (with_reducible repeat (first | refine zN ?_ _ | refine zD ?_ | refine zB ?_ _)); exact BKAy.out⟩, ⟨by (with_reducible repeat (first | refine zN ?_ _ | refine zD ?_ | refine zB ?_ _)); exact BKAz.out⟩, ⟨by repeat (first | (with_reducible first | exact HB.out | apply zW | apply zX | apply zY | refine zS ?_ GEAy.out | refine zS ?_ GEAz.out) | exact HB.out)⟩⟩
 case rest =>
  clear HC4
  try clear c1
  try clear c2
  try clear p2
  try clear c3
  try clear p6
  try clear c8
  try clear c9
  try clear c9b0
  try clear c10
  try clear c13
  try clear c13b0
  try clear c14
  try clear c17
  try clear c17b0
  try clear c18
  try clear c21
  try clear c21b0
  try clear c22
  try clear c25
  try clear c28
  try clear c30
  try clear hcz11_0
  try clear hcz11_1
  try clear hcz11_2
  try clear hcz15_0
  try clear hcz15_1
  try clear hcz15_2
  try clear hcz19_0
  try clear hcz19_1
  try clear hcz19_2
  try clear hcz23_0
  try clear hcz23_1
  try clear hcz23_2
  try clear hcz26_0
  try clear hcz26_1
  try clear hcz26_2
  try clear hcz29_0
  try clear hcz29_1
  try clear hcz29_2
  try clear hfz11_0
  try clear hfz11_1
  try clear hfz11_2
  try clear hfz15_0
  try clear hfz15_1
  try clear hfz15_2
  try clear hfz19_0
  try clear hfz19_1
  try clear hfz19_2
  try clear hfz23_0
  try clear hfz23_1
  try clear hfz23_2
  try clear hfz26_0
  try clear hfz26_1
  try clear hfz26_2
  try clear hfz29_0
  try clear hfz29_1
  try clear hfz29_2
  obtain ⟨kq, x36_3, rfl, HA, HJ3, BKAy, BKAz, HB⟩ := hcut
  cases kq with
  | zero => exact absurd HA.out (by simp [kimberliteref03_Conj.j0])
  | succ kj3 =>
   have H := HA.out
   clear HA
   simp only [kimberliteref03_Conj.j0] at H
   by_cases c31 : x36_3 = true
   ·
    subst c31
    have H1 : (some (0, 0, ([] : List Int), 2)) = some (r1, r2, r3, r4) := by rw [if_pos rfl] at H; exact H
    clear H
    have H := H1
    clear H1
    simp only [Option.some.injEq, Prod.mk.injEq] at H
    obtain ⟨rfl, rfl, rfl, rfl⟩ := H
    have hnb32 := NB681_680.out
    have hnc32 := NB680_681.out
    have hcz33_0 : wc.cell? ⟨gB, 0, none⟩ = some (.int .i64 0) := (blk_cell BKAz.out 0).trans rfl
    have hcz33_1 : wc.cell? ⟨gB, 1, none⟩ = some (.int .i64 0) := (blk_cell BKAz.out 1).trans rfl
    have hcz33_2 : wc.cell? ⟨gB, 2, none⟩ = some (.slice none 0 0) := (blk_cell BKAz.out 2).trans rfl
    have hfz33_0 := blk_frozen BKAz.out 0
    have hfz33_1 := blk_frozen BKAz.out 1
    have hfz33_2 := blk_frozen BKAz.out 2
    go_wp2
    refine bodyPost_ret (results_ct rfl _ _ gB 24 #[.int .i64 0, .int .i64 0, .slice none 0 0] (0, 0) _ rfl (by (with_reducible repeat (first | refine zN ?_ _ | refine zD ?_ | refine zB ?_ _)); refine blk_put (cs := #[.int .i64 0, .int .i64 0, .slice none 0 0]) ?_ 2 _ rfl; (with_reducible repeat (first | refine zN ?_ _ | refine zD ?_ | refine zB ?_ _)); refine blk_put (cs := #[.int .i64 0, .int .i64 0, .slice none 0 0]) ?_ 1 _ rfl; (with_reducible repeat (first | refine zN ?_ _ | refine zD ?_ | refine zB ?_ _)); refine blk_put (cs := #[.int .i64 0, .int .i64 0, .slice none 0 0]) ?_ 0 _ rfl; (with_reducible repeat (first | refine zN ?_ _ | refine zD ?_ | refine zB ?_ _)); exact BKAz.out) Try.underlying24 rfl (by kernel_rfl)) rfl ?_
    exact ⟨_, by first | rfl | (simp [errW_none, errW_some] <;> rfl) | (simp [*, errW_none, errW_some] <;> rfl), by first | exact Kd.R_nil _ _ _ _ _ | exact Kd.N_nil _ _ _ _ _ | exact Kd.V_nil _ _ _ _ _ | exact Kd.Q_nil _ _ _ _ _ | exact Kd.S_nil _ _ _ _ _, by repeat (first | (with_reducible first | exact HB.out | apply zW | apply zX | apply zY | refine zS ?_ GEAy.out | refine zS ?_ GEAz.out) | exact HB.out)⟩
   ·
    replace c31 := Bool.eq_false_iff.mpr c31
    subst c31
    have H1 : ((kimberliteref03_Out.f kj3 a0_0 a0_1 l0_2).bind fun bt683 => (kimberliteref03_Conj.l0 kj3 a2 a1 bt683.1 bt683.2 a1 ([] : List Int))) = some (r1, r2, r3, r4) := by rw [if_neg (show ¬ (false = true) by decide)] at H; exact H
    clear H
    have H := H1
    clear H1
    replace H := Option.bind_eq_some_iff.mp H
    obtain ⟨⟨t683, t684⟩, A340, H⟩ := H
    replace H : (kimberliteref03_Conj.l0 kj3 a2 a1 t683 t684 a1 ([] : List Int)) = some (r1, r2, r3, r4) := H
    have A34 := zA A340
    clear A340
    have H' := zA H
    clear H
    have hnb35 := NB680_681.out
    have hnc35 := NB681_680.out
    have hcz36_0 : wc.cell? ⟨gA, 0, none⟩ = some (.int .i64 a0_0) := (blk_cell BKAy.out 0).trans rfl
    have hcz36_1 : wc.cell? ⟨gA, 1, none⟩ = some (.int .i64 a0_1) := (blk_cell BKAy.out 1).trans rfl
    have hcz36_2 : wc.cell? ⟨gA, 2, none⟩ = some (.slice A0_2 l0_2.length c0_2) := (blk_cell BKAy.out 2).trans rfl
    have hfz36_0 := blk_frozen BKAy.out 0
    have hfz36_1 := blk_frozen BKAy.out 1
    have hfz36_2 := blk_frozen BKAy.out 2
    go_wp2_with (first | ((with_reducible refine gate_callee (f := 64) rfl ?_); refine goesL_ (some 39) rfl rfl Try.func64 (by kernel_rfl) rfl #[.agg #[.int .i64 a0_0, .int .i64 a0_1, .slice A0_2 l0_2.length c0_2]] rfl (by (try simp only [List.map_toArray, List.map_cons, List.map_nil]); first | done | rfl | (simp only [List.length_drop, List.length_take]; rfl)) ?_; (with_reducible refine (kimberliteref03_Out.calls kj3 a0_0 a0_1 _ _ l0_2 t683 t684 _ ?side1 ?side2 A34.out).mono ?_); (case side1 => repeat (first | exact (Kd.C_below HR0_2.out HB.out) | (with_reducible refine Kd.C_alloc ?_ _) | (with_reducible refine Kd.C_drewN ?_ _) | (with_reducible refine Kd.C_drew ?_))); (case side2 => exact HC0_2.out); rintro e w37 ⟨v685, rfl, ho0, hb⟩; refine ⟨_, rfl, ?_⟩; have n0_ := zA (Kd.R_lower ho0 (below_size (by repeat (first | (with_reducible first | exact HB.out | apply zW | apply zX | apply zY | refine zS ?_ GEAy.out | refine zS ?_ GEAz.out) | exact HB.out)))); have n1_ := zA (blk_below (g := gA) (o := .cells #[.int .i64 a0_0, .int .i64 a0_1, .slice A0_2 l0_2.length c0_2] 24 (0, 0)) (by (with_reducible repeat (first | refine zN ?_ _ | refine zD ?_ | refine zB ?_ _)); exact BKAy.out) hb); have n2_ := zA (blk_below (g := gB) (o := .cells #[.int .i64 0, .int .i64 0, .slice none 0 0] 24 (0, 0)) (by (with_reducible repeat (first | refine zN ?_ _ | refine zD ?_ | refine zB ?_ _)); exact BKAz.out) hb); have n3_ := zA (below_step (by repeat (first | (with_reducible first | exact HB.out | apply zW | apply zX | apply zY | refine zS ?_ GEAy.out | refine zS ?_ GEAz.out) | exact HB.out)) hb); clear BKAy; clear BKAz; clear HB; have HOB4 := n0_; have BKAy := n1_; have BKAz := n2_; have HB := n3_; clear n0_ n1_ n2_ n3_; (try clear hb); (try clear hb2); (try clear hk); (try clear hi); (try clear ho0)) | ((with_reducible refine gate_dst (N := 8) rfl ?_); refine box_event ?hg (N := 8) ?hd (cs := #[.int .i64 0, .slice none 0 0]) (t := 78) ?hr ?_; (case hd => rfl); (case hg => rfl); (case hr => first | (go_simp; done) | (go_simp; rfl)); intro gC hg w38 hbox hb; have n0_ := zA (Kd.R_below (by (with_reducible repeat (first | apply Kd.R_alloc | apply Kd.R_drewN | apply Kd.R_drew)); exact HOB4.out) hb); have n1_ := zA (blk_below (g := gA) (o := .cells #[.int .i64 a0_0, .int .i64 a0_1, .slice A0_2 l0_2.length c0_2] 24 (0, 0)) (by (with_reducible repeat (first | refine zN ?_ _ | refine zD ?_ | refine zB ?_ _)); exact BKAy.out) hb); have n2_ := zA (blk_below (g := gB) (o := .cells #[.int .i64 0, .int .i64 0, .slice none 0 0] 24 (0, 0)) (by (with_reducible repeat (first | refine zN ?_ _ | refine zD ?_ | refine zB ?_ _)); exact BKAz.out) hb); have n3_ := zA (below_step (by repeat (first | (with_reducible first | exact HB.out | apply zW | apply zX | apply zY | refine zS ?_ GEAy.out | refine zS ?_ GEAz.out) | exact HB.out)) hb); have n4_ := zA (hbox); have n5_ := zA ((by rw [hg]; exact (below_size (by repeat (first | (with_reducible first | exact HB.out | apply zW | apply zX | apply zY | refine zS ?_ GEAy.out | refine zS ?_ GEAz.out) | exact HB.out))) : w.heap.size ≤ gC)); have n6_ := zA ((by rw [hg]; exact (below_size (by repeat (first | (with_reducible first | exact HB.out | apply zW | apply zX | apply zY | refine zS ?_ GEAy.out | refine zS ?_ GEAz.out) | exact HB.out))) : w.heap.size ≤ gC)); have n7_ := zA ((by rw [hg]; exact Nat.ne_of_lt (blk_lt (g := gA) (o := .cells #[.int .i64 a0_0, .int .i64 a0_1, .slice A0_2 l0_2.length c0_2] 24 (0, 0)) (by (with_reducible repeat (first | refine zN ?_ _ | refine zD ?_ | refine zB ?_ _)); exact BKAy.out)) : gA ≠ gC)); have n8_ := zA ((by rw [hg]; exact Nat.ne_of_gt (blk_lt (g := gA) (o := .cells #[.int .i64 a0_0, .int .i64 a0_1, .slice A0_2 l0_2.length c0_2] 24 (0, 0)) (by (with_reducible repeat (first | refine zN ?_ _ | refine zD ?_ | refine zB ?_ _)); exact BKAy.out)) : gC ≠ gA)); have n9_ := zA ((by rw [hg]; exact Nat.ne_of_lt (blk_lt (g := gB) (o := .cells #[.int .i64 0, .int .i64 0, .slice none 0 0] 24 (0, 0)) (by (with_reducible repeat (first | refine zN ?_ _ | refine zD ?_ | refine zB ?_ _)); exact BKAz.out)) : gB ≠ gC)); have n10_ := zA ((by rw [hg]; exact Nat.ne_of_gt (blk_lt (g := gB) (o := .cells #[.int .i64 0, .int .i64 0, .slice none 0 0] 24 (0, 0)) (by (with_reducible repeat (first | refine zN ?_ _ | refine zD ?_ | refine zB ?_ _)); exact BKAz.out)) : gC ≠ gB)); clear HOB4; clear BKAy; clear BKAz; clear HB; have HOB4 := n0_; have BKAy := n1_; have BKAz := n2_; have HB := n3_; have BKB5 := n4_; have GWB5 := n5_; have GEB5 := n6_; have NB680_687 := n7_; have NB687_680 := n8_; have NB681_687 := n9_; have NB687_681 := n10_; clear n0_ n1_ n2_ n3_ n4_ n5_ n6_ n7_ n8_ n9_ n10_; clear hb hbox hg; have hnb39 := NB687_680.out; have hnc39 := NB680_687.out; have hnb40 := NB687_681.out; have hnc40 := NB681_687.out; have hcz41_0 : w38.cell? ⟨gC, 0, none⟩ = some (.int .i64 0) := (blk_cell BKB5.out 0).trans rfl; have hcz41_1 : w38.cell? ⟨gC, 1, none⟩ = some (.slice none 0 0) := (blk_cell BKB5.out 1).trans rfl; have hfz41_0 := blk_frozen BKB5.out 0; have hfz41_1 := blk_frozen BKB5.out 1; obtain ⟨Ao42, co42, eo42⟩ := Kd.R_slice HOB4.out; subst eo42) | ((with_reducible refine gate_dst (N := 9) rfl ?_); refine box_event ?hg (N := 9) ?hd (cs := #[.int .i64 0, .slice none 0 0]) (t := 78) ?hr ?_; (case hd => rfl); (case hg => rfl); (case hr => first | (go_simp; done) | (go_simp; rfl)); intro gD hg w43 hbox hb; have n0_ := zA (Kd.R_below (by (with_reducible repeat (first | apply Kd.R_alloc | apply Kd.R_drewN | apply Kd.R_drew)); exact (Kd.R_mono (Kd.R_far (p := ⟨gC, 1, none⟩) (Kd.R_far (p := ⟨gC, 0, none⟩) (Kd.R_types HOB4.out BKB5.out (by decide)) (fun _ hk => hk.2) (.int .i64 t683)) (fun _ hk => hk.2) (.slice Ao42 t684.length co42)) (fun _ h_ => h_.1))) hb); have n1_ := zA (blk_below (g := gA) (o := .cells #[.int .i64 a0_0, .int .i64 a0_1, .slice A0_2 l0_2.length c0_2] 24 (0, 0)) (by (with_reducible repeat (first | refine zN ?_ _ | refine zD ?_ | refine zB ?_ _)); refine blk_far ?_ NB680_687.out _; (with_reducible repeat (first | refine zN ?_ _ | refine zD ?_ | refine zB ?_ _)); refine blk_far ?_ NB680_687.out _; (with_reducible repeat (first | refine zN ?_ _ | refine zD ?_ | refine zB ?_ _)); exact BKAy.out) hb); have n2_ := zA (blk_below (g := gB) (o := .cells #[.int .i64 0, .int .i64 0, .slice none 0 0] 24 (0, 0)) (by (with_reducible repeat (first | refine zN ?_ _ | refine zD ?_ | refine zB ?_ _)); refine blk_far ?_ NB681_687.out _; (with_reducible repeat (first | refine zN ?_ _ | refine zD ?_ | refine zB ?_ _)); refine blk_far ?_ NB681_687.out _; (with_reducible repeat (first | refine zN ?_ _ | refine zD ?_ | refine zB ?_ _)); exact BKAz.out) hb); have n3_ := zA (blk_below (g := gC) (o := .cells #[.int .i64 t683, .slice Ao42 t684.length co42] 78 (0, 0)) (by (with_reducible repeat (first | refine zN ?_ _ | refine zD ?_ | refine zB ?_ _)); refine blk_put (cs := #[.int .i64 t683, .slice none 0 0]) ?_ 1 _ rfl; (with_reducible repeat (first | refine zN ?_ _ | refine zD ?_ | refine zB ?_ _)); refine blk_put (cs := #[.int .i64 0, .slice none 0 0]) ?_ 0 _ rfl; (with_reducible repeat (first | refine zN ?_ _ | refine zD ?_ | refine zB ?_ _)); exact BKB5.out) hb); have n4_ := zA (below_step (by repeat (first | (with_reducible first | exact HB.out | apply zW | apply zX | apply zY | refine zS ?_ GEAy.out | refine zS ?_ GEAz.out | refine zS ?_ GEB5.out) | exact HB.out)) hb); have n5_ := zA (hbox); have n6_ := zA ((by rw [hg]; exact (below_size (by repeat (first | (with_reducible first | exact HB.out | apply zW | apply zX | apply zY | refine zS ?_ GEAy.out | refine zS ?_ GEAz.out | refine zS ?_ GEB5.out) | exact HB.out))) : w.heap.size ≤ gD)); have n7_ := zA ((by rw [hg]; exact (below_size (by repeat (first | (with_reducible first | exact HB.out | apply zW | apply zX | apply zY | refine zS ?_ GEAy.out | refine zS ?_ GEAz.out | refine zS ?_ GEB5.out) | exact HB.out))) : w.heap.size ≤ gD)); have n8_ := zA ((by rw [hg]; exact Nat.ne_of_lt (blk_lt (g := gA) (o := .cells #[.int .i64 a0_0, .int .i64 a0_1, .slice A0_2 l0_2.length c0_2] 24 (0, 0)) (by (with_reducible repeat (first | refine zN ?_ _ | refine zD ?_ | refine zB ?_ _)); refine blk_far ?_ NB680_687.out _; (with_reducible repeat (first | refine zN ?_ _ | refine zD ?_ | refine zB ?_ _)); refine blk_far ?_ NB680_687.out _; (with_reducible repeat (first | refine zN ?_ _ | refine zD ?_ | refine zB ?_ _)); exact BKAy.out)) : gA ≠ gD)); have n9_ := zA ((by rw [hg]; exact Nat.ne_of_gt (blk_lt (g := gA) (o := .cells #[.int .i64 a0_0, .int .i64 a0_1, .slice A0_2 l0_2.length c0_2] 24 (0, 0)) (by (with_reducible repeat (first | refine zN ?_ _ | refine zD ?_ | refine zB ?_ _)); refine blk_far ?_ NB680_687.out _; (with_reducible repeat (first | refine zN ?_ _ | refine zD ?_ | refine zB ?_ _)); refine blk_far ?_ NB680_687.out _; (with_reducible repeat (first | refine zN ?_ _ | refine zD ?_ | refine zB ?_ _)); exact BKAy.out)) : gD ≠ gA)); have n10_ := zA ((by rw [hg]; exact Nat.ne_of_lt (blk_lt (g := gB) (o := .cells #[.int .i64 0, .int .i64 0, .slice none 0 0] 24 (0, 0)) (by (with_reducible repeat (first | refine zN ?_ _ | refine zD ?_ | refine zB ?_ _)); refine blk_far ?_ NB681_687.out _; (with_reducible repeat (first | refine zN ?_ _ | refine zD ?_ | refine zB ?_ _)); refine blk_far ?_ NB681_687.out _; (with_reducible repeat (first | refine zN ?_ _ | refine zD ?_ | refine zB ?_ _)); exact BKAz.out)) : gB ≠ gD)); have n11_ := zA ((by rw [hg]; exact Nat.ne_of_gt (blk_lt (g := gB) (o := .cells #[.int .i64 0, .int .i64 0, .slice none 0 0] 24 (0, 0)) (by (with_reducible repeat (first | refine zN ?_ _ | refine zD ?_ | refine zB ?_ _)); refine blk_far ?_ NB681_687.out _; (with_reducible repeat (first | refine zN ?_ _ | refine zD ?_ | refine zB ?_ _)); refine blk_far ?_ NB681_687.out _; (with_reducible repeat (first | refine zN ?_ _ | refine zD ?_ | refine zB ?_ _)); exact BKAz.out)) : gD ≠ gB)); have n12_ := zA ((by rw [hg]; exact Nat.ne_of_lt (blk_lt (g := gC) (o := .cells #[.int .i64 t683, .slice Ao42 t684.length co42] 78 (0, 0)) (by (with_reducible repeat (first | refine zN ?_ _ | refine zD ?_ | refine zB ?_ _)); refine blk_put (cs := #[.int .i64 t683, .slice none 0 0]) ?_ 1 _ rfl; (with_reducible repeat (first | refine zN ?_ _ | refine zD ?_ | refine zB ?_ _)); refine blk_put (cs := #[.int .i64 0, .slice none 0 0]) ?_ 0 _ rfl; (with_reducible repeat (first | refine zN ?_ _ | refine zD ?_ | refine zB ?_ _)); exact BKB5.out)) : gC ≠ gD)); have n13_ := zA ((by rw [hg]; exact Nat.ne_of_gt (blk_lt (g := gC) (o := .cells #[.int .i64 t683, .slice Ao42 t684.length co42] 78 (0, 0)) (by (with_reducible repeat (first | refine zN ?_ _ | refine zD ?_ | refine zB ?_ _)); refine blk_put (cs := #[.int .i64 t683, .slice none 0 0]) ?_ 1 _ rfl; (with_reducible repeat (first | refine zN ?_ _ | refine zD ?_ | refine zB ?_ _)); refine blk_put (cs := #[.int .i64 0, .slice none 0 0]) ?_ 0 _ rfl; (with_reducible repeat (first | refine zN ?_ _ | refine zD ?_ | refine zB ?_ _)); exact BKB5.out)) : gD ≠ gC)); clear HOB4; clear BKAy; clear BKAz; clear BKB5; clear HB; have HOB4 := n0_; have BKAy := n1_; have BKAz := n2_; have BKB5 := n3_; have HB := n4_; have BKB6 := n5_; have GWB6 := n6_; have GEB6 := n7_; have NB680_688 := n8_; have NB688_680 := n9_; have NB681_688 := n10_; have NB688_681 := n11_; have NB687_688 := n12_; have NB688_687 := n13_; clear n0_ n1_ n2_ n3_ n4_ n5_ n6_ n7_ n8_ n9_ n10_ n11_ n12_ n13_; clear hb hbox hg; have hnb44 := NB688_680.out; have hnc44 := NB680_688.out; have hnb45 := NB688_681.out; have hnc45 := NB681_688.out; have hnb46 := NB688_687.out; have hnc46 := NB687_688.out; have hcz47_0 : w43.cell? ⟨gD, 0, none⟩ = some (.int .i64 0) := (blk_cell BKB6.out 0).trans rfl; have hcz47_1 : w43.cell? ⟨gD, 1, none⟩ = some (.slice none 0 0) := (blk_cell BKB6.out 1).trans rfl; have hfz47_0 := blk_frozen BKB6.out 0; have hfz47_1 := blk_frozen BKB6.out 1))
    go_loopg [10] kj3 (fun kq v10 w' => ∃ (x10_2 : Int) (x689001_2 : List Int) (u689001 : Value), v10 = .int .i64 x10_2 ∧ Aside0 (kimberliteref03_Conj.l0 kq a2 x10_2 t683 t684 a1 x689001_2 = some (r1, r2, r3, r4)) ∧ Aside0 (kq ≤ kj3) ∧ Aside0 (Kd.R (Kd.int .i64) 3 w' w.heap.size (fun k_ => some k_ ≠ (u689001 : Value).ownBlock) (.slice Ao42 t684.length co42) t684) ∧ Aside0 (Kd.R (Kd.int .i64) 3 w' w.heap.size (fun k_ => some k_ ≠ ((.slice Ao42 t684.length co42) : Value).ownBlock) u689001 x689001_2) ∧ Aside0 (w'.heap[gA]? = some (.cells #[.int .i64 a0_0, .int .i64 a0_1, (.slice A0_2 l0_2.length c0_2)] 24 (0, 0))) ∧ Aside0 (w'.heap[gB]? = some (.cells #[.int .i64 0, .int .i64 0, (.slice none 0 0)] 24 (0, 0))) ∧ Aside0 (w'.heap[gC]? = some (.cells #[.int .i64 t683, (.slice Ao42 t684.length co42)] 78 (0, 0))) ∧ Aside0 (w'.heap[gD]? = some (.cells #[.int .i64 a1, u689001] 78 (0, 0))) ∧ Aside0 (Below w.heap.size w w'))
    case atStart => exact ⟨(a1), (([] : List Int)), (.slice none 0 0), (by first | rfl | (simp; done) | (simp [*]; done)), H', ⟨Nat.le_refl _⟩, ⟨by (with_reducible repeat (first | apply Kd.R_alloc | apply Kd.R_drewN | apply Kd.R_drew)); exact Kd.R_mono (Kd.R_far (p := ⟨gD, 1, none⟩) (Kd.R_far (p := ⟨gD, 0, none⟩) (Kd.R_types HOB4.out BKB6.out (by decide)) (fun _ hk => hk.2) (.int .i64 a1)) (fun _ hk => hk.2) (.slice none 0 0)) (fun _ hk => (by simp [Value.ownBlock]))⟩, ⟨by first | exact Kd.R_nil _ _ _ _ _ | exact Kd.N_nil _ _ _ _ _ | exact Kd.V_nil _ _ _ _ _ | exact Kd.Q_nil _ _ _ _ _ | exact Kd.S_nil _ _ _ _ _⟩, ⟨by (with_reducible repeat (first | refine zN ?_ _ | refine zD ?_ | refine zB ?_ _)); refine blk_far ?_ NB680_688.out _; (with_reducible repeat (first | refine zN ?_ _ | refine zD ?_ | refine zB ?_ _)); refine blk_far ?_ NB680_688.out _; (with_reducible repeat (first | refine zN ?_ _ | refine zD ?_ | refine zB ?_ _)); exact BKAy.out⟩, ⟨by (with_reducible repeat (first | refine zN ?_ _ | refine zD ?_ | refine zB ?_ _)); refine blk_far ?_ NB681_688.out _; (with_reducible repeat (first | refine zN ?_ _ | refine zD ?_ | refine zB ?_ _)); refine blk_far ?_ NB681_688.out _; (with_reducible repeat (first | refine zN ?_ _ | refine zD ?_ | refine zB ?_ _)); exact BKAz.out⟩, ⟨by (with_reducible repeat (first | refine zN ?_ _ | refine zD ?_ | refine zB ?_ _)); refine blk_far ?_ NB687_688.out _; (with_reducible repeat (first | refine zN ?_ _ | refine zD ?_ | refine zB ?_ _)); refine blk_far ?_ NB687_688.out _; (with_reducible repeat (first | refine zN ?_ _ | refine zD ?_ | refine zB ?_ _)); exact BKB5.out⟩, ⟨by (with_reducible repeat (first | refine zN ?_ _ | refine zD ?_ | refine zB ?_ _)); refine blk_put (cs := #[.int .i64 a1, .slice none 0 0]) ?_ 1 _ rfl; (with_reducible repeat (first | refine zN ?_ _ | refine zD ?_ | refine zB ?_ _)); refine blk_put (cs := #[.int .i64 0, .slice none 0 0]) ?_ 0 _ rfl; (with_reducible repeat (first | refine zN ?_ _ | refine zD ?_ | refine zB ?_ _)); exact BKB6.out⟩, ⟨by repeat (first | (with_reducible first | exact HB.out | apply zW | apply zX | apply zY | refine zS ?_ GEAy.out | refine zS ?_ GEAz.out | refine zS ?_ GEB5.out | refine zS ?_ GEB6.out) | exact HB.out)⟩⟩
    case round =>
     clear H'
     try clear c1
     try clear c2
     try clear p2
     try clear c3
     try clear c4
     try clear c6
     try clear p6
     try clear c8
     try clear c9
     try clear c9b0
     try clear c10
     try clear c13
     try clear c13b0
     try clear c14
     try clear c17
     try clear c17b0
     try clear c18
     try clear c21
     try clear c21b0
     try clear c22
     try clear c25
     try clear c28
     try clear c30
     try clear c31
     try clear c32
     try clear c35
     try clear c37
     try clear c39
     try clear c40
     try clear c44
     try clear c45
     try clear c46
     try clear hcz11_0
     try clear hcz11_1
     try clear hcz11_2
     try clear hcz15_0
     try clear hcz15_1
     try clear hcz15_2
     try clear hcz19_0
     try clear hcz19_1
     try clear hcz19_2
     try clear hcz23_0
     try clear hcz23_1
     try clear hcz23_2
     try clear hcz26_0
     try clear hcz26_1
     try clear hcz26_2
     try clear hcz29_0
     try clear hcz29_1
     try clear hcz29_2
     try clear hcz33_0
     try clear hcz33_1
     try clear hcz33_2
     try clear hcz36_0
     try clear hcz36_1
     try clear hcz36_2
     try clear hcz41_0
     try clear hcz41_1
     try clear hcz47_0
     try clear hcz47_1
     try clear hfz11_0
     try clear hfz11_1
     try clear hfz11_2
     try clear hfz15_0
     try clear hfz15_1
     try clear hfz15_2
     try clear hfz19_0
     try clear hfz19_1
     try clear hfz19_2
     try clear hfz23_0
     try clear hfz23_1
     try clear hfz23_2
     try clear hfz26_0
     try clear hfz26_1
     try clear hfz26_2
     try clear hfz29_0
     try clear hfz29_1
     try clear hfz29_2
     try clear hfz33_0
     try clear hfz33_1
     try clear hfz33_2
     try clear hfz36_0
     try clear hfz36_1
     try clear hfz36_2
     try clear hfz41_0
     try clear hfz41_1
     try clear hfz47_0
     try clear hfz47_1
     try clear p2
     try clear p6
     obtain ⟨x10_2, x689001_2, u689001, rfl, HA, HK2, HO_688001, HO_689001, BKAy, BKAz, BKB5, BKB6, HB⟩ := hrel
     cases gk with
     | zero => exact absurd HA.out (by simp [kimberliteref03_Conj.l0])
     | succ k2 =>
      have H := HA.out
      clear HA
      simp only [kimberliteref03_Conj.l0] at H
      by_cases c48 : x10_2 ≤ a2
      ·
       rw [if_pos c48] at H
       have c48b0 : decide (x10_2 ≤ a2) = true := decide_eq_true c48
       clear c48
       replace H := Option.bind_eq_some_iff.mp H
       obtain ⟨t689, A490, H⟩ := H
       replace H : (if x689001_2.length < 17592186044416 then (kimberliteref03_Conj.l0 k2 a2 (wrap64 (x10_2 + 1)) t683 t684 a1 (x689001_2 ++ [t689])) else (none)) = some (r1, r2, r3, r4) := H
       have A49 := zA A490
       clear A490
       by_cases c50 : x689001_2.length < 17592186044416
       ·
        rw [if_pos c50] at H
        have LMc50 := zA c50
        clear c50
        obtain ⟨y690, hy690⟩ : ∃ y_ : List Int, y_ = (x689001_2 ++ [t689]) := ⟨_, rfl⟩
        replace H : (kimberliteref03_Conj.l0 k2 a2 (wrap64 (x10_2 + 1)) t683 t684 a1 y690) = some (r1, r2, r3, r4) := by first | (rw [hy690]; with_reducible exact H) | (have H2_ := (Option.bind_some _ _).symm.trans H; rw [hy690]; with_reducible exact H2_) | (have H2_ := (Option.bind_some _ _).symm.trans H; with_reducible exact H2_) | with_reducible exact H | (rw [hy690]; exact H) | exact H
        have Ny690 := zA hy690
        clear hy690
        have H' := zA H
        clear H
        try go_wp2
        have n0_ := zA (Kd.R_drew HO_688001.out)
        have n1_ := zA (Kd.R_drew HO_689001.out)
        have n2_ := zA (zD BKAy.out)
        have n3_ := zA (zD BKAz.out)
        have n4_ := zA (zD BKB5.out)
        have n5_ := zA (zD BKB6.out)
        have n6_ := zA (zY HB.out)
        clear HO_688001; clear HO_689001; clear BKAy; clear BKAz; clear BKB5; clear BKB6; clear HB
        have HO_688001 := n0_
        have HO_689001 := n1_
        have BKAy := n2_
        have BKAz := n3_
        have BKB5 := n4_
        have BKB6 := n5_
        have HB := n6_
        clear n0_ n1_ n2_ n3_ n4_ n5_ n6_
        refine start_ (n := 9) (S := fun w' => w'.cell? ⟨gD, 0, none⟩ = some (.int .i64 a1) ∧ w'.cell? ⟨gD, 1, none⟩ = some (u689001) ∧ w'.cell? ⟨gC, 0, none⟩ = some (.int .i64 t683) ∧ w'.cell? ⟨gC, 1, none⟩ = some (.slice Ao42 t684.length co42)) (ds := [8]) #[O,O,O,O,O,O,O,O,O] (by kernel_rfl) rfl rfl ⟨(blk_cell BKB6.out 0).trans rfl, (blk_cell BKB6.out 1).trans rfl, (blk_cell BKB5.out 0).trans rfl, (blk_cell BKB5.out 1).trans rfl⟩ (fun hHeld => ?_); refine with_tabW kimberliteref03_Conj.tab8 kimberliteref03_Conj.bits8 (fun HT_ HW_ => ?_)
        generalize wr.drew = w51 at HO_688001 HO_689001 BKAy BKAz BKB5 BKB6 HB hHeld ⊢
        refine pure_ (i := 0) (N := some 48) (v := ?_) (a' := ?_) #[Y,O,O,O,O,O,O,O,O] rfl rfl (any_of HT_.out (by kernel_rfl)) (fun _ _ _ h => h) (Or.inl ⟨by rfl, ?_⟩) ?_ ?_
        rotate_left
        ·
         intro w'; go_simp; with_reducible rfl
        rotate_left
        ·
         simp only [Act.put, z1, z2, z3, i64_w, i32_w]; rfl
        refine pure_ (i := 3) (N := some 51) (v := ?_) (a' := ?_) #[Y,O,O,Y,O,O,O,O,O] rfl rfl (any_of HT_.out (by kernel_rfl)) (fun _ _ _ h => h) (Or.inl ⟨by rfl, ?_⟩) ?_ ?_
        rotate_left
        ·
         intro w'; go_simp; with_reducible rfl
        rotate_left
        ·
         simp only [Act.put, z1, z2, z3, i64_w, i32_w]; rfl
        refine take_ (i := 1) (N := some 49) (v := ?_) (a' := ?_) #[Y,Y,O,Y,O,O,O,O,O] rfl rfl (take_ofW HT_.out HW_.out (by kernel_rfl)) (fun _ _ _ h => h) (Or.inl ⟨by rfl, ?_⟩) hHeld ?_ ?_
        rotate_left
        ·
         rintro w' ⟨s0, s1, s2, s3⟩
         go_simp; with_reducible rfl
        rotate_left
        ·
         simp only [Act.put, z1, z2, z3, i64_w, i32_w]; rfl
        refine take_ (i := 2) (N := some 50) (v := ?_) (a' := ?_) #[Y,Y,Y,Y,O,O,O,O,O] rfl rfl (take_ofW HT_.out HW_.out (by kernel_rfl)) (fun _ _ _ h => h) (Or.inl ⟨by rfl, ?_⟩) hHeld ?_ ?_
        rotate_left
        ·
         rintro w' ⟨s0, s1, s2, s3⟩
         go_simp; with_reducible rfl
        rotate_left
        ·
         simp only [Act.put, z1, z2, z3, i64_w, i32_w]; rfl
        refine one_ (i := 4) (N := some 52) #[Y,Y,Y,Y,Y,O,O,O,O] rfl rfl (one_of HT_.out (by kernel_rfl)) (by decide) (fun K hK => ?_)
        refine goes_ Try.func63 (by kernel_rfl) rfl #[.agg #[.int .i64 t683, .slice Ao42 t684.length co42], .int .i64 x10_2] (by rfl) rfl rfl (by (try simp only [List.map_toArray, List.map_cons, List.map_nil]); first | done | rfl | (simp only [List.length_drop, List.length_take]; rfl)) ?_
        with_reducible refine (kimberliteref03_Greatest.calls k2 t683 _ _ t684 x10_2 t689 _ ?side1 ?side2 A49.out).mono ?_
        (case side1 => repeat (first | exact (Kd.R_reads' HO_688001.out).2.2 | (with_reducible refine Kd.C_alloc ?_ _) | (with_reducible refine Kd.C_drewN ?_ _) | (with_reducible refine Kd.C_drew ?_)))
        (case side2 => exact (Kd.R_reads' HO_688001.out).2.1)
        rintro e w52 ⟨rfl, hb⟩
        refine ⟨_, rfl, ?_⟩
        have n0_ := zA (Kd.R_below (by (with_reducible repeat (first | apply Kd.R_alloc | apply Kd.R_drewN | apply Kd.R_drew)); exact HO_688001.out) hb)
        have n1_ := zA (Kd.R_below (by (with_reducible repeat (first | apply Kd.R_alloc | apply Kd.R_drewN | apply Kd.R_drew)); exact HO_689001.out) hb)
        have n2_ := zA (blk_below (g := gA) (o := .cells #[.int .i64 a0_0, .int .i64 a0_1, .slice A0_2 l0_2.length c0_2] 24 (0, 0)) (by (with_reducible repeat (first | refine zN ?_ _ | refine zD ?_ | refine zB ?_ _)); exact BKAy.out) hb)
        have n3_ := zA (blk_below (g := gB) (o := .cells #[.int .i64 0, .int .i64 0, .slice none 0 0] 24 (0, 0)) (by (with_reducible repeat (first | refine zN ?_ _ | refine zD ?_ | refine zB ?_ _)); exact BKAz.out) hb)
        have n4_ := zA (blk_below (g := gC) (o := .cells #[.int .i64 t683, .slice Ao42 t684.length co42] 78 (0, 0)) (by (with_reducible repeat (first | refine zN ?_ _ | refine zD ?_ | refine zB ?_ _)); exact BKB5.out) hb)
        have n5_ := zA (blk_below (g := gD) (o := .cells #[.int .i64 a1, u689001] 78 (0, 0)) (by (with_reducible repeat (first | refine zN ?_ _ | refine zD ?_ | refine zB ?_ _)); exact BKB6.out) hb)
        have n6_ := zA (below_step (by repeat (first | (with_reducible first | exact HB.out | apply zW | apply zX | apply zY | refine zS ?_ GEAy.out | refine zS ?_ GEAz.out | refine zS ?_ GEB5.out | refine zS ?_ GEB6.out) | exact HB.out)) hb)
        clear HO_688001; clear HO_689001; clear BKAy; clear BKAz; clear BKB5; clear BKB6; clear HB
        have HO_688001 := n0_
        have HO_689001 := n1_
        have BKAy := n2_
        have BKAz := n3_
        have BKB5 := n4_
        have BKB6 := n5_
        have HB := n6_
        clear n0_ n1_ n2_ n3_ n4_ n5_ n6_
        (try clear hb)
        (try clear hb2)
        (try clear hk)
        (try clear hi)
        refine hK.out _ _ ⟨(blk_cell BKB6.out 0).trans rfl, (blk_cell BKB6.out 1).trans rfl, (blk_cell BKB5.out 0).trans rfl, (blk_cell BKB5.out 1).trans rfl⟩ (fun hHeld => ?_)
        clear hK K
        refine norm_ (a' := ?_) ?_ ?_
        rotate_left
        ·
         show Act.put _ (some 52) _ = _
         simp only [Act.put, z1, z2, z3, i64_w, i32_w]; rfl
        refine one_ (i := 5) (N := some 53) #[Y,Y,Y,Y,Y,Y,O,O,O] rfl rfl (one_of HT_.out (by kernel_rfl)) (by decide) (fun K hK => ?_)
        refine value_ (w1 := ?_) (v := ?_) (by rfl) rfl ?_ ?_
        rotate_left 2
        ·
         go_simp
         constructor
         ·
          rfl
         ·
          rfl
        refine hK.out _ _ ⟨(blk_cell (zB BKB6.out _) 0).trans rfl, (blk_cell (zB BKB6.out _) 1).trans rfl, (blk_cell (zB BKB5.out _) 0).trans rfl, (blk_cell (zB BKB5.out _) 1).trans rfl⟩ (fun hHeld => ?_)
        clear hK K
        refine norm_ (a' := ?_) ?_ ?_
        rotate_left
        ·
         show Act.put _ (some 53) _ = _
         simp only [Act.put, z1, z2, z3, i64_w, i32_w]; rfl
        refine one_ (i := 6) (N := some 54) #[Y,Y,Y,Y,Y,Y,Y,O,O] rfl rfl (one_of HT_.out (by kernel_rfl)) (by decide) (fun K hK => ?_)
        refine Kd.R_append_step (Kd.int .i64) (w0 := w) w.heap.size (by rfl) (.tmp 49) (.tmp 53) 22 3 (.int .i64 0) 8 rfl Try.underlying22 info3 rfl (by decide) (by omega) u689001 x689001_2 t689 [.int .i64 t689] (fun k_ => some k_ ≠ (.slice Ao42 t684.length co42 : Value).ownBlock) (fun _ => False) rfl rfl ?aP (fun _ hk => hk.elim) ?aF ?aO ?aB ?aS ?aL ?_
        (case aP => exact rfl)
        (case aB => exact (by repeat (first | (with_reducible first | exact HB.out | apply zW | apply zX | apply zY | refine zS ?_ GEAy.out | refine zS ?_ GEAz.out | refine zS ?_ GEB5.out | refine zS ?_ GEB6.out) | exact HB.out)))
        (case aF => exact (fun k_ hk => Kd.fresh' (Kd.R_lt (by (with_reducible repeat (first | apply Kd.R_alloc | apply Kd.R_drewN | apply Kd.R_drew)); exact HO_688001.out)) k_ hk))
        (case aO => exact (by (with_reducible repeat (first | apply Kd.R_alloc | apply Kd.R_drewN | apply Kd.R_drew)); exact HO_689001.out))
        (case aS => exact (below_size (by repeat (first | (with_reducible first | exact HB.out | apply zW | apply zX | apply zY | refine zS ?_ GEAy.out | refine zS ?_ GEAz.out | refine zS ?_ GEB5.out | refine zS ?_ GEB6.out) | exact HB.out))))
        (case aL => have := LMc50.out; omega)
        intro v691 w53 ho hb hg hat
        rw [← Ny690.out] at ho
        have n0_ := zA (Kd.R_after (ok := (fun _ => True)) (by (with_reducible repeat (first | apply Kd.R_alloc | apply Kd.R_drewN | apply Kd.R_drew)); exact Kd.R_mono HO_688001.out (fun _ hk => ⟨trivial, hk⟩)) hg hat)
        have n1_ := zA (blk_grown (g := gA) (o := .cells #[.int .i64 a0_0, .int .i64 a0_1, .slice A0_2 l0_2.length c0_2] 24 (0, 0)) (by (with_reducible repeat (first | refine zN ?_ _ | refine zD ?_ | refine zB ?_ _)); exact BKAy.out) hg (Kd.R_ne HO_689001.out BKAy.out (by decide)))
        have n2_ := zA (blk_grown (g := gB) (o := .cells #[.int .i64 0, .int .i64 0, .slice none 0 0] 24 (0, 0)) (by (with_reducible repeat (first | refine zN ?_ _ | refine zD ?_ | refine zB ?_ _)); exact BKAz.out) hg (Kd.R_ne HO_689001.out BKAz.out (by decide)))
        have n3_ := zA (blk_grown (g := gC) (o := .cells #[.int .i64 t683, .slice Ao42 t684.length co42] 78 (0, 0)) (by (with_reducible repeat (first | refine zN ?_ _ | refine zD ?_ | refine zB ?_ _)); exact BKB5.out) hg (Kd.R_ne HO_689001.out BKB5.out (by decide)))
        have n4_ := zA (blk_grown (g := gD) (o := .cells #[.int .i64 a1, u689001] 78 (0, 0)) (by (with_reducible repeat (first | refine zN ?_ _ | refine zD ?_ | refine zB ?_ _)); exact BKB6.out) hg (Kd.R_ne HO_689001.out BKB6.out (by decide)))
        have n5_ := zA (hb)
        have n6_ := zA (ho)
        clear HO_688001; clear BKAy; clear BKAz; clear BKB5; clear BKB6; clear HB; clear HO_689001
        have HO_688001 := n0_
        have BKAy := n1_
        have BKAz := n2_
        have BKB5 := n3_
        have BKB6 := n4_
        have HB := n5_
        have HOBA := n6_
        clear n0_ n1_ n2_ n3_ n4_ n5_ n6_; clear ho hb hg hat
        obtain ⟨Ao54, co54, eo54⟩ := Kd.R_slice HOBA.out
        (first | subst eo54 | (injection eo54 with f1_ f2_ f3_; have f4_ := f1_.symm; have f5_ := f3_.symm; clear f1_ f2_ f3_; subst f4_; subst f5_))
        refine hK.out _ _ ⟨(blk_cell BKB6.out 0).trans rfl, (blk_cell BKB6.out 1).trans rfl, (blk_cell BKB5.out 0).trans rfl, (blk_cell BKB5.out 1).trans rfl⟩ (fun hHeld => ?_)
        clear hK K
        refine norm_ (a' := ?_) ?_ ?_
        rotate_left
        ·
         show Act.put _ (some 54) _ = _
         simp only [Act.put, z1, z2, z3, i64_w, i32_w]; rfl
        refine pure_ (i := 7) (N := some 55) (v := ?_) (a' := ?_) #[Y,Y,Y,Y,Y,Y,Y,Y,O] rfl rfl (any_of HT_.out (by kernel_rfl)) (fun _ _ _ h => h) (Or.inl ⟨by rfl, ?_⟩) ?_ ?_
        rotate_left
        ·
         intro w'; go_simp; with_reducible rfl
        rotate_left
        ·
         simp only [Act.put, z1, z2, z3, i64_w, i32_w]; rfl
        refine last_ (i := 8) (N := none) #[Y,Y,Y,Y,Y,Y,Y,Y,Y] rfl rfl (one_of HT_.out (by kernel_rfl)) (by decide) (fun K hK => ?_)
        have hs55 : w53.cell? ⟨gD, 1, none⟩ = some (u689001) := (blk_cell BKB6.out 1).trans rfl
        have hfs55 := blk_frozen BKB6.out 1
        have hns55_0 := NB680_688.out
        have hns55_1 := NB681_688.out
        have hns55_2 := NB687_688.out
        have hms55_0 := NB688_680.out
        have hms55_1 := NB688_681.out
        have hms55_2 := NB688_687.out
        refine skip_ (w1 := ?_) (by rfl) rfl ?_ ?_
        rotate_left
        ·
         go_simp; rfl
        refine hK.out _ _ ?_
        clear hK K
        refine done_ (done_of HT_.out (by kernel_rfl)) ?_
        try go_wp2
        go_roundg k2
        case measure => have := HJ3.out; have := HK2.out; omega
        case rel => exact ⟨(wrap64 (x10_2 + 1)), (y690), (.slice Ao54 y690.length co54), (by first | rfl | (simp; done) | (simp [*]; done)), H', ⟨by have := HJ3.out; have := HK2.out; omega⟩, ⟨by (with_reducible repeat (first | apply Kd.R_alloc | apply Kd.R_drewN | apply Kd.R_drew)); exact Kd.R_mono (Kd.R_far (p := ⟨gD, 1, none⟩) (Kd.R_types HO_688001.out BKB6.out (by decide)) (fun _ hk => hk.2) (.slice Ao54 y690.length co54)) (fun _ hk => hk.1.2)⟩, ⟨by (with_reducible repeat (first | apply Kd.R_alloc | apply Kd.R_drewN | apply Kd.R_drew)); exact Kd.R_mono (Kd.R_far (p := ⟨gD, 1, none⟩) (Kd.R_types HOBA.out BKB6.out (by decide)) (fun _ hk => hk.2) (.slice Ao54 y690.length co54)) (fun _ hk => hk.1)⟩, ⟨by (with_reducible repeat (first | refine zN ?_ _ | refine zD ?_ | refine zB ?_ _)); refine blk_far ?_ NB680_688.out _; (with_reducible repeat (first | refine zN ?_ _ | refine zD ?_ | refine zB ?_ _)); exact BKAy.out⟩, ⟨by (with_reducible repeat (first | refine zN ?_ _ | refine zD ?_ | refine zB ?_ _)); refine blk_far ?_ NB681_688.out _; (with_reducible repeat (first | refine zN ?_ _ | refine zD ?_ | refine zB ?_ _)); exact BKAz.out⟩, ⟨by (with_reducible repeat (first | refine zN ?_ _ | refine zD ?_ | refine zB ?_ _)); refine blk_far ?_ NB687_688.out _; (with_reducible repeat (first | refine zN ?_ _ | refine zD ?_ | refine zB ?_ _)); exact BKB5.out⟩, ⟨by (with_reducible repeat (first | refine zN ?_ _ | refine zD ?_ | refine zB ?_ _)); refine blk_put (cs := #[.int .i64 a1, u689001]) ?_ 1 _ rfl; (with_reducible repeat (first | refine zN ?_ _ | refine zD ?_ | refine zB ?_ _)); exact BKB6.out⟩, ⟨by repeat (first | (with_reducible first | exact HB.out | apply zW | apply zX | apply zY | refine zS ?_ GEAy.out | refine zS ?_ GEAz.out | refine zS ?_ GEB5.out | refine zS ?_ GEB6.out) | exact HB.out)⟩⟩
       ·
        rw [if_neg c50] at H
        exact absurd H (by simp)
      ·
       rw [if_neg c48] at H
       have c48b0 : decide (x10_2 ≤ a2) = false := decide_eq_false c48
       clear c48
       replace H := Option.bind_eq_some_iff.mp H
       obtain ⟨⟨t693, t694, t695, t698⟩, A560, H⟩ := H
       replace H : (some (t693, t694, t695, t698)) = some (r1, r2, r3, r4) := H
       have A56 := zA A560
       clear A560
       simp only [Option.some.injEq, Prod.mk.injEq] at H
       obtain ⟨rfl, rfl, rfl, rfl⟩ := H
       have hnb57 := NB688_680.out
       have hnc57 := NB680_688.out
       have hnb58 := NB688_681.out
       have hnc58 := NB681_688.out
       have hnb59 := NB688_687.out
       have hnc59 := NB687_688.out
       have hcz60_0 : wr.cell? ⟨gD, 0, none⟩ = some (.int .i64 a1) := (blk_cell BKB6.out 0).trans rfl
       have hcz60_1 : wr.cell? ⟨gD, 1, none⟩ = some (u689001) := (blk_cell BKB6.out 1).trans rfl
       have hfz60_0 := blk_frozen BKB6.out 0
       have hfz60_1 := blk_frozen BKB6.out 1
       obtain ⟨Ao61, co61, eo61⟩ := Kd.R_slice HO_689001.out
       subst eo61
       go_wp2_with (first | ((with_reducible refine gate_callee (f := 72) rfl ?_); refine goesL_ (some 57) rfl rfl Try.func72 (by kernel_rfl) rfl #[.agg #[.int .i64 a1, .slice Ao61 x689001_2.length co61]] rfl (by (try simp only [List.map_toArray, List.map_cons, List.map_nil]); first | done | rfl | (simp only [List.length_drop, List.length_take]; rfl)) ?_; (with_reducible refine (kimberliteref03_ranged.calls k2 a1 _ _ x689001_2 t693 t694 t695 t698 _ ?side1 ?side2 A56.out).mono ?_); (case side1 => repeat (first | exact (Kd.R_reads' HO_689001.out).2.2 | (with_reducible refine Kd.C_alloc ?_ _) | (with_reducible refine Kd.C_drewN ?_ _) | (with_reducible refine Kd.C_drew ?_))); (case side2 => exact (Kd.R_reads' HO_689001.out).2.1); rintro e w62 ⟨v696, rfl, ho0, hb⟩; refine ⟨_, rfl, ?_⟩; have n0_ := zA (Kd.R_elder' (by (with_reducible repeat (first | apply Kd.R_alloc | apply Kd.R_drewN | apply Kd.R_drew)); exact HO_688001.out) (Kd.R_base ho0) hb); have n1_ := zA (Kd.R_elder' (by (with_reducible repeat (first | apply Kd.R_alloc | apply Kd.R_drewN | apply Kd.R_drew)); exact HO_689001.out) (Kd.R_base ho0) hb); have n2_ := zA (Kd.R_lower (Kd.R_new' (Kd.R_new' ho0 (Kd.R_lt (by (with_reducible repeat (first | apply Kd.R_alloc | apply Kd.R_drewN | apply Kd.R_drew)); exact HO_688001.out))) (Kd.R_lt (by (with_reducible repeat (first | apply Kd.R_alloc | apply Kd.R_drewN | apply Kd.R_drew)); exact HO_689001.out))) (below_size (by repeat (first | (with_reducible first | exact HB.out | apply zW | apply zX | apply zY | refine zS ?_ GEAy.out | refine zS ?_ GEAz.out | refine zS ?_ GEB5.out | refine zS ?_ GEB6.out) | exact HB.out)))); have n3_ := zA (blk_below (g := gA) (o := .cells #[.int .i64 a0_0, .int .i64 a0_1, .slice A0_2 l0_2.length c0_2] 24 (0, 0)) (by (with_reducible repeat (first | refine zN ?_ _ | refine zD ?_ | refine zB ?_ _)); exact BKAy.out) hb); have n4_ := zA (blk_below (g := gB) (o := .cells #[.int .i64 0, .int .i64 0, .slice none 0 0] 24 (0, 0)) (by (with_reducible repeat (first | refine zN ?_ _ | refine zD ?_ | refine zB ?_ _)); exact BKAz.out) hb); have n5_ := zA (blk_below (g := gC) (o := .cells #[.int .i64 t683, .slice Ao42 t684.length co42] 78 (0, 0)) (by (with_reducible repeat (first | refine zN ?_ _ | refine zD ?_ | refine zB ?_ _)); exact BKB5.out) hb); have n6_ := zA (blk_below (g := gD) (o := .cells #[.int .i64 a1, .slice Ao61 x689001_2.length co61] 78 (0, 0)) (by (with_reducible repeat (first | refine zN ?_ _ | refine zD ?_ | refine zB ?_ _)); exact BKB6.out) hb); have n7_ := zA (below_step (by repeat (first | (with_reducible first | exact HB.out | apply zW | apply zX | apply zY | refine zS ?_ GEAy.out | refine zS ?_ GEAz.out | refine zS ?_ GEB5.out | refine zS ?_ GEB6.out) | exact HB.out)) hb); clear HO_688001; clear HO_689001; clear BKAy; clear BKAz; clear BKB5; clear BKB6; clear HB; have HO_688001 := n0_; have HO_689001 := n1_; have HOBF := n2_; have BKAy := n3_; have BKAz := n4_; have BKB5 := n5_; have BKB6 := n6_; have HB := n7_; clear n0_ n1_ n2_ n3_ n4_ n5_ n6_ n7_; (try clear hb); (try clear hb2); (try clear hk); (try clear hi); (try clear ho0); have hnb63 := NB681_680.out; have hnc63 := NB680_681.out; have hnb64 := NB681_687.out; have hnc64 := NB687_681.out; have hcz65_0 : w62.cell? ⟨gB, 0, none⟩ = some (.int .i64 0) := (blk_cell BKAz.out 0).trans rfl; have hcz65_1 : w62.cell? ⟨gB, 1, none⟩ = some (.int .i64 0) := (blk_cell BKAz.out 1).trans rfl; have hcz65_2 : w62.cell? ⟨gB, 2, none⟩ = some (.slice none 0 0) := (blk_cell BKAz.out 2).trans rfl; have hfz65_0 := blk_frozen BKAz.out 0; have hfz65_1 := blk_frozen BKAz.out 1; have hfz65_2 := blk_frozen BKAz.out 2; obtain ⟨Ao66, co66, eo66⟩ := Kd.R_slice HOBF.out; subst eo66))
       refine bodyPost_ret (results_ct rfl _ _ gB 24 #[.int .i64 t693, .int .i64 t694, .slice Ao66 t695.length co66] (0, 0) _ rfl (by (with_reducible repeat (first | refine zN ?_ _ | refine zD ?_ | refine zB ?_ _)); refine blk_put (cs := #[.int .i64 t693, .int .i64 t694, .slice none 0 0]) ?_ 2 _ rfl; (with_reducible repeat (first | refine zN ?_ _ | refine zD ?_ | refine zB ?_ _)); refine blk_put (cs := #[.int .i64 t693, .int .i64 0, .slice none 0 0]) ?_ 1 _ rfl; (with_reducible repeat (first | refine zN ?_ _ | refine zD ?_ | refine zB ?_ _)); refine blk_put (cs := #[.int .i64 0, .int .i64 0, .slice none 0 0]) ?_ 0 _ rfl; (with_reducible repeat (first | refine zN ?_ _ | refine zD ?_ | refine zB ?_ _)); exact BKAz.out) Try.underlying24 rfl (by kernel_rfl)) rfl ?_
       exact ⟨_, by first | rfl | (simp [errW_none, errW_some] <;> rfl) | (simp [*, errW_none, errW_some] <;> rfl), by (with_reducible repeat (first | apply Kd.R_alloc | apply Kd.R_drewN | apply Kd.R_drew)); exact Kd.R_mono (Kd.R_far (p := ⟨gB, 2, none⟩) (Kd.R_far (p := ⟨gB, 1, none⟩) (Kd.R_far (p := ⟨gB, 0, none⟩) (Kd.R_types HOBF.out BKAz.out (by decide)) (fun _ hk => hk.2) (.int .i64 t693)) (fun _ hk => hk.2) (.int .i64 t694)) (fun _ hk => hk.2) (.slice Ao66 t695.length co66)) (fun _ hk => trivial), by repeat (first | (with_reducible first | exact HB.out | apply zW | apply zX | apply zY | refine zS ?_ GEAy.out | refine zS ?_ GEAz.out | refine zS ?_ GEB5.out | refine zS ?_ GEB6.out) | exact HB.out)⟩
end Go.Proofs.Ytfeeaipbmpmpgaa.PX

namespace Go.Proofs.Ytfeeaipbmpmpgaa.PX
open Go.RowKit Go.Proofs.YtfeeaipbmpmpgaaW.PrintWords Go.Proofs.YtfeeaipbmpmpgaaW.PrintLast Go.Proofs.YtfeeaipbmpmpgaaW.PrintMore
set_option linter.unusedVariables false
set_option linter.unusedSimpArgs false

theorem alive_join : joinR 0 0 [1, 3] 0 0 [2, 2] = (0, 0, [1, 2, 2, 3], 0) := by
  have hs : sortI ([1, 3] ++ [2, 2]) = [1, 2, 2, 3] := by simp [sortI, List.mergeSort, List.MergeSort.Internal.splitInTwo]
  unfold joinR madeR
  rw [hs]
  decide +kernel
theorem alive_split : splitR [⟨0, 0, [1, 3]⟩, ⟨0, 0, [2, 2]⟩] 3 = ([1, 2], 5, 2, 0) := by
  decide +kernel
theorem C_blk {w : World} {g : Nat} {e : Nat} {cs : Array Value} (xs : List Int) (h : w.heap[g]? = some (.cells cs e (0, 0))) (hc : cs = (xs.map (Value.int .i64)).toArray) (hm : xs.length ≤ 1000) : Kd.C (Kd.int .i64) w (some ⟨g, 0, none⟩) xs.length xs := by
  subst hc
  refine ⟨rfl, by omega, fun _ => ⟨_, rfl, fun j p hj => ⟨[.int .i64 p], rfl, rfl, fun i u hu => ?_⟩⟩⟩
  have hs : (Kd.int .i64).sz = 1 := rfl
  rw [hs, Nat.mul_one]
  cases i with
  | succ i => simp at hu
  | zero =>
    have hu' : Value.int .i64 p = u := by simpa using hu
    subst hu'
    rw [Nat.add_zero, add_plain, blk_cell h]
    simp [hj]
theorem alive_join_calls (g0 g1 : Nat) (W : World) (h0 : W.heap[g0]? = some (.cells #[.int .i64 1, .int .i64 3] 3 (0, 0))) (h1 : W.heap[g1]? = some (.cells #[.int .i64 2, .int .i64 2] 3 (0, 0))) :
    Calls Try.prog 14 #[.agg #[.int .i64 0, .int .i64 0, .slice (some ⟨g0, 0, none⟩) 2 2], .agg #[.int .i64 0, .int .i64 0, .slice (some ⟨g1, 0, none⟩) 2 2]] W fun e w' => ∃ v, e = .returned (.tuple #[.agg #[.int .i64 0, .int .i64 0, v], .int .i64 0]) ∧ Kd.R (Kd.int .i64) 3 w' W.heap.size (fun _ => True) v [1, 2, 2, 3] ∧ Below W.heap.size W w' :=
  curve_Join.calls 0 0 _ 2 [1, 3] 0 0 _ 2 [2, 2] _ _ _ _ W (C_blk [1, 3] h0 rfl (by decide)) (by decide) (C_blk [2, 2] h1 rfl (by decide)) (by decide) (congrArg some alive_join)
theorem C_curves {W : World} {g g0 g1 : Nat} (hb : W.heap[g]? = some (.cells #[.int .i64 0, .int .i64 0, .slice (some ⟨g0, 0, none⟩) 2 2, .int .i64 0, .int .i64 0, .slice (some ⟨g1, 0, none⟩) 2 2] 24 (0, 0)))
    (h0 : W.heap[g0]? = some (.cells #[.int .i64 1, .int .i64 3] 3 (0, 0))) (h1 : W.heap[g1]? = some (.cells #[.int .i64 2, .int .i64 2] 3 (0, 0))) :
    Kd.C k24 W (some ⟨g, 0, none⟩) 2 [⟨0, 0, [1, 3]⟩, ⟨0, 0, [2, 2]⟩] := by
  have hsz : k24.sz = 3 := rfl
  refine ⟨rfl, by omega, fun _ => ⟨_, rfl, fun j p hj => ?_⟩⟩
  match j with
  | 0 =>
    have : p = ⟨0, 0, [1, 3]⟩ := by simpa using hj.symm
    subst this
    refine ⟨_, rfl, k24_mk W ⟨0, 0, [1, 3]⟩ (c2 := 2) (by decide) (C_blk [1, 3] h0 rfl (by decide)), fun i u hu => ?_⟩
    rw [add_plain, blk_cell hb, hsz, Nat.zero_mul, Nat.zero_add]
    match i with
    | 0 => simpa using hu
    | 1 => simpa using hu
    | 2 => simpa using hu
    | i + 3 => simp at hu
  | 1 =>
    have : p = ⟨0, 0, [2, 2]⟩ := by simpa using hj.symm
    subst this
    refine ⟨_, rfl, k24_mk W ⟨0, 0, [2, 2]⟩ (c2 := 2) (by decide) (C_blk [2, 2] h1 rfl (by decide)), fun i u hu => ?_⟩
    rw [add_plain, blk_cell hb, hsz, Nat.one_mul]
    match i with
    | 0 => simpa using hu
    | 1 => simpa using hu
    | 2 => simpa using hu
    | i + 3 => simp at hu
  | j + 2 => simp at hj
theorem alive_split_calls (g g0 g1 : Nat) (W : World) (hb : W.heap[g]? = some (.cells #[.int .i64 0, .int .i64 0, .slice (some ⟨g0, 0, none⟩) 2 2, .int .i64 0, .int .i64 0, .slice (some ⟨g1, 0, none⟩) 2 2] 24 (0, 0)))
    (h0 : W.heap[g0]? = some (.cells #[.int .i64 1, .int .i64 3] 3 (0, 0))) (h1 : W.heap[g1]? = some (.cells #[.int .i64 2, .int .i64 2] 3 (0, 0))) :
    Calls Try.prog 19 #[.slice (some ⟨g, 0, none⟩) 2 2, .int .i64 3] W fun e w' => ∃ v, e = .returned (.tuple #[v, .int .i64 5, .int .i64 2, .int .i64 0]) ∧ Kd.R (Kd.int .i64) 3 w' W.heap.size (fun _ => True) v [1, 2] ∧ Below W.heap.size W w' :=
  curve_Split.calls _ 2 [⟨0, 0, [1, 3]⟩, ⟨0, 0, [2, 2]⟩] 3 _ _ _ _ W (C_curves hb h0 h1) (by decide) (congrArg some alive_split)
def aliveW (w : World) : World :=
  (((w.alloc (.cells #[.int .i64 1, .int .i64 3] 3)).alloc (.cells #[.int .i64 2, .int .i64 2] 3)).alloc (.cells #[.int .i64 0, .int .i64 0, .slice (some ⟨w.heap.size, 0, none⟩) 2 2] 24)).alloc (.cells #[.int .i64 0, .int .i64 0, .slice (some ⟨w.heap.size + 1, 0, none⟩) 2 2] 24)
theorem size1 (w : World) (o : Obj) : (w.alloc o).heap.size = w.heap.size + 1 := by simp
theorem aliveW_facts (w : World) : (aliveW w).heap[w.heap.size]? = some (.cells #[.int .i64 1, .int .i64 3] 3 (0, 0)) ∧ (aliveW w).heap[w.heap.size + 1]? = some (.cells #[.int .i64 2, .int .i64 2] 3 (0, 0)) ∧
    (aliveW w).heap[w.heap.size + 1 + 1]? = some (.cells #[.int .i64 0, .int .i64 0, .slice (some ⟨w.heap.size, 0, none⟩) 2 2] 24 (0, 0)) ∧ (aliveW w).heap[w.heap.size + 1 + 1 + 1]? = some (.cells #[.int .i64 0, .int .i64 0, .slice (some ⟨w.heap.size + 1, 0, none⟩) 2 2] 24 (0, 0)) ∧ Below w.heap.size w (aliveW w) := by
  refine ⟨blk_alloc (blk_alloc (blk_alloc (blk_new _ _) _) _) _, ?_, ?_, ?_, below_alloc (below_alloc (below_alloc (below_alloc (Below.refl _ _) _) _) _) _⟩
  · rw [← size1 w (.cells #[.int .i64 1, .int .i64 3] 3)]
    exact blk_alloc (blk_alloc (blk_new _ _) _) _
  · rw [← size1 w (.cells #[.int .i64 1, .int .i64 3] 3), ← size1 (w.alloc (.cells #[.int .i64 1, .int .i64 3] 3)) (.cells #[.int .i64 2, .int .i64 2] 3)]
    exact blk_alloc (blk_new _ _) _
  · have h := blk_new (((w.alloc (.cells #[.int .i64 1, .int .i64 3] 3)).alloc (.cells #[.int .i64 2, .int .i64 2] 3)).alloc (.cells #[.int .i64 0, .int .i64 0, .slice (some ⟨w.heap.size, 0, none⟩) 2 2] 24)) (.cells #[.int .i64 0, .int .i64 0, .slice (some ⟨w.heap.size + 1, 0, none⟩) 2 2] 24)
    rw [size1, size1, size1] at h
    exact h
theorem same_lit {w : World} (A : Option Addr) (c : Nat) (l : List Int) (n : Nat) (hn : n = l.length) (cs : Array Value) (hcs : cs = (l.map (Value.int .i64)).toArray) (hc : l.length ≤ c) (hr : Kd.C (Kd.int .i64) w A l.length l) (hm : l.length ≤ 1000 := by decide) (hs : kimberlitelaw03_same.f 1000 l l = some true := by decide +kernel) :
    Calls Try.prog 24 #[.slice A n c, .slice (some ⟨w.heap.size, 0, none⟩) n n] (w.alloc (.cells cs 3)) fun e w' => e = .returned (.bool true) ∧ Below w.heap.size w w' := by
  subst hn
  refine (kimberlitelaw03_same.calls 1000 A c l _ l.length l true _ (Kd.C_alloc hr _) hc (C_blk l (blk_new _ _) hcs hm) (Nat.le_refl _) hs).mono ?_
  rintro e w' ⟨rfl, hd⟩
  exact ⟨rfl, below_then (below_alloc (Below.refl _ _) _) (by simp) hd.below⟩
def aliveV (w1 : World) (Av : Option Addr) (cv : Nat) (g0 g1 : Nat) : World :=
  (w1.alloc (.cells #[.int .i64 0, .int .i64 0, .slice Av 4 cv] 24)).alloc (.cells #[.int .i64 0, .int .i64 0, .slice (some ⟨g0, 0, none⟩) 2 2, .int .i64 0, .int .i64 0, .slice (some ⟨g1, 0, none⟩) 2 2] 24)
theorem aliveV_facts (w1 : World) (Av : Option Addr) (cv : Nat) (g0 g1 : Nat) : (aliveV w1 Av cv g0 g1).heap[w1.heap.size]? = some (.cells #[.int .i64 0, .int .i64 0, .slice Av 4 cv] 24 (0, 0)) ∧
    (aliveV w1 Av cv g0 g1).heap[w1.heap.size + 1]? = some (.cells #[.int .i64 0, .int .i64 0, .slice (some ⟨g0, 0, none⟩) 2 2, .int .i64 0, .int .i64 0, .slice (some ⟨g1, 0, none⟩) 2 2] 24 (0, 0)) ∧ Below w1.heap.size w1 (aliveV w1 Av cv g0 g1) := by
  refine ⟨blk_alloc (blk_new _ _) _, ?_, below_alloc (below_alloc (Below.refl _ _) _) _⟩
  rw [← size1 w1 (.cells #[.int .i64 0, .int .i64 0, .slice Av 4 cv] 24)]
  exact blk_new _ _
def kimberlitelaw03_alive.f : Option Bool := some true
set_option maxHeartbeats 8000000 in
set_option maxRecDepth 100000 in
theorem kimberlitelaw03_alive.calls (r : Bool) (w : World) (h : kimberlitelaw03_alive.f = some r) :
    Calls Try.prog 17 #[] w fun e w' => e = .returned (.bool r) ∧ Below w.heap.size w w' := by
  obtain rfl := Option.some.inj h
  clear h
  have hu24 := Try.underlying24
  obtain ⟨B0, B1, B2, B3, HBW⟩ := aliveW_facts w
  have A0 := Aside0.mk B0
  have A1 := Aside0.mk B1
  have A2 := Aside0.mk B2
  have A3 := Aside0.mk B3
  have AW := Aside0.mk HBW
  clear B0 B1 B2 B3 HBW
  go_enter Try.func17, Try.ntmps17
  go_wp2_with fail
  change Calls _ _ _ (aliveW w) _
  generalize aliveW w = W at A0 A1 A2 A3 AW ⊢
  generalize hg0 : w.heap.size = g0 at A0 A1 A2 A3 ⊢
  generalize hg1 : g0 + 1 = g1 at A0 A1 A2 A3 ⊢
  generalize hg2 : g1 + 1 = g2 at A0 A1 A2 A3 ⊢
  generalize hg3 : g2 + 1 = g3 at A0 A1 A2 A3 ⊢
  clear hg0 hg1 hg2 hg3
  refine (alive_join_calls g0 g1 W A0.out A1.out).mono ?_
  rintro e w1 ⟨v, rfl, hR, hB⟩
  obtain ⟨Av, cv, rfl, hcv, hCv⟩ := Kd.R_reads hR
  have HR := Aside0.mk hCv
  have HV := Aside0.mk hcv
  have HB := Aside0.mk hB
  have hc20 : w1.cell? ⟨g2, 0, none⟩ = some (.int .i64 0) := (blk_cell (blk_below A2.out hB) 0).trans rfl
  have hc21 : w1.cell? ⟨g2, 1, none⟩ = some (.int .i64 0) := (blk_cell (blk_below A2.out hB) 1).trans rfl
  have hc22 : w1.cell? ⟨g2, 2, none⟩ = some (.slice (some ⟨g0, 0, none⟩) 2 2) := (blk_cell (blk_below A2.out hB) 2).trans rfl
  have hc30 : w1.cell? ⟨g3, 0, none⟩ = some (.int .i64 0) := (blk_cell (blk_below A3.out hB) 0).trans rfl
  have hc31 : w1.cell? ⟨g3, 1, none⟩ = some (.int .i64 0) := (blk_cell (blk_below A3.out hB) 1).trans rfl
  have hc32 : w1.cell? ⟨g3, 2, none⟩ = some (.slice (some ⟨g1, 0, none⟩) 2 2) := (blk_cell (blk_below A3.out hB) 2).trans rfl
  have hl2 : g2 < w1.heap.size := blk_lt (blk_below A2.out hB)
  have hl3 : g3 < w1.heap.size := blk_lt (blk_below A3.out hB)
  clear hR hB hcv hCv
  go_wp2_with fail
  change Calls _ _ _ (aliveV w1 Av cv g0 g1) _
  obtain ⟨D0, D1, D2⟩ := aliveV_facts w1 Av cv g0 g1
  have E0 := blk_below (blk_below A0.out HB.out) D2
  have E1 := blk_below (blk_below A1.out HB.out) D2
  have HRv := Aside0.mk (Kd.C_below HR.out D2)
  have HB2 := Aside0.mk (below_then AW.out AW.out.size (below_then HB.out HB.out.size D2))
  generalize aliveV w1 Av cv g0 g1 = V at D0 D1 E0 E1 HRv HB2 ⊢
  generalize w1.heap.size = n0 at D0 D1 E0 E1 ⊢
  clear hc20 hc21 hc22 hc30 hc31 hc32 hl2 hl3 D2
  refine (alive_split_calls (n0 + 1) g0 g1 V D1 E0 E1).mono ?_
  rintro e w2 ⟨v2, rfl, hR2, hB3⟩
  obtain ⟨Au, cu, rfl, hcu, hCu⟩ := Kd.R_reads hR2
  have HU := Aside0.mk hCu
  have HUc := Aside0.mk hcu
  have hn0 : w2.cell? ⟨n0, 2, none⟩ = some (.slice Av 4 cv) := (blk_cell (blk_below D0 hB3) 2).trans rfl
  have HV2 := Aside0.mk (Kd.C_below HRv.out hB3)
  have HB4 := Aside0.mk (below_then HB2.out HB2.out.size hB3)
  clear D0 D1 E0 E1 hR2 hB3 hCu hcu
  go_wp2_with fail
  refine (same_lit (w := w2) Av cv [1, 2, 2, 3] 4 rfl _ rfl HV.out HV2.out).mono ?_
  rintro e w3 ⟨rfl, hb5⟩
  have HB5 := Aside0.mk (below_then HB4.out HB4.out.size hb5)
  have HU2 := Aside0.mk (Kd.C_below HU.out hb5)
  clear hb5
  go_wp2_with fail
  refine (same_lit (w := w3) Au cu [1, 2] 2 rfl _ rfl HUc.out HU2.out).mono ?_
  rintro e w4 ⟨rfl, hb6⟩
  have HB6 := Aside0.mk (below_then HB5.out HB5.out.size hb6)
  clear hb6
  go_wp2
  go_ret
  exact ⟨rfl, HB6.out⟩
end Go.Proofs.Ytfeeaipbmpmpgaa.PX

namespace Go.Proofs.Ytfeeaipbmpmpgaa.PX
open Go.RowKit Go.Proofs.YtfeeaipbmpmpgaaW.PrintWords Go.Proofs.YtfeeaipbmpmpgaaW.PrintLast Go.Proofs.YtfeeaipbmpmpgaaW.PrintMore
attribute [local go_sem] max2_int min2_int max_two min_two max_three min_three max_four min_four   -- for this text's walks alone
set_option linter.unusedVariables false
set_option linter.unusedSimpArgs false
/-! ### kimberlitelaw03_CurveBottoms: function 9 -/
def kimberlitelaw03_CurveBottoms.f (k : Nat) (a0_0 : Int) (a0_1 : Int) (l0_2 : List Int) (a1 : Int) (a2 : Int) : Option (Bool) := (kimberlitelaw03_few.f a0_0 a0_1 l0_2).bind fun t700 => (if t700 = true then ((kimberlitelaw03_own.f k a0_0 a0_1 l0_2).bind fun bt708 => ((curve_Bottom.f k bt708.1 bt708.2.1 bt708.2.2).bind fun bt714 => ((kimberliteref03_Bottom.f k a0_0 a0_1 l0_2).bind fun bt718 => (if bt714.1 = bt718.1 then (if bt714.2.1 = bt718.2.1 then (if bt714.2.2.1 = bt718.2.2.1 then (if bt714.2.2.2 = bt718.2.2.2 then ((curve_Conj.f k bt708.1 bt708.2.1 bt708.2.2 a1 a2).bind fun bt728 => ((kimberliteref03_Conj.f k a0_0 a0_1 l0_2 a1 a2).bind fun bt735 => ((kimberlitelaw03_told.f k bt728.1 bt728.2.1 bt728.2.2.1 bt728.2.2.2 bt735.1 bt735.2.1 bt735.2.2.1 bt735.2.2.2).bind fun bt742 => (if bt742.1 = true then ((kimberlitelaw03_alike.f k a0_0 a0_1 l0_2 bt708.1 bt708.2.1 bt708.2.2).bind fun t744 => (if t744 = true then ((kimberlitelaw03_alive.f).bind fun t745 => (some t745)) else (none))) else (none))))) else (none)) else (none)) else (none)) else (none))))) else ((kimberlitelaw03_alive.f).bind fun t701 => (some t701)))
theorem kimberlitelaw03_CurveBottoms.mono : ∀ a0 a1 a2 a3 a4 k, LeO (kimberlitelaw03_CurveBottoms.f k a0 a1 a2 a3 a4) (kimberlitelaw03_CurveBottoms.f (k + 1) a0 a1 a2 a3 a4) := by
 intro a0 a1 a2 a3 a4 k
 unfold kimberlitelaw03_CurveBottoms.f
 repeat' first
   | (with_reducible exact curve_Bottom.mono _ _ _ _)
   | (with_reducible exact curve_Conj.mono _ _ _ _ _ _)
   | (with_reducible exact kimberlitelaw03_alike.mono _ _ _ _ _ _ _)
   | (with_reducible exact kimberlitelaw03_own.mono _ _ _ _)
   | (with_reducible exact kimberlitelaw03_told.mono _ _ _ _ _ _ _ _ _)
   | (with_reducible exact kimberliteref03_Bottom.mono _ _ _ _)
   | (with_reducible exact kimberliteref03_Conj.mono _ _ _ _ _ _)
   | (with_reducible exact LeO.refl _)
   | (with_reducible exact LeO.none _)
   | (with_reducible refine LeO.ite ?_ ?_)
   | (with_reducible refine LeO.bind ?_ (fun _ => ?_))
   | exact curve_Bottom.mono _ _ _ _
   | exact curve_Conj.mono _ _ _ _ _ _
   | exact kimberlitelaw03_alike.mono _ _ _ _ _ _ _
   | exact kimberlitelaw03_own.mono _ _ _ _
   | exact kimberlitelaw03_told.mono _ _ _ _ _ _ _ _ _
   | exact kimberliteref03_Bottom.mono _ _ _ _
   | exact kimberliteref03_Conj.mono _ _ _ _ _ _
   | exact LeO.none _
   | refine LeO.ite ?_ ?_
   | refine LeO.bind ?_ (fun _ => ?_)
set_option maxHeartbeats 8000000 in
set_option maxRecDepth 100000 in
theorem kimberlitelaw03_CurveBottoms.calls (k : Nat) (a0_0 : Int) (a0_1 : Int) (A0_2 : Option Addr) (c0_2 : Nat) (l0_2 : List Int) (a1 : Int) (a2 : Int) (r : Bool) (w : World) (hr0_2 : Kd.C (Kd.int .i64) w A0_2 l0_2.length l0_2) (hc0_2 : l0_2.length ≤ c0_2) (h : kimberlitelaw03_CurveBottoms.f k a0_0 a0_1 l0_2 a1 a2 = some r) :
  Calls Try.prog 9 #[.agg #[.int .i64 a0_0, .int .i64 a0_1, .slice A0_2 l0_2.length c0_2], .int .i64 a1, .int .i64 a2] w fun e w' => e = .returned (.bool r) ∧ Below w.heap.size w w' := by
 have hu24 := Try.underlying24
 have HR0_2 := zA hr0_2
 have HC0_2 := zA hc0_2
 clear hr0_2 hc0_2
 have HB := zA (Below.refl w.heap.size w)
 have H : ((kimberlitelaw03_few.f a0_0 a0_1 l0_2).bind fun t700 => (if t700 = true then ((kimberlitelaw03_own.f k a0_0 a0_1 l0_2).bind fun bt708 => ((curve_Bottom.f k bt708.1 bt708.2.1 bt708.2.2).bind fun bt714 => ((kimberliteref03_Bottom.f k a0_0 a0_1 l0_2).bind fun bt718 => (if bt714.1 = bt718.1 then (if bt714.2.1 = bt718.2.1 then (if bt714.2.2.1 = bt718.2.2.1 then (if bt714.2.2.2 = bt718.2.2.2 then ((curve_Conj.f k bt708.1 bt708.2.1 bt708.2.2 a1 a2).bind fun bt728 => ((kimberliteref03_Conj.f k a0_0 a0_1 l0_2 a1 a2).bind fun bt735 => ((kimberlitelaw03_told.f k bt728.1 bt728.2.1 bt728.2.2.1 bt728.2.2.2 bt735.1 bt735.2.1 bt735.2.2.1 bt735.2.2.2).bind fun bt742 => (if bt742.1 = true then ((kimberlitelaw03_alike.f k a0_0 a0_1 l0_2 bt708.1 bt708.2.1 bt708.2.2).bind fun t744 => (if t744 = true then ((kimberlitelaw03_alive.f).bind fun t745 => (some t745)) else (none))) else (none))))) else (none)) else (none)) else (none)) else (none))))) else ((kimberlitelaw03_alive.f).bind fun t701 => (some t701)))) = some r := h
 clear h
 replace H := Option.bind_eq_some_iff.mp H
 obtain ⟨t700, A40, H⟩ := H
 replace H : (if t700 = true then ((kimberlitelaw03_own.f k a0_0 a0_1 l0_2).bind fun bt708 => ((curve_Bottom.f k bt708.1 bt708.2.1 bt708.2.2).bind fun bt714 => ((kimberliteref03_Bottom.f k a0_0 a0_1 l0_2).bind fun bt718 => (if bt714.1 = bt718.1 then (if bt714.2.1 = bt718.2.1 then (if bt714.2.2.1 = bt718.2.2.1 then (if bt714.2.2.2 = bt718.2.2.2 then ((curve_Conj.f k bt708.1 bt708.2.1 bt708.2.2 a1 a2).bind fun bt728 => ((kimberliteref03_Conj.f k a0_0 a0_1 l0_2 a1 a2).bind fun bt735 => ((kimberlitelaw03_told.f k bt728.1 bt728.2.1 bt728.2.2.1 bt728.2.2.2 bt735.1 bt735.2.1 bt735.2.2.1 bt735.2.2.2).bind fun bt742 => (if bt742.1 = true then ((kimberlitelaw03_alike.f k a0_0 a0_1 l0_2 bt708.1 bt708.2.1 bt708.2.2).bind fun t744 => (if t744 = true then ((kimberlitelaw03_alive.f).bind fun t745 => (some t745)) else (none))) else (none))))) else (none)) else (none)) else (none)) else (none))))) else ((kimberlitelaw03_alive.f).bind fun t701 => (some t701))) = some r := H
 have A4 := zA A40
 clear A40
 by_cases c5 : t700 = true
 ·
  subst c5
  have H1 : ((kimberlitelaw03_own.f k a0_0 a0_1 l0_2).bind fun bt708 => ((curve_Bottom.f k bt708.1 bt708.2.1 bt708.2.2).bind fun bt714 => ((kimberliteref03_Bottom.f k a0_0 a0_1 l0_2).bind fun bt718 => (if bt714.1 = bt718.1 then (if bt714.2.1 = bt718.2.1 then (if bt714.2.2.1 = bt718.2.2.1 then (if bt714.2.2.2 = bt718.2.2.2 then ((curve_Conj.f k bt708.1 bt708.2.1 bt708.2.2 a1 a2).bind fun bt728 => ((kimberliteref03_Conj.f k a0_0 a0_1 l0_2 a1 a2).bind fun bt735 => ((kimberlitelaw03_told.f k bt728.1 bt728.2.1 bt728.2.2.1 bt728.2.2.2 bt735.1 bt735.2.1 bt735.2.2.1 bt735.2.2.2).bind fun bt742 => (if bt742.1 = true then ((kimberlitelaw03_alike.f k a0_0 a0_1 l0_2 bt708.1 bt708.2.1 bt708.2.2).bind fun t744 => (if t744 = true then ((kimberlitelaw03_alive.f).bind fun t745 => (some t745)) else (none))) else (none))))) else (none)) else (none)) else (none)) else (none))))) = some r := by rw [if_pos rfl] at H; exact H
  clear H
  have H := H1
  clear H1
  replace H := Option.bind_eq_some_iff.mp H
  obtain ⟨⟨t708, t709, t710⟩, A60, H⟩ := H
  replace H : ((curve_Bottom.f k t708 t709 t710).bind fun bt714 => ((kimberliteref03_Bottom.f k a0_0 a0_1 l0_2).bind fun bt718 => (if bt714.1 = bt718.1 then (if bt714.2.1 = bt718.2.1 then (if bt714.2.2.1 = bt718.2.2.1 then (if bt714.2.2.2 = bt718.2.2.2 then ((curve_Conj.f k t708 t709 t710 a1 a2).bind fun bt728 => ((kimberliteref03_Conj.f k a0_0 a0_1 l0_2 a1 a2).bind fun bt735 => ((kimberlitelaw03_told.f k bt728.1 bt728.2.1 bt728.2.2.1 bt728.2.2.2 bt735.1 bt735.2.1 bt735.2.2.1 bt735.2.2.2).bind fun bt742 => (if bt742.1 = true then ((kimberlitelaw03_alike.f k a0_0 a0_1 l0_2 t708 t709 t710).bind fun t744 => (if t744 = true then ((kimberlitelaw03_alive.f).bind fun t745 => (some t745)) else (none))) else (none))))) else (none)) else (none)) else (none)) else (none)))) = some r := H
  have A6 := zA A60
  clear A60
  replace H := Option.bind_eq_some_iff.mp H
  obtain ⟨⟨t714, t715, t716, t717⟩, A70, H⟩ := H
  replace H : ((kimberliteref03_Bottom.f k a0_0 a0_1 l0_2).bind fun bt718 => (if t714 = bt718.1 then (if t715 = bt718.2.1 then (if t716 = bt718.2.2.1 then (if t717 = bt718.2.2.2 then ((curve_Conj.f k t708 t709 t710 a1 a2).bind fun bt728 => ((kimberliteref03_Conj.f k a0_0 a0_1 l0_2 a1 a2).bind fun bt735 => ((kimberlitelaw03_told.f k bt728.1 bt728.2.1 bt728.2.2.1 bt728.2.2.2 bt735.1 bt735.2.1 bt735.2.2.1 bt735.2.2.2).bind fun bt742 => (if bt742.1 = true then ((kimberlitelaw03_alike.f k a0_0 a0_1 l0_2 t708 t709 t710).bind fun t744 => (if t744 = true then ((kimberlitelaw03_alive.f).bind fun t745 => (some t745)) else (none))) else (none))))) else (none)) else (none)) else (none)) else (none))) = some r := H
  have A7 := zA A70
  clear A70
  replace H := Option.bind_eq_some_iff.mp H
  obtain ⟨⟨t718, t719, t720, t721⟩, A80, H⟩ := H
  replace H : (if t714 = t718 then (if t715 = t719 then (if t716 = t720 then (if t717 = t721 then ((curve_Conj.f k t708 t709 t710 a1 a2).bind fun bt728 => ((kimberliteref03_Conj.f k a0_0 a0_1 l0_2 a1 a2).bind fun bt735 => ((kimberlitelaw03_told.f k bt728.1 bt728.2.1 bt728.2.2.1 bt728.2.2.2 bt735.1 bt735.2.1 bt735.2.2.1 bt735.2.2.2).bind fun bt742 => (if bt742.1 = true then ((kimberlitelaw03_alike.f k a0_0 a0_1 l0_2 t708 t709 t710).bind fun t744 => (if t744 = true then ((kimberlitelaw03_alive.f).bind fun t745 => (some t745)) else (none))) else (none))))) else (none)) else (none)) else (none)) else (none)) = some r := H
  have A8 := zA A80
  clear A80
  by_cases c9 : t714 = t718
  ·
   rw [if_pos c9] at H
   have c9b0 : (t714 == t718) = true := beq_iff_eq.mpr c9
   have c9b1 : (t714 != t718) = false := bne_eq_false_iff_eq.mpr c9
   clear c9
   by_cases c10 : t715 = t719
   ·
    rw [if_pos c10] at H
    have c10b0 : (t715 == t719) = true := beq_iff_eq.mpr c10
    have c10b1 : (t715 != t719) = false := bne_eq_false_iff_eq.mpr c10
    clear c10
    by_cases c11 : t716 = t720
    ·
     rw [if_pos c11] at H
     have c11b0 : (t716 == t720) = true := beq_iff_eq.mpr c11
     have c11b1 : (t716 != t720) = false := bne_eq_false_iff_eq.mpr c11
     clear c11
     by_cases c12 : t717 = t721
     ·
      rw [if_pos c12] at H
      have c12b0 : (t717 == t721) = true := beq_iff_eq.mpr c12
      have c12b1 : (t717 != t721) = false := bne_eq_false_iff_eq.mpr c12
      clear c12
      replace H := Option.bind_eq_some_iff.mp H
      obtain ⟨⟨t728, t729, t730, t733⟩, A130, H⟩ := H
      replace H : ((kimberliteref03_Conj.f k a0_0 a0_1 l0_2 a1 a2).bind fun bt735 => ((kimberlitelaw03_told.f k t728 t729 t730 t733 bt735.1 bt735.2.1 bt735.2.2.1 bt735.2.2.2).bind fun bt742 => (if bt742.1 = true then ((kimberlitelaw03_alike.f k a0_0 a0_1 l0_2 t708 t709 t710).bind fun t744 => (if t744 = true then ((kimberlitelaw03_alive.f).bind fun t745 => (some t745)) else (none))) else (none)))) = some r := H
      have A13 := zA A130
      clear A130
      replace H := Option.bind_eq_some_iff.mp H
      obtain ⟨⟨t735, t736, t737, t740⟩, A140, H⟩ := H
      replace H : ((kimberlitelaw03_told.f k t728 t729 t730 t733 t735 t736 t737 t740).bind fun bt742 => (if bt742.1 = true then ((kimberlitelaw03_alike.f k a0_0 a0_1 l0_2 t708 t709 t710).bind fun t744 => (if t744 = true then ((kimberlitelaw03_alive.f).bind fun t745 => (some t745)) else (none))) else (none))) = some r := H
      have A14 := zA A140
      clear A140
      replace H := Option.bind_eq_some_iff.mp H
      obtain ⟨⟨t742, t743⟩, A150, H⟩ := H
      replace H : (if t742 = true then ((kimberlitelaw03_alike.f k a0_0 a0_1 l0_2 t708 t709 t710).bind fun t744 => (if t744 = true then ((kimberlitelaw03_alive.f).bind fun t745 => (some t745)) else (none))) else (none)) = some r := H
      have A15 := zA A150
      clear A150
      by_cases c16 : t742 = true
      ·
       subst c16
       have H1 : ((kimberlitelaw03_alike.f k a0_0 a0_1 l0_2 t708 t709 t710).bind fun t744 => (if t744 = true then ((kimberlitelaw03_alive.f).bind fun t745 => (some t745)) else (none))) = some r := by rw [if_pos rfl] at H; exact H
       clear H
       have H := H1
       clear H1
       replace H := Option.bind_eq_some_iff.mp H
       obtain ⟨t744, A170, H⟩ := H
       replace H : (if t744 = true then ((kimberlitelaw03_alive.f).bind fun t745 => (some t745)) else (none)) = some r := H
       have A17 := zA A170
       clear A170
       by_cases c18 : t744 = true
       ·
        subst c18
        have H1 : ((kimberlitelaw03_alive.f).bind fun t745 => (some t745)) = some r := by rw [if_pos rfl] at H; exact H
        clear H
        have H := H1
        clear H1
        replace H := Option.bind_eq_some_iff.mp H
        obtain ⟨t745, A190, H⟩ := H
        replace H : (some t745) = some r := H
        have A19 := zA A190
        clear A190
        obtain rfl := Option.some.inj H
        go_enter Try.func9, Try.ntmps9
        go_wp2_with (first | ((with_reducible refine gate_dst (N := 3) rfl ?_); refine box_event ?hg (N := 3) ?hd (cs := #[.int .i64 a0_0, .int .i64 a0_1, .slice A0_2 l0_2.length c0_2]) (t := 24) ?hr ?_; (case hd => rfl); (case hg => rfl); (case hr => first | (go_simp; done) | (go_simp; rfl)); intro gA hg w20 hbox hb; have n0_ := zA (below_step (by repeat (first | (with_reducible first | exact HB.out | apply zW | apply zX | apply zY) | exact HB.out)) hb); have n1_ := zA (hbox); have n2_ := zA ((by rw [hg]; exact (below_size (by repeat (first | (with_reducible first | exact HB.out | apply zW | apply zX | apply zY) | exact HB.out))) : w.heap.size ≤ gA)); have n3_ := zA ((by rw [hg]; exact (below_size (by repeat (first | (with_reducible first | exact HB.out | apply zW | apply zX | apply zY) | exact HB.out))) : w.heap.size ≤ gA)); clear HB; have HB := n0_; have BKBH := n1_; have GWBH := n2_; have GEBH := n3_; clear n0_ n1_ n2_ n3_; clear hb hbox hg; have hcz21_0 : w20.cell? ⟨gA, 0, none⟩ = some (.int .i64 a0_0) := (blk_cell BKBH.out 0).trans rfl; have hcz21_1 : w20.cell? ⟨gA, 1, none⟩ = some (.int .i64 a0_1) := (blk_cell BKBH.out 1).trans rfl; have hcz21_2 : w20.cell? ⟨gA, 2, none⟩ = some (.slice A0_2 l0_2.length c0_2) := (blk_cell BKBH.out 2).trans rfl; have hfz21_0 := blk_frozen BKBH.out 0; have hfz21_1 := blk_frozen BKBH.out 1; have hfz21_2 := blk_frozen BKBH.out 2) | ((with_reducible refine gate_callee (f := 22) rfl ?_); refine goesL_ (some 19) rfl rfl Try.func22 (by kernel_rfl) rfl #[.agg #[.int .i64 a0_0, .int .i64 a0_1, .slice A0_2 l0_2.length c0_2]] rfl (by (try simp only [List.map_toArray, List.map_cons, List.map_nil]); first | done | rfl | (simp only [List.length_drop, List.length_take]; rfl)) ?_; (with_reducible refine (kimberlitelaw03_few.calls a0_0 a0_1 _ _ l0_2 true _ ?side1 ?side2 A4.out).mono ?_); (case side1 => repeat (first | exact (Kd.C_below HR0_2.out HB.out) | (with_reducible refine Kd.C_alloc ?_ _) | (with_reducible refine Kd.C_drewN ?_ _) | (with_reducible refine Kd.C_drew ?_))); (case side2 => exact HC0_2.out); rintro e w22 ⟨rfl, hb⟩; refine ⟨_, rfl, ?_⟩; have n0_ := zA (blk_below (g := gA) (o := .cells #[.int .i64 a0_0, .int .i64 a0_1, .slice A0_2 l0_2.length c0_2] 24 (0, 0)) (by (with_reducible repeat (first | refine zN ?_ _ | refine zD ?_ | refine zB ?_ _)); exact BKBH.out) hb); have n1_ := zA (below_step (by repeat (first | (with_reducible first | exact HB.out | apply zW | apply zX | apply zY | refine zS ?_ GEBH.out) | exact HB.out)) hb); clear BKBH; clear HB; have BKBH := n0_; have HB := n1_; clear n0_ n1_; (try clear hb); (try clear hb2); (try clear hk); (try clear hi); have hcz23_0 : w22.cell? ⟨gA, 0, none⟩ = some (.int .i64 a0_0) := (blk_cell BKBH.out 0).trans rfl; have hcz23_1 : w22.cell? ⟨gA, 1, none⟩ = some (.int .i64 a0_1) := (blk_cell BKBH.out 1).trans rfl; have hcz23_2 : w22.cell? ⟨gA, 2, none⟩ = some (.slice A0_2 l0_2.length c0_2) := (blk_cell BKBH.out 2).trans rfl; have hfz23_0 := blk_frozen BKBH.out 0; have hfz23_1 := blk_frozen BKBH.out 1; have hfz23_2 := blk_frozen BKBH.out 2) | ((with_reducible refine gate_callee (f := 27) rfl ?_); refine goesL_ (some 23) rfl rfl Try.func27 (by kernel_rfl) rfl #[.agg #[.int .i64 a0_0, .int .i64 a0_1, .slice A0_2 l0_2.length c0_2]] rfl (by (try simp only [List.map_toArray, List.map_cons, List.map_nil]); first | done | rfl | (simp only [List.length_drop, List.length_take]; rfl)) ?_; (with_reducible refine (kimberlitelaw03_own.calls k a0_0 a0_1 _ _ l0_2 t708 t709 t710 _ ?side1 ?side2 A6.out).mono ?_); (case side1 => repeat (first | exact (Kd.C_below HR0_2.out HB.out) | (with_reducible refine Kd.C_alloc ?_ _) | (with_reducible refine Kd.C_drewN ?_ _) | (with_reducible refine Kd.C_drew ?_))); (case side2 => exact HC0_2.out); rintro e w24 ⟨v711, rfl, ho0, hb⟩; refine ⟨_, rfl, ?_⟩; have n0_ := zA (Kd.R_lower ho0 (below_size (by repeat (first | (with_reducible first | exact HB.out | apply zW | apply zX | apply zY | refine zS ?_ GEBH.out) | exact HB.out)))); have n1_ := zA (blk_below (g := gA) (o := .cells #[.int .i64 a0_0, .int .i64 a0_1, .slice A0_2 l0_2.length c0_2] 24 (0, 0)) (by (with_reducible repeat (first | refine zN ?_ _ | refine zD ?_ | refine zB ?_ _)); exact BKBH.out) hb); have n2_ := zA (below_step (by repeat (first | (with_reducible first | exact HB.out | apply zW | apply zX | apply zY | refine zS ?_ GEBH.out) | exact HB.out)) hb); clear BKBH; clear HB; have HOBU := n0_; have BKBH := n1_; have HB := n2_; clear n0_ n1_ n2_; (try clear hb); (try clear hb2); (try clear hk); (try clear hi); (try clear ho0)) | ((with_reducible refine gate_dst (N := 7) rfl ?_); refine box_event ?hg (N := 7) ?hd (cs := #[.int .i64 0, .int .i64 0, .slice none 0 0]) (t := 24) ?hr ?_; (case hd => rfl); (case hg => rfl); (case hr => first | (go_simp; done) | (go_simp; rfl)); intro gB hg w25 hbox hb; have n0_ := zA (Kd.R_below (by (with_reducible repeat (first | apply Kd.R_alloc | apply Kd.R_drewN | apply Kd.R_drew)); exact HOBU.out) hb); have n1_ := zA (blk_below (g := gA) (o := .cells #[.int .i64 a0_0, .int .i64 a0_1, .slice A0_2 l0_2.length c0_2] 24 (0, 0)) (by (with_reducible repeat (first | refine zN ?_ _ | refine zD ?_ | refine zB ?_ _)); exact BKBH.out) hb); have n2_ := zA (below_step (by repeat (first | (with_reducible first | exact HB.out | apply zW | apply zX | apply zY | refine zS ?_ GEBH.out) | exact HB.out)) hb); have n3_ := zA (hbox); have n4_ := zA ((by rw [hg]; exact (below_size (by repeat (first | (with_reducible first | exact HB.out | apply zW | apply zX | apply zY | refine zS ?_ GEBH.out) | exact HB.out))) : w.heap.size ≤ gB)); have n5_ := zA ((by rw [hg]; exact (below_size (by repeat (first | (with_reducible first | exact HB.out | apply zW | apply zX | apply zY | refine zS ?_ GEBH.out) | exact HB.out))) : w.heap.size ≤ gB)); have n6_ := zA ((by rw [hg]; exact Nat.ne_of_lt (blk_lt (g := gA) (o := .cells #[.int .i64 a0_0, .int .i64 a0_1, .slice A0_2 l0_2.length c0_2] 24 (0, 0)) (by (with_reducible repeat (first | refine zN ?_ _ | refine zD ?_ | refine zB ?_ _)); exact BKBH.out)) : gA ≠ gB)); have n7_ := zA ((by rw [hg]; exact Nat.ne_of_gt (blk_lt (g := gA) (o := .cells #[.int .i64 a0_0, .int .i64 a0_1, .slice A0_2 l0_2.length c0_2] 24 (0, 0)) (by (with_reducible repeat (first | refine zN ?_ _ | refine zD ?_ | refine zB ?_ _)); exact BKBH.out)) : gB ≠ gA)); clear HOBU; clear BKBH; clear HB; have HOBU := n0_; have BKBH := n1_; have HB := n2_; have BKBV := n3_; have GWBV := n4_; have GEBV := n5_; have NB699_713 := n6_; have NB713_699 := n7_; clear n0_ n1_ n2_ n3_ n4_ n5_ n6_ n7_; clear hb hbox hg; have hnb26 := NB713_699.out; have hnc26 := NB699_713.out; have hcz27_0 : w25.cell? ⟨gB, 0, none⟩ = some (.int .i64 0) := (blk_cell BKBV.out 0).trans rfl; have hcz27_1 : w25.cell? ⟨gB, 1, none⟩ = some (.int .i64 0) := (blk_cell BKBV.out 1).trans rfl; have hcz27_2 : w25.cell? ⟨gB, 2, none⟩ = some (.slice none 0 0) := (blk_cell BKBV.out 2).trans rfl; have hfz27_0 := blk_frozen BKBV.out 0; have hfz27_1 := blk_frozen BKBV.out 1; have hfz27_2 := blk_frozen BKBV.out 2; obtain ⟨Ao28, co28, eo28⟩ := Kd.R_slice HOBU.out; subst eo28) | ((with_reducible refine gate_callee (f := 34) rfl ?_); refine goesL_ (some 26) rfl rfl Try.func34 (by kernel_rfl) rfl #[.agg #[.int .i64 t708, .int .i64 t709, .slice Ao28 t710.length co28]] rfl (by (try simp only [List.map_toArray, List.map_cons, List.map_nil]); first | done | rfl | (simp only [List.length_drop, List.length_take]; rfl)) ?_; (with_reducible refine (curve_Bottom.calls k t708 t709 _ _ t710 t714 t715 t716 t717 _ ?side1 ?side2 A7.out).mono ?_); (case side1 => refine (Kd.R_reads' (e := 3) (base := w.heap.size) (ok := fun k_ => True) (n := t710.length) (c := co28) ?_).2.2; exact (by (with_reducible repeat (first | apply Kd.R_alloc | apply Kd.R_drewN | apply Kd.R_drew)); exact (Kd.R_mono (Kd.R_far (p := ⟨gB, 2, none⟩) (Kd.R_far (p := ⟨gB, 1, none⟩) (Kd.R_far (p := ⟨gB, 0, none⟩) (Kd.R_types HOBU.out BKBV.out (by decide)) (fun _ hk => hk.2) (.int .i64 t708)) (fun _ hk => hk.2) (.int .i64 t709)) (fun _ hk => hk.2) (.slice Ao28 t710.length co28)) (fun _ h_ => h_.1)))); (case side2 => exact (Kd.R_reads' HOBU.out).2.1); rintro e w29 ⟨rfl, hb⟩; refine ⟨_, rfl, ?_⟩; have n0_ := zA (Kd.R_below (by (with_reducible repeat (first | apply Kd.R_alloc | apply Kd.R_drewN | apply Kd.R_drew)); exact (Kd.R_mono (Kd.R_far (p := ⟨gB, 2, none⟩) (Kd.R_far (p := ⟨gB, 1, none⟩) (Kd.R_far (p := ⟨gB, 0, none⟩) (Kd.R_types HOBU.out BKBV.out (by decide)) (fun _ hk => hk.2) (.int .i64 t708)) (fun _ hk => hk.2) (.int .i64 t709)) (fun _ hk => hk.2) (.slice Ao28 t710.length co28)) (fun _ h_ => h_.1))) hb); have n1_ := zA (blk_below (g := gA) (o := .cells #[.int .i64 a0_0, .int .i64 a0_1, .slice A0_2 l0_2.length c0_2] 24 (0, 0)) (by (with_reducible repeat (first | refine zN ?_ _ | refine zD ?_ | refine zB ?_ _)); refine blk_far ?_ NB699_713.out _; (with_reducible repeat (first | refine zN ?_ _ | refine zD ?_ | refine zB ?_ _)); refine blk_far ?_ NB699_713.out _; (with_reducible repeat (first | refine zN ?_ _ | refine zD ?_ | refine zB ?_ _)); refine blk_far ?_ NB699_713.out _; (with_reducible repeat (first | refine zN ?_ _ | refine zD ?_ | refine zB ?_ _)); exact BKBH.out) hb); have n2_ := zA (blk_below (g := gB) (o := .cells #[.int .i64 t708, .int .i64 t709, .slice Ao28 t710.length co28] 24 (0, 0)) (by (with_reducible repeat (first | refine zN ?_ _ | refine zD ?_ | refine zB ?_ _)); refine blk_put (cs := #[.int .i64 t708, .int .i64 t709, .slice none 0 0]) ?_ 2 _ rfl; (with_reducible repeat (first | refine zN ?_ _ | refine zD ?_ | refine zB ?_ _)); refine blk_put (cs := #[.int .i64 t708, .int .i64 0, .slice none 0 0]) ?_ 1 _ rfl; (with_reducible repeat (first | refine zN ?_ _ | refine zD ?_ | refine zB ?_ _)); refine blk_put (cs := #[.int .i64 0, .int .i64 0, .slice none 0 0]) ?_ 0 _ rfl; (with_reducible repeat (first | refine zN ?_ _ | refine zD ?_ | refine zB ?_ _)); exact BKBV.out) hb); have n3_ := zA (below_step (by repeat (first | (with_reducible first | exact HB.out | apply zW | apply zX | apply zY | refine zS ?_ GEBH.out | refine zS ?_ GEBV.out) | exact HB.out)) hb); clear HOBU; clear BKBH; clear BKBV; clear HB; have HOBU := n0_; have BKBH := n1_; have BKBV := n2_; have HB := n3_; clear n0_ n1_ n2_ n3_; (try clear hb); (try clear hb2); (try clear hk); (try clear hi); have hcz30_0 : w29.cell? ⟨gA, 0, none⟩ = some (.int .i64 a0_0) := (blk_cell BKBH.out 0).trans rfl; have hcz30_1 : w29.cell? ⟨gA, 1, none⟩ = some (.int .i64 a0_1) := (blk_cell BKBH.out 1).trans rfl; have hcz30_2 : w29.cell? ⟨gA, 2, none⟩ = some (.slice A0_2 l0_2.length c0_2) := (blk_cell BKBH.out 2).trans rfl; have hfz30_0 := blk_frozen BKBH.out 0; have hfz30_1 := blk_frozen BKBH.out 1; have hfz30_2 := blk_frozen BKBH.out 2) | ((with_reducible refine gate_callee (f := 35) rfl ?_); refine goesL_ (some 33) rfl rfl Try.func35 (by kernel_rfl) rfl #[.agg #[.int .i64 a0_0, .int .i64 a0_1, .slice A0_2 l0_2.length c0_2]] rfl (by (try simp only [List.map_toArray, List.map_cons, List.map_nil]); first | done | rfl | (simp only [List.length_drop, List.length_take]; rfl)) ?_; (with_reducible refine (kimberliteref03_Bottom.calls k a0_0 a0_1 _ _ l0_2 t718 t719 t720 t721 _ ?side1 ?side2 A8.out).mono ?_); (case side1 => repeat (first | exact (Kd.C_below HR0_2.out HB.out) | (with_reducible refine Kd.C_alloc ?_ _) | (with_reducible refine Kd.C_drewN ?_ _) | (with_reducible refine Kd.C_drew ?_))); (case side2 => exact HC0_2.out); rintro e w31 ⟨rfl, hb⟩; refine ⟨_, rfl, ?_⟩; have n0_ := zA (Kd.R_below (by (with_reducible repeat (first | apply Kd.R_alloc | apply Kd.R_drewN | apply Kd.R_drew)); exact HOBU.out) hb); have n1_ := zA (blk_below (g := gA) (o := .cells #[.int .i64 a0_0, .int .i64 a0_1, .slice A0_2 l0_2.length c0_2] 24 (0, 0)) (by (with_reducible repeat (first | refine zN ?_ _ | refine zD ?_ | refine zB ?_ _)); exact BKBH.out) hb); have n2_ := zA (blk_below (g := gB) (o := .cells #[.int .i64 t708, .int .i64 t709, .slice Ao28 t710.length co28] 24 (0, 0)) (by (with_reducible repeat (first | refine zN ?_ _ | refine zD ?_ | refine zB ?_ _)); exact BKBV.out) hb); have n3_ := zA (below_step (by repeat (first | (with_reducible first | exact HB.out | apply zW | apply zX | apply zY | refine zS ?_ GEBH.out | refine zS ?_ GEBV.out) | exact HB.out)) hb); clear HOBU; clear BKBH; clear BKBV; clear HB; have HOBU := n0_; have BKBH := n1_; have BKBV := n2_; have HB := n3_; clear n0_ n1_ n2_ n3_; (try clear hb); (try clear hb2); (try clear hk); (try clear hi); have hcz32_0 : w31.cell? ⟨gB, 0, none⟩ = some (.int .i64 t708) := (blk_cell BKBV.out 0).trans rfl; have hcz32_1 : w31.cell? ⟨gB, 1, none⟩ = some (.int .i64 t709) := (blk_cell BKBV.out 1).trans rfl; have hcz32_2 : w31.cell? ⟨gB, 2, none⟩ = some (.slice Ao28 t710.length co28) := (blk_cell BKBV.out 2).trans rfl; have hfz32_0 := blk_frozen BKBV.out 0; have hfz32_1 := blk_frozen BKBV.out 1; have hfz32_2 := blk_frozen BKBV.out 2) | ((with_reducible refine gate_callee (f := 36) rfl ?_); refine goesL_ (some 60) rfl rfl Try.func36 (by kernel_rfl) rfl #[.agg #[.int .i64 t708, .int .i64 t709, .slice Ao28 t710.length co28], .int .i64 a1, .int .i64 a2] rfl (by (try simp only [List.map_toArray, List.map_cons, List.map_nil]); first | done | rfl | (simp only [List.length_drop, List.length_take]; rfl)) ?_; (with_reducible refine (curve_Conj.calls k t708 t709 _ _ t710 a1 a2 t728 t729 t730 t733 _ ?side1 ?side2 A13.out).mono ?_); (case side1 => repeat (first | exact (Kd.R_reads' HOBU.out).2.2 | (with_reducible refine Kd.C_alloc ?_ _) | (with_reducible refine Kd.C_drewN ?_ _) | (with_reducible refine Kd.C_drew ?_))); (case side2 => exact (Kd.R_reads' HOBU.out).2.1); rintro e w33 ⟨v731, rfl, ho0, hb⟩; refine ⟨_, rfl, ?_⟩; have n0_ := zA (Kd.R_elder' (by (with_reducible repeat (first | apply Kd.R_alloc | apply Kd.R_drewN | apply Kd.R_drew)); exact HOBU.out) (Kd.R_base ho0) hb); have n1_ := zA (Kd.R_lower (Kd.R_new' ho0 (Kd.R_lt (by (with_reducible repeat (first | apply Kd.R_alloc | apply Kd.R_drewN | apply Kd.R_drew)); exact HOBU.out))) (below_size (by repeat (first | (with_reducible first | exact HB.out | apply zW | apply zX | apply zY | refine zS ?_ GEBH.out | refine zS ?_ GEBV.out) | exact HB.out)))); have n2_ := zA (blk_below (g := gA) (o := .cells #[.int .i64 a0_0, .int .i64 a0_1, .slice A0_2 l0_2.length c0_2] 24 (0, 0)) (by (with_reducible repeat (first | refine zN ?_ _ | refine zD ?_ | refine zB ?_ _)); exact BKBH.out) hb); have n3_ := zA (blk_below (g := gB) (o := .cells #[.int .i64 t708, .int .i64 t709, .slice Ao28 t710.length co28] 24 (0, 0)) (by (with_reducible repeat (first | refine zN ?_ _ | refine zD ?_ | refine zB ?_ _)); exact BKBV.out) hb); have n4_ := zA (below_step (by repeat (first | (with_reducible first | exact HB.out | apply zW | apply zX | apply zY | refine zS ?_ GEBH.out | refine zS ?_ GEBV.out) | exact HB.out)) hb); clear HOBU; clear BKBH; clear BKBV; clear HB; have HOBU := n0_; have HOBo := n1_; have BKBH := n2_; have BKBV := n3_; have HB := n4_; clear n0_ n1_ n2_ n3_ n4_; (try clear hb); (try clear hb2); (try clear hk); (try clear hi); (try clear ho0)) | ((with_reducible refine gate_dst (N := 16) rfl ?_); refine box_event ?hg (N := 16) ?hd (cs := #[.int .i64 0, .int .i64 0, .slice none 0 0]) (t := 24) ?hr ?_; (case hd => rfl); (case hg => rfl); (case hr => first | (go_simp; done) | (go_simp; rfl)); intro gC hg w34 hbox hb; have n0_ := zA (Kd.R_below (by (with_reducible repeat (first | apply Kd.R_alloc | apply Kd.R_drewN | apply Kd.R_drew)); exact HOBU.out) hb); have n1_ := zA (Kd.R_below (by (with_reducible repeat (first | apply Kd.R_alloc | apply Kd.R_drewN | apply Kd.R_drew)); exact HOBo.out) hb); have n2_ := zA (blk_below (g := gA) (o := .cells #[.int .i64 a0_0, .int .i64 a0_1, .slice A0_2 l0_2.length c0_2] 24 (0, 0)) (by (with_reducible repeat (first | refine zN ?_ _ | refine zD ?_ | refine zB ?_ _)); exact BKBH.out) hb); have n3_ := zA (blk_below (g := gB) (o := .cells #[.int .i64 t708, .int .i64 t709, .slice Ao28 t710.length co28] 24 (0, 0)) (by (with_reducible repeat (first | refine zN ?_ _ | refine zD ?_ | refine zB ?_ _)); exact BKBV.out) hb); have n4_ := zA (below_step (by repeat (first | (with_reducible first | exact HB.out | apply zW | apply zX | apply zY | refine zS ?_ GEBH.out | refine zS ?_ GEBV.out) | exact HB.out)) hb); have n5_ := zA (hbox); have n6_ := zA ((by rw [hg]; exact (below_size (by repeat (first | (with_reducible first | exact HB.out | apply zW | apply zX | apply zY | refine zS ?_ GEBH.out | refine zS ?_ GEBV.out) | exact HB.out))) : w.heap.size ≤ gC)); have n7_ := zA ((by rw [hg]; exact (below_size (by repeat (first | (with_reducible first | exact HB.out | apply zW | apply zX | apply zY | refine zS ?_ GEBH.out | refine zS ?_ GEBV.out) | exact HB.out))) : w.heap.size ≤ gC)); have n8_ := zA ((by rw [hg]; exact Nat.ne_of_lt (blk_lt (g := gA) (o := .cells #[.int .i64 a0_0, .int .i64 a0_1, .slice A0_2 l0_2.length c0_2] 24 (0, 0)) (by (with_reducible repeat (first | refine zN ?_ _ | refine zD ?_ | refine zB ?_ _)); exact BKBH.out)) : gA ≠ gC)); have n9_ := zA ((by rw [hg]; exact Nat.ne_of_gt (blk_lt (g := gA) (o := .cells #[.int .i64 a0_0, .int .i64 a0_1, .slice A0_2 l0_2.length c0_2] 24 (0, 0)) (by (with_reducible repeat (first | refine zN ?_ _ | refine zD ?_ | refine zB ?_ _)); exact BKBH.out)) : gC ≠ gA)); have n10_ := zA ((by rw [hg]; exact Nat.ne_of_lt (blk_lt (g := gB) (o := .cells #[.int .i64 t708, .int .i64 t709, .slice Ao28 t710.length co28] 24 (0, 0)) (by (with_reducible repeat (first | refine zN ?_ _ | refine zD ?_ | refine zB ?_ _)); exact BKBV.out)) : gB ≠ gC)); have n11_ := zA ((by rw [hg]; exact Nat.ne_of_gt (blk_lt (g := gB) (o := .cells #[.int .i64 t708, .int .i64 t709, .slice Ao28 t710.length co28] 24 (0, 0)) (by (with_reducible repeat (first | refine zN ?_ _ | refine zD ?_ | refine zB ?_ _)); exact BKBV.out)) : gC ≠ gB)); clear HOBU; clear HOBo; clear BKBH; clear BKBV; clear HB; have HOBU := n0_; have HOBo := n1_; have BKBH := n2_; have BKBV := n3_; have HB := n4_; have BKBq := n5_; have GWBq := n6_; have GEBq := n7_; have NB699_734 := n8_; have NB734_699 := n9_; have NB713_734 := n10_; have NB734_713 := n11_; clear n0_ n1_ n2_ n3_ n4_ n5_ n6_ n7_ n8_ n9_ n10_ n11_; clear hb hbox hg; have hnb35 := NB734_699.out; have hnc35 := NB699_734.out; have hnb36 := NB734_713.out; have hnc36 := NB713_734.out; have hcz37_0 : w34.cell? ⟨gC, 0, none⟩ = some (.int .i64 0) := (blk_cell BKBq.out 0).trans rfl; have hcz37_1 : w34.cell? ⟨gC, 1, none⟩ = some (.int .i64 0) := (blk_cell BKBq.out 1).trans rfl; have hcz37_2 : w34.cell? ⟨gC, 2, none⟩ = some (.slice none 0 0) := (blk_cell BKBq.out 2).trans rfl; have hfz37_0 := blk_frozen BKBq.out 0; have hfz37_1 := blk_frozen BKBq.out 1; have hfz37_2 := blk_frozen BKBq.out 2; obtain ⟨Ao38, co38, eo38⟩ := Kd.R_slice HOBo.out; subst eo38; have hcz39_0 : w34.cell? ⟨gA, 0, none⟩ = some (.int .i64 a0_0) := (blk_cell BKBH.out 0).trans rfl; have hcz39_1 : w34.cell? ⟨gA, 1, none⟩ = some (.int .i64 a0_1) := (blk_cell BKBH.out 1).trans rfl; have hcz39_2 : w34.cell? ⟨gA, 2, none⟩ = some (.slice A0_2 l0_2.length c0_2) := (blk_cell BKBH.out 2).trans rfl; have hfz39_0 := blk_frozen BKBH.out 0; have hfz39_1 := blk_frozen BKBH.out 1; have hfz39_2 := blk_frozen BKBH.out 2) | ((with_reducible refine gate_callee (f := 37) rfl ?_); refine goesL_ (some 67) rfl rfl Try.func37 (by kernel_rfl) rfl #[.agg #[.int .i64 a0_0, .int .i64 a0_1, .slice A0_2 l0_2.length c0_2], .int .i64 a1, .int .i64 a2] rfl (by (try simp only [List.map_toArray, List.map_cons, List.map_nil]); first | done | rfl | (simp only [List.length_drop, List.length_take]; rfl)) ?_; (with_reducible refine (kimberliteref03_Conj.calls k a0_0 a0_1 _ _ l0_2 a1 a2 t735 t736 t737 t740 _ ?side1 ?side2 A14.out).mono ?_); (case side1 => exact Kd.C_below HR0_2.out (by repeat (first | (with_reducible first | exact HB.out | apply zW | apply zX | apply zY | refine zS ?_ GEBH.out | refine zS ?_ GEBV.out | refine zS ?_ GEBq.out) | exact HB.out))); (case side2 => exact HC0_2.out); rintro e w40 ⟨v738, rfl, ho0, hb⟩; refine ⟨_, rfl, ?_⟩; have n0_ := zA (Kd.R_elder' (by (with_reducible repeat (first | apply Kd.R_alloc | apply Kd.R_drewN | apply Kd.R_drew)); exact (Kd.R_mono (Kd.R_far (p := ⟨gC, 2, none⟩) (Kd.R_far (p := ⟨gC, 1, none⟩) (Kd.R_far (p := ⟨gC, 0, none⟩) (Kd.R_types HOBU.out BKBq.out (by decide)) (fun _ hk => hk.2) (.int .i64 t728)) (fun _ hk => hk.2) (.int .i64 t729)) (fun _ hk => hk.2) (.slice Ao38 t730.length co38)) (fun _ h_ => h_.1))) (Kd.R_base ho0) hb); have n1_ := zA (Kd.R_elder' (by (with_reducible repeat (first | apply Kd.R_alloc | apply Kd.R_drewN | apply Kd.R_drew)); exact (Kd.R_mono (Kd.R_far (p := ⟨gC, 2, none⟩) (Kd.R_far (p := ⟨gC, 1, none⟩) (Kd.R_far (p := ⟨gC, 0, none⟩) (Kd.R_types HOBo.out BKBq.out (by decide)) (fun _ hk => hk.2) (.int .i64 t728)) (fun _ hk => hk.2) (.int .i64 t729)) (fun _ hk => hk.2) (.slice Ao38 t730.length co38)) (fun _ h_ => h_.1))) (Kd.R_base ho0) hb); have n2_ := zA (Kd.R_lower (Kd.R_new' (Kd.R_new' ho0 (Kd.R_lt (by (with_reducible repeat (first | apply Kd.R_alloc | apply Kd.R_drewN | apply Kd.R_drew)); exact (Kd.R_mono (Kd.R_far (p := ⟨gC, 2, none⟩) (Kd.R_far (p := ⟨gC, 1, none⟩) (Kd.R_far (p := ⟨gC, 0, none⟩) (Kd.R_types HOBU.out BKBq.out (by decide)) (fun _ hk => hk.2) (.int .i64 t728)) (fun _ hk => hk.2) (.int .i64 t729)) (fun _ hk => hk.2) (.slice Ao38 t730.length co38)) (fun _ h_ => h_.1))))) (Kd.R_lt (by (with_reducible repeat (first | apply Kd.R_alloc | apply Kd.R_drewN | apply Kd.R_drew)); exact (Kd.R_mono (Kd.R_far (p := ⟨gC, 2, none⟩) (Kd.R_far (p := ⟨gC, 1, none⟩) (Kd.R_far (p := ⟨gC, 0, none⟩) (Kd.R_types HOBo.out BKBq.out (by decide)) (fun _ hk => hk.2) (.int .i64 t728)) (fun _ hk => hk.2) (.int .i64 t729)) (fun _ hk => hk.2) (.slice Ao38 t730.length co38)) (fun _ h_ => h_.1))))) (below_size (by repeat (first | (with_reducible first | exact HB.out | apply zW | apply zX | apply zY | refine zS ?_ GEBH.out | refine zS ?_ GEBV.out | refine zS ?_ GEBq.out) | exact HB.out)))); have n3_ := zA (blk_below (g := gA) (o := .cells #[.int .i64 a0_0, .int .i64 a0_1, .slice A0_2 l0_2.length c0_2] 24 (0, 0)) (by (with_reducible repeat (first | refine zN ?_ _ | refine zD ?_ | refine zB ?_ _)); refine blk_far ?_ NB699_734.out _; (with_reducible repeat (first | refine zN ?_ _ | refine zD ?_ | refine zB ?_ _)); refine blk_far ?_ NB699_734.out _; (with_reducible repeat (first | refine zN ?_ _ | refine zD ?_ | refine zB ?_ _)); refine blk_far ?_ NB699_734.out _; (with_reducible repeat (first | refine zN ?_ _ | refine zD ?_ | refine zB ?_ _)); exact BKBH.out) hb); have n4_ := zA (blk_below (g := gB) (o := .cells #[.int .i64 t708, .int .i64 t709, .slice Ao28 t710.length co28] 24 (0, 0)) (by (with_reducible repeat (first | refine zN ?_ _ | refine zD ?_ | refine zB ?_ _)); refine blk_far ?_ NB713_734.out _; (with_reducible repeat (first | refine zN ?_ _ | refine zD ?_ | refine zB ?_ _)); refine blk_far ?_ NB713_734.out _; (with_reducible repeat (first | refine zN ?_ _ | refine zD ?_ | refine zB ?_ _)); refine blk_far ?_ NB713_734.out _; (with_reducible repeat (first | refine zN ?_ _ | refine zD ?_ | refine zB ?_ _)); exact BKBV.out) hb); have n5_ := zA (blk_below (g := gC) (o := .cells #[.int .i64 t728, .int .i64 t729, .slice Ao38 t730.length co38] 24 (0, 0)) (by (with_reducible repeat (first | refine zN ?_ _ | refine zD ?_ | refine zB ?_ _)); refine blk_put (cs := #[.int .i64 t728, .int .i64 t729, .slice none 0 0]) ?_ 2 _ rfl; (with_reducible repeat (first | refine zN ?_ _ | refine zD ?_ | refine zB ?_ _)); refine blk_put (cs := #[.int .i64 t728, .int .i64 0, .slice none 0 0]) ?_ 1 _ rfl; (with_reducible repeat (first | refine zN ?_ _ | refine zD ?_ | refine zB ?_ _)); refine blk_put (cs := #[.int .i64 0, .int .i64 0, .slice none 0 0]) ?_ 0 _ rfl; (with_reducible repeat (first | refine zN ?_ _ | refine zD ?_ | refine zB ?_ _)); exact BKBq.out) hb); have n6_ := zA (below_step (by repeat (first | (with_reducible first | exact HB.out | apply zW | apply zX | apply zY | refine zS ?_ GEBH.out | refine zS ?_ GEBV.out | refine zS ?_ GEBq.out) | exact HB.out)) hb); clear HOBU; clear HOBo; clear BKBH; clear BKBV; clear BKBq; clear HB; have HOBU := n0_; have HOBo := n1_; have HOBv := n2_; have BKBH := n3_; have BKBV := n4_; have BKBq := n5_; have HB := n6_; clear n0_ n1_ n2_ n3_ n4_ n5_ n6_; (try clear hb); (try clear hb2); (try clear hk); (try clear hi); (try clear ho0)) | ((with_reducible refine gate_dst (N := 17) rfl ?_); refine box_event ?hg (N := 17) ?hd (cs := #[.int .i64 0, .int .i64 0, .slice none 0 0]) (t := 24) ?hr ?_; (case hd => rfl); (case hg => rfl); (case hr => first | (go_simp; done) | (go_simp; rfl)); intro gD hg w41 hbox hb; have n0_ := zA (Kd.R_below (by (with_reducible repeat (first | apply Kd.R_alloc | apply Kd.R_drewN | apply Kd.R_drew)); exact HOBU.out) hb); have n1_ := zA (Kd.R_below (by (with_reducible repeat (first | apply Kd.R_alloc | apply Kd.R_drewN | apply Kd.R_drew)); exact HOBo.out) hb); have n2_ := zA (Kd.R_below (by (with_reducible repeat (first | apply Kd.R_alloc | apply Kd.R_drewN | apply Kd.R_drew)); exact HOBv.out) hb); have n3_ := zA (blk_below (g := gA) (o := .cells #[.int .i64 a0_0, .int .i64 a0_1, .slice A0_2 l0_2.length c0_2] 24 (0, 0)) (by (with_reducible repeat (first | refine zN ?_ _ | refine zD ?_ | refine zB ?_ _)); exact BKBH.out) hb); have n4_ := zA (blk_below (g := gB) (o := .cells #[.int .i64 t708, .int .i64 t709, .slice Ao28 t710.length co28] 24 (0, 0)) (by (with_reducible repeat (first | refine zN ?_ _ | refine zD ?_ | refine zB ?_ _)); exact BKBV.out) hb); have n5_ := zA (blk_below (g := gC) (o := .cells #[.int .i64 t728, .int .i64 t729, .slice Ao38 t730.length co38] 24 (0, 0)) (by (with_reducible repeat (first | refine zN ?_ _ | refine zD ?_ | refine zB ?_ _)); exact BKBq.out) hb); have n6_ := zA (below_step (by repeat (first | (with_reducible first | exact HB.out | apply zW | apply zX | apply zY | refine zS ?_ GEBH.out | refine zS ?_ GEBV.out | refine zS ?_ GEBq.out) | exact HB.out)) hb); have n7_ := zA (hbox); have n8_ := zA ((by rw [hg]; exact (below_size (by repeat (first | (with_reducible first | exact HB.out | apply zW | apply zX | apply zY | refine zS ?_ GEBH.out | refine zS ?_ GEBV.out | refine zS ?_ GEBq.out) | exact HB.out))) : w.heap.size ≤ gD)); have n9_ := zA ((by rw [hg]; exact (below_size (by repeat (first | (with_reducible first | exact HB.out | apply zW | apply zX | apply zY | refine zS ?_ GEBH.out | refine zS ?_ GEBV.out | refine zS ?_ GEBq.out) | exact HB.out))) : w.heap.size ≤ gD)); have n10_ := zA ((by rw [hg]; exact Nat.ne_of_lt (blk_lt (g := gA) (o := .cells #[.int .i64 a0_0, .int .i64 a0_1, .slice A0_2 l0_2.length c0_2] 24 (0, 0)) (by (with_reducible repeat (first | refine zN ?_ _ | refine zD ?_ | refine zB ?_ _)); exact BKBH.out)) : gA ≠ gD)); have n11_ := zA ((by rw [hg]; exact Nat.ne_of_gt (blk_lt (g := gA) (o := .cells #[.int .i64 a0_0, .int .i64 a0_1, .slice A0_2 l0_2.length c0_2] 24 (0, 0)) (by (with_reducible repeat (first | refine zN ?_ _ | refine zD ?_ | refine zB ?_ _)); exact BKBH.out)) : gD ≠ gA)); have n12_ := zA ((by rw [hg]; exact Nat.ne_of_lt (blk_lt (g := gB) (o := .cells #[.int .i64 t708, .int .i64 t709, .slice Ao28 t710.length co28] 24 (0, 0)) (by (with_reducible repeat (first | refine zN ?_ _ | refine zD ?_ | refine zB ?_ _)); exact BKBV.out)) : gB ≠ gD)); have n13_ := zA ((by rw [hg]; exact Nat.ne_of_gt (blk_lt (g := gB) (o := .cells #[.int .i64 t708, .int .i64 t709, .slice Ao28 t710.length co28] 24 (0, 0)) (by (with_reducible repeat (first | refine zN ?_ _ | refine zD ?_ | refine zB ?_ _)); exact BKBV.out)) : gD ≠ gB)); have n14_ := zA ((by rw [hg]; exact Nat.ne_of_lt (blk_lt (g := gC) (o := .cells #[.int .i64 t728, .int .i64 t729, .slice Ao38 t730.length co38] 24 (0, 0)) (by (with_reducible repeat (first | refine zN ?_ _ | refine zD ?_ | refine zB ?_ _)); exact BKBq.out)) : gC ≠ gD)); have n15_ := zA ((by rw [hg]; exact Nat.ne_of_gt (blk_lt (g := gC) (o := .cells #[.int .i64 t728, .int .i64 t729, .slice Ao38 t730.length co38] 24 (0, 0)) (by (with_reducible repeat (first | refine zN ?_ _ | refine zD ?_ | refine zB ?_ _)); exact BKBq.out)) : gD ≠ gC)); clear HOBU; clear HOBo; clear HOBv; clear BKBH; clear BKBV; clear BKBq; clear HB; have HOBU := n0_; have HOBo := n1_; have HOBv := n2_; have BKBH := n3_; have BKBV := n4_; have BKBq := n5_; have HB := n6_; have BKBx := n7_; have GWBx := n8_; have GEBx := n9_; have NB699_741 := n10_; have NB741_699 := n11_; have NB713_741 := n12_; have NB741_713 := n13_; have NB734_741 := n14_; have NB741_734 := n15_; clear n0_ n1_ n2_ n3_ n4_ n5_ n6_ n7_ n8_ n9_ n10_ n11_ n12_ n13_ n14_ n15_; clear hb hbox hg; have hnb42 := NB741_699.out; have hnc42 := NB699_741.out; have hnb43 := NB741_713.out; have hnc43 := NB713_741.out; have hnb44 := NB741_734.out; have hnc44 := NB734_741.out; have hcz45_0 : w41.cell? ⟨gD, 0, none⟩ = some (.int .i64 0) := (blk_cell BKBx.out 0).trans rfl; have hcz45_1 : w41.cell? ⟨gD, 1, none⟩ = some (.int .i64 0) := (blk_cell BKBx.out 1).trans rfl; have hcz45_2 : w41.cell? ⟨gD, 2, none⟩ = some (.slice none 0 0) := (blk_cell BKBx.out 2).trans rfl; have hfz45_0 := blk_frozen BKBx.out 0; have hfz45_1 := blk_frozen BKBx.out 1; have hfz45_2 := blk_frozen BKBx.out 2; obtain ⟨Ao46, co46, eo46⟩ := Kd.R_slice HOBv.out; subst eo46) | ((with_reducible refine gate_store (t := 24) (p := 17) rfl ?_); refine store_event (t := 24) (p := 17) (v := ?vo_w47) (w1 := (((w41.setCell ⟨gD, 0, none⟩ (.int .i64 t735)).setCell ⟨gD, 1, none⟩ (.int .i64 t736)).setCell ⟨gD, 2, none⟩ (.slice Ao46 t737.length co46))) ?hg ?ho ?hn ?hr ?_; (case ho => rfl); (case hg => rfl); (case hn => rfl); (case hr => first | (go_simp; done) | (go_simp; rfl)); intro w47 hw; have n0_ : Aside0 (Kd.R (Kd.int .i64) 3 w47 w.heap.size (fun k_ => some k_ ≠ (.slice Ao38 t730.length co38 : Value).ownBlock ∧ some k_ ≠ (.slice Ao46 t737.length co46 : Value).ownBlock) (.slice Ao28 t710.length co28) t710) := ⟨(by rw [hw]; exact (by (with_reducible repeat (first | apply Kd.R_alloc | apply Kd.R_drewN | apply Kd.R_drew)); exact Kd.R_mono (Kd.R_far (p := ⟨gD, 2, none⟩) (Kd.R_far (p := ⟨gD, 1, none⟩) (Kd.R_far (p := ⟨gD, 0, none⟩) (Kd.R_types HOBU.out BKBx.out (by decide)) (fun _ hk => hk.2) (.int .i64 t735)) (fun _ hk => hk.2) (.int .i64 t736)) (fun _ hk => hk.2) (.slice Ao46 t737.length co46)) (fun _ hk => ⟨hk.1.1.2, hk.1.2⟩)))⟩; have n1_ : Aside0 (Kd.R (Kd.int .i64) 3 w47 w.heap.size (fun k_ => some k_ ≠ (.slice Ao28 t710.length co28 : Value).ownBlock ∧ some k_ ≠ (.slice Ao46 t737.length co46 : Value).ownBlock) (.slice Ao38 t730.length co38) t730) := ⟨(by rw [hw]; exact (by (with_reducible repeat (first | apply Kd.R_alloc | apply Kd.R_drewN | apply Kd.R_drew)); exact Kd.R_mono (Kd.R_far (p := ⟨gD, 2, none⟩) (Kd.R_far (p := ⟨gD, 1, none⟩) (Kd.R_far (p := ⟨gD, 0, none⟩) (Kd.R_types HOBo.out BKBx.out (by decide)) (fun _ hk => hk.2) (.int .i64 t735)) (fun _ hk => hk.2) (.int .i64 t736)) (fun _ hk => hk.2) (.slice Ao46 t737.length co46)) (fun _ hk => ⟨hk.1.1.2, hk.1.2⟩)))⟩; have n2_ : Aside0 (Kd.R (Kd.int .i64) 3 w47 w.heap.size (fun k_ => some k_ ≠ (.slice Ao28 t710.length co28 : Value).ownBlock ∧ some k_ ≠ (.slice Ao38 t730.length co38 : Value).ownBlock) (.slice Ao46 t737.length co46) t737) := ⟨(by rw [hw]; exact (by (with_reducible repeat (first | apply Kd.R_alloc | apply Kd.R_drewN | apply Kd.R_drew)); exact Kd.R_mono (Kd.R_far (p := ⟨gD, 2, none⟩) (Kd.R_far (p := ⟨gD, 1, none⟩) (Kd.R_far (p := ⟨gD, 0, none⟩) (Kd.R_types HOBv.out BKBx.out (by decide)) (fun _ hk => hk.2) (.int .i64 t735)) (fun _ hk => hk.2) (.int .i64 t736)) (fun _ hk => hk.2) (.slice Ao46 t737.length co46)) (fun _ hk => ⟨hk.1.1.2, hk.1.2⟩)))⟩; have n3_ : Aside0 (w47.heap[gA]? = some (.cells #[.int .i64 a0_0, .int .i64 a0_1, .slice A0_2 l0_2.length c0_2] 24 (0, 0))) := ⟨(by rw [hw]; exact (by (with_reducible repeat (first | refine zN ?_ _ | refine zD ?_ | refine zB ?_ _)); refine blk_far ?_ NB699_741.out _; (with_reducible repeat (first | refine zN ?_ _ | refine zD ?_ | refine zB ?_ _)); refine blk_far ?_ NB699_741.out _; (with_reducible repeat (first | refine zN ?_ _ | refine zD ?_ | refine zB ?_ _)); refine blk_far ?_ NB699_741.out _; (with_reducible repeat (first | refine zN ?_ _ | refine zD ?_ | refine zB ?_ _)); exact BKBH.out))⟩; have n4_ : Aside0 (w47.heap[gB]? = some (.cells #[.int .i64 t708, .int .i64 t709, .slice Ao28 t710.length co28] 24 (0, 0))) := ⟨(by rw [hw]; exact (by (with_reducible repeat (first | refine zN ?_ _ | refine zD ?_ | refine zB ?_ _)); refine blk_far ?_ NB713_741.out _; (with_reducible repeat (first | refine zN ?_ _ | refine zD ?_ | refine zB ?_ _)); refine blk_far ?_ NB713_741.out _; (with_reducible repeat (first | refine zN ?_ _ | refine zD ?_ | refine zB ?_ _)); refine blk_far ?_ NB713_741.out _; (with_reducible repeat (first | refine zN ?_ _ | refine zD ?_ | refine zB ?_ _)); exact BKBV.out))⟩; have n5_ : Aside0 (w47.heap[gC]? = some (.cells #[.int .i64 t728, .int .i64 t729, .slice Ao38 t730.length co38] 24 (0, 0))) := ⟨(by rw [hw]; exact (by (with_reducible repeat (first | refine zN ?_ _ | refine zD ?_ | refine zB ?_ _)); refine blk_far ?_ NB734_741.out _; (with_reducible repeat (first | refine zN ?_ _ | refine zD ?_ | refine zB ?_ _)); refine blk_far ?_ NB734_741.out _; (with_reducible repeat (first | refine zN ?_ _ | refine zD ?_ | refine zB ?_ _)); refine blk_far ?_ NB734_741.out _; (with_reducible repeat (first | refine zN ?_ _ | refine zD ?_ | refine zB ?_ _)); exact BKBq.out))⟩; have n6_ : Aside0 (w47.heap[gD]? = some (.cells #[.int .i64 t735, .int .i64 t736, .slice Ao46 t737.length co46] 24 (0, 0))) := ⟨(by rw [hw]; exact (by (with_reducible repeat (first | refine zN ?_ _ | refine zD ?_ | refine zB ?_ _)); refine blk_put (cs := #[.int .i64 t735, .int .i64 t736, .slice none 0 0]) ?_ 2 _ rfl; (with_reducible repeat (first | refine zN ?_ _ | refine zD ?_ | refine zB ?_ _)); refine blk_put (cs := #[.int .i64 t735, .int .i64 0, .slice none 0 0]) ?_ 1 _ rfl; (with_reducible repeat (first | refine zN ?_ _ | refine zD ?_ | refine zB ?_ _)); refine blk_put (cs := #[.int .i64 0, .int .i64 0, .slice none 0 0]) ?_ 0 _ rfl; (with_reducible repeat (first | refine zN ?_ _ | refine zD ?_ | refine zB ?_ _)); exact BKBx.out))⟩; have n7_ : Aside0 (Below w.heap.size w w47) := ⟨(by rw [hw]; exact (by repeat (first | (with_reducible first | exact HB.out | apply zW | apply zX | apply zY | refine zS ?_ GEBH.out | refine zS ?_ GEBV.out | refine zS ?_ GEBq.out | refine zS ?_ GEBx.out) | exact HB.out)))⟩; clear hw; clear HOBU; clear HOBo; clear HOBv; clear BKBH; clear BKBV; clear BKBq; clear BKBx; clear HB; have HOBU := n0_; have HOBo := n1_; have HOBv := n2_; have BKBH := n3_; have BKBV := n4_; have BKBq := n5_; have BKBx := n6_; have HB := n7_; clear n0_ n1_ n2_ n3_ n4_ n5_ n6_ n7_; have hcz48_0 : w47.cell? ⟨gC, 0, none⟩ = some (.int .i64 t728) := (blk_cell BKBq.out 0).trans rfl; have hcz48_1 : w47.cell? ⟨gC, 1, none⟩ = some (.int .i64 t729) := (blk_cell BKBq.out 1).trans rfl; have hcz48_2 : w47.cell? ⟨gC, 2, none⟩ = some (.slice Ao38 t730.length co38) := (blk_cell BKBq.out 2).trans rfl; have hfz48_0 := blk_frozen BKBq.out 0; have hfz48_1 := blk_frozen BKBq.out 1; have hfz48_2 := blk_frozen BKBq.out 2; have hcz49_0 : w47.cell? ⟨gD, 0, none⟩ = some (.int .i64 t735) := (blk_cell BKBx.out 0).trans rfl; have hcz49_1 : w47.cell? ⟨gD, 1, none⟩ = some (.int .i64 t736) := (blk_cell BKBx.out 1).trans rfl; have hcz49_2 : w47.cell? ⟨gD, 2, none⟩ = some (.slice Ao46 t737.length co46) := (blk_cell BKBx.out 2).trans rfl; have hfz49_0 := blk_frozen BKBx.out 0; have hfz49_1 := blk_frozen BKBx.out 1; have hfz49_2 := blk_frozen BKBx.out 2) | ((with_reducible refine gate_callee (f := 33) rfl ?_); refine goesL_ (some 74) rfl rfl Try.func33 (by kernel_rfl) rfl #[.agg #[.int .i64 t728, .int .i64 t729, .slice Ao38 t730.length co38], .int .i64 t733, .agg #[.int .i64 t735, .int .i64 t736, .slice Ao46 t737.length co46], .int .i64 t740] rfl (by (try simp only [List.map_toArray, List.map_cons, List.map_nil]); first | done | rfl | (simp only [List.length_drop, List.length_take]; rfl)) ?_; (with_reducible refine (kimberlitelaw03_told.calls k t728 t729 (fun k_ => some k_ = (.slice Ao38 t730.length co38 : Value).ownBlock) (.slice Ao38 t730.length co38) t730 t733 t735 t736 _ _ t737 t740 true t743 w _ ?side1 ?side2 ?side3 ?side4 A15.out).mono ?_); (case side1 => repeat (first | (with_reducible first | exact HB.out | apply zW | apply zX | apply zY | refine zS ?_ GEBH.out | refine zS ?_ GEBV.out | refine zS ?_ GEBq.out | refine zS ?_ GEBx.out) | exact HB.out)); (case side2 => exact Kd.R_tight rfl HOBo.out); (case side3 => exact Kd.C_kept_own (HOBv.out) (fun k_ hk_ hs_ => (hk_.2) hs_)); (case side4 => exact (Kd.R_reads' HOBv.out).2.1); rintro e w50 ⟨rfl, hy0, hb, hkp⟩; refine ⟨_, rfl, ?_⟩; have n0_ := zA (blk_kept (by (with_reducible repeat (first | refine zN ?_ _ | refine zD ?_ | refine zB ?_ _)); exact BKBH.out) hkp (fun hs_ => (fun e_ => (Kd.R_ne HOBo.out BKBH.out (by decide)) e_) hs_)); have n1_ := zA (Kd.R_mono (ok' := fun k_ => some k_ ≠ (.slice Ao38 t730.length co38 : Value).ownBlock ∧ some k_ ≠ (.slice Ao46 t737.length co46 : Value).ownBlock) (Kd.R_keptB (HOBU.out) hkp (fun k_ hk_ hs_ => (hk_.1) hs_)) (fun k_ hk_ => ⟨hk_.1.1, hk_.1.2⟩)); have n2_ := zA (blk_kept (by (with_reducible repeat (first | refine zN ?_ _ | refine zD ?_ | refine zB ?_ _)); exact BKBV.out) hkp (fun hs_ => (fun e_ => (Kd.R_ne HOBo.out BKBV.out (by decide)) e_) hs_)); have n3_ := zA (Kd.R_reok rfl hy0 (fun k_ e_ => HOBo.out.1 k_ e_)); have n4_ := zA (blk_kept (by (with_reducible repeat (first | refine zN ?_ _ | refine zD ?_ | refine zB ?_ _)); exact BKBq.out) hkp (fun hs_ => (fun e_ => (Kd.R_ne HOBo.out BKBq.out (by decide)) e_) hs_)); have n5_ := zA (Kd.R_mono (ok' := fun k_ => some k_ ≠ (.slice Ao28 t710.length co28 : Value).ownBlock ∧ some k_ ≠ (.slice Ao38 t730.length co38 : Value).ownBlock) (Kd.R_keptB (HOBv.out) hkp (fun k_ hk_ hs_ => (hk_.2) hs_)) (fun k_ hk_ => ⟨hk_.1.1, hk_.1.2⟩)); have n6_ := zA (blk_kept (by (with_reducible repeat (first | refine zN ?_ _ | refine zD ?_ | refine zB ?_ _)); exact BKBx.out) hkp (fun hs_ => (fun e_ => (Kd.R_ne HOBo.out BKBx.out (by decide)) e_) hs_)); have n7_ := zA (hb); clear BKBH; clear HOBU; clear BKBV; clear HOBo; clear BKBq; clear HOBv; clear BKBx; clear HB; have BKBH := n0_; have HOBU := n1_; have BKBV := n2_; have HOBo := n3_; have BKBq := n4_; have HOBv := n5_; have BKBx := n6_; have HB := n7_; clear n0_ n1_ n2_ n3_ n4_ n5_ n6_ n7_; (try clear hb); (try clear hkp); (try clear hy0); have hcz51_0 : w50.cell? ⟨gA, 0, none⟩ = some (.int .i64 a0_0) := (blk_cell BKBH.out 0).trans rfl; have hcz51_1 : w50.cell? ⟨gA, 1, none⟩ = some (.int .i64 a0_1) := (blk_cell BKBH.out 1).trans rfl; have hcz51_2 : w50.cell? ⟨gA, 2, none⟩ = some (.slice A0_2 l0_2.length c0_2) := (blk_cell BKBH.out 2).trans rfl; have hfz51_0 := blk_frozen BKBH.out 0; have hfz51_1 := blk_frozen BKBH.out 1; have hfz51_2 := blk_frozen BKBH.out 2; have hcz52_0 : w50.cell? ⟨gB, 0, none⟩ = some (.int .i64 t708) := (blk_cell BKBV.out 0).trans rfl; have hcz52_1 : w50.cell? ⟨gB, 1, none⟩ = some (.int .i64 t709) := (blk_cell BKBV.out 1).trans rfl; have hcz52_2 : w50.cell? ⟨gB, 2, none⟩ = some (.slice Ao28 t710.length co28) := (blk_cell BKBV.out 2).trans rfl; have hfz52_0 := blk_frozen BKBV.out 0; have hfz52_1 := blk_frozen BKBV.out 1; have hfz52_2 := blk_frozen BKBV.out 2) | (go_at_call 15; (with_reducible refine (kimberlitelaw03_alike.calls k a0_0 a0_1 _ _ l0_2 t708 t709 _ _ t710 true _ ?side1 ?side2 ?side3 ?side4 A17.out).mono ?_); (case side1 => repeat (first | exact (Kd.C_below HR0_2.out HB.out) | (with_reducible refine Kd.C_alloc ?_ _) | (with_reducible refine Kd.C_drewN ?_ _) | (with_reducible refine Kd.C_drew ?_))); (case side2 => exact HC0_2.out); (case side3 => repeat (first | exact (Kd.R_reads' HOBU.out).2.2 | (with_reducible refine Kd.C_alloc ?_ _) | (with_reducible refine Kd.C_drewN ?_ _) | (with_reducible refine Kd.C_drew ?_))); (case side4 => exact (Kd.R_reads' HOBU.out).2.1); rintro e w53 ⟨rfl, hb⟩; have n0_ := zA (Kd.R_below (by (with_reducible repeat (first | apply Kd.R_alloc | apply Kd.R_drewN | apply Kd.R_drew)); exact HOBU.out) hb); have n1_ := zA (Kd.R_below (by (with_reducible repeat (first | apply Kd.R_alloc | apply Kd.R_drewN | apply Kd.R_drew)); exact HOBo.out) hb); have n2_ := zA (Kd.R_below (by (with_reducible repeat (first | apply Kd.R_alloc | apply Kd.R_drewN | apply Kd.R_drew)); exact HOBv.out) hb); have n3_ := zA (blk_below (g := gA) (o := .cells #[.int .i64 a0_0, .int .i64 a0_1, .slice A0_2 l0_2.length c0_2] 24 (0, 0)) (by (with_reducible repeat (first | refine zN ?_ _ | refine zD ?_ | refine zB ?_ _)); exact BKBH.out) hb); have n4_ := zA (blk_below (g := gB) (o := .cells #[.int .i64 t708, .int .i64 t709, .slice Ao28 t710.length co28] 24 (0, 0)) (by (with_reducible repeat (first | refine zN ?_ _ | refine zD ?_ | refine zB ?_ _)); exact BKBV.out) hb); have n5_ := zA (blk_below (g := gC) (o := .cells #[.int .i64 t728, .int .i64 t729, .slice Ao38 t730.length co38] 24 (0, 0)) (by (with_reducible repeat (first | refine zN ?_ _ | refine zD ?_ | refine zB ?_ _)); exact BKBq.out) hb); have n6_ := zA (blk_below (g := gD) (o := .cells #[.int .i64 t735, .int .i64 t736, .slice Ao46 t737.length co46] 24 (0, 0)) (by (with_reducible repeat (first | refine zN ?_ _ | refine zD ?_ | refine zB ?_ _)); exact BKBx.out) hb); have n7_ := zA (below_step (by repeat (first | (with_reducible first | exact HB.out | apply zW | apply zX | apply zY | refine zS ?_ GEBH.out | refine zS ?_ GEBV.out | refine zS ?_ GEBq.out | refine zS ?_ GEBx.out) | exact HB.out)) hb); clear HOBU; clear HOBo; clear HOBv; clear BKBH; clear BKBV; clear BKBq; clear BKBx; clear HB; have HOBU := n0_; have HOBo := n1_; have HOBv := n2_; have BKBH := n3_; have BKBV := n4_; have BKBq := n5_; have BKBx := n6_; have HB := n7_; clear n0_ n1_ n2_ n3_ n4_ n5_ n6_ n7_; (try clear hb); (try clear hb2); (try clear hk); (try clear hi)) | (go_at_call 17; (with_reducible refine (kimberlitelaw03_alive.calls  t745 _ A19.out).mono ?_); rintro e w54 ⟨rfl, hb⟩; have n0_ := zA (Kd.R_below (by (with_reducible repeat (first | apply Kd.R_alloc | apply Kd.R_drewN | apply Kd.R_drew)); exact HOBU.out) hb); have n1_ := zA (Kd.R_below (by (with_reducible repeat (first | apply Kd.R_alloc | apply Kd.R_drewN | apply Kd.R_drew)); exact HOBo.out) hb); have n2_ := zA (Kd.R_below (by (with_reducible repeat (first | apply Kd.R_alloc | apply Kd.R_drewN | apply Kd.R_drew)); exact HOBv.out) hb); have n3_ := zA (blk_below (g := gA) (o := .cells #[.int .i64 a0_0, .int .i64 a0_1, .slice A0_2 l0_2.length c0_2] 24 (0, 0)) (by (with_reducible repeat (first | refine zN ?_ _ | refine zD ?_ | refine zB ?_ _)); exact BKBH.out) hb); have n4_ := zA (blk_below (g := gB) (o := .cells #[.int .i64 t708, .int .i64 t709, .slice Ao28 t710.length co28] 24 (0, 0)) (by (with_reducible repeat (first | refine zN ?_ _ | refine zD ?_ | refine zB ?_ _)); exact BKBV.out) hb); have n5_ := zA (blk_below (g := gC) (o := .cells #[.int .i64 t728, .int .i64 t729, .slice Ao38 t730.length co38] 24 (0, 0)) (by (with_reducible repeat (first | refine zN ?_ _ | refine zD ?_ | refine zB ?_ _)); exact BKBq.out) hb); have n6_ := zA (blk_below (g := gD) (o := .cells #[.int .i64 t735, .int .i64 t736, .slice Ao46 t737.length co46] 24 (0, 0)) (by (with_reducible repeat (first | refine zN ?_ _ | refine zD ?_ | refine zB ?_ _)); exact BKBx.out) hb); have n7_ := zA (below_step (by repeat (first | (with_reducible first | exact HB.out | apply zW | apply zX | apply zY | refine zS ?_ GEBH.out | refine zS ?_ GEBV.out | refine zS ?_ GEBq.out | refine zS ?_ GEBx.out) | exact HB.out)) hb); clear HOBU; clear HOBo; clear HOBv; clear BKBH; clear BKBV; clear BKBq; clear BKBx; clear HB; have HOBU := n0_; have HOBo := n1_; have HOBv := n2_; have BKBH := n3_; have BKBV := n4_; have BKBq := n5_; have BKBx := n6_; have HB := n7_; clear n0_ n1_ n2_ n3_ n4_ n5_ n6_ n7_; (try clear hb); (try clear hb2); (try clear hk); (try clear hi)))
        go_ret
        exact ⟨by first | rfl | (simp [errW_none, errW_some] <;> rfl) | (simp [*, errW_none, errW_some] <;> rfl), by repeat (first | (with_reducible first | exact HB.out | apply zW | apply zX | apply zY | refine zS ?_ GEBH.out | refine zS ?_ GEBV.out | refine zS ?_ GEBq.out | refine zS ?_ GEBx.out) | exact HB.out)⟩
       ·
        replace c18 := Bool.eq_false_iff.mpr c18
        subst c18
        have H1 : (none) = some r := by rw [if_neg (show ¬ (false = true) by decide)] at H; exact H
        clear H
        have H := H1
        clear H1
        exact absurd H (by simp)
      ·
       replace c16 := Bool.eq_false_iff.mpr c16
       subst c16
       have H1 : (none) = some r := by rw [if_neg (show ¬ (false = true) by decide)] at H; exact H
       clear H
       have H := H1
       clear H1
       exact absurd H (by simp)
     ·
      rw [if_neg c12] at H
      exact absurd H (by simp)
    ·
     rw [if_neg c11] at H
     exact absurd H (by simp)
   ·
    rw [if_neg c10] at H
    exact absurd H (by simp)
  ·
   rw [if_neg c9] at H
   exact absurd H (by simp)
 ·
  replace c5 := Bool.eq_false_iff.mpr c5
  subst c5
  have H1 : ((kimberlitelaw03_alive.f).bind fun t701 => (some t701)) = some r := by rw [if_neg (show ¬ (false = true) by decide)] at H; exact H
  clear H
  have H := H1
  clear H1
  replace H := Option.bind_eq_some_iff.mp H
  obtain ⟨t701, A550, H⟩ := H
  replace H : (some t701) = some r := H
  have A55 := zA A550
  clear A550
  obtain rfl := Option.some.inj H
  go_enter Try.func9, Try.ntmps9
  go_wp2_with (first | ((with_reducible refine gate_dst (N := 3) rfl ?_); refine box_event ?hg (N := 3) ?hd (cs := #[.int .i64 a0_0, .int .i64 a0_1, .slice A0_2 l0_2.length c0_2]) (t := 24) ?hr ?_; (case hd => rfl); (case hg => rfl); (case hr => first | (go_simp; done) | (go_simp; rfl)); intro gA hg w56 hbox hb; have n0_ := zA (below_step (by repeat (first | (with_reducible first | exact HB.out | apply zW | apply zX | apply zY) | exact HB.out)) hb); have n1_ := zA (hbox); have n2_ := zA ((by rw [hg]; exact (below_size (by repeat (first | (with_reducible first | exact HB.out | apply zW | apply zX | apply zY) | exact HB.out))) : w.heap.size ≤ gA)); have n3_ := zA ((by rw [hg]; exact (below_size (by repeat (first | (with_reducible first | exact HB.out | apply zW | apply zX | apply zY) | exact HB.out))) : w.heap.size ≤ gA)); clear HB; have HB := n0_; have BKBH := n1_; have GWBH := n2_; have GEBH := n3_; clear n0_ n1_ n2_ n3_; clear hb hbox hg; have hcz57_0 : w56.cell? ⟨gA, 0, none⟩ = some (.int .i64 a0_0) := (blk_cell BKBH.out 0).trans rfl; have hcz57_1 : w56.cell? ⟨gA, 1, none⟩ = some (.int .i64 a0_1) := (blk_cell BKBH.out 1).trans rfl; have hcz57_2 : w56.cell? ⟨gA, 2, none⟩ = some (.slice A0_2 l0_2.length c0_2) := (blk_cell BKBH.out 2).trans rfl; have hfz57_0 := blk_frozen BKBH.out 0; have hfz57_1 := blk_frozen BKBH.out 1; have hfz57_2 := blk_frozen BKBH.out 2) | ((with_reducible refine gate_callee (f := 22) rfl ?_); refine goesL_ (some 19) rfl rfl Try.func22 (by kernel_rfl) rfl #[.agg #[.int .i64 a0_0, .int .i64 a0_1, .slice A0_2 l0_2.length c0_2]] rfl (by (try simp only [List.map_toArray, List.map_cons, List.map_nil]); first | done | rfl | (simp only [List.length_drop, List.length_take]; rfl)) ?_; (with_reducible refine (kimberlitelaw03_few.calls a0_0 a0_1 _ _ l0_2 false _ ?side1 ?side2 A4.out).mono ?_); (case side1 => repeat (first | exact (Kd.C_below HR0_2.out HB.out) | (with_reducible refine Kd.C_alloc ?_ _) | (with_reducible refine Kd.C_drewN ?_ _) | (with_reducible refine Kd.C_drew ?_))); (case side2 => exact HC0_2.out); rintro e w58 ⟨rfl, hb⟩; refine ⟨_, rfl, ?_⟩; have n0_ := zA (blk_below (g := gA) (o := .cells #[.int .i64 a0_0, .int .i64 a0_1, .slice A0_2 l0_2.length c0_2] 24 (0, 0)) (by (with_reducible repeat (first | refine zN ?_ _ | refine zD ?_ | refine zB ?_ _)); exact BKBH.out) hb); have n1_ := zA (below_step (by repeat (first | (with_reducible first | exact HB.out | apply zW | apply zX | apply zY | refine zS ?_ GEBH.out) | exact HB.out)) hb); clear BKBH; clear HB; have BKBH := n0_; have HB := n1_; clear n0_ n1_; (try clear hb); (try clear hb2); (try clear hk); (try clear hi)) | ((with_reducible refine gate_callee (f := 17) rfl ?_); refine goesL_ (some 21) rfl rfl Try.func17 (by kernel_rfl) rfl #[] rfl (by (try simp only [List.map_toArray, List.map_cons, List.map_nil]); first | done | rfl | (simp only [List.length_drop, List.length_take]; rfl)) ?_; (with_reducible refine (kimberlitelaw03_alive.calls  t701 _ A55.out).mono ?_); rintro e w59 ⟨rfl, hb⟩; refine ⟨_, rfl, ?_⟩; have n0_ := zA (blk_below (g := gA) (o := .cells #[.int .i64 a0_0, .int .i64 a0_1, .slice A0_2 l0_2.length c0_2] 24 (0, 0)) (by (with_reducible repeat (first | refine zN ?_ _ | refine zD ?_ | refine zB ?_ _)); exact BKBH.out) hb); have n1_ := zA (below_step (by repeat (first | (with_reducible first | exact HB.out | apply zW | apply zX | apply zY | refine zS ?_ GEBH.out) | exact HB.out)) hb); clear BKBH; clear HB; have BKBH := n0_; have HB := n1_; clear n0_ n1_; (try clear hb); (try clear hb2); (try clear hk); (try clear hi)))
  go_ret
  exact ⟨by first | rfl | (simp [errW_none, errW_some] <;> rfl) | (simp [*, errW_none, errW_some] <;> rfl), by repeat (first | (with_reducible first | exact HB.out | apply zW | apply zX | apply zY | refine zS ?_ GEBH.out) | exact HB.out)⟩
end Go.Proofs.Ytfeeaipbmpmpgaa.PX

namespace Go.Proofs.Ytfeeaipbmpmpgaa.Pure
open Go.RowKit Go.Proofs.YtfeeaipbmpmpgaaW.PrintWords Go.Proofs.YtfeeaipbmpmpgaaW.PrintLast Go.Proofs.YtfeeaipbmpmpgaaW.PrintMore Go.Proofs.Ytfeeaipbmpmpgaa.PX
set_option linter.unusedVariables false
set_option linter.unusedSimpArgs false

def botR (a b : Int) (l : List Int) : Int × Int × Int × Int := if valB a b l = true then (cval a b l (a + (blw l 0 : Int)), a + (blw l 0 : Int), a + (blw l 1 : Int), 0) else (0, 0, 0, 2)
theorem bottom_some (a b : Int) (l : List Int) (k : Nat) (hk : 100 ≤ k) : curve_Bottom.f k a b l = some (botR a b l) := by
  unfold curve_Bottom.f curve_Valid.f botR
  simp only [Option.bind_some]
  by_cases hv : valB a b l = true
  · have hb := blw_le l 0
    rw [if_pos hv, if_pos hv, below_some hv 0 k hk]
    simp only [Option.bind_some]
    rw [curve_at_some hv (cdom_iff.2 (by omega))]
    simp only [Option.bind_some]
    unfold curve_walker_upto.f
    rw [w64 (x := 0 + 1) (by omega) (by omega), show (0 : Int) + 1 = 1 from rfl, below_some hv 1 k hk]
    rfl
  · rw [if_neg hv, if_neg hv]
theorem cval_blw (a b : Int) (l : List Int) (n : Nat) : cval a b l (a + (n : Int)) = b + sm l n := by
  unfold cval
  rw [show a + (n : Int) - a = (n : Int) from by omega, Int.toNat_natCast]
theorem dom_nat {a : Int} {l : List Int} {z : Int} (h : cdom a l z = true) : ∃ n : Nat, z = a + (n : Int) ∧ n ≤ l.length := by
  have hd := cdom_iff.1 h
  obtain ⟨n, hn⟩ := Int.eq_ofNat_of_zero_le (show 0 ≤ z - a from by omega)
  exact ⟨n, by omega, by omega⟩
theorem bot_le {a b : Int} {l : List Int} (hv : valB a b l = true) (n : Nat) (hn : n ≤ l.length) : sm l (blw l 0) ≤ sm l n := by
  rcases Nat.le_total (blw l 0) n with h | h
  · have := sm_up l 0 _ n h hn (fun k hk hkt => blw_ge l 0 (val_all hv).1 k hk hkt)
    omega
  · have := sm_down l 0 _ n h (blw_le l 0) (fun k hk hkt => by have := blw_lt l 0 k hk hkt; omega)
    omega
theorem bot_lt {a b : Int} {l : List Int} (hv : valB a b l = true) (n : Nat) (hn : n < blw l 0) : sm l (blw l 0) < sm l n := by
  have := sm_down l (-1) _ n (by omega) (blw_le l 0) (fun k hk hkt => by have := blw_lt l 0 k hk hkt; omega)
  omega
theorem top_eq {a b : Int} {l : List Int} (hv : valB a b l = true) : sm l (blw l 1) = sm l (blw l 0) := by
  have h1 := bot_le hv (blw l 1) (blw_le l 1)
  have hle : blw l 0 ≤ blw l 1 := by
    by_cases c : blw l 0 ≤ blw l 1
    · exact c
    · have h2 := blw_lt l 0 (blw l 1) (by have := blw_le l 0; omega) (by omega)
      have h3 := blw_ge l 1 (val_all hv).1 (blw l 1) (by have := blw_le l 0; omega) (Nat.le_refl _)
      omega
  have h2 := sm_down l 0 (blw l 1) (blw l 0) hle (blw_le l 1) (fun k hk hkt => by have := blw_lt l 1 k hk hkt; omega)
  omega
theorem top_lt {a b : Int} {l : List Int} (hv : valB a b l = true) (n : Nat) (hn : blw l 1 < n) (hl : n ≤ l.length) : sm l (blw l 0) < sm l n := by
  have h1 := top_eq hv
  have := sm_up l 1 _ n (by omega) hl (fun k hk hkt => blw_ge l 1 (val_all hv).1 k hk hkt)
  omega
theorem rbot_l1 {a b : Int} {l : List Int} (hv : valB a b l = true) (d : Nat) :
    ∀ (k : Nat) (hi y : Int), y + (d : Int) = a + (l.length : Int) + 1 → d < k → a ≤ y → cdom a l hi = true → cval a b l hi = cval a b l (a + (blw l 0 : Int)) → (∀ z, cdom a l z = true → hi < z → z < y → cval a b l z ≠ cval a b l (a + (blw l 0 : Int))) →
    kimberliteref03_Bottom.l1 k (a + (blw l 0 : Int)) hi y a (outV b l) = some (cval a b l (a + (blw l 0 : Int)), a + (blw l 0 : Int), a + (blw l 1 : Int), 0) := by
  have hvf := val_from hv
  have hb := blw_le l 0
  have hdl : cdom a l (a + (blw l 0 : Int)) = true := cdom_iff.2 (by omega)
  induction d with
  | zero =>
    intro k hi y hy hk hay hd he hn
    obtain ⟨k, rfl⟩ : ∃ m, k = m + 1 := ⟨k - 1, by omega⟩
    simp only [kimberliteref03_Bottom.l1]
    rw [to_some hv]
    simp only [Option.bind_some]
    rw [if_neg (by omega), value_some hv hdl]
    simp only [Option.bind_some]
    have : hi = a + (blw l 1 : Int) := by
      obtain ⟨n, rfl, hnl⟩ := dom_nat hd
      have ht := top_eq hv
      rw [cval_blw, cval_blw] at he
      by_cases c1 : n < blw l 1
      · have := hn (a + (blw l 1 : Int)) (cdom_iff.2 (by have := blw_le l 1; omega)) (by omega) (by have := blw_le l 1; omega)
        rw [cval_blw, cval_blw] at this
        omega
      · by_cases c2 : blw l 1 < n
        · have := top_lt hv n c2 hnl
          omega
        · omega
    rw [this]
  | succ d ih =>
    intro k hi y hy hk hay hd he hn
    obtain ⟨k, rfl⟩ : ∃ m, k = m + 1 := ⟨k - 1, by omega⟩
    have hdy : cdom a l y = true := cdom_iff.2 (by omega)
    simp only [kimberliteref03_Bottom.l1]
    rw [to_some hv]
    simp only [Option.bind_some]
    rw [if_pos (by omega), value_some hv hdl, value_some hv hdy]
    simp only [Option.bind_some]
    rw [w64 (x := y + 1) (by omega) (by omega)]
    by_cases c : cval a b l y = cval a b l (a + (blw l 0 : Int))
    · rw [if_pos c]
      exact ih k y (y + 1) (by omega) (by omega) (by omega) hdy c (fun z hz h1 h2 => by omega)
    · rw [if_neg c]
      refine ih k hi (y + 1) (by omega) (by omega) (by omega) hd he (fun z hz h1 h2 => ?_)
      by_cases e : z = y
      · subst e; exact c
      · exact hn z hz h1 (by omega)
theorem rbot_l0 {a b : Int} {l : List Int} (hv : valB a b l = true) (d : Nat) :
    ∀ (k : Nat) (x y : Int), y + (d : Int) = a + (l.length : Int) + 1 → d + 200 < k → a ≤ y → cdom a l x = true → (∀ z, cdom a l z = true → z < y → cval a b l x ≤ cval a b l z) → (∀ z, cdom a l z = true → z < x → cval a b l x < cval a b l z) →
    kimberliteref03_Bottom.l0 k x y a (outV b l) = some (cval a b l (a + (blw l 0 : Int)), a + (blw l 0 : Int), a + (blw l 1 : Int), 0) := by
  have hvf := val_from hv
  have hb := blw_le l 0
  have hdl : cdom a l (a + (blw l 0 : Int)) = true := cdom_iff.2 (by omega)
  induction d with
  | zero =>
    intro k x y hy hk hay hd hle hlt
    obtain ⟨k, rfl⟩ : ∃ m, k = m + 1 := ⟨k - 1, by omega⟩
    simp only [kimberliteref03_Bottom.l0]
    rw [to_some hv]
    simp only [Option.bind_some]
    rw [if_neg (by omega)]
    have : x = a + (blw l 0 : Int) := by
      obtain ⟨n, rfl, hnl⟩ := dom_nat hd
      have h1 := hle _ hdl (by omega)
      rw [cval_blw, cval_blw] at h1
      by_cases c1 : n < blw l 0
      · have := bot_lt hv n c1
        omega
      · by_cases c2 : blw l 0 < n
        · have h2 := hlt _ hdl (by omega)
          rw [cval_blw, cval_blw] at h2
          have := bot_le hv n hnl
          omega
        · omega
    rw [this]
    exact rbot_l1 hv (l.length + 1) k _ a (by omega) (by omega) (Int.le_refl _) hdl rfl (fun z hz h1 h2 => by have := cdom_iff.1 hz; omega)
  | succ d ih =>
    intro k x y hy hk hay hd hle hlt
    obtain ⟨k, rfl⟩ : ∃ m, k = m + 1 := ⟨k - 1, by omega⟩
    have hdy : cdom a l y = true := cdom_iff.2 (by omega)
    simp only [kimberliteref03_Bottom.l0]
    rw [to_some hv]
    simp only [Option.bind_some]
    rw [if_pos (by omega), value_some hv hd, value_some hv hdy]
    simp only [Option.bind_some]
    rw [w64 (x := y + 1) (by omega) (by omega)]
    by_cases c : cval a b l y < cval a b l x
    · rw [if_pos c]
      refine ih k y (y + 1) (by omega) (by omega) (by omega) hdy (fun z hz h1 => ?_) (fun z hz h1 => ?_)
      · by_cases e : z = y
        · subst e; omega
        · have := hle z hz (by omega); omega
      · have := hle z hz h1; omega
    · rw [if_neg c]
      refine ih k x (y + 1) (by omega) (by omega) (by omega) hd (fun z hz h1 => ?_) hlt
      by_cases e : z = y
      · subst e; omega
      · exact hle z hz (by omega)
theorem refBottom_some (a b : Int) (l : List Int) (hl : l.length ≤ 9223372036854775807) (k : Nat) (hk : 500 ≤ k) : kimberliteref03_Bottom.f k a b l = some (botR a b l) := by
  unfold kimberliteref03_Bottom.f botR
  rw [refValid_some a b l hl k (by omega)]
  simp only [Option.bind_some]
  by_cases hv : valB a b l = true
  · have hvf := val_from hv
    rw [if_pos hv, if_pos hv, out_some hv k (by omega)]
    simp only [Option.bind_some]
    exact rbot_l0 hv (l.length + 1) k a a (by omega) (by omega) (Int.le_refl _) (cdom_iff.2 (by omega)) (fun z hz h1 => by have := cdom_iff.1 hz; omega) (fun z hz h1 => by have := cdom_iff.1 hz; omega)
  · rw [if_neg hv, if_neg hv]
theorem refConj_l0 {a b : Int} {l : List Int} {lo hi : Int} (h : conjOk a b l lo hi) (d : Nat) : ∀ k n : Nat, n + d = conjN lo hi → d + 500 < k →
    kimberliteref03_Conj.l0 k hi (lo + (n : Int)) a (outV b l) lo (grs a b l lo n) = some (madeR lo (gr a b l lo) (conjL a b l lo hi)) := by
  obtain ⟨hv, h1, h2, h3, h4, h5⟩ := h
  have hN : (conjN lo hi : Int) = hi + 1 - lo := by unfold conjN; omega
  induction d with
  | zero =>
    intro k n hn hk
    obtain ⟨k, rfl⟩ : ∃ m, k = m + 1 := ⟨k - 1, by omega⟩
    simp only [kimberliteref03_Conj.l0]
    rw [if_neg (by omega), show n = conjN lo hi from by omega]
    have hb : ∀ v ∈ grs a b l lo (conjN lo hi), -2305843009213693952 ≤ v ∧ v ≤ 2305843009213693952 := by
      intro v hv'
      unfold grs at hv'
      obtain ⟨i, hi', rfl⟩ := List.mem_map.1 hv'
      have := List.mem_range.1 hi'
      have := gr_bound hv (p := lo + (i : Int)) (by omega)
      omega
    rw [ranged_some lo _ (by rw [grs_length]; omega) (by rw [grs_length]; omega) hb k (by rw [grs_length]; omega)]
    simp only [Option.bind_some]
    rw [grs_getElem, show lo + ((0 : Nat) : Int) = lo from by omega]
    rfl
  | succ d ih =>
    intro k n hn hk
    obtain ⟨k, rfl⟩ : ∃ m, k = m + 1 := ⟨k - 1, by omega⟩
    simp only [kimberliteref03_Conj.l0]
    rw [if_pos (by omega), great_some hv (by omega) k (by omega)]
    simp only [Option.bind_some]
    rw [if_pos (by rw [grs_length]; omega), w64 (x := lo + (n : Int) + 1) (by omega) (by omega)]
    have := ih k (n + 1) (by omega) (by omega)
    rw [grs_succ] at this
    rw [show lo + (n : Int) + 1 = lo + ((n + 1 : Nat) : Int) from by omega]
    exact this
theorem refConj_some (a b : Int) (l : List Int) (lo hi : Int) (hll : l.length ≤ 9223372036854775807) (hl : I64 lo) (hh : I64 hi) (k : Nat) (hk : 700 ≤ k) :
    (conjOk a b l lo hi → kimberliteref03_Conj.f k a b l lo hi = some (madeR lo (gr a b l lo) (conjL a b l lo hi))) ∧ (¬conjOk a b l lo hi → kimberliteref03_Conj.f k a b l lo hi = some (0, 0, [], 2)) := by
  obtain ⟨k, rfl⟩ : ∃ m, k = m + 1 := ⟨k - 1, by omega⟩
  have e : ∀ t, t = true → kimberliteref03_Conj.j0 (k + 1) lo hi t a b l = some (0, 0, [], 2) := by
    intro t ht
    subst ht
    simp only [kimberliteref03_Conj.j0]
    rw [if_pos trivial]
  unfold kimberliteref03_Conj.f
  rw [refValid_some a b l hll (k + 1) (by omega)]
  simp only [Option.bind_some]
  by_cases h1' : ¬valB a b l = true
  · rw [if_neg h1', e _ rfl]
    exact ⟨fun h => absurd h.1 h1', fun _ => rfl⟩
  have h1 := Decidable.not_not.1 h1'
  rw [if_pos h1]
  by_cases h2 : lo < -1048576
  · rw [if_pos h2, e _ rfl]
    exact ⟨fun h => by unfold conjOk at h; omega, fun _ => rfl⟩
  rw [if_neg h2]
  by_cases h3 : lo > 1048576
  · rw [if_pos h3, e _ rfl]
    exact ⟨fun h => by unfold conjOk at h; omega, fun _ => rfl⟩
  rw [if_neg h3]
  by_cases h4 : hi < lo
  · rw [if_pos h4, e _ rfl]
    exact ⟨fun h => by unfold conjOk at h; omega, fun _ => rfl⟩
  rw [if_neg h4]
  by_cases h5 : hi > 1048576
  · rw [if_pos h5, e _ rfl]
    exact ⟨fun h => by unfold conjOk at h; omega, fun _ => rfl⟩
  rw [if_neg h5, w64 (x := lo + 64) (by omega) (by omega)]
  by_cases h6 : hi > lo + 64
  · rw [e _ (by simpa using h6)]
    exact ⟨fun h => by unfold conjOk at h; omega, fun _ => rfl⟩
  have hok : conjOk a b l lo hi := ⟨h1, by omega, by omega, by omega, by omega, by omega⟩
  refine ⟨fun _ => ?_, fun h => absurd hok h⟩
  rw [decide_eq_false h6]
  simp only [kimberliteref03_Conj.j0]
  rw [if_neg (by decide), out_some h1 k (by omega)]
  simp only [Option.bind_some]
  have := refConj_l0 hok (conjN lo hi) k 0 (by omega) (by unfold conjN; omega)
  rw [show lo + ((0 : Nat) : Int) = lo from by omega] at this
  exact this
theorem madeR_length (x y : Int) (l : List Int) : (madeR x y l).2.2.1.length ≤ 64 := by
  unfold madeR
  split
  · rename_i h
    exact (val_from h).2.2.2.2
  · simp
theorem CurveBottoms (x0 y0 : Int) (l0 : List Int) (a1 a2 : Int) (J0 : CurveI x0 y0 l0) (n0 : l0.length ≤ 9223372036854775807) (h1 : I64 a1) (h2 : I64 a2) :
    ∃ k, kimberlitelaw03_CurveBottoms.f k x0 y0 l0 a1 a2 = some true := by
  obtain ⟨K, hK⟩ : ∃ K : Nat, 2000 ≤ K := ⟨2000, Nat.le_refl _⟩
  refine ⟨K, ?_⟩
  unfold kimberlitelaw03_CurveBottoms.f kimberlitelaw03_few.f
  simp only [Option.bind_some]
  by_cases hf' : ¬(l0.length : Int) ≤ 100
  · rw [if_neg (by simpa using hf')]
    rfl
  have hf := Decidable.not_not.1 hf'
  rw [if_pos (by simpa using hf), own_some x0 y0 l0 (by omega) K (by omega)]
  simp only [Option.bind_some]
  rw [bottom_some x0 y0 l0 K (by omega), refBottom_some x0 y0 l0 n0 K (by omega)]
  simp only [Option.bind_some, if_true]
  have hal := alike_some x0 y0 l0 x0 y0 l0 n0 K (by omega)
  have hr := refConj_some x0 y0 l0 a1 a2 n0 h1 h2 K (by omega)
  rcases Conj_some x0 y0 l0 a1 a2 h1 h2 K (by omega) with ⟨hok, h⟩ | ⟨hok, h⟩
  · rw [h, hr.1 hok]
    have hlen := madeR_length a1 (gr x0 y0 l0 a1) (conjL x0 y0 l0 a1 a2)
    generalize madeR a1 (gr x0 y0 l0 a1) (conjL x0 y0 l0 a1 a2) = t at *
    obtain ⟨t1, t2, t3, t4⟩ := t
    simp only at hlen
    obtain ⟨m, hm⟩ := told_some t1 t2 t3 t4 t1 t2 t3 t4 (by omega) K (by omega) rfl
    simp only [Option.bind_some]
    rw [hm, hal]
    simp [kimberlitelaw03_alive.f]
  · rw [h, hr.2 hok]
    obtain ⟨m, hm⟩ := told_some 0 0 [] 2 0 0 [] 2 (by simp) K (by omega) rfl
    simp only [Option.bind_some]
    rw [hm, hal]
    simp [kimberlitelaw03_alive.f]
end Go.Proofs.Ytfeeaipbmpmpgaa.Pure

namespace Go.Proofs.Ytfeeaipbmpmpgaa.curveBottoms
open Go.ChangeShapes Go.WideShapes Go.ChangeAt Go.RowKit
open Go.ChangeMaps (open_string shut_string)
open Go.Proofs.YtfeeaipbmpmpgaaW.PrintWords Go.Proofs.YtfeeaipbmpmpgaaW.PrintLast Go.Proofs.YtfeeaipbmpmpgaaW.PrintMore Go.Proofs.Ytfeeaipbmpmpgaa.PX
set_option linter.unusedVariables false
theorem own : ownKnob Try.prog.godebug = none := by kernel_rfl
theorem laidOut : laidOutB Try.prog = true := by kernel_rfl
set_option maxRecDepth 100000 in
theorem lifted (os : Os) (started : os.Started) (H : Type) (enc : TypeId × Value → H) :
    ReturnsInHanded {} Try.checked os 9 .any (Rows.curveBottomsSpec.pre6 enc Try.prog Try.f9 Rows.curveBottomsRow.domain false) (Rows.curveBottomsSpec.post enc Try.prog Try.f9 false true false false) := by
  refine returnsInHanded_of_change_sized (C := Try.checked) own started (by kernel_rfl) Try.func9
    (ChangeSpec.witness6 (enc := enc) (C := Try.checked) false ⟨#[], #[.agg #[.int .i64 0, .int .i64 0, .slice none 0 0], .int .i64 0, .int .i64 0], []⟩ 8 (by kernel_rfl) (by kernel_rfl) (by kernel_rfl) (by kernel_rfl)) ?_
  intro W base args ds gs before hval0 hW hcnd hsz0 _
  have hval : ∀ (j : Nat) t v, Try.f9.params[j]? = some t → args[j]? = some v → Value.okWide Try.prog W .any base t v := hval0
  have hW' := hW
  obtain ⟨p, q, hA0, hV, rfl, hfz, hnd⟩ := hW
  have hA : DataW.TrodAll enc Try.prog W 0 (fun _ => true) true Try.f9.params.toList args.toList ds p := hA0
  rw [Try.params9] at hA hval
  obtain ⟨v0, vs0, d0, ds0, p0, q0, hargs, rfl, rfl, h0, r0⟩ := trodAll_cons hA
  obtain ⟨v1, vs1, d1, ds1, p1, q1, rfl, rfl, rfl, h1, r1⟩ := trodAll_cons r0
  obtain ⟨v2, vs2, d2, ds2, p2, q2, rfl, rfl, rfl, h2, r2⟩ := trodAll_cons r1
  obtain ⟨rfl, rfl, rfl⟩ := trodAll_nil r2
  obtain rfl : args = #[v0, v1, v2] := by cases args; simp_all
  obtain ⟨rfl, rfl⟩ := trodVars_none hV
  have k0 := h0
  have lt0 : ∀ x ∈ p0, x.block < W.heap.size := by obtain ⟨m, hm⟩ := k0; exact DataW.trod_lt m _ _ _ hm
  obtain ⟨x0, y0, l0, A0, c0, rfl, e0, C0, J0⟩ := open_curve (hval 0 24 v0 rfl rfl) h0
  obtain ⟨a1, rfl, rfl, rfl, w1⟩ := open_int Try.underlying3 (hval 1 3 v1 rfl rfl) h1
  obtain ⟨a2, rfl, rfl, rfl, w2⟩ := open_int Try.underlying3 (hval 2 3 v2 rfl rfl) h2
  clear hA0 hval0 hsz0
  obtain ⟨n, hn⟩ := Pure.CurveBottoms x0 y0 l0 a1 a2 J0 C0.2.1 (i64_of_wf w1) (i64_of_wf w2)
  refine (kimberlitelaw03_CurveBottoms.calls n x0 y0 A0 c0 l0 a1 a2 true W C0 e0 hn).mono fun e W' ⟨he, bel⟩ => ?_
  subst he
  exact ⟨_, rfl, _, _, _, [], _, [], hW', trodAll_mk1 (shut_bool Try.underlying4 _), (trodAll_cons_mk (Below.trod laidOut (by kernel_rfl) (of_decide_eq_true (by kernel_rfl)) k0 bel lt0) (trodAll_cons_mk (shut_int Try.underlying3 w1) (trodAll_cons_mk (shut_int Try.underlying3 w2) trodAll_mk0))), rfl, bel.frame _, fun h => by cases h⟩
theorem over : Rows.curveBottomsRow.holds Try.pinned (OpenSpec.ofChange Rows.curveBottomsSpec) :=
  OpenClaim.holds_of_wide 9 Try.f9 rfl rfl rfl rfl rfl rfl rfl ⟨rfl, rfl, rfl, rfl, rfl⟩ rfl rfl rfl rfl rfl (by kernel_rfl) Try.func9 (by kernel_rfl)
    (of_decide_eq_true (by kernel_rfl)) (by unfold Func.isWrapper; first | (rw [if_pos (by decide +kernel)]; kernel_rfl) | (rw [if_neg (by decide +kernel)]; exact ⟨rfl, rfl⟩))
    (fun os started H enc _ => lifted os started H enc)
theorem proved : Rows.CurveBottomsSaid := over
end Go.Proofs.Ytfeeaipbmpmpgaa.curveBottoms
namespace Go.Proofs.Ytfeeaipbmpmpgaa
/-- The row, under a short name, for the claim. -/
theorem curveBottoms_holds : Rows.CurveBottomsSaid := curveBottoms.proved
#print axioms curveBottoms_holds
end Go.Proofs.Ytfeeaipbmpmpgaa

