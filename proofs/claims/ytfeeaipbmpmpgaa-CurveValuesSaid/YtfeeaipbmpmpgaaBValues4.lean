/- Valid, At and Of return the specified results for any curve and values, or the specified error: what CurveValues computes is true for every curve, numbers and values. No condition beyond what the row itself says. -/
import Derived.WalkKit
import Derived.ProofKit
import Derived.OpenShut
import Derived.ShutString
import Derived.ChangeOld
import Derived.Below
import Derived.SizedLaws
import Derived.Test.YtfeeaipbmpmpgaaBValues1
import Derived.Test.YtfeeaipbmpmpgaaBValues3
import Derived.Test.YtfeeaipbmpmpgaaBValues2
import Derived.Test.YtfeeaipbmpmpgaaRows
namespace Go.Proofs.Ytfeeaipbmpmpgaa.PX
open Go.RowKit Go.Proofs.YtfeeaipbmpmpgaaW.PrintWords Go.Proofs.YtfeeaipbmpmpgaaW.PrintLast Go.Proofs.YtfeeaipbmpmpgaaW.PrintMore
attribute [local go_sem] max2_int min2_int max_two min_two max_three min_three max_four min_four   -- for this text's walks alone
set_option linter.unusedVariables false
set_option linter.unusedSimpArgs false
/-! ### kimberlitelaw03_CurveValues: function 8 -/
mutual
def kimberlitelaw03_CurveValues.j0 : Nat → Int → Int → List Int → Bool → Int → Int → List Int → Option (Bool)
 | 0, _, _, _, _, _, _, _ => none
 | k + 1, x1, x2, x3, x25, x572000, x572001, x572002 => if x25 = true then ((kimberlitelaw03_alive.f).bind fun t574 => (some t574)) else ((kimberlitelaw03_own.f k x572000 x572001 x572002).bind fun bt581 => ((curve_At.f bt581.1 bt581.2.1 bt581.2.2 x1).bind fun bt587 => ((kimberliteref03_At.f k x572000 x572001 x572002 x1).bind fun bt589 => (if bt587.1 = bt589.1 then (if bt587.2 = bt589.2 then ((curve_Valid.f bt581.1 bt581.2.1 bt581.2.2).bind fun t591 => ((kimberliteref03_Valid.f k x572000 x572001 x572002).bind fun t592 => (if (t591 != t592) = true then (none) else (if 0 ≤ (x3.length : Int) then (if ((x3.length : Int) : Int).toNat ≤ 35184372088832 then (kimberlitelaw03_CurveValues.l0 k x2 x3 (List.replicate ((x3.length : Int) : Int).toNat 0) 0 x572000 x572001 x572002 bt581.1 bt581.2.1 bt581.2.2) else (none)) else (none))))) else (none)) else (none)))))
def kimberlitelaw03_CurveValues.l0 : Nat → Int → List Int → List Int → Int → Int → Int → List Int → Int → Int → List Int → Option (Bool)
 | 0, _, _, _, _, _, _, _, _, _, _ => none
 | k + 1, x2, x3, x14, x15, x572000, x572001, x572002, x587000, x587001, x587002 => if x15 < (x3.length : Int) then (if 0 ≤ x15 then (if x15 < (x14.length : Int) then (kimberlitelaw03_CurveValues.l0 k x2 x3 (x14.set (x15 : Int).toNat (rd x3 x15)) (wrap64 (x15 + 1)) x572000 x572001 x572002 x587000 x587001 x587002) else (none)) else (none)) else ((curve_Of.f x2 x14).bind fun bt607 => ((kimberliteref03_Of.f k x2 x3).bind fun bt614 => ((kimberlitelaw03_told.f k bt607.1 bt607.2.1 bt607.2.2.1 bt607.2.2.2 bt614.1 bt614.2.1 bt614.2.2.1 bt614.2.2.2).bind fun bt621 => (if bt621.1 = true then ((kimberlitelaw03_same.f k x14 x3).bind fun t623 => (if t623 = true then ((kimberlitelaw03_alike.f k x572000 x572001 x572002 x587000 x587001 x587002).bind fun t624 => (if t624 = true then ((kimberlitelaw03_alive.f).bind fun t625 => (some t625)) else (none))) else (none))) else (none)))))
end
def kimberlitelaw03_CurveValues.f (k : Nat) (a0_0 : Int) (a0_1 : Int) (l0_2 : List Int) (a1 : Int) (a2 : Int) (l3 : List Int) : Option (Bool) := (kimberlitelaw03_few.f a0_0 a0_1 l0_2).bind fun t572 => (if t572 = true then (kimberlitelaw03_CurveValues.j0 k a1 a2 l3 (decide ((l3.length : Int) > 100)) a0_0 a0_1 l0_2) else (kimberlitelaw03_CurveValues.j0 k a1 a2 l3 true a0_0 a0_1 l0_2))
theorem kimberlitelaw03_CurveValues.mono_l : ∀ k, (∀ y0 y1 y2 y3 y4 y5 y6, LeO (kimberlitelaw03_CurveValues.j0 k y0 y1 y2 y3 y4 y5 y6) (kimberlitelaw03_CurveValues.j0 (k + 1) y0 y1 y2 y3 y4 y5 y6)) ∧ (∀ y0 y1 y2 y3 y4 y5 y6 y7 y8 y9, LeO (kimberlitelaw03_CurveValues.l0 k y0 y1 y2 y3 y4 y5 y6 y7 y8 y9) (kimberlitelaw03_CurveValues.l0 (k + 1) y0 y1 y2 y3 y4 y5 y6 y7 y8 y9))
 | 0 => ⟨fun _ _ _ _ _ _ _ r h => by simp [kimberlitelaw03_CurveValues.j0] at h, fun _ _ _ _ _ _ _ _ _ _ r h => by simp [kimberlitelaw03_CurveValues.l0] at h⟩
 | k + 1 => by
  obtain ⟨ih0, ih1⟩ := kimberlitelaw03_CurveValues.mono_l k
  refine ⟨?_, ?_⟩
  ·
   intro y0 y1 y2 y3 y4 y5 y6
   unfold kimberlitelaw03_CurveValues.j0
   repeat' first
   | (with_reducible exact ih0 _ _ _ _ _ _ _)
   | (with_reducible exact ih1 _ _ _ _ _ _ _ _ _ _)
   | (with_reducible exact kimberlitelaw03_alike.mono _ _ _ _ _ _ _)
   | (with_reducible exact kimberlitelaw03_own.mono _ _ _ _)
   | (with_reducible exact kimberlitelaw03_same.mono _ _ _)
   | (with_reducible exact kimberlitelaw03_told.mono _ _ _ _ _ _ _ _ _)
   | (with_reducible exact kimberliteref03_At.mono _ _ _ _ _)
   | (with_reducible exact kimberliteref03_Of.mono _ _ _)
   | (with_reducible exact kimberliteref03_Valid.mono _ _ _ _)
   | (with_reducible exact LeO.refl _)
   | (with_reducible exact LeO.none _)
   | (with_reducible refine LeO.ite ?_ ?_)
   | (with_reducible refine LeO.bind ?_ (fun _ => ?_))
   | exact ih0 _ _ _ _ _ _ _
   | exact ih1 _ _ _ _ _ _ _ _ _ _
   | exact kimberlitelaw03_alike.mono _ _ _ _ _ _ _
   | exact kimberlitelaw03_own.mono _ _ _ _
   | exact kimberlitelaw03_same.mono _ _ _
   | exact kimberlitelaw03_told.mono _ _ _ _ _ _ _ _ _
   | exact kimberliteref03_At.mono _ _ _ _ _
   | exact kimberliteref03_Of.mono _ _ _
   | exact kimberliteref03_Valid.mono _ _ _ _
   | exact LeO.none _
   | refine LeO.ite ?_ ?_
   | refine LeO.bind ?_ (fun _ => ?_)
  ·
   intro y0 y1 y2 y3 y4 y5 y6 y7 y8 y9
   unfold kimberlitelaw03_CurveValues.l0
   repeat' first
   | (with_reducible exact ih0 _ _ _ _ _ _ _)
   | (with_reducible exact ih1 _ _ _ _ _ _ _ _ _ _)
   | (with_reducible exact kimberlitelaw03_alike.mono _ _ _ _ _ _ _)
   | (with_reducible exact kimberlitelaw03_own.mono _ _ _ _)
   | (with_reducible exact kimberlitelaw03_same.mono _ _ _)
   | (with_reducible exact kimberlitelaw03_told.mono _ _ _ _ _ _ _ _ _)
   | (with_reducible exact kimberliteref03_At.mono _ _ _ _ _)
   | (with_reducible exact kimberliteref03_Of.mono _ _ _)
   | (with_reducible exact kimberliteref03_Valid.mono _ _ _ _)
   | (with_reducible exact LeO.refl _)
   | (with_reducible exact LeO.none _)
   | (with_reducible refine LeO.ite ?_ ?_)
   | (with_reducible refine LeO.bind ?_ (fun _ => ?_))
   | exact ih0 _ _ _ _ _ _ _
   | exact ih1 _ _ _ _ _ _ _ _ _ _
   | exact kimberlitelaw03_alike.mono _ _ _ _ _ _ _
   | exact kimberlitelaw03_own.mono _ _ _ _
   | exact kimberlitelaw03_same.mono _ _ _
   | exact kimberlitelaw03_told.mono _ _ _ _ _ _ _ _ _
   | exact kimberliteref03_At.mono _ _ _ _ _
   | exact kimberliteref03_Of.mono _ _ _
   | exact kimberliteref03_Valid.mono _ _ _ _
   | exact LeO.none _
   | refine LeO.ite ?_ ?_
   | refine LeO.bind ?_ (fun _ => ?_)
theorem kimberlitelaw03_CurveValues.mono : ∀ a0 a1 a2 a3 a4 a5 k, LeO (kimberlitelaw03_CurveValues.f k a0 a1 a2 a3 a4 a5) (kimberlitelaw03_CurveValues.f (k + 1) a0 a1 a2 a3 a4 a5) := by
 intro a0 a1 a2 a3 a4 a5 k
 obtain ⟨ih0, ih1⟩ := kimberlitelaw03_CurveValues.mono_l k
 unfold kimberlitelaw03_CurveValues.f
 repeat' first
   | (with_reducible exact ih0 _ _ _ _ _ _ _)
   | (with_reducible exact ih1 _ _ _ _ _ _ _ _ _ _)
   | (with_reducible exact kimberlitelaw03_alike.mono _ _ _ _ _ _ _)
   | (with_reducible exact kimberlitelaw03_own.mono _ _ _ _)
   | (with_reducible exact kimberlitelaw03_same.mono _ _ _)
   | (with_reducible exact kimberlitelaw03_told.mono _ _ _ _ _ _ _ _ _)
   | (with_reducible exact kimberliteref03_At.mono _ _ _ _ _)
   | (with_reducible exact kimberliteref03_Of.mono _ _ _)
   | (with_reducible exact kimberliteref03_Valid.mono _ _ _ _)
   | (with_reducible exact LeO.refl _)
   | (with_reducible exact LeO.none _)
   | (with_reducible refine LeO.ite ?_ ?_)
   | (with_reducible refine LeO.bind ?_ (fun _ => ?_))
   | exact ih0 _ _ _ _ _ _ _
   | exact ih1 _ _ _ _ _ _ _ _ _ _
   | exact kimberlitelaw03_alike.mono _ _ _ _ _ _ _
   | exact kimberlitelaw03_own.mono _ _ _ _
   | exact kimberlitelaw03_same.mono _ _ _
   | exact kimberlitelaw03_told.mono _ _ _ _ _ _ _ _ _
   | exact kimberliteref03_At.mono _ _ _ _ _
   | exact kimberliteref03_Of.mono _ _ _
   | exact kimberliteref03_Valid.mono _ _ _ _
   | exact LeO.none _
   | refine LeO.ite ?_ ?_
   | refine LeO.bind ?_ (fun _ => ?_)
def kimberlitelaw03_CurveValues.T6 : Bool × List (List Nat × List Nat) := (true, [([], []), ([], []), ([0, 1], [0, 1]), ([2], [2]), ([3], [3]), ([3], [3]), ([4, 5, 3], [3, 4, 5]), ([3, 6], [3, 6]), ([7, 3], [7]), ([8], [8]), ([9, 8, 8], [8, 9]), ([8], [8]), ([11, 10, 8], [8, 11]), ([10, 12, 8], [8, 10, 12]), ([8, 13], [8, 13])])
def kimberlitelaw03_CurveValues.B6 : List Nat := [0, 0, 3, 7, 15, 15, 63, 127, 255, 511, 1023, 511, 4095, 8191, 16383]
theorem kimberlitelaw03_CurveValues.tab6 : rtab .any (opsOf Try.f8 6) = kimberlitelaw03_CurveValues.T6 := by kernel_rfl
theorem kimberlitelaw03_CurveValues.bits6 : waitsOk kimberlitelaw03_CurveValues.T6.2 kimberlitelaw03_CurveValues.B6 = true := by kernel_rfl
set_option maxHeartbeats 8000000 in
set_option maxRecDepth 100000 in
theorem kimberlitelaw03_CurveValues.calls (k : Nat) (a0_0 : Int) (a0_1 : Int) (A0_2 : Option Addr) (c0_2 : Nat) (l0_2 : List Int) (a1 : Int) (a2 : Int) (A3 : Option Addr) (c3 : Nat) (l3 : List Int) (r : Bool) (w : World) (hr0_2 : Kd.C (Kd.int .i64) w A0_2 l0_2.length l0_2) (hc0_2 : l0_2.length ≤ c0_2) (hr3 : Kd.C (Kd.int .i64) w A3 l3.length l3) (hc3 : l3.length ≤ c3) (h : kimberlitelaw03_CurveValues.f k a0_0 a0_1 l0_2 a1 a2 l3 = some r) :
  Calls Try.prog 8 #[.agg #[.int .i64 a0_0, .int .i64 a0_1, .slice A0_2 l0_2.length c0_2], .int .i64 a1, .int .i64 a2, .slice A3 l3.length c3] w fun e w' => e = .returned (.bool r) ∧ Below w.heap.size w w' := by
 have hu24 := Try.underlying24
 have HR0_2 := zA hr0_2
 have HC0_2 := zA hc0_2
 clear hr0_2 hc0_2
 have HR3 := zA hr3
 have HC3 := zA hc3
 clear hr3 hc3
 have HB := zA (Below.refl w.heap.size w)
 have H : ((kimberlitelaw03_few.f a0_0 a0_1 l0_2).bind fun t572 => (if t572 = true then (kimberlitelaw03_CurveValues.j0 k a1 a2 l3 (decide ((l3.length : Int) > 100)) a0_0 a0_1 l0_2) else (kimberlitelaw03_CurveValues.j0 k a1 a2 l3 true a0_0 a0_1 l0_2))) = some r := h
 clear h
 have HC5 := zA H
 clear H
 go_enter Try.func8, Try.ntmps8
 go_upto_region 1 with (first | ((with_reducible refine gate_dst (N := 4) rfl ?_); (try (refine gate_guard (by rfl) ?_; dsimp only)); refine box_event ?hg (N := 4) ?hd (cs := #[.int .i64 a0_0, .int .i64 a0_1, .slice A0_2 l0_2.length c0_2]) (t := 24) ?hr ?_; (case hd => rfl); (case hg => rfl); (case hr => first | (go_simp; done) | (go_simp; rfl)); intro gA hg w6 hbox hb; have n0_ := zA (below_step (by repeat (first | (with_reducible first | exact HB.out | apply zW | apply zX | apply zY) | exact HB.out)) hb); have n1_ := zA (hbox); have n2_ := zA ((by rw [hg]; exact (below_size (by repeat (first | (with_reducible first | exact HB.out | apply zW | apply zX | apply zY) | exact HB.out))) : w.heap.size ≤ gA)); have n3_ := zA ((by rw [hg]; exact (below_size (by repeat (first | (with_reducible first | exact HB.out | apply zW | apply zX | apply zY) | exact HB.out))) : w.heap.size ≤ gA)); clear HB; have HB := n0_; have BK9D := n1_; have GW9D := n2_; have GE9D := n3_; clear n0_ n1_ n2_ n3_; clear hb hbox hg))
 (try simp only [Act.put, z1, z2, z3])
 go_cut [25] (fun v25 wc => ∃ (kq : Nat) (x25_4 : Bool), v25 = .bool x25_4 ∧ Aside0 (kimberlitelaw03_CurveValues.j0 kq a1 a2 l3 x25_4 a0_0 a0_1 l0_2 = some r) ∧ Aside0 (kq ≤ k) ∧ Aside0 (wc.heap[gA]? = some (.cells #[.int .i64 a0_0, .int .i64 a0_1, (.slice A0_2 l0_2.length c0_2)] 24 (0, 0))) ∧ Aside0 (Below w.heap.size w wc))
 case first =>
  have H := HC5.out
  clear HC5
  replace H := Option.bind_eq_some_iff.mp H
  obtain ⟨t572, A70, H⟩ := H
  replace H : (if t572 = true then (kimberlitelaw03_CurveValues.j0 k a1 a2 l3 (decide ((l3.length : Int) > 100)) a0_0 a0_1 l0_2) else (kimberlitelaw03_CurveValues.j0 k a1 a2 l3 true a0_0 a0_1 l0_2)) = some r := H
  have A7 := zA A70
  clear A70
  by_cases c8 : t572 = true
  ·
   subst c8
   have H1 : (kimberlitelaw03_CurveValues.j0 k a1 a2 l3 (decide ((l3.length : Int) > 100)) a0_0 a0_1 l0_2) = some r := by rw [if_pos rfl] at H; exact H
   clear H
   have H := H1
   clear H1
   have H' := zA H
   clear H
   have hcz9_0 : w6.cell? ⟨gA, 0, none⟩ = some (.int .i64 a0_0) := (blk_cell BK9D.out 0).trans rfl
   have hcz9_1 : w6.cell? ⟨gA, 1, none⟩ = some (.int .i64 a0_1) := (blk_cell BK9D.out 1).trans rfl
   have hcz9_2 : w6.cell? ⟨gA, 2, none⟩ = some (.slice A0_2 l0_2.length c0_2) := (blk_cell BK9D.out 2).trans rfl
   have hfz9_0 := blk_frozen BK9D.out 0
   have hfz9_1 := blk_frozen BK9D.out 1
   have hfz9_2 := blk_frozen BK9D.out 2
   go_wp2_with (first | ((with_reducible refine gate_callee (f := 22) rfl ?_); refine goesL_ (some 19) rfl rfl Try.func22 (by kernel_rfl) rfl #[.agg #[.int .i64 a0_0, .int .i64 a0_1, .slice A0_2 l0_2.length c0_2]] rfl (by (try simp only [List.map_toArray, List.map_cons, List.map_nil]); first | done | rfl | (simp only [List.length_drop, List.length_take]; rfl)) ?_; (with_reducible refine (kimberlitelaw03_few.calls a0_0 a0_1 _ _ l0_2 true _ ?side1 ?side2 A7.out).mono ?_); (case side1 => repeat (first | exact (Kd.C_below HR0_2.out HB.out) | (with_reducible refine Kd.C_alloc ?_ _) | (with_reducible refine Kd.C_drewN ?_ _) | (with_reducible refine Kd.C_drew ?_))); (case side2 => exact HC0_2.out); rintro e w10 ⟨rfl, hb⟩; refine ⟨_, rfl, ?_⟩; have n0_ := zA (blk_below (g := gA) (o := .cells #[.int .i64 a0_0, .int .i64 a0_1, .slice A0_2 l0_2.length c0_2] 24 (0, 0)) (by (with_reducible repeat (first | refine zN ?_ _ | refine zD ?_ | refine zB ?_ _)); exact BK9D.out) hb); have n1_ := zA (below_step (by repeat (first | (with_reducible first | exact HB.out | apply zW | apply zX | apply zY | refine zS ?_ GE9D.out) | exact HB.out)) hb); clear BK9D; clear HB; have BK9D := n0_; have HB := n1_; clear n0_ n1_; (try clear hb); (try clear hb2); (try clear hk); (try clear hi)))
   go_meet
   case rel => exact ⟨_, (decide ((l3.length : Int) > 100)), (by first | rfl | (simp; done) | (simp [*]; done)), H', ⟨by first | omega | exact Nat.le_refl _⟩, ⟨by (with_reducible repeat (first | refine zN ?_ _ | refine zD ?_ | refine zB ?_ _)); exact BK9D.out⟩, ⟨by repeat (first | (with_reducible first | exact HB.out | apply zW | apply zX | apply zY | refine zS ?_ GE9D.out) | exact HB.out)⟩⟩
  ·
   replace c8 := Bool.eq_false_iff.mpr c8
   subst c8
   have H1 : (kimberlitelaw03_CurveValues.j0 k a1 a2 l3 true a0_0 a0_1 l0_2) = some r := by rw [if_neg (show ¬ (false = true) by decide)] at H; exact H
   clear H
   have H := H1
   clear H1
   have H' := zA H
   clear H
   have hcz11_0 : w6.cell? ⟨gA, 0, none⟩ = some (.int .i64 a0_0) := (blk_cell BK9D.out 0).trans rfl
   have hcz11_1 : w6.cell? ⟨gA, 1, none⟩ = some (.int .i64 a0_1) := (blk_cell BK9D.out 1).trans rfl
   have hcz11_2 : w6.cell? ⟨gA, 2, none⟩ = some (.slice A0_2 l0_2.length c0_2) := (blk_cell BK9D.out 2).trans rfl
   have hfz11_0 := blk_frozen BK9D.out 0
   have hfz11_1 := blk_frozen BK9D.out 1
   have hfz11_2 := blk_frozen BK9D.out 2
   go_wp2_with (first | ((with_reducible refine gate_callee (f := 22) rfl ?_); refine goesL_ (some 19) rfl rfl Try.func22 (by kernel_rfl) rfl #[.agg #[.int .i64 a0_0, .int .i64 a0_1, .slice A0_2 l0_2.length c0_2]] rfl (by (try simp only [List.map_toArray, List.map_cons, List.map_nil]); first | done | rfl | (simp only [List.length_drop, List.length_take]; rfl)) ?_; (with_reducible refine (kimberlitelaw03_few.calls a0_0 a0_1 _ _ l0_2 false _ ?side1 ?side2 A7.out).mono ?_); (case side1 => repeat (first | exact (Kd.C_below HR0_2.out HB.out) | (with_reducible refine Kd.C_alloc ?_ _) | (with_reducible refine Kd.C_drewN ?_ _) | (with_reducible refine Kd.C_drew ?_))); (case side2 => exact HC0_2.out); rintro e w12 ⟨rfl, hb⟩; refine ⟨_, rfl, ?_⟩; have n0_ := zA (blk_below (g := gA) (o := .cells #[.int .i64 a0_0, .int .i64 a0_1, .slice A0_2 l0_2.length c0_2] 24 (0, 0)) (by (with_reducible repeat (first | refine zN ?_ _ | refine zD ?_ | refine zB ?_ _)); exact BK9D.out) hb); have n1_ := zA (below_step (by repeat (first | (with_reducible first | exact HB.out | apply zW | apply zX | apply zY | refine zS ?_ GE9D.out) | exact HB.out)) hb); clear BK9D; clear HB; have BK9D := n0_; have HB := n1_; clear n0_ n1_; (try clear hb); (try clear hb2); (try clear hk); (try clear hi)))
   go_meet
   case rel => exact ⟨_, (true), (by first | rfl | (simp; done) | (simp [*]; done)), H', ⟨by first | omega | exact Nat.le_refl _⟩, ⟨by (with_reducible repeat (first | refine zN ?_ _ | refine zD ?_ | refine zB ?_ _)); exact BK9D.out⟩, ⟨by repeat (first | (with_reducible first | exact HB.out | apply zW | apply zX | apply zY | refine zS ?_ GE9D.out) | exact HB.out)⟩⟩
 case rest =>
  clear HC5
  try clear c2
  try clear p2
  try clear c3
  try clear c8
  try clear hcz11_0
  try clear hcz11_1
  try clear hcz11_2
  try clear hcz9_0
  try clear hcz9_1
  try clear hcz9_2
  try clear hfz11_0
  try clear hfz11_1
  try clear hfz11_2
  try clear hfz9_0
  try clear hfz9_1
  try clear hfz9_2
  obtain ⟨kq, x25_4, rfl, HA, HJ4, BK9D, HB⟩ := hcut
  cases kq with
  | zero => exact absurd HA.out (by simp [kimberlitelaw03_CurveValues.j0])
  | succ kj4 =>
   have H := HA.out
   clear HA
   simp only [kimberlitelaw03_CurveValues.j0] at H
   by_cases c13 : x25_4 = true
   ·
    subst c13
    have H1 : ((kimberlitelaw03_alive.f).bind fun t574 => (some t574)) = some r := by rw [if_pos rfl] at H; exact H
    clear H
    have H := H1
    clear H1
    replace H := Option.bind_eq_some_iff.mp H
    obtain ⟨t574, A140, H⟩ := H
    replace H : (some t574) = some r := H
    have A14 := zA A140
    clear A140
    obtain rfl := Option.some.inj H
    go_wp2_with (first | ((with_reducible refine gate_callee (f := 17) rfl ?_); refine goesL_ (some 26) rfl rfl Try.func17 (by kernel_rfl) rfl #[] rfl (by (try simp only [List.map_toArray, List.map_cons, List.map_nil]); first | done | rfl | (simp only [List.length_drop, List.length_take]; rfl)) ?_; (with_reducible refine (kimberlitelaw03_alive.calls  t574 _ A14.out).mono ?_); rintro e w15 ⟨rfl, hb⟩; refine ⟨_, rfl, ?_⟩; have n0_ := zA (blk_below (g := gA) (o := .cells #[.int .i64 a0_0, .int .i64 a0_1, .slice A0_2 l0_2.length c0_2] 24 (0, 0)) (by (with_reducible repeat (first | refine zN ?_ _ | refine zD ?_ | refine zB ?_ _)); exact BK9D.out) hb); have n1_ := zA (below_step (by repeat (first | (with_reducible first | exact HB.out | apply zW | apply zX | apply zY | refine zS ?_ GE9D.out) | exact HB.out)) hb); clear BK9D; clear HB; have BK9D := n0_; have HB := n1_; clear n0_ n1_; (try clear hb); (try clear hb2); (try clear hk); (try clear hi)))
    go_ret
    exact ⟨by first | rfl | (simp [errW_none, errW_some] <;> rfl) | (simp [*, errW_none, errW_some] <;> rfl), by repeat (first | (with_reducible first | exact HB.out | apply zW | apply zX | apply zY | refine zS ?_ GE9D.out) | exact HB.out)⟩
   ·
    replace c13 := Bool.eq_false_iff.mpr c13
    subst c13
    have H1 : ((kimberlitelaw03_own.f kj4 a0_0 a0_1 l0_2).bind fun bt581 => ((curve_At.f bt581.1 bt581.2.1 bt581.2.2 a1).bind fun bt587 => ((kimberliteref03_At.f kj4 a0_0 a0_1 l0_2 a1).bind fun bt589 => (if bt587.1 = bt589.1 then (if bt587.2 = bt589.2 then ((curve_Valid.f bt581.1 bt581.2.1 bt581.2.2).bind fun t591 => ((kimberliteref03_Valid.f kj4 a0_0 a0_1 l0_2).bind fun t592 => (if (t591 != t592) = true then (none) else (if 0 ≤ (l3.length : Int) then (if ((l3.length : Int) : Int).toNat ≤ 35184372088832 then (kimberlitelaw03_CurveValues.l0 kj4 a2 l3 (List.replicate ((l3.length : Int) : Int).toNat 0) 0 a0_0 a0_1 l0_2 bt581.1 bt581.2.1 bt581.2.2) else (none)) else (none))))) else (none)) else (none))))) = some r := by rw [if_neg (show ¬ (false = true) by decide)] at H; exact H
    clear H
    have H := H1
    clear H1
    replace H := Option.bind_eq_some_iff.mp H
    obtain ⟨⟨t581, t582, t583⟩, A160, H⟩ := H
    replace H : ((curve_At.f t581 t582 t583 a1).bind fun bt587 => ((kimberliteref03_At.f kj4 a0_0 a0_1 l0_2 a1).bind fun bt589 => (if bt587.1 = bt589.1 then (if bt587.2 = bt589.2 then ((curve_Valid.f t581 t582 t583).bind fun t591 => ((kimberliteref03_Valid.f kj4 a0_0 a0_1 l0_2).bind fun t592 => (if (t591 != t592) = true then (none) else (if 0 ≤ (l3.length : Int) then (if ((l3.length : Int) : Int).toNat ≤ 35184372088832 then (kimberlitelaw03_CurveValues.l0 kj4 a2 l3 (List.replicate ((l3.length : Int) : Int).toNat 0) 0 a0_0 a0_1 l0_2 t581 t582 t583) else (none)) else (none))))) else (none)) else (none)))) = some r := H
    have A16 := zA A160
    clear A160
    replace H := Option.bind_eq_some_iff.mp H
    obtain ⟨⟨t587, t588⟩, A170, H⟩ := H
    replace H : ((kimberliteref03_At.f kj4 a0_0 a0_1 l0_2 a1).bind fun bt589 => (if t587 = bt589.1 then (if t588 = bt589.2 then ((curve_Valid.f t581 t582 t583).bind fun t591 => ((kimberliteref03_Valid.f kj4 a0_0 a0_1 l0_2).bind fun t592 => (if (t591 != t592) = true then (none) else (if 0 ≤ (l3.length : Int) then (if ((l3.length : Int) : Int).toNat ≤ 35184372088832 then (kimberlitelaw03_CurveValues.l0 kj4 a2 l3 (List.replicate ((l3.length : Int) : Int).toNat 0) 0 a0_0 a0_1 l0_2 t581 t582 t583) else (none)) else (none))))) else (none)) else (none))) = some r := H
    have A17 := zA A170
    clear A170
    replace H := Option.bind_eq_some_iff.mp H
    obtain ⟨⟨t589, t590⟩, A180, H⟩ := H
    replace H : (if t587 = t589 then (if t588 = t590 then ((curve_Valid.f t581 t582 t583).bind fun t591 => ((kimberliteref03_Valid.f kj4 a0_0 a0_1 l0_2).bind fun t592 => (if (t591 != t592) = true then (none) else (if 0 ≤ (l3.length : Int) then (if ((l3.length : Int) : Int).toNat ≤ 35184372088832 then (kimberlitelaw03_CurveValues.l0 kj4 a2 l3 (List.replicate ((l3.length : Int) : Int).toNat 0) 0 a0_0 a0_1 l0_2 t581 t582 t583) else (none)) else (none))))) else (none)) else (none)) = some r := H
    have A18 := zA A180
    clear A180
    by_cases c19 : t587 = t589
    ·
     rw [if_pos c19] at H
     have c19b0 : (t587 == t589) = true := beq_iff_eq.mpr c19
     have c19b1 : (t587 != t589) = false := bne_eq_false_iff_eq.mpr c19
     clear c19
     by_cases c20 : t588 = t590
     ·
      rw [if_pos c20] at H
      have c20b0 : (t588 == t590) = true := beq_iff_eq.mpr c20
      have c20b1 : (t588 != t590) = false := bne_eq_false_iff_eq.mpr c20
      clear c20
      replace H := Option.bind_eq_some_iff.mp H
      obtain ⟨t591, A210, H⟩ := H
      replace H : ((kimberliteref03_Valid.f kj4 a0_0 a0_1 l0_2).bind fun t592 => (if (t591 != t592) = true then (none) else (if 0 ≤ (l3.length : Int) then (if ((l3.length : Int) : Int).toNat ≤ 35184372088832 then (kimberlitelaw03_CurveValues.l0 kj4 a2 l3 (List.replicate ((l3.length : Int) : Int).toNat 0) 0 a0_0 a0_1 l0_2 t581 t582 t583) else (none)) else (none)))) = some r := H
      have A21 := zA A210
      clear A210
      replace H := Option.bind_eq_some_iff.mp H
      obtain ⟨t592, A220, H⟩ := H
      replace H : (if (t591 != t592) = true then (none) else (if 0 ≤ (l3.length : Int) then (if ((l3.length : Int) : Int).toNat ≤ 35184372088832 then (kimberlitelaw03_CurveValues.l0 kj4 a2 l3 (List.replicate ((l3.length : Int) : Int).toNat 0) 0 a0_0 a0_1 l0_2 t581 t582 t583) else (none)) else (none))) = some r := H
      have A22 := zA A220
      clear A220
      by_cases c23 : (t591 != t592) = true
      ·
       rw [if_pos c23] at H
       exact absurd H (by simp)
      ·
       rw [if_neg c23] at H
       have c23b0 : (t591 != t592) = false := by simpa using c23
       (try (have c23b1 : decide (t591 = t592) = true := by simpa using c23))
       (try (have c23b2 : (t591 == t592) = true := by simpa using c23))
       clear c23
       by_cases c24 : 0 ≤ (l3.length : Int)
       ·
        rw [if_pos c24] at H
        have c24b0 := eq_true c24
        have c24b1 : decide (0 ≤ (l3.length : Int)) = true := decide_eq_true c24
        clear c24
        by_cases c25 : ((l3.length : Int) : Int).toNat ≤ 35184372088832
        ·
         rw [if_pos c25] at H
         have c25b0 := eq_true c25
         have c25b1 : decide (((l3.length : Int) : Int).toNat ≤ 35184372088832) = true := decide_eq_true c25
         clear c25
         obtain ⟨y596, hy596⟩ : ∃ y_ : List Int, y_ = (List.replicate ((l3.length : Int) : Int).toNat 0) := ⟨_, rfl⟩
         replace H : (kimberlitelaw03_CurveValues.l0 kj4 a2 l3 y596 0 a0_0 a0_1 l0_2 t581 t582 t583) = some r := by first | (rw [hy596]; with_reducible exact H) | (have H2_ := (Option.bind_some _ _).symm.trans H; rw [hy596]; with_reducible exact H2_) | (have H2_ := (Option.bind_some _ _).symm.trans H; with_reducible exact H2_) | with_reducible exact H | (rw [hy596]; exact H) | exact H
         have Ny596 := zA hy596
         clear hy596
         have H' := zA H
         clear H
         have hcz26_0 : wc.cell? ⟨gA, 0, none⟩ = some (.int .i64 a0_0) := (blk_cell BK9D.out 0).trans rfl
         have hcz26_1 : wc.cell? ⟨gA, 1, none⟩ = some (.int .i64 a0_1) := (blk_cell BK9D.out 1).trans rfl
         have hcz26_2 : wc.cell? ⟨gA, 2, none⟩ = some (.slice A0_2 l0_2.length c0_2) := (blk_cell BK9D.out 2).trans rfl
         have hfz26_0 := blk_frozen BK9D.out 0
         have hfz26_1 := blk_frozen BK9D.out 1
         have hfz26_2 := blk_frozen BK9D.out 2
         try go_wp2_with (first | ((with_reducible refine gate_callee (f := 27) rfl ?_); refine goesL_ (some 28) rfl rfl Try.func27 (by kernel_rfl) rfl #[.agg #[.int .i64 a0_0, .int .i64 a0_1, .slice A0_2 l0_2.length c0_2]] rfl (by (try simp only [List.map_toArray, List.map_cons, List.map_nil]); first | done | rfl | (simp only [List.length_drop, List.length_take]; rfl)) ?_; (with_reducible refine (kimberlitelaw03_own.calls kj4 a0_0 a0_1 _ _ l0_2 t581 t582 t583 _ ?side1 ?side2 A16.out).mono ?_); (case side1 => repeat (first | exact (Kd.C_below HR0_2.out HB.out) | (with_reducible refine Kd.C_alloc ?_ _) | (with_reducible refine Kd.C_drewN ?_ _) | (with_reducible refine Kd.C_drew ?_))); (case side2 => exact HC0_2.out); rintro e w27 ⟨v584, rfl, ho0, hb⟩; refine ⟨_, rfl, ?_⟩; have n0_ := zA (Kd.R_lower ho0 (below_size (by repeat (first | (with_reducible first | exact HB.out | apply zW | apply zX | apply zY | refine zS ?_ GE9D.out) | exact HB.out)))); have n1_ := zA (blk_below (g := gA) (o := .cells #[.int .i64 a0_0, .int .i64 a0_1, .slice A0_2 l0_2.length c0_2] 24 (0, 0)) (by (with_reducible repeat (first | refine zN ?_ _ | refine zD ?_ | refine zB ?_ _)); exact BK9D.out) hb); have n2_ := zA (below_step (by repeat (first | (with_reducible first | exact HB.out | apply zW | apply zX | apply zY | refine zS ?_ GE9D.out) | exact HB.out)) hb); clear BK9D; clear HB; have HO9R := n0_; have BK9D := n1_; have HB := n2_; clear n0_ n1_ n2_; (try clear hb); (try clear hb2); (try clear hk); (try clear hi); (try clear ho0)) | ((with_reducible refine gate_dst (N := 9) rfl ?_); (try (refine gate_guard (by rfl) ?_; dsimp only)); refine box_event ?hg (N := 9) ?hd (cs := #[.int .i64 0, .int .i64 0, .slice none 0 0]) (t := 24) ?hr ?_; (case hd => rfl); (case hg => rfl); (case hr => first | (go_simp; done) | (go_simp; rfl)); intro gB hg w28 hbox hb; have n0_ := zA (Kd.R_below (by (with_reducible repeat (first | apply Kd.R_alloc | apply Kd.R_drewN | apply Kd.R_drew)); exact HO9R.out) hb); have n1_ := zA (blk_below (g := gA) (o := .cells #[.int .i64 a0_0, .int .i64 a0_1, .slice A0_2 l0_2.length c0_2] 24 (0, 0)) (by (with_reducible repeat (first | refine zN ?_ _ | refine zD ?_ | refine zB ?_ _)); exact BK9D.out) hb); have n2_ := zA (below_step (by repeat (first | (with_reducible first | exact HB.out | apply zW | apply zX | apply zY | refine zS ?_ GE9D.out) | exact HB.out)) hb); have n3_ := zA (hbox); have n4_ := zA ((by rw [hg]; exact (below_size (by repeat (first | (with_reducible first | exact HB.out | apply zW | apply zX | apply zY | refine zS ?_ GE9D.out) | exact HB.out))) : w.heap.size ≤ gB)); have n5_ := zA ((by rw [hg]; exact (below_size (by repeat (first | (with_reducible first | exact HB.out | apply zW | apply zX | apply zY | refine zS ?_ GE9D.out) | exact HB.out))) : w.heap.size ≤ gB)); have n6_ := zA ((by rw [hg]; exact Nat.ne_of_lt (blk_lt (g := gA) (o := .cells #[.int .i64 a0_0, .int .i64 a0_1, .slice A0_2 l0_2.length c0_2] 24 (0, 0)) (by (with_reducible repeat (first | refine zN ?_ _ | refine zD ?_ | refine zB ?_ _)); exact BK9D.out)) : gA ≠ gB)); have n7_ := zA ((by rw [hg]; exact Nat.ne_of_gt (blk_lt (g := gA) (o := .cells #[.int .i64 a0_0, .int .i64 a0_1, .slice A0_2 l0_2.length c0_2] 24 (0, 0)) (by (with_reducible repeat (first | refine zN ?_ _ | refine zD ?_ | refine zB ?_ _)); exact BK9D.out)) : gB ≠ gA)); clear HO9R; clear BK9D; clear HB; have HO9R := n0_; have BK9D := n1_; have HB := n2_; have BK9S := n3_; have GW9S := n4_; have GE9S := n5_; have NB571_586 := n6_; have NB586_571 := n7_; clear n0_ n1_ n2_ n3_ n4_ n5_ n6_ n7_; clear hb hbox hg; have hnb29 := NB586_571.out; have hnc29 := NB571_586.out; have hcz30_0 : w28.cell? ⟨gB, 0, none⟩ = some (.int .i64 0) := (blk_cell BK9S.out 0).trans rfl; have hcz30_1 : w28.cell? ⟨gB, 1, none⟩ = some (.int .i64 0) := (blk_cell BK9S.out 1).trans rfl; have hcz30_2 : w28.cell? ⟨gB, 2, none⟩ = some (.slice none 0 0) := (blk_cell BK9S.out 2).trans rfl; have hfz30_0 := blk_frozen BK9S.out 0; have hfz30_1 := blk_frozen BK9S.out 1; have hfz30_2 := blk_frozen BK9S.out 2; obtain ⟨Ao31, co31, eo31⟩ := Kd.R_slice HO9R.out; subst eo31) | ((with_reducible refine gate_callee (f := 28) rfl ?_); refine goesL_ (some 32) rfl rfl Try.func28 (by kernel_rfl) rfl #[.agg #[.int .i64 t581, .int .i64 t582, .slice Ao31 t583.length co31], .int .i64 a1] rfl (by (try simp only [List.map_toArray, List.map_cons, List.map_nil]); first | done | rfl | (simp only [List.length_drop, List.length_take]; rfl)) ?_; (with_reducible refine (curve_At.calls t581 t582 _ _ t583 a1 t587 t588 _ ?side1 ?side2 A17.out).mono ?_); (case side1 => refine (Kd.R_reads' (e := 3) (base := w.heap.size) (ok := fun k_ => True) (n := t583.length) (c := co31) ?_).2.2; exact (by (with_reducible repeat (first | apply Kd.R_alloc | apply Kd.R_drewN | apply Kd.R_drew)); exact (Kd.R_mono (Kd.R_far (p := ⟨gB, 2, none⟩) (Kd.R_far (p := ⟨gB, 1, none⟩) (Kd.R_far (p := ⟨gB, 0, none⟩) (Kd.R_types HO9R.out BK9S.out (by decide)) (fun _ hk => hk.2) (.int .i64 t581)) (fun _ hk => hk.2) (.int .i64 t582)) (fun _ hk => hk.2) (.slice Ao31 t583.length co31)) (fun _ h_ => h_.1)))); (case side2 => exact (Kd.R_reads' HO9R.out).2.1); rintro e w32 ⟨rfl, hb⟩; refine ⟨_, rfl, ?_⟩; have n0_ := zA (Kd.R_below (by (with_reducible repeat (first | apply Kd.R_alloc | apply Kd.R_drewN | apply Kd.R_drew)); exact (Kd.R_mono (Kd.R_far (p := ⟨gB, 2, none⟩) (Kd.R_far (p := ⟨gB, 1, none⟩) (Kd.R_far (p := ⟨gB, 0, none⟩) (Kd.R_types HO9R.out BK9S.out (by decide)) (fun _ hk => hk.2) (.int .i64 t581)) (fun _ hk => hk.2) (.int .i64 t582)) (fun _ hk => hk.2) (.slice Ao31 t583.length co31)) (fun _ h_ => h_.1))) hb); have n1_ := zA (blk_below (g := gA) (o := .cells #[.int .i64 a0_0, .int .i64 a0_1, .slice A0_2 l0_2.length c0_2] 24 (0, 0)) (by (with_reducible repeat (first | refine zN ?_ _ | refine zD ?_ | refine zB ?_ _)); refine blk_far ?_ NB571_586.out _; (with_reducible repeat (first | refine zN ?_ _ | refine zD ?_ | refine zB ?_ _)); refine blk_far ?_ NB571_586.out _; (with_reducible repeat (first | refine zN ?_ _ | refine zD ?_ | refine zB ?_ _)); refine blk_far ?_ NB571_586.out _; (with_reducible repeat (first | refine zN ?_ _ | refine zD ?_ | refine zB ?_ _)); exact BK9D.out) hb); have n2_ := zA (blk_below (g := gB) (o := .cells #[.int .i64 t581, .int .i64 t582, .slice Ao31 t583.length co31] 24 (0, 0)) (by (with_reducible repeat (first | refine zN ?_ _ | refine zD ?_ | refine zB ?_ _)); refine blk_put (cs := #[.int .i64 t581, .int .i64 t582, .slice none 0 0]) ?_ 2 _ rfl; (with_reducible repeat (first | refine zN ?_ _ | refine zD ?_ | refine zB ?_ _)); refine blk_put (cs := #[.int .i64 t581, .int .i64 0, .slice none 0 0]) ?_ 1 _ rfl; (with_reducible repeat (first | refine zN ?_ _ | refine zD ?_ | refine zB ?_ _)); refine blk_put (cs := #[.int .i64 0, .int .i64 0, .slice none 0 0]) ?_ 0 _ rfl; (with_reducible repeat (first | refine zN ?_ _ | refine zD ?_ | refine zB ?_ _)); exact BK9S.out) hb); have n3_ := zA (below_step (by repeat (first | (with_reducible first | exact HB.out | apply zW | apply zX | apply zY | refine zS ?_ GE9D.out | refine zS ?_ GE9S.out) | exact HB.out)) hb); clear HO9R; clear BK9D; clear BK9S; clear HB; have HO9R := n0_; have BK9D := n1_; have BK9S := n2_; have HB := n3_; clear n0_ n1_ n2_ n3_; (try clear hb); (try clear hb2); (try clear hk); (try clear hi); have hcz33_0 : w32.cell? ⟨gA, 0, none⟩ = some (.int .i64 a0_0) := (blk_cell BK9D.out 0).trans rfl; have hcz33_1 : w32.cell? ⟨gA, 1, none⟩ = some (.int .i64 a0_1) := (blk_cell BK9D.out 1).trans rfl; have hcz33_2 : w32.cell? ⟨gA, 2, none⟩ = some (.slice A0_2 l0_2.length c0_2) := (blk_cell BK9D.out 2).trans rfl; have hfz33_0 := blk_frozen BK9D.out 0; have hfz33_1 := blk_frozen BK9D.out 1; have hfz33_2 := blk_frozen BK9D.out 2) | ((with_reducible refine gate_callee (f := 29) rfl ?_); refine goesL_ (some 38) rfl rfl Try.func29 (by kernel_rfl) rfl #[.agg #[.int .i64 a0_0, .int .i64 a0_1, .slice A0_2 l0_2.length c0_2], .int .i64 a1] rfl (by (try simp only [List.map_toArray, List.map_cons, List.map_nil]); first | done | rfl | (simp only [List.length_drop, List.length_take]; rfl)) ?_; (with_reducible refine (kimberliteref03_At.calls kj4 a0_0 a0_1 _ _ l0_2 a1 t589 t590 _ ?side1 ?side2 A18.out).mono ?_); (case side1 => repeat (first | exact (Kd.C_below HR0_2.out HB.out) | (with_reducible refine Kd.C_alloc ?_ _) | (with_reducible refine Kd.C_drewN ?_ _) | (with_reducible refine Kd.C_drew ?_))); (case side2 => exact HC0_2.out); rintro e w34 ⟨rfl, hb⟩; refine ⟨_, rfl, ?_⟩; have n0_ := zA (Kd.R_below (by (with_reducible repeat (first | apply Kd.R_alloc | apply Kd.R_drewN | apply Kd.R_drew)); exact HO9R.out) hb); have n1_ := zA (blk_below (g := gA) (o := .cells #[.int .i64 a0_0, .int .i64 a0_1, .slice A0_2 l0_2.length c0_2] 24 (0, 0)) (by (with_reducible repeat (first | refine zN ?_ _ | refine zD ?_ | refine zB ?_ _)); exact BK9D.out) hb); have n2_ := zA (blk_below (g := gB) (o := .cells #[.int .i64 t581, .int .i64 t582, .slice Ao31 t583.length co31] 24 (0, 0)) (by (with_reducible repeat (first | refine zN ?_ _ | refine zD ?_ | refine zB ?_ _)); exact BK9S.out) hb); have n3_ := zA (below_step (by repeat (first | (with_reducible first | exact HB.out | apply zW | apply zX | apply zY | refine zS ?_ GE9D.out | refine zS ?_ GE9S.out) | exact HB.out)) hb); clear HO9R; clear BK9D; clear BK9S; clear HB; have HO9R := n0_; have BK9D := n1_; have BK9S := n2_; have HB := n3_; clear n0_ n1_ n2_ n3_; (try clear hb); (try clear hb2); (try clear hk); (try clear hi)))
         have n0_ := zA (Kd.R_drew HO9R.out)
         have n1_ := zA (zD BK9D.out)
         have n2_ := zA (zD BK9S.out)
         have n3_ := zA (zY HB.out)
         clear HO9R; clear BK9D; clear BK9S; clear HB
         have HO9R := n0_
         have BK9D := n1_
         have BK9S := n2_
         have HB := n3_
         clear n0_ n1_ n2_ n3_
         refine start_ (n := 15) (S := fun w' => w'.cell? ⟨gB, 0, none⟩ = some (.int .i64 t581) ∧ w'.cell? ⟨gB, 1, none⟩ = some (.int .i64 t582) ∧ w'.cell? ⟨gB, 2, none⟩ = some (.slice Ao31 t583.length co31) ∧ w'.cell? ⟨gA, 0, none⟩ = some (.int .i64 a0_0) ∧ w'.cell? ⟨gA, 1, none⟩ = some (.int .i64 a0_1) ∧ w'.cell? ⟨gA, 2, none⟩ = some (.slice A0_2 l0_2.length c0_2)) (ds := []) #[O,O,O,O,O,O,O,O,O,O,O,O,O,O,O] (by kernel_rfl) rfl rfl ⟨(blk_cell BK9S.out 0).trans rfl, (blk_cell BK9S.out 1).trans rfl, (blk_cell BK9S.out 2).trans rfl, (blk_cell BK9D.out 0).trans rfl, (blk_cell BK9D.out 1).trans rfl, (blk_cell BK9D.out 2).trans rfl⟩ (fun hHeld => ?_); refine with_tabW kimberlitelaw03_CurveValues.tab6 kimberlitelaw03_CurveValues.bits6 (fun HT_ HW_ => ?_)
         generalize w34.drew = w35 at HO9R BK9D BK9S HB hHeld ⊢
         refine pure_ (i := 0) (N := some 41) (v := ?_) (a' := ?_) #[Y,O,O,O,O,O,O,O,O,O,O,O,O,O,O] rfl rfl (any_of HT_.out (by kernel_rfl)) (fun _ _ _ h => h) (Or.inl ⟨by rfl, ?_⟩) ?_ ?_
         rotate_left
         ·
          intro w'; go_simp; with_reducible rfl
         rotate_left
         ·
          simp only [Act.put, z1, z2, z3, i64_w, i32_w]; rfl
         refine pure_ (i := 1) (N := some 42) (v := ?_) (a' := ?_) #[Y,Y,O,O,O,O,O,O,O,O,O,O,O,O,O] rfl rfl (any_of HT_.out (by kernel_rfl)) (fun _ _ _ h => h) (Or.inl ⟨by rfl, ?_⟩) ?_ ?_
         rotate_left
         ·
          intro w'; go_simp; with_reducible rfl
         rotate_left
         ·
          simp only [Act.put, z1, z2, z3, i64_w, i32_w]; rfl
         refine pure_ (i := 2) (N := some 43) (v := ?_) (a' := ?_) #[Y,Y,Y,O,O,O,O,O,O,O,O,O,O,O,O] rfl rfl (any_of HT_.out (by kernel_rfl)) (fun _ _ _ h => h) (Or.inl ⟨by rfl, ?_⟩) ?_ ?_
         rotate_left
         ·
          intro w'; go_simp; with_reducible rfl
         rotate_left
         ·
          simp only [Act.put, z1, z2, z3, i64_w, i32_w]; rfl
         refine pure_ (i := 3) (N := some 44) (v := ?_) (a' := ?_) #[Y,Y,Y,Y,O,O,O,O,O,O,O,O,O,O,O] rfl rfl (any_of HT_.out (by kernel_rfl)) (fun _ _ _ h => h) (Or.inl ⟨by rfl, ?_⟩) ?_ ?_
         rotate_left
         ·
          intro w'; go_simp; with_reducible rfl
         rotate_left
         ·
          simp only [Act.put, z1, z2, z3, i64_w, i32_w]; rfl
         refine pure_ (i := 4) (N := some 45) (v := ?_) (a' := ?_) #[Y,Y,Y,Y,Y,O,O,O,O,O,O,O,O,O,O] rfl rfl (any_of HT_.out (by kernel_rfl)) (fun _ _ _ h => h) (Or.inl ⟨by rfl, ?_⟩) ?_ ?_
         rotate_left
         ·
          intro w'; go_simp; with_reducible rfl
         rotate_left
         ·
          simp only [Act.put, z1, z2, z3, i64_w, i32_w]; rfl
         refine pure_ (i := 5) (N := some 46) (v := ?_) (a' := ?_) #[Y,Y,Y,Y,Y,Y,O,O,O,O,O,O,O,O,O] rfl rfl (any_of HT_.out (by kernel_rfl)) (fun _ _ _ h => h) (Or.inl ⟨by rfl, ?_⟩) ?_ ?_
         rotate_left
         ·
          intro w'; go_simp; with_reducible rfl
         rotate_left
         ·
          simp only [Act.put, z1, z2, z3, i64_w, i32_w]; rfl
         refine pure_ (i := 6) (N := some 47) (v := ?_) (a' := ?_) #[Y,Y,Y,Y,Y,Y,Y,O,O,O,O,O,O,O,O] rfl rfl (any_of HT_.out (by kernel_rfl)) (fun _ _ _ h => h) (Or.inl ⟨by rfl, ?_⟩) ?_ ?_
         rotate_left
         ·
          intro w'; go_simp; with_reducible rfl
         rotate_left
         ·
          simp only [Act.put, z1, z2, z3, i64_w, i32_w]; rfl
         refine pure_ (i := 7) (N := some 48) (v := ?_) (a' := ?_) #[Y,Y,Y,Y,Y,Y,Y,Y,O,O,O,O,O,O,O] rfl rfl (any_of HT_.out (by kernel_rfl)) (fun _ _ _ h => h) (Or.inl ⟨by rfl, ?_⟩) ?_ ?_
         rotate_left
         ·
          intro w'; go_simp; with_reducible rfl
         rotate_left
         ·
          simp only [Act.put, z1, z2, z3, i64_w, i32_w]; rfl
         refine pure_ (i := 8) (N := some 49) (v := ?_) (a' := ?_) #[Y,Y,Y,Y,Y,Y,Y,Y,Y,O,O,O,O,O,O] rfl rfl (any_of HT_.out (by kernel_rfl)) (fun _ _ _ h => h) (Or.inl ⟨by rfl, ?_⟩) ?_ ?_
         rotate_left
         ·
          intro w'; go_simp; with_reducible rfl
         rotate_left
         ·
          simp only [Act.put, z1, z2, z3, i64_w, i32_w]; rfl
         refine take_ (i := 9) (N := some 50) (v := ?_) (a' := ?_) #[Y,Y,Y,Y,Y,Y,Y,Y,Y,Y,O,O,O,O,O] rfl rfl (take_ofW HT_.out HW_.out (by kernel_rfl)) (fun _ _ _ h => h) (Or.inl ⟨by rfl, ?_⟩) hHeld ?_ ?_
         rotate_left
         ·
          rintro w' ⟨s0, s1, s2, s3, s4, s5⟩
          go_simp; with_reducible rfl
         rotate_left
         ·
          simp only [Act.put, z1, z2, z3, i64_w, i32_w]; rfl
         refine take_ (i := 11) (N := some 52) (v := ?_) (a' := ?_) #[Y,Y,Y,Y,Y,Y,Y,Y,Y,Y,O,Y,O,O,O] rfl rfl (take_ofW HT_.out HW_.out (by kernel_rfl)) (fun _ _ _ h => h) (Or.inl ⟨by rfl, ?_⟩) hHeld ?_ ?_
         rotate_left
         ·
          rintro w' ⟨s0, s1, s2, s3, s4, s5⟩
          go_simp; with_reducible rfl
         rotate_left
         ·
          simp only [Act.put, z1, z2, z3, i64_w, i32_w]; rfl
         refine one_ (i := 10) (N := some 51) #[Y,Y,Y,Y,Y,Y,Y,Y,Y,Y,Y,Y,O,O,O] rfl rfl (one_of HT_.out (by kernel_rfl)) (by decide) (fun K hK => ?_)
         refine goes_ Try.func16 (by kernel_rfl) rfl #[.agg #[.int .i64 t581, .int .i64 t582, .slice Ao31 t583.length co31]] (by rfl) rfl rfl (by (try simp only [List.map_toArray, List.map_cons, List.map_nil]); first | done | rfl | (simp only [List.length_drop, List.length_take]; rfl)) ?_
         with_reducible refine (curve_Valid.calls t581 t582 _ _ t583 t591 _ ?side1 ?side2 A21.out).mono ?_
         (case side1 => repeat (first | exact (Kd.R_reads' HO9R.out).2.2 | (with_reducible refine Kd.C_alloc ?_ _) | (with_reducible refine Kd.C_drewN ?_ _) | (with_reducible refine Kd.C_drew ?_)))
         (case side2 => exact (Kd.R_reads' HO9R.out).2.1)
         rintro e w36 ⟨rfl, hb⟩
         refine ⟨_, rfl, ?_⟩
         have n0_ := zA (Kd.R_below (by (with_reducible repeat (first | apply Kd.R_alloc | apply Kd.R_drewN | apply Kd.R_drew)); exact HO9R.out) hb)
         have n1_ := zA (blk_below (g := gA) (o := .cells #[.int .i64 a0_0, .int .i64 a0_1, .slice A0_2 l0_2.length c0_2] 24 (0, 0)) (by (with_reducible repeat (first | refine zN ?_ _ | refine zD ?_ | refine zB ?_ _)); exact BK9D.out) hb)
         have n2_ := zA (blk_below (g := gB) (o := .cells #[.int .i64 t581, .int .i64 t582, .slice Ao31 t583.length co31] 24 (0, 0)) (by (with_reducible repeat (first | refine zN ?_ _ | refine zD ?_ | refine zB ?_ _)); exact BK9S.out) hb)
         have n3_ := zA (below_step (by repeat (first | (with_reducible first | exact HB.out | apply zW | apply zX | apply zY | refine zS ?_ GE9D.out | refine zS ?_ GE9S.out) | exact HB.out)) hb)
         clear HO9R; clear BK9D; clear BK9S; clear HB
         have HO9R := n0_
         have BK9D := n1_
         have BK9S := n2_
         have HB := n3_
         clear n0_ n1_ n2_ n3_
         (try clear hb)
         (try clear hb2)
         (try clear hk)
         (try clear hi)
         refine hK.out _ _ ⟨(blk_cell BK9S.out 0).trans rfl, (blk_cell BK9S.out 1).trans rfl, (blk_cell BK9S.out 2).trans rfl, (blk_cell BK9D.out 0).trans rfl, (blk_cell BK9D.out 1).trans rfl, (blk_cell BK9D.out 2).trans rfl⟩ (fun hHeld => ?_)
         clear hK K
         refine norm_ (a' := ?_) ?_ ?_
         rotate_left
         ·
          show Act.put _ (some 51) _ = _
          simp only [Act.put, z1, z2, z3, i64_w, i32_w]; rfl
         refine one_ (i := 12) (N := some 53) #[Y,Y,Y,Y,Y,Y,Y,Y,Y,Y,Y,Y,Y,O,O] rfl rfl (one_of HT_.out (by kernel_rfl)) (by decide) (fun K hK => ?_)
         refine goes_ Try.func30 (by kernel_rfl) rfl #[.agg #[.int .i64 a0_0, .int .i64 a0_1, .slice A0_2 l0_2.length c0_2]] (by rfl) rfl rfl (by (try simp only [List.map_toArray, List.map_cons, List.map_nil]); first | done | rfl | (simp only [List.length_drop, List.length_take]; rfl)) ?_
         with_reducible refine (kimberliteref03_Valid.calls kj4 a0_0 a0_1 _ _ l0_2 t592 _ ?side1 ?side2 A22.out).mono ?_
         (case side1 => repeat (first | exact (Kd.C_below HR0_2.out HB.out) | (with_reducible refine Kd.C_alloc ?_ _) | (with_reducible refine Kd.C_drewN ?_ _) | (with_reducible refine Kd.C_drew ?_)))
         (case side2 => exact HC0_2.out)
         rintro e w37 ⟨rfl, hb⟩
         refine ⟨_, rfl, ?_⟩
         have n0_ := zA (Kd.R_below (by (with_reducible repeat (first | apply Kd.R_alloc | apply Kd.R_drewN | apply Kd.R_drew)); exact HO9R.out) hb)
         have n1_ := zA (blk_below (g := gA) (o := .cells #[.int .i64 a0_0, .int .i64 a0_1, .slice A0_2 l0_2.length c0_2] 24 (0, 0)) (by (with_reducible repeat (first | refine zN ?_ _ | refine zD ?_ | refine zB ?_ _)); exact BK9D.out) hb)
         have n2_ := zA (blk_below (g := gB) (o := .cells #[.int .i64 t581, .int .i64 t582, .slice Ao31 t583.length co31] 24 (0, 0)) (by (with_reducible repeat (first | refine zN ?_ _ | refine zD ?_ | refine zB ?_ _)); exact BK9S.out) hb)
         have n3_ := zA (below_step (by repeat (first | (with_reducible first | exact HB.out | apply zW | apply zX | apply zY | refine zS ?_ GE9D.out | refine zS ?_ GE9S.out) | exact HB.out)) hb)
         clear HO9R; clear BK9D; clear BK9S; clear HB
         have HO9R := n0_
         have BK9D := n1_
         have BK9S := n2_
         have HB := n3_
         clear n0_ n1_ n2_ n3_
         (try clear hb)
         (try clear hb2)
         (try clear hk)
         (try clear hi)
         refine hK.out _ _ ⟨(blk_cell BK9S.out 0).trans rfl, (blk_cell BK9S.out 1).trans rfl, (blk_cell BK9S.out 2).trans rfl, (blk_cell BK9D.out 0).trans rfl, (blk_cell BK9D.out 1).trans rfl, (blk_cell BK9D.out 2).trans rfl⟩ (fun hHeld => ?_)
         clear hK K
         refine norm_ (a' := ?_) ?_ ?_
         rotate_left
         ·
          show Act.put _ (some 53) _ = _
          simp only [Act.put, z1, z2, z3, i64_w, i32_w]; rfl
         refine pure_ (i := 13) (N := some 54) (v := ?_) (a' := ?_) #[Y,Y,Y,Y,Y,Y,Y,Y,Y,Y,Y,Y,Y,Y,O] rfl rfl (any_of HT_.out (by kernel_rfl)) (fun _ _ _ h => h) (Or.inl ⟨by rfl, ?_⟩) ?_ ?_
         rotate_left
         ·
          intro w'; go_simp; with_reducible rfl
         rotate_left
         ·
          simp only [Act.put, z1, z2, z3, i64_w, i32_w]; rfl
         refine pure_ (i := 14) (N := some 55) (v := ?_) (a' := ?_) #[Y,Y,Y,Y,Y,Y,Y,Y,Y,Y,Y,Y,Y,Y,Y] rfl rfl (any_of HT_.out (by kernel_rfl)) (fun _ _ _ h => h) (Or.inl ⟨by rfl, ?_⟩) ?_ ?_
         rotate_left
         ·
          intro w'; go_simp; with_reducible rfl
         rotate_left
         ·
          simp only [Act.put, z1, z2, z3, i64_w, i32_w]; rfl
         refine done_ (done_of HT_.out (by kernel_rfl)) ?_
         try go_wp2_with (first | ((with_reducible refine gate_dst (N := 58) rfl ?_); (try (refine gate_guard (by rfl) ?_; dsimp only)); refine Kd.R_make (Kd.int .i64) _ 3 rfl (N := 58) rfl 22 _ _ rfl (l3.length : Int) rfl rfl Try.underlying22 (.int .i64 0) 8 info3 rfl (by decide) (by omega) 0 (ok := fun _ => True) (okp := fun _ => True) rfl (fun _ hk => hk) trivial (of_decide_eq_true (by first | (with_reducible assumption) | assumption)) (Nat.le_trans (Nat.mul_le_mul_right _ (of_decide_eq_true (by first | (with_reducible assumption) | assumption) : (l3.length : Int).toNat ≤ 35184372088832)) (by omega)) (Below.refl _ _) (Nat.le_refl _) ?_; intro v597 w38 ho39 hb hg_ hnew_; clear hg_ hnew_; (first | rw [← Ny596.out] at ho39 | (simp only [Int.reduceToNat] at ho39; rw [← Ny596.out] at ho39)); have n0_ := zA (Kd.R_elder' (by (with_reducible repeat (first | apply Kd.R_alloc | apply Kd.R_drewN | apply Kd.R_drew)); exact HO9R.out) (Kd.R_base ho39) hb); have n1_ := zA (Kd.R_lower (Kd.R_new' ho39 (Kd.R_lt (by (with_reducible repeat (first | apply Kd.R_alloc | apply Kd.R_drewN | apply Kd.R_drew)); exact HO9R.out))) (below_size (by repeat (first | (with_reducible first | exact HB.out | apply zW | apply zX | apply zY | refine zS ?_ GE9D.out | refine zS ?_ GE9S.out) | exact HB.out)))); have n2_ := zA (blk_below (g := gA) (o := .cells #[.int .i64 a0_0, .int .i64 a0_1, .slice A0_2 l0_2.length c0_2] 24 (0, 0)) (by (with_reducible repeat (first | refine zN ?_ _ | refine zD ?_ | refine zB ?_ _)); exact BK9D.out) hb); have n3_ := zA (blk_below (g := gB) (o := .cells #[.int .i64 t581, .int .i64 t582, .slice Ao31 t583.length co31] 24 (0, 0)) (by (with_reducible repeat (first | refine zN ?_ _ | refine zD ?_ | refine zB ?_ _)); exact BK9S.out) hb); have n4_ := zA (below_step (by repeat (first | (with_reducible first | exact HB.out | apply zW | apply zX | apply zY | refine zS ?_ GE9D.out | refine zS ?_ GE9S.out) | exact HB.out)) hb); clear HO9R; clear BK9D; clear BK9S; clear HB; have HO9R := n0_; have HO9e := n1_; have BK9D := n2_; have BK9S := n3_; have HB := n4_; clear n0_ n1_ n2_ n3_ n4_; clear hb ho39))
         go_loopg [15] kj4 (fun kq v15 w' => ∃ (x14_2 : List Int) (x15_2 : Int), v15 = .int .i64 x15_2 ∧ Aside0 (kimberlitelaw03_CurveValues.l0 kq a2 l3 x14_2 x15_2 a0_0 a0_1 l0_2 t581 t582 t583 = some r) ∧ Aside0 (kq ≤ kj4) ∧ Aside0 (Kd.R (Kd.int .i64) 3 w' w.heap.size (fun k_ => some k_ ≠ ((.slice Ao31 t583.length co31) : Value).ownBlock) v597 x14_2) ∧ Aside0 (Kd.R (Kd.int .i64) 3 w' w.heap.size (fun k_ => some k_ ≠ (v597 : Value).ownBlock) (.slice Ao31 t583.length co31) t583) ∧ Aside0 (w'.heap[gA]? = some (.cells #[.int .i64 a0_0, .int .i64 a0_1, (.slice A0_2 l0_2.length c0_2)] 24 (0, 0))) ∧ Aside0 (w'.heap[gB]? = some (.cells #[.int .i64 t581, .int .i64 t582, (.slice Ao31 t583.length co31)] 24 (0, 0))) ∧ Aside0 (Below w.heap.size w w'))
         case atStart => exact ⟨(y596), (0), (by first | rfl | (simp; done) | (simp [*]; done)), H', ⟨Nat.le_refl _⟩, ⟨by (with_reducible repeat (first | apply Kd.R_alloc | apply Kd.R_drewN | apply Kd.R_drew)); exact Kd.R_mono HO9e.out (fun _ hk => hk.2)⟩, ⟨by (with_reducible repeat (first | apply Kd.R_alloc | apply Kd.R_drewN | apply Kd.R_drew)); exact Kd.R_mono HO9R.out (fun _ hk => hk.2)⟩, ⟨by (with_reducible repeat (first | refine zN ?_ _ | refine zD ?_ | refine zB ?_ _)); exact BK9D.out⟩, ⟨by (with_reducible repeat (first | refine zN ?_ _ | refine zD ?_ | refine zB ?_ _)); exact BK9S.out⟩, ⟨by repeat (first | (with_reducible first | exact HB.out | apply zW | apply zX | apply zY | refine zS ?_ GE9D.out | refine zS ?_ GE9S.out) | exact HB.out)⟩⟩
         case round =>
          clear H'
          try clear c1
          try clear c2
          try clear p2
          try clear c3
          try clear c8
          try clear c13
          try clear c16
          try clear c17
          try clear c19
          try clear c19b0
          try clear c19b1
          try clear c20
          try clear c20b0
          try clear c20b1
          try clear c22
          try clear c23
          try clear c23b0
          try clear c23b1
          try clear c23b2
          try clear c24
          try clear c24b0
          try clear c24b1
          try clear c25
          try clear c25b0
          try clear c25b1
          try clear c27
          try clear c28
          try clear c29
          try clear c30
          try clear hcz11_0
          try clear hcz11_1
          try clear hcz11_2
          try clear hcz26_0
          try clear hcz26_1
          try clear hcz26_2
          try clear hcz30_0
          try clear hcz30_1
          try clear hcz30_2
          try clear hcz33_0
          try clear hcz33_1
          try clear hcz33_2
          try clear hcz9_0
          try clear hcz9_1
          try clear hcz9_2
          try clear hfz11_0
          try clear hfz11_1
          try clear hfz11_2
          try clear hfz26_0
          try clear hfz26_1
          try clear hfz26_2
          try clear hfz30_0
          try clear hfz30_1
          try clear hfz30_2
          try clear hfz33_0
          try clear hfz33_1
          try clear hfz33_2
          try clear hfz9_0
          try clear hfz9_1
          try clear hfz9_2
          try clear p2
          obtain ⟨x14_2, x15_2, rfl, HA, HK2, HO_14, HO_587002, BK9D, BK9S, HB⟩ := hrel
          cases gk with
          | zero => exact absurd HA.out (by simp [kimberlitelaw03_CurveValues.l0])
          | succ k2 =>
           have H := HA.out
           clear HA
           simp only [kimberlitelaw03_CurveValues.l0] at H
           by_cases c40 : x15_2 < (l3.length : Int)
           ·
            rw [if_pos c40] at H
            have c40b0 : decide (x15_2 < (l3.length : Int)) = true := decide_eq_true c40
            clear c40
            by_cases c41 : 0 ≤ x15_2
            ·
             rw [if_pos c41] at H
             have c41b0 : decide (0 ≤ x15_2) = true := decide_eq_true c41
             clear c41
             by_cases c42 : x15_2 < (x14_2.length : Int)
             ·
              rw [if_pos c42] at H
              have c42b0 : decide (x15_2 < (x14_2.length : Int)) = true := decide_eq_true c42
              clear c42
              obtain ⟨y600, hy600⟩ : ∃ y_ : List Int, y_ = (x14_2.set (x15_2 : Int).toNat (rd l3 x15_2)) := ⟨_, rfl⟩
              replace H : (kimberlitelaw03_CurveValues.l0 k2 a2 l3 y600 (wrap64 (x15_2 + 1)) a0_0 a0_1 l0_2 t581 t582 t583) = some r := by first | (rw [hy600]; with_reducible exact H) | (have H2_ := (Option.bind_some _ _).symm.trans H; rw [hy600]; with_reducible exact H2_) | (have H2_ := (Option.bind_some _ _).symm.trans H; with_reducible exact H2_) | with_reducible exact H | (rw [hy600]; exact H) | exact H
              have Ny600 := zA hy600
              clear hy600
              have H' := zA H
              clear H
              have p599 : 0 ≤ (x15_2 : Int) := of_decide_eq_true (by first | (with_reducible assumption) | assumption)
              have q599 : x15_2 < (l3.length : Int) := of_decide_eq_true (by first | (with_reducible assumption) | assumption)
              obtain ⟨ad599, e599, hx599_0⟩ := Kd.at_int HR3.out x15_2 p599 q599
              cases e599
              replace hx599_0 := (HB.out.cell (World.block_lt_of_cell? w _ hx599_0)).trans hx599_0
              replace p599 := eq_true p599
              replace q599 := eq_true q599
              have p43 : 0 ≤ (x15_2 : Int) := of_decide_eq_true (by first | (with_reducible assumption) | assumption)
              have q43 : (x15_2 : Int) < ((x14_2.length : Int) : Int) := of_decide_eq_true (by first | (with_reducible assumption) | assumption)
              obtain ⟨go43, co43, eo43, gb43, gl43, cl43, HG43⟩ := Kd.R_form HO_14.out (by omega)
              (first | cases eo43 | (injection eo43 with ea_ en_ ec_; (first | subst ea_ | (injection ea_ with ea_; subst ea_)); subst ec_; clear en_))
              have GB43 := zA gb43
              have GG43 := zA HG43
              clear gb43 gl43 HG43
              obtain ⟨hx43_0, hf43_0⟩ := Kd.R_celln 0 HO_14.out (x15_2 : Int) p43 q43
              replace p43 := eq_true p43
              replace q43 := eq_true q43
              have HP44 := Kd.R_putg HO_14.out (x15_2 : Int) (rd l3 x15_2)
              go_wp2_with (first | ((with_reducible refine gate_store (t := 3) (p := 71) rfl ?_); refine store_event (t := 3) (p := 71) (v := ?vo_w45) (w1 := (wr.setCell ⟨go43, (x15_2 : Int).toNat, none⟩ (.int .i64 (rd l3 x15_2)))) ?hg ?ho ?hn ?hr ?_; (case ho => rfl); (case hg => rfl); (case hn => rfl); (case hr => first | (go_simp; done) | (go_simp; rfl)); intro w45 hw; have hg : wr.grownBy w45 (some go43) := (by rw [hw]; exact HP44.2); have hp_ : Kd.R (Kd.int .i64) 3 w45 w.heap.size (fun k_ => some k_ ≠ (.slice Ao31 t583.length co31 : Value).ownBlock) (.slice (some ⟨go43, 0, none⟩) x14_2.length co43) y600 := (by rw [hw, Ny600.out]; exact HP44.1); clear HP44; have n0_ := zA (hp_); have n1_ := zA (Kd.R_after (v := (.slice (some ⟨go43, 0, none⟩) x14_2.length co43)) (v1 := (.slice (some ⟨go43, 0, none⟩) x14_2.length co43)) (ok := (fun _ => True)) (by (with_reducible repeat (first | apply Kd.R_alloc | apply Kd.R_drewN | apply Kd.R_drew)); exact Kd.R_mono HO_587002.out (fun _ hk => ⟨trivial, hk⟩)) hg (.inl rfl)); have n2_ := zA (blk_grown (g := gA) (o := .cells #[.int .i64 a0_0, .int .i64 a0_1, .slice A0_2 l0_2.length c0_2] 24 (0, 0)) (by (with_reducible repeat (first | refine zN ?_ _ | refine zD ?_ | refine zB ?_ _)); exact BK9D.out) hg (Kd.R_ne HO_14.out BK9D.out (by decide))); have n3_ := zA (blk_grown (g := gB) (o := .cells #[.int .i64 t581, .int .i64 t582, .slice Ao31 t583.length co31] 24 (0, 0)) (by (with_reducible repeat (first | refine zN ?_ _ | refine zD ?_ | refine zB ?_ _)); exact BK9S.out) hg (Kd.R_ne HO_14.out BK9S.out (by decide))); have n4_ := zA ((by rw [hw]; exact zS (HB.out) GB43.out : Below w.heap.size w w45)); clear HO_14; clear HO_587002; clear BK9D; clear BK9S; clear HB; have HO_14 := n0_; have HO_587002 := n1_; have BK9D := n2_; have BK9S := n3_; have HB := n4_; clear n0_ n1_ n2_ n3_ n4_; clear hg hw hp_))
              go_roundg k2
              case measure => have := HJ4.out; have := HK2.out; omega
              case rel => exact ⟨(y600), (wrap64 (x15_2 + 1)), (by first | rfl | (simp; done) | (simp [*]; done)), H', ⟨by have := HJ4.out; have := HK2.out; omega⟩, ⟨by (with_reducible repeat (first | apply Kd.R_alloc | apply Kd.R_drewN | apply Kd.R_drew)); exact HO_14.out⟩, ⟨by (with_reducible repeat (first | apply Kd.R_alloc | apply Kd.R_drewN | apply Kd.R_drew)); exact Kd.R_mono HO_587002.out (fun _ hk => hk.2)⟩, ⟨by (with_reducible repeat (first | refine zN ?_ _ | refine zD ?_ | refine zB ?_ _)); exact BK9D.out⟩, ⟨by (with_reducible repeat (first | refine zN ?_ _ | refine zD ?_ | refine zB ?_ _)); exact BK9S.out⟩, ⟨by repeat (first | (with_reducible first | exact HB.out | apply zW | apply zX | apply zY | refine zS ?_ GE9D.out | refine zS ?_ GE9S.out) | exact HB.out)⟩⟩
             ·
              rw [if_neg c42] at H
              exact absurd H (by simp)
            ·
             rw [if_neg c41] at H
             exact absurd H (by simp)
           ·
            rw [if_neg c40] at H
            have c40b0 : decide (x15_2 < (l3.length : Int)) = false := decide_eq_false c40
            clear c40
            replace H := Option.bind_eq_some_iff.mp H
            obtain ⟨⟨t607, t608, t609, t612⟩, A460, H⟩ := H
            replace H : ((kimberliteref03_Of.f k2 a2 l3).bind fun bt614 => ((kimberlitelaw03_told.f k2 t607 t608 t609 t612 bt614.1 bt614.2.1 bt614.2.2.1 bt614.2.2.2).bind fun bt621 => (if bt621.1 = true then ((kimberlitelaw03_same.f k2 x14_2 l3).bind fun t623 => (if t623 = true then ((kimberlitelaw03_alike.f k2 a0_0 a0_1 l0_2 t581 t582 t583).bind fun t624 => (if t624 = true then ((kimberlitelaw03_alive.f).bind fun t625 => (some t625)) else (none))) else (none))) else (none)))) = some r := H
            have A46 := zA A460
            clear A460
            replace H := Option.bind_eq_some_iff.mp H
            obtain ⟨⟨t614, t615, t616, t619⟩, A470, H⟩ := H
            replace H : ((kimberlitelaw03_told.f k2 t607 t608 t609 t612 t614 t615 t616 t619).bind fun bt621 => (if bt621.1 = true then ((kimberlitelaw03_same.f k2 x14_2 l3).bind fun t623 => (if t623 = true then ((kimberlitelaw03_alike.f k2 a0_0 a0_1 l0_2 t581 t582 t583).bind fun t624 => (if t624 = true then ((kimberlitelaw03_alive.f).bind fun t625 => (some t625)) else (none))) else (none))) else (none))) = some r := H
            have A47 := zA A470
            clear A470
            replace H := Option.bind_eq_some_iff.mp H
            obtain ⟨⟨t621, t622⟩, A480, H⟩ := H
            replace H : (if t621 = true then ((kimberlitelaw03_same.f k2 x14_2 l3).bind fun t623 => (if t623 = true then ((kimberlitelaw03_alike.f k2 a0_0 a0_1 l0_2 t581 t582 t583).bind fun t624 => (if t624 = true then ((kimberlitelaw03_alive.f).bind fun t625 => (some t625)) else (none))) else (none))) else (none)) = some r := H
            have A48 := zA A480
            clear A480
            by_cases c49 : t621 = true
            ·
             subst c49
             have H1 : ((kimberlitelaw03_same.f k2 x14_2 l3).bind fun t623 => (if t623 = true then ((kimberlitelaw03_alike.f k2 a0_0 a0_1 l0_2 t581 t582 t583).bind fun t624 => (if t624 = true then ((kimberlitelaw03_alive.f).bind fun t625 => (some t625)) else (none))) else (none))) = some r := by rw [if_pos rfl] at H; exact H
             clear H
             have H := H1
             clear H1
             replace H := Option.bind_eq_some_iff.mp H
             obtain ⟨t623, A500, H⟩ := H
             replace H : (if t623 = true then ((kimberlitelaw03_alike.f k2 a0_0 a0_1 l0_2 t581 t582 t583).bind fun t624 => (if t624 = true then ((kimberlitelaw03_alive.f).bind fun t625 => (some t625)) else (none))) else (none)) = some r := H
             have A50 := zA A500
             clear A500
             by_cases c51 : t623 = true
             ·
              subst c51
              have H1 : ((kimberlitelaw03_alike.f k2 a0_0 a0_1 l0_2 t581 t582 t583).bind fun t624 => (if t624 = true then ((kimberlitelaw03_alive.f).bind fun t625 => (some t625)) else (none))) = some r := by rw [if_pos rfl] at H; exact H
              clear H
              have H := H1
              clear H1
              replace H := Option.bind_eq_some_iff.mp H
              obtain ⟨t624, A520, H⟩ := H
              replace H : (if t624 = true then ((kimberlitelaw03_alive.f).bind fun t625 => (some t625)) else (none)) = some r := H
              have A52 := zA A520
              clear A520
              by_cases c53 : t624 = true
              ·
               subst c53
               have H1 : ((kimberlitelaw03_alive.f).bind fun t625 => (some t625)) = some r := by rw [if_pos rfl] at H; exact H
               clear H
               have H := H1
               clear H1
               replace H := Option.bind_eq_some_iff.mp H
               obtain ⟨t625, A540, H⟩ := H
               replace H : (some t625) = some r := H
               have A54 := zA A540
               clear A540
               obtain rfl := Option.some.inj H
               obtain ⟨Ao55, co55, eo55⟩ := Kd.R_slice HO_14.out
               subst eo55
               go_wp2_with (first | ((with_reducible refine gate_callee (f := 31) rfl ?_); refine goesL_ (some 75) rfl rfl Try.func31 (by kernel_rfl) rfl #[.int .i64 a2, .slice Ao55 x14_2.length co55] rfl (by (try simp only [List.map_toArray, List.map_cons, List.map_nil]); first | done | rfl | (simp only [List.length_drop, List.length_take]; rfl)) ?_; (with_reducible refine (curve_Of.calls a2 _ _ x14_2 t607 t608 t609 t612 _ ?side1 ?side2 A46.out).mono ?_); (case side1 => repeat (first | exact (Kd.R_reads' HO_14.out).2.2 | (with_reducible refine Kd.C_alloc ?_ _) | (with_reducible refine Kd.C_drewN ?_ _) | (with_reducible refine Kd.C_drew ?_))); (case side2 => exact (Kd.R_reads' HO_14.out).2.1); rintro e w56 ⟨v610, rfl, ho0, hb⟩; refine ⟨_, rfl, ?_⟩; have n0_ := zA (Kd.R_elder' (by (with_reducible repeat (first | apply Kd.R_alloc | apply Kd.R_drewN | apply Kd.R_drew)); exact HO_14.out) (Kd.R_base ho0) hb); have n1_ := zA (Kd.R_elder' (by (with_reducible repeat (first | apply Kd.R_alloc | apply Kd.R_drewN | apply Kd.R_drew)); exact HO_587002.out) (Kd.R_base ho0) hb); have n2_ := zA (Kd.R_lower (Kd.R_new' (Kd.R_new' ho0 (Kd.R_lt (by (with_reducible repeat (first | apply Kd.R_alloc | apply Kd.R_drewN | apply Kd.R_drew)); exact HO_14.out))) (Kd.R_lt (by (with_reducible repeat (first | apply Kd.R_alloc | apply Kd.R_drewN | apply Kd.R_drew)); exact HO_587002.out))) (below_size (by repeat (first | (with_reducible first | exact HB.out | apply zW | apply zX | apply zY | refine zS ?_ GE9D.out | refine zS ?_ GE9S.out) | exact HB.out)))); have n3_ := zA (blk_below (g := gA) (o := .cells #[.int .i64 a0_0, .int .i64 a0_1, .slice A0_2 l0_2.length c0_2] 24 (0, 0)) (by (with_reducible repeat (first | refine zN ?_ _ | refine zD ?_ | refine zB ?_ _)); exact BK9D.out) hb); have n4_ := zA (blk_below (g := gB) (o := .cells #[.int .i64 t581, .int .i64 t582, .slice Ao31 t583.length co31] 24 (0, 0)) (by (with_reducible repeat (first | refine zN ?_ _ | refine zD ?_ | refine zB ?_ _)); exact BK9S.out) hb); have n5_ := zA (below_step (by repeat (first | (with_reducible first | exact HB.out | apply zW | apply zX | apply zY | refine zS ?_ GE9D.out | refine zS ?_ GE9S.out) | exact HB.out)) hb); clear HO_14; clear HO_587002; clear BK9D; clear BK9S; clear HB; have HO_14 := n0_; have HO_587002 := n1_; have HO9r := n2_; have BK9D := n3_; have BK9S := n4_; have HB := n5_; clear n0_ n1_ n2_ n3_ n4_ n5_; (try clear hb); (try clear hb2); (try clear hk); (try clear hi); (try clear ho0)) | ((with_reducible refine gate_dst (N := 16) rfl ?_); (try (refine gate_guard (by rfl) ?_; dsimp only)); refine box_event ?hg (N := 16) ?hd (cs := #[.int .i64 0, .int .i64 0, .slice none 0 0]) (t := 24) ?hr ?_; (case hd => rfl); (case hg => rfl); (case hr => first | (go_simp; done) | (go_simp; rfl)); intro gC hg w57 hbox hb; have n0_ := zA (Kd.R_below (by (with_reducible repeat (first | apply Kd.R_alloc | apply Kd.R_drewN | apply Kd.R_drew)); exact HO_14.out) hb); have n1_ := zA (Kd.R_below (by (with_reducible repeat (first | apply Kd.R_alloc | apply Kd.R_drewN | apply Kd.R_drew)); exact HO_587002.out) hb); have n2_ := zA (Kd.R_below (by (with_reducible repeat (first | apply Kd.R_alloc | apply Kd.R_drewN | apply Kd.R_drew)); exact HO9r.out) hb); have n3_ := zA (blk_below (g := gA) (o := .cells #[.int .i64 a0_0, .int .i64 a0_1, .slice A0_2 l0_2.length c0_2] 24 (0, 0)) (by (with_reducible repeat (first | refine zN ?_ _ | refine zD ?_ | refine zB ?_ _)); exact BK9D.out) hb); have n4_ := zA (blk_below (g := gB) (o := .cells #[.int .i64 t581, .int .i64 t582, .slice Ao31 t583.length co31] 24 (0, 0)) (by (with_reducible repeat (first | refine zN ?_ _ | refine zD ?_ | refine zB ?_ _)); exact BK9S.out) hb); have n5_ := zA (below_step (by repeat (first | (with_reducible first | exact HB.out | apply zW | apply zX | apply zY | refine zS ?_ GE9D.out | refine zS ?_ GE9S.out) | exact HB.out)) hb); have n6_ := zA (hbox); have n7_ := zA ((by rw [hg]; exact (below_size (by repeat (first | (with_reducible first | exact HB.out | apply zW | apply zX | apply zY | refine zS ?_ GE9D.out | refine zS ?_ GE9S.out) | exact HB.out))) : w.heap.size ≤ gC)); have n8_ := zA ((by rw [hg]; exact (below_size (by repeat (first | (with_reducible first | exact HB.out | apply zW | apply zX | apply zY | refine zS ?_ GE9D.out | refine zS ?_ GE9S.out) | exact HB.out))) : w.heap.size ≤ gC)); have n9_ := zA ((by rw [hg]; exact Nat.ne_of_lt (blk_lt (g := gA) (o := .cells #[.int .i64 a0_0, .int .i64 a0_1, .slice A0_2 l0_2.length c0_2] 24 (0, 0)) (by (with_reducible repeat (first | refine zN ?_ _ | refine zD ?_ | refine zB ?_ _)); exact BK9D.out)) : gA ≠ gC)); have n10_ := zA ((by rw [hg]; exact Nat.ne_of_gt (blk_lt (g := gA) (o := .cells #[.int .i64 a0_0, .int .i64 a0_1, .slice A0_2 l0_2.length c0_2] 24 (0, 0)) (by (with_reducible repeat (first | refine zN ?_ _ | refine zD ?_ | refine zB ?_ _)); exact BK9D.out)) : gC ≠ gA)); have n11_ := zA ((by rw [hg]; exact Nat.ne_of_lt (blk_lt (g := gB) (o := .cells #[.int .i64 t581, .int .i64 t582, .slice Ao31 t583.length co31] 24 (0, 0)) (by (with_reducible repeat (first | refine zN ?_ _ | refine zD ?_ | refine zB ?_ _)); exact BK9S.out)) : gB ≠ gC)); have n12_ := zA ((by rw [hg]; exact Nat.ne_of_gt (blk_lt (g := gB) (o := .cells #[.int .i64 t581, .int .i64 t582, .slice Ao31 t583.length co31] 24 (0, 0)) (by (with_reducible repeat (first | refine zN ?_ _ | refine zD ?_ | refine zB ?_ _)); exact BK9S.out)) : gC ≠ gB)); clear HO_14; clear HO_587002; clear HO9r; clear BK9D; clear BK9S; clear HB; have HO_14 := n0_; have HO_587002 := n1_; have HO9r := n2_; have BK9D := n3_; have BK9S := n4_; have HB := n5_; have BK9t := n6_; have GW9t := n7_; have GE9t := n8_; have NB571_613 := n9_; have NB613_571 := n10_; have NB586_613 := n11_; have NB613_586 := n12_; clear n0_ n1_ n2_ n3_ n4_ n5_ n6_ n7_ n8_ n9_ n10_ n11_ n12_; clear hb hbox hg; have hnb58 := NB613_571.out; have hnc58 := NB571_613.out; have hnb59 := NB613_586.out; have hnc59 := NB586_613.out; have hcz60_0 : w57.cell? ⟨gC, 0, none⟩ = some (.int .i64 0) := (blk_cell BK9t.out 0).trans rfl; have hcz60_1 : w57.cell? ⟨gC, 1, none⟩ = some (.int .i64 0) := (blk_cell BK9t.out 1).trans rfl; have hcz60_2 : w57.cell? ⟨gC, 2, none⟩ = some (.slice none 0 0) := (blk_cell BK9t.out 2).trans rfl; have hfz60_0 := blk_frozen BK9t.out 0; have hfz60_1 := blk_frozen BK9t.out 1; have hfz60_2 := blk_frozen BK9t.out 2; obtain ⟨Ao61, co61, eo61⟩ := Kd.R_slice HO9r.out; subst eo61) | ((with_reducible refine gate_callee (f := 32) rfl ?_); refine goesL_ (some 81) rfl rfl Try.func32 (by kernel_rfl) rfl #[.int .i64 a2, .slice A3 l3.length c3] rfl (by (try simp only [List.map_toArray, List.map_cons, List.map_nil]); first | done | rfl | (simp only [List.length_drop, List.length_take]; rfl)) ?_; (with_reducible refine (kimberliteref03_Of.calls k2 a2 _ _ l3 t614 t615 t616 t619 _ ?side1 ?side2 A47.out).mono ?_); (case side1 => exact Kd.C_below HR3.out (by repeat (first | (with_reducible first | exact HB.out | apply zW | apply zX | apply zY | refine zS ?_ GE9D.out | refine zS ?_ GE9S.out | refine zS ?_ GE9t.out) | exact HB.out))); (case side2 => exact HC3.out); rintro e w62 ⟨v617, rfl, ho0, hb⟩; refine ⟨_, rfl, ?_⟩; have n0_ := zA (Kd.R_elder' (by (with_reducible repeat (first | apply Kd.R_alloc | apply Kd.R_drewN | apply Kd.R_drew)); exact (Kd.R_mono (Kd.R_far (p := ⟨gC, 2, none⟩) (Kd.R_far (p := ⟨gC, 1, none⟩) (Kd.R_far (p := ⟨gC, 0, none⟩) (Kd.R_types HO_14.out BK9t.out (by decide)) (fun _ hk => hk.2) (.int .i64 t607)) (fun _ hk => hk.2) (.int .i64 t608)) (fun _ hk => hk.2) (.slice Ao61 t609.length co61)) (fun _ h_ => h_.1))) (Kd.R_base ho0) hb); have n1_ := zA (Kd.R_elder' (by (with_reducible repeat (first | apply Kd.R_alloc | apply Kd.R_drewN | apply Kd.R_drew)); exact (Kd.R_mono (Kd.R_far (p := ⟨gC, 2, none⟩) (Kd.R_far (p := ⟨gC, 1, none⟩) (Kd.R_far (p := ⟨gC, 0, none⟩) (Kd.R_types HO_587002.out BK9t.out (by decide)) (fun _ hk => hk.2) (.int .i64 t607)) (fun _ hk => hk.2) (.int .i64 t608)) (fun _ hk => hk.2) (.slice Ao61 t609.length co61)) (fun _ h_ => h_.1))) (Kd.R_base ho0) hb); have n2_ := zA (Kd.R_elder' (by (with_reducible repeat (first | apply Kd.R_alloc | apply Kd.R_drewN | apply Kd.R_drew)); exact (Kd.R_mono (Kd.R_far (p := ⟨gC, 2, none⟩) (Kd.R_far (p := ⟨gC, 1, none⟩) (Kd.R_far (p := ⟨gC, 0, none⟩) (Kd.R_types HO9r.out BK9t.out (by decide)) (fun _ hk => hk.2) (.int .i64 t607)) (fun _ hk => hk.2) (.int .i64 t608)) (fun _ hk => hk.2) (.slice Ao61 t609.length co61)) (fun _ h_ => h_.1))) (Kd.R_base ho0) hb); have n3_ := zA (Kd.R_lower (Kd.R_new' (Kd.R_new' (Kd.R_new' ho0 (Kd.R_lt (by (with_reducible repeat (first | apply Kd.R_alloc | apply Kd.R_drewN | apply Kd.R_drew)); exact (Kd.R_mono (Kd.R_far (p := ⟨gC, 2, none⟩) (Kd.R_far (p := ⟨gC, 1, none⟩) (Kd.R_far (p := ⟨gC, 0, none⟩) (Kd.R_types HO_14.out BK9t.out (by decide)) (fun _ hk => hk.2) (.int .i64 t607)) (fun _ hk => hk.2) (.int .i64 t608)) (fun _ hk => hk.2) (.slice Ao61 t609.length co61)) (fun _ h_ => h_.1))))) (Kd.R_lt (by (with_reducible repeat (first | apply Kd.R_alloc | apply Kd.R_drewN | apply Kd.R_drew)); exact (Kd.R_mono (Kd.R_far (p := ⟨gC, 2, none⟩) (Kd.R_far (p := ⟨gC, 1, none⟩) (Kd.R_far (p := ⟨gC, 0, none⟩) (Kd.R_types HO_587002.out BK9t.out (by decide)) (fun _ hk => hk.2) (.int .i64 t607)) (fun _ hk => hk.2) (.int .i64 t608)) (fun _ hk => hk.2) (.slice Ao61 t609.length co61)) (fun _ h_ => h_.1))))) (Kd.R_lt (by (with_reducible repeat (first | apply Kd.R_alloc | apply Kd.R_drewN | apply Kd.R_drew)); exact (Kd.R_mono (Kd.R_far (p := ⟨gC, 2, none⟩) (Kd.R_far (p := ⟨gC, 1, none⟩) (Kd.R_far (p := ⟨gC, 0, none⟩) (Kd.R_types HO9r.out BK9t.out (by decide)) (fun _ hk => hk.2) (.int .i64 t607)) (fun _ hk => hk.2) (.int .i64 t608)) (fun _ hk => hk.2) (.slice Ao61 t609.length co61)) (fun _ h_ => h_.1))))) (below_size (by repeat (first | (with_reducible first | exact HB.out | apply zW | apply zX | apply zY | refine zS ?_ GE9D.out | refine zS ?_ GE9S.out | refine zS ?_ GE9t.out) | exact HB.out)))); have n4_ := zA (blk_below (g := gA) (o := .cells #[.int .i64 a0_0, .int .i64 a0_1, .slice A0_2 l0_2.length c0_2] 24 (0, 0)) (by (with_reducible repeat (first | refine zN ?_ _ | refine zD ?_ | refine zB ?_ _)); refine blk_far ?_ NB571_613.out _; (with_reducible repeat (first | refine zN ?_ _ | refine zD ?_ | refine zB ?_ _)); refine blk_far ?_ NB571_613.out _; (with_reducible repeat (first | refine zN ?_ _ | refine zD ?_ | refine zB ?_ _)); refine blk_far ?_ NB571_613.out _; (with_reducible repeat (first | refine zN ?_ _ | refine zD ?_ | refine zB ?_ _)); exact BK9D.out) hb); have n5_ := zA (blk_below (g := gB) (o := .cells #[.int .i64 t581, .int .i64 t582, .slice Ao31 t583.length co31] 24 (0, 0)) (by (with_reducible repeat (first | refine zN ?_ _ | refine zD ?_ | refine zB ?_ _)); refine blk_far ?_ NB586_613.out _; (with_reducible repeat (first | refine zN ?_ _ | refine zD ?_ | refine zB ?_ _)); refine blk_far ?_ NB586_613.out _; (with_reducible repeat (first | refine zN ?_ _ | refine zD ?_ | refine zB ?_ _)); refine blk_far ?_ NB586_613.out _; (with_reducible repeat (first | refine zN ?_ _ | refine zD ?_ | refine zB ?_ _)); exact BK9S.out) hb); have n6_ := zA (blk_below (g := gC) (o := .cells #[.int .i64 t607, .int .i64 t608, .slice Ao61 t609.length co61] 24 (0, 0)) (by (with_reducible repeat (first | refine zN ?_ _ | refine zD ?_ | refine zB ?_ _)); refine blk_put (cs := #[.int .i64 t607, .int .i64 t608, .slice none 0 0]) ?_ 2 _ rfl; (with_reducible repeat (first | refine zN ?_ _ | refine zD ?_ | refine zB ?_ _)); refine blk_put (cs := #[.int .i64 t607, .int .i64 0, .slice none 0 0]) ?_ 1 _ rfl; (with_reducible repeat (first | refine zN ?_ _ | refine zD ?_ | refine zB ?_ _)); refine blk_put (cs := #[.int .i64 0, .int .i64 0, .slice none 0 0]) ?_ 0 _ rfl; (with_reducible repeat (first | refine zN ?_ _ | refine zD ?_ | refine zB ?_ _)); exact BK9t.out) hb); have n7_ := zA (below_step (by repeat (first | (with_reducible first | exact HB.out | apply zW | apply zX | apply zY | refine zS ?_ GE9D.out | refine zS ?_ GE9S.out | refine zS ?_ GE9t.out) | exact HB.out)) hb); clear HO_14; clear HO_587002; clear HO9r; clear BK9D; clear BK9S; clear BK9t; clear HB; have HO_14 := n0_; have HO_587002 := n1_; have HO9r := n2_; have HO9y := n3_; have BK9D := n4_; have BK9S := n5_; have BK9t := n6_; have HB := n7_; clear n0_ n1_ n2_ n3_ n4_ n5_ n6_ n7_; (try clear hb); (try clear hb2); (try clear hk); (try clear hi); (try clear ho0)) | ((with_reducible refine gate_dst (N := 17) rfl ?_); (try (refine gate_guard (by rfl) ?_; dsimp only)); refine box_event ?hg (N := 17) ?hd (cs := #[.int .i64 0, .int .i64 0, .slice none 0 0]) (t := 24) ?hr ?_; (case hd => rfl); (case hg => rfl); (case hr => first | (go_simp; done) | (go_simp; rfl)); intro gD hg w63 hbox hb; have n0_ := zA (Kd.R_below (by (with_reducible repeat (first | apply Kd.R_alloc | apply Kd.R_drewN | apply Kd.R_drew)); exact HO_14.out) hb); have n1_ := zA (Kd.R_below (by (with_reducible repeat (first | apply Kd.R_alloc | apply Kd.R_drewN | apply Kd.R_drew)); exact HO_587002.out) hb); have n2_ := zA (Kd.R_below (by (with_reducible repeat (first | apply Kd.R_alloc | apply Kd.R_drewN | apply Kd.R_drew)); exact HO9r.out) hb); have n3_ := zA (Kd.R_below (by (with_reducible repeat (first | apply Kd.R_alloc | apply Kd.R_drewN | apply Kd.R_drew)); exact HO9y.out) hb); have n4_ := zA (blk_below (g := gA) (o := .cells #[.int .i64 a0_0, .int .i64 a0_1, .slice A0_2 l0_2.length c0_2] 24 (0, 0)) (by (with_reducible repeat (first | refine zN ?_ _ | refine zD ?_ | refine zB ?_ _)); exact BK9D.out) hb); have n5_ := zA (blk_below (g := gB) (o := .cells #[.int .i64 t581, .int .i64 t582, .slice Ao31 t583.length co31] 24 (0, 0)) (by (with_reducible repeat (first | refine zN ?_ _ | refine zD ?_ | refine zB ?_ _)); exact BK9S.out) hb); have n6_ := zA (blk_below (g := gC) (o := .cells #[.int .i64 t607, .int .i64 t608, .slice Ao61 t609.length co61] 24 (0, 0)) (by (with_reducible repeat (first | refine zN ?_ _ | refine zD ?_ | refine zB ?_ _)); exact BK9t.out) hb); have n7_ := zA (below_step (by repeat (first | (with_reducible first | exact HB.out | apply zW | apply zX | apply zY | refine zS ?_ GE9D.out | refine zS ?_ GE9S.out | refine zS ?_ GE9t.out) | exact HB.out)) hb); have n8_ := zA (hbox); have n9_ := zA ((by rw [hg]; exact (below_size (by repeat (first | (with_reducible first | exact HB.out | apply zW | apply zX | apply zY | refine zS ?_ GE9D.out | refine zS ?_ GE9S.out | refine zS ?_ GE9t.out) | exact HB.out))) : w.heap.size ≤ gD)); have n10_ := zA ((by rw [hg]; exact (below_size (by repeat (first | (with_reducible first | exact HB.out | apply zW | apply zX | apply zY | refine zS ?_ GE9D.out | refine zS ?_ GE9S.out | refine zS ?_ GE9t.out) | exact HB.out))) : w.heap.size ≤ gD)); have n11_ := zA ((by rw [hg]; exact Nat.ne_of_lt (blk_lt (g := gA) (o := .cells #[.int .i64 a0_0, .int .i64 a0_1, .slice A0_2 l0_2.length c0_2] 24 (0, 0)) (by (with_reducible repeat (first | refine zN ?_ _ | refine zD ?_ | refine zB ?_ _)); exact BK9D.out)) : gA ≠ gD)); have n12_ := zA ((by rw [hg]; exact Nat.ne_of_gt (blk_lt (g := gA) (o := .cells #[.int .i64 a0_0, .int .i64 a0_1, .slice A0_2 l0_2.length c0_2] 24 (0, 0)) (by (with_reducible repeat (first | refine zN ?_ _ | refine zD ?_ | refine zB ?_ _)); exact BK9D.out)) : gD ≠ gA)); have n13_ := zA ((by rw [hg]; exact Nat.ne_of_lt (blk_lt (g := gB) (o := .cells #[.int .i64 t581, .int .i64 t582, .slice Ao31 t583.length co31] 24 (0, 0)) (by (with_reducible repeat (first | refine zN ?_ _ | refine zD ?_ | refine zB ?_ _)); exact BK9S.out)) : gB ≠ gD)); have n14_ := zA ((by rw [hg]; exact Nat.ne_of_gt (blk_lt (g := gB) (o := .cells #[.int .i64 t581, .int .i64 t582, .slice Ao31 t583.length co31] 24 (0, 0)) (by (with_reducible repeat (first | refine zN ?_ _ | refine zD ?_ | refine zB ?_ _)); exact BK9S.out)) : gD ≠ gB)); have n15_ := zA ((by rw [hg]; exact Nat.ne_of_lt (blk_lt (g := gC) (o := .cells #[.int .i64 t607, .int .i64 t608, .slice Ao61 t609.length co61] 24 (0, 0)) (by (with_reducible repeat (first | refine zN ?_ _ | refine zD ?_ | refine zB ?_ _)); exact BK9t.out)) : gC ≠ gD)); have n16_ := zA ((by rw [hg]; exact Nat.ne_of_gt (blk_lt (g := gC) (o := .cells #[.int .i64 t607, .int .i64 t608, .slice Ao61 t609.length co61] 24 (0, 0)) (by (with_reducible repeat (first | refine zN ?_ _ | refine zD ?_ | refine zB ?_ _)); exact BK9t.out)) : gD ≠ gC)); clear HO_14; clear HO_587002; clear HO9r; clear HO9y; clear BK9D; clear BK9S; clear BK9t; clear HB; have HO_14 := n0_; have HO_587002 := n1_; have HO9r := n2_; have HO9y := n3_; have BK9D := n4_; have BK9S := n5_; have BK9t := n6_; have HB := n7_; have BKA0 := n8_; have GWA0 := n9_; have GEA0 := n10_; have NB571_620 := n11_; have NB620_571 := n12_; have NB586_620 := n13_; have NB620_586 := n14_; have NB613_620 := n15_; have NB620_613 := n16_; clear n0_ n1_ n2_ n3_ n4_ n5_ n6_ n7_ n8_ n9_ n10_ n11_ n12_ n13_ n14_ n15_ n16_; clear hb hbox hg; have hnb64 := NB620_571.out; have hnc64 := NB571_620.out; have hnb65 := NB620_586.out; have hnc65 := NB586_620.out; have hnb66 := NB620_613.out; have hnc66 := NB613_620.out; have hcz67_0 : w63.cell? ⟨gD, 0, none⟩ = some (.int .i64 0) := (blk_cell BKA0.out 0).trans rfl; have hcz67_1 : w63.cell? ⟨gD, 1, none⟩ = some (.int .i64 0) := (blk_cell BKA0.out 1).trans rfl; have hcz67_2 : w63.cell? ⟨gD, 2, none⟩ = some (.slice none 0 0) := (blk_cell BKA0.out 2).trans rfl; have hfz67_0 := blk_frozen BKA0.out 0; have hfz67_1 := blk_frozen BKA0.out 1; have hfz67_2 := blk_frozen BKA0.out 2; obtain ⟨Ao68, co68, eo68⟩ := Kd.R_slice HO9y.out; subst eo68) | ((with_reducible refine gate_store (t := 24) (p := 17) rfl ?_); refine store_event (t := 24) (p := 17) (v := ?vo_w69) (w1 := (((w63.setCell ⟨gD, 0, none⟩ (.int .i64 t614)).setCell ⟨gD, 1, none⟩ (.int .i64 t615)).setCell ⟨gD, 2, none⟩ (.slice Ao68 t616.length co68))) ?hg ?ho ?hn ?hr ?_; (case ho => rfl); (case hg => rfl); (case hn => rfl); (case hr => first | (go_simp; done) | (go_simp; rfl)); intro w69 hw; have n0_ : Aside0 (Kd.R (Kd.int .i64) 3 w69 w.heap.size (fun k_ => some k_ ≠ (.slice Ao31 t583.length co31 : Value).ownBlock ∧ some k_ ≠ (.slice Ao61 t609.length co61 : Value).ownBlock ∧ some k_ ≠ (.slice Ao68 t616.length co68 : Value).ownBlock) (.slice Ao55 x14_2.length co55) x14_2) := ⟨(by rw [hw]; exact (by (with_reducible repeat (first | apply Kd.R_alloc | apply Kd.R_drewN | apply Kd.R_drew)); exact Kd.R_mono (Kd.R_far (p := ⟨gD, 2, none⟩) (Kd.R_far (p := ⟨gD, 1, none⟩) (Kd.R_far (p := ⟨gD, 0, none⟩) (Kd.R_types HO_14.out BKA0.out (by decide)) (fun _ hk => hk.2) (.int .i64 t614)) (fun _ hk => hk.2) (.int .i64 t615)) (fun _ hk => hk.2) (.slice Ao68 t616.length co68)) (fun _ hk => ⟨hk.1.1.1, ⟨hk.1.1.2, hk.1.2⟩⟩)))⟩; have n1_ : Aside0 (Kd.R (Kd.int .i64) 3 w69 w.heap.size (fun k_ => some k_ ≠ (.slice Ao55 x14_2.length co55 : Value).ownBlock ∧ some k_ ≠ (.slice Ao61 t609.length co61 : Value).ownBlock ∧ some k_ ≠ (.slice Ao68 t616.length co68 : Value).ownBlock) (.slice Ao31 t583.length co31) t583) := ⟨(by rw [hw]; exact (by (with_reducible repeat (first | apply Kd.R_alloc | apply Kd.R_drewN | apply Kd.R_drew)); exact Kd.R_mono (Kd.R_far (p := ⟨gD, 2, none⟩) (Kd.R_far (p := ⟨gD, 1, none⟩) (Kd.R_far (p := ⟨gD, 0, none⟩) (Kd.R_types HO_587002.out BKA0.out (by decide)) (fun _ hk => hk.2) (.int .i64 t614)) (fun _ hk => hk.2) (.int .i64 t615)) (fun _ hk => hk.2) (.slice Ao68 t616.length co68)) (fun _ hk => ⟨hk.1.1.1, ⟨hk.1.1.2, hk.1.2⟩⟩)))⟩; have n2_ : Aside0 (Kd.R (Kd.int .i64) 3 w69 w.heap.size (fun k_ => some k_ ≠ (.slice Ao55 x14_2.length co55 : Value).ownBlock ∧ some k_ ≠ (.slice Ao31 t583.length co31 : Value).ownBlock ∧ some k_ ≠ (.slice Ao68 t616.length co68 : Value).ownBlock) (.slice Ao61 t609.length co61) t609) := ⟨(by rw [hw]; exact (by (with_reducible repeat (first | apply Kd.R_alloc | apply Kd.R_drewN | apply Kd.R_drew)); exact Kd.R_mono (Kd.R_far (p := ⟨gD, 2, none⟩) (Kd.R_far (p := ⟨gD, 1, none⟩) (Kd.R_far (p := ⟨gD, 0, none⟩) (Kd.R_types HO9r.out BKA0.out (by decide)) (fun _ hk => hk.2) (.int .i64 t614)) (fun _ hk => hk.2) (.int .i64 t615)) (fun _ hk => hk.2) (.slice Ao68 t616.length co68)) (fun _ hk => ⟨hk.1.1.1.2, ⟨hk.1.1.2, hk.1.2⟩⟩)))⟩; have n3_ : Aside0 (Kd.R (Kd.int .i64) 3 w69 w.heap.size (fun k_ => some k_ ≠ (.slice Ao55 x14_2.length co55 : Value).ownBlock ∧ some k_ ≠ (.slice Ao31 t583.length co31 : Value).ownBlock ∧ some k_ ≠ (.slice Ao61 t609.length co61 : Value).ownBlock) (.slice Ao68 t616.length co68) t616) := ⟨(by rw [hw]; exact (by (with_reducible repeat (first | apply Kd.R_alloc | apply Kd.R_drewN | apply Kd.R_drew)); exact Kd.R_mono (Kd.R_far (p := ⟨gD, 2, none⟩) (Kd.R_far (p := ⟨gD, 1, none⟩) (Kd.R_far (p := ⟨gD, 0, none⟩) (Kd.R_types HO9y.out BKA0.out (by decide)) (fun _ hk => hk.2) (.int .i64 t614)) (fun _ hk => hk.2) (.int .i64 t615)) (fun _ hk => hk.2) (.slice Ao68 t616.length co68)) (fun _ hk => ⟨hk.1.1.1.2, ⟨hk.1.1.2, hk.1.2⟩⟩)))⟩; have n4_ : Aside0 (w69.heap[gA]? = some (.cells #[.int .i64 a0_0, .int .i64 a0_1, .slice A0_2 l0_2.length c0_2] 24 (0, 0))) := ⟨(by rw [hw]; exact (by (with_reducible repeat (first | refine zN ?_ _ | refine zD ?_ | refine zB ?_ _)); refine blk_far ?_ NB571_620.out _; (with_reducible repeat (first | refine zN ?_ _ | refine zD ?_ | refine zB ?_ _)); refine blk_far ?_ NB571_620.out _; (with_reducible repeat (first | refine zN ?_ _ | refine zD ?_ | refine zB ?_ _)); refine blk_far ?_ NB571_620.out _; (with_reducible repeat (first | refine zN ?_ _ | refine zD ?_ | refine zB ?_ _)); exact BK9D.out))⟩; have n5_ : Aside0 (w69.heap[gB]? = some (.cells #[.int .i64 t581, .int .i64 t582, .slice Ao31 t583.length co31] 24 (0, 0))) := ⟨(by rw [hw]; exact (by (with_reducible repeat (first | refine zN ?_ _ | refine zD ?_ | refine zB ?_ _)); refine blk_far ?_ NB586_620.out _; (with_reducible repeat (first | refine zN ?_ _ | refine zD ?_ | refine zB ?_ _)); refine blk_far ?_ NB586_620.out _; (with_reducible repeat (first | refine zN ?_ _ | refine zD ?_ | refine zB ?_ _)); refine blk_far ?_ NB586_620.out _; (with_reducible repeat (first | refine zN ?_ _ | refine zD ?_ | refine zB ?_ _)); exact BK9S.out))⟩; have n6_ : Aside0 (w69.heap[gC]? = some (.cells #[.int .i64 t607, .int .i64 t608, .slice Ao61 t609.length co61] 24 (0, 0))) := ⟨(by rw [hw]; exact (by (with_reducible repeat (first | refine zN ?_ _ | refine zD ?_ | refine zB ?_ _)); refine blk_far ?_ NB613_620.out _; (with_reducible repeat (first | refine zN ?_ _ | refine zD ?_ | refine zB ?_ _)); refine blk_far ?_ NB613_620.out _; (with_reducible repeat (first | refine zN ?_ _ | refine zD ?_ | refine zB ?_ _)); refine blk_far ?_ NB613_620.out _; (with_reducible repeat (first | refine zN ?_ _ | refine zD ?_ | refine zB ?_ _)); exact BK9t.out))⟩; have n7_ : Aside0 (w69.heap[gD]? = some (.cells #[.int .i64 t614, .int .i64 t615, .slice Ao68 t616.length co68] 24 (0, 0))) := ⟨(by rw [hw]; exact (by (with_reducible repeat (first | refine zN ?_ _ | refine zD ?_ | refine zB ?_ _)); refine blk_put (cs := #[.int .i64 t614, .int .i64 t615, .slice none 0 0]) ?_ 2 _ rfl; (with_reducible repeat (first | refine zN ?_ _ | refine zD ?_ | refine zB ?_ _)); refine blk_put (cs := #[.int .i64 t614, .int .i64 0, .slice none 0 0]) ?_ 1 _ rfl; (with_reducible repeat (first | refine zN ?_ _ | refine zD ?_ | refine zB ?_ _)); refine blk_put (cs := #[.int .i64 0, .int .i64 0, .slice none 0 0]) ?_ 0 _ rfl; (with_reducible repeat (first | refine zN ?_ _ | refine zD ?_ | refine zB ?_ _)); exact BKA0.out))⟩; have n8_ : Aside0 (Below w.heap.size w w69) := ⟨(by rw [hw]; exact (by repeat (first | (with_reducible first | exact HB.out | apply zW | apply zX | apply zY | refine zS ?_ GE9D.out | refine zS ?_ GE9S.out | refine zS ?_ GE9t.out | refine zS ?_ GEA0.out) | exact HB.out)))⟩; clear hw; clear HO_14; clear HO_587002; clear HO9r; clear HO9y; clear BK9D; clear BK9S; clear BK9t; clear BKA0; clear HB; have HO_14 := n0_; have HO_587002 := n1_; have HO9r := n2_; have HO9y := n3_; have BK9D := n4_; have BK9S := n5_; have BK9t := n6_; have BKA0 := n7_; have HB := n8_; clear n0_ n1_ n2_ n3_ n4_ n5_ n6_ n7_ n8_; have hcz70_0 : w69.cell? ⟨gC, 0, none⟩ = some (.int .i64 t607) := (blk_cell BK9t.out 0).trans rfl; have hcz70_1 : w69.cell? ⟨gC, 1, none⟩ = some (.int .i64 t608) := (blk_cell BK9t.out 1).trans rfl; have hcz70_2 : w69.cell? ⟨gC, 2, none⟩ = some (.slice Ao61 t609.length co61) := (blk_cell BK9t.out 2).trans rfl; have hfz70_0 := blk_frozen BK9t.out 0; have hfz70_1 := blk_frozen BK9t.out 1; have hfz70_2 := blk_frozen BK9t.out 2; have hcz71_0 : w69.cell? ⟨gD, 0, none⟩ = some (.int .i64 t614) := (blk_cell BKA0.out 0).trans rfl; have hcz71_1 : w69.cell? ⟨gD, 1, none⟩ = some (.int .i64 t615) := (blk_cell BKA0.out 1).trans rfl; have hcz71_2 : w69.cell? ⟨gD, 2, none⟩ = some (.slice Ao68 t616.length co68) := (blk_cell BKA0.out 2).trans rfl; have hfz71_0 := blk_frozen BKA0.out 0; have hfz71_1 := blk_frozen BKA0.out 1; have hfz71_2 := blk_frozen BKA0.out 2) | ((with_reducible refine gate_callee (f := 33) rfl ?_); refine goesL_ (some 88) rfl rfl Try.func33 (by kernel_rfl) rfl #[.agg #[.int .i64 t607, .int .i64 t608, .slice Ao61 t609.length co61], .int .i64 t612, .agg #[.int .i64 t614, .int .i64 t615, .slice Ao68 t616.length co68], .int .i64 t619] rfl (by (try simp only [List.map_toArray, List.map_cons, List.map_nil]); first | done | rfl | (simp only [List.length_drop, List.length_take]; rfl)) ?_; (with_reducible refine (kimberlitelaw03_told.calls k2 t607 t608 (fun k_ => some k_ = (.slice Ao61 t609.length co61 : Value).ownBlock) (.slice Ao61 t609.length co61) t609 t612 t614 t615 _ _ t616 t619 true t622 w _ ?side1 ?side2 ?side3 ?side4 A48.out).mono ?_); (case side1 => repeat (first | (with_reducible first | exact HB.out | apply zW | apply zX | apply zY | refine zS ?_ GE9D.out | refine zS ?_ GE9S.out | refine zS ?_ GE9t.out | refine zS ?_ GEA0.out) | exact HB.out)); (case side2 => exact Kd.R_tight rfl HO9r.out); (case side3 => exact Kd.C_kept_own (HO9y.out) (fun k_ hk_ hs_ => (hk_.2.2) hs_)); (case side4 => exact (Kd.R_reads' HO9y.out).2.1); rintro e w72 ⟨rfl, hy0, hb, hkp⟩; refine ⟨_, rfl, ?_⟩; have n0_ := zA (Kd.R_mono (ok' := fun k_ => some k_ ≠ (.slice Ao31 t583.length co31 : Value).ownBlock ∧ some k_ ≠ (.slice Ao61 t609.length co61 : Value).ownBlock ∧ some k_ ≠ (.slice Ao68 t616.length co68 : Value).ownBlock) (Kd.R_keptB (HO_14.out) hkp (fun k_ hk_ hs_ => (hk_.2.1) hs_)) (fun k_ hk_ => ⟨hk_.1.1, hk_.1.2.1, hk_.1.2.2⟩)); have n1_ := zA (Kd.R_mono (ok' := fun k_ => some k_ ≠ (.slice Ao55 x14_2.length co55 : Value).ownBlock ∧ some k_ ≠ (.slice Ao61 t609.length co61 : Value).ownBlock ∧ some k_ ≠ (.slice Ao68 t616.length co68 : Value).ownBlock) (Kd.R_keptB (HO_587002.out) hkp (fun k_ hk_ hs_ => (hk_.2.1) hs_)) (fun k_ hk_ => ⟨hk_.1.1, hk_.1.2.1, hk_.1.2.2⟩)); have n2_ := zA (blk_kept (by (with_reducible repeat (first | refine zN ?_ _ | refine zD ?_ | refine zB ?_ _)); exact BK9D.out) hkp (fun hs_ => (fun e_ => (Kd.R_ne HO9r.out BK9D.out (by decide)) e_) hs_)); have n3_ := zA (blk_kept (by (with_reducible repeat (first | refine zN ?_ _ | refine zD ?_ | refine zB ?_ _)); exact BK9S.out) hkp (fun hs_ => (fun e_ => (Kd.R_ne HO9r.out BK9S.out (by decide)) e_) hs_)); have n4_ := zA (Kd.R_reok rfl hy0 (fun k_ e_ => HO9r.out.1 k_ e_)); have n5_ := zA (blk_kept (by (with_reducible repeat (first | refine zN ?_ _ | refine zD ?_ | refine zB ?_ _)); exact BK9t.out) hkp (fun hs_ => (fun e_ => (Kd.R_ne HO9r.out BK9t.out (by decide)) e_) hs_)); have n6_ := zA (Kd.R_mono (ok' := fun k_ => some k_ ≠ (.slice Ao55 x14_2.length co55 : Value).ownBlock ∧ some k_ ≠ (.slice Ao31 t583.length co31 : Value).ownBlock ∧ some k_ ≠ (.slice Ao61 t609.length co61 : Value).ownBlock) (Kd.R_keptB (HO9y.out) hkp (fun k_ hk_ hs_ => (hk_.2.2) hs_)) (fun k_ hk_ => ⟨hk_.1.1, hk_.1.2.1, hk_.1.2.2⟩)); have n7_ := zA (blk_kept (by (with_reducible repeat (first | refine zN ?_ _ | refine zD ?_ | refine zB ?_ _)); exact BKA0.out) hkp (fun hs_ => (fun e_ => (Kd.R_ne HO9r.out BKA0.out (by decide)) e_) hs_)); have n8_ := zA (hb); clear HO_14; clear HO_587002; clear BK9D; clear BK9S; clear HO9r; clear BK9t; clear HO9y; clear BKA0; clear HB; have HO_14 := n0_; have HO_587002 := n1_; have BK9D := n2_; have BK9S := n3_; have HO9r := n4_; have BK9t := n5_; have HO9y := n6_; have BKA0 := n7_; have HB := n8_; clear n0_ n1_ n2_ n3_ n4_ n5_ n6_ n7_ n8_; (try clear hb); (try clear hkp); (try clear hy0)) | (go_at_call 24; (with_reducible refine (kimberlitelaw03_same.calls k2 _ _ x14_2 _ _ l3 true _ ?side1 ?side2 ?side3 ?side4 A50.out).mono ?_); (case side1 => repeat (first | exact (Kd.R_reads' HO_14.out).2.2 | (with_reducible refine Kd.C_alloc ?_ _) | (with_reducible refine Kd.C_drewN ?_ _) | (with_reducible refine Kd.C_drew ?_))); (case side2 => exact (Kd.R_reads' HO_14.out).2.1); (case side3 => repeat (first | exact (Kd.C_below HR3.out HB.out) | (with_reducible refine Kd.C_alloc ?_ _) | (with_reducible refine Kd.C_drewN ?_ _) | (with_reducible refine Kd.C_drew ?_))); (case side4 => exact HC3.out); rintro e w' ⟨rfl, ⟨nd, rfl⟩⟩; have hnb73 := NB571_586.out; have hnc73 := NB586_571.out; have hcz74_0 : w72.cell? ⟨gA, 0, none⟩ = some (.int .i64 a0_0) := (blk_cell BK9D.out 0).trans rfl; have hcz74_1 : w72.cell? ⟨gA, 1, none⟩ = some (.int .i64 a0_1) := (blk_cell BK9D.out 1).trans rfl; have hcz74_2 : w72.cell? ⟨gA, 2, none⟩ = some (.slice A0_2 l0_2.length c0_2) := (blk_cell BK9D.out 2).trans rfl; have hfz74_0 := blk_frozen BK9D.out 0; have hfz74_1 := blk_frozen BK9D.out 1; have hfz74_2 := blk_frozen BK9D.out 2; have hcz75_0 : w72.cell? ⟨gB, 0, none⟩ = some (.int .i64 t581) := (blk_cell BK9S.out 0).trans rfl; have hcz75_1 : w72.cell? ⟨gB, 1, none⟩ = some (.int .i64 t582) := (blk_cell BK9S.out 1).trans rfl; have hcz75_2 : w72.cell? ⟨gB, 2, none⟩ = some (.slice Ao31 t583.length co31) := (blk_cell BK9S.out 2).trans rfl; have hfz75_0 := blk_frozen BK9S.out 0; have hfz75_1 := blk_frozen BK9S.out 1; have hfz75_2 := blk_frozen BK9S.out 2) | (go_at_call 15; (with_reducible refine (kimberlitelaw03_alike.calls k2 a0_0 a0_1 _ _ l0_2 t581 t582 _ _ t583 true _ ?side1 ?side2 ?side3 ?side4 A52.out).mono ?_); (case side1 => repeat (first | exact (Kd.C_below HR0_2.out (by repeat (first | (with_reducible first | exact HB.out | apply zW | apply zX | apply zY | refine zS ?_ GE9D.out | refine zS ?_ GE9S.out | refine zS ?_ GE9t.out | refine zS ?_ GEA0.out) | exact HB.out))) | (with_reducible refine Kd.C_alloc ?_ _) | (with_reducible refine Kd.C_drewN ?_ _) | (with_reducible refine Kd.C_drew ?_))); (case side2 => exact HC0_2.out); (case side3 => repeat (first | exact (Kd.R_reads' HO_587002.out).2.2 | (with_reducible refine Kd.C_alloc ?_ _) | (with_reducible refine Kd.C_drewN ?_ _) | (with_reducible refine Kd.C_drew ?_))); (case side4 => exact (Kd.R_reads' HO_587002.out).2.1); rintro e w76 ⟨rfl, hb⟩; have n0_ := zA (Kd.R_below (by (with_reducible repeat (first | apply Kd.R_alloc | apply Kd.R_drewN | apply Kd.R_drew)); exact HO_14.out) hb); have n1_ := zA (Kd.R_below (by (with_reducible repeat (first | apply Kd.R_alloc | apply Kd.R_drewN | apply Kd.R_drew)); exact HO_587002.out) hb); have n2_ := zA (Kd.R_below (by (with_reducible repeat (first | apply Kd.R_alloc | apply Kd.R_drewN | apply Kd.R_drew)); exact HO9r.out) hb); have n3_ := zA (Kd.R_below (by (with_reducible repeat (first | apply Kd.R_alloc | apply Kd.R_drewN | apply Kd.R_drew)); exact HO9y.out) hb); have n4_ := zA (blk_below (g := gA) (o := .cells #[.int .i64 a0_0, .int .i64 a0_1, .slice A0_2 l0_2.length c0_2] 24 (0, 0)) (by (with_reducible repeat (first | refine zN ?_ _ | refine zD ?_ | refine zB ?_ _)); exact BK9D.out) hb); have n5_ := zA (blk_below (g := gB) (o := .cells #[.int .i64 t581, .int .i64 t582, .slice Ao31 t583.length co31] 24 (0, 0)) (by (with_reducible repeat (first | refine zN ?_ _ | refine zD ?_ | refine zB ?_ _)); exact BK9S.out) hb); have n6_ := zA (blk_below (g := gC) (o := .cells #[.int .i64 t607, .int .i64 t608, .slice Ao61 t609.length co61] 24 (0, 0)) (by (with_reducible repeat (first | refine zN ?_ _ | refine zD ?_ | refine zB ?_ _)); exact BK9t.out) hb); have n7_ := zA (blk_below (g := gD) (o := .cells #[.int .i64 t614, .int .i64 t615, .slice Ao68 t616.length co68] 24 (0, 0)) (by (with_reducible repeat (first | refine zN ?_ _ | refine zD ?_ | refine zB ?_ _)); exact BKA0.out) hb); have n8_ := zA (below_step (by repeat (first | (with_reducible first | exact HB.out | apply zW | apply zX | apply zY | refine zS ?_ GE9D.out | refine zS ?_ GE9S.out | refine zS ?_ GE9t.out | refine zS ?_ GEA0.out) | exact HB.out)) hb); clear HO_14; clear HO_587002; clear HO9r; clear HO9y; clear BK9D; clear BK9S; clear BK9t; clear BKA0; clear HB; have HO_14 := n0_; have HO_587002 := n1_; have HO9r := n2_; have HO9y := n3_; have BK9D := n4_; have BK9S := n5_; have BK9t := n6_; have BKA0 := n7_; have HB := n8_; clear n0_ n1_ n2_ n3_ n4_ n5_ n6_ n7_ n8_; (try clear hb); (try clear hb2); (try clear hk); (try clear hi)) | (go_at_call 17; (with_reducible refine (kimberlitelaw03_alive.calls  t625 _ A54.out).mono ?_); rintro e w77 ⟨rfl, hb⟩; have n0_ := zA (Kd.R_below (by (with_reducible repeat (first | apply Kd.R_alloc | apply Kd.R_drewN | apply Kd.R_drew)); exact HO_14.out) hb); have n1_ := zA (Kd.R_below (by (with_reducible repeat (first | apply Kd.R_alloc | apply Kd.R_drewN | apply Kd.R_drew)); exact HO_587002.out) hb); have n2_ := zA (Kd.R_below (by (with_reducible repeat (first | apply Kd.R_alloc | apply Kd.R_drewN | apply Kd.R_drew)); exact HO9r.out) hb); have n3_ := zA (Kd.R_below (by (with_reducible repeat (first | apply Kd.R_alloc | apply Kd.R_drewN | apply Kd.R_drew)); exact HO9y.out) hb); have n4_ := zA (blk_below (g := gA) (o := .cells #[.int .i64 a0_0, .int .i64 a0_1, .slice A0_2 l0_2.length c0_2] 24 (0, 0)) (by (with_reducible repeat (first | refine zN ?_ _ | refine zD ?_ | refine zB ?_ _)); exact BK9D.out) hb); have n5_ := zA (blk_below (g := gB) (o := .cells #[.int .i64 t581, .int .i64 t582, .slice Ao31 t583.length co31] 24 (0, 0)) (by (with_reducible repeat (first | refine zN ?_ _ | refine zD ?_ | refine zB ?_ _)); exact BK9S.out) hb); have n6_ := zA (blk_below (g := gC) (o := .cells #[.int .i64 t607, .int .i64 t608, .slice Ao61 t609.length co61] 24 (0, 0)) (by (with_reducible repeat (first | refine zN ?_ _ | refine zD ?_ | refine zB ?_ _)); exact BK9t.out) hb); have n7_ := zA (blk_below (g := gD) (o := .cells #[.int .i64 t614, .int .i64 t615, .slice Ao68 t616.length co68] 24 (0, 0)) (by (with_reducible repeat (first | refine zN ?_ _ | refine zD ?_ | refine zB ?_ _)); exact BKA0.out) hb); have n8_ := zA (below_step (by repeat (first | (with_reducible first | exact HB.out | apply zW | apply zX | apply zY | refine zS ?_ GE9D.out | refine zS ?_ GE9S.out | refine zS ?_ GE9t.out | refine zS ?_ GEA0.out) | exact HB.out)) hb); clear HO_14; clear HO_587002; clear HO9r; clear HO9y; clear BK9D; clear BK9S; clear BK9t; clear BKA0; clear HB; have HO_14 := n0_; have HO_587002 := n1_; have HO9r := n2_; have HO9y := n3_; have BK9D := n4_; have BK9S := n5_; have BK9t := n6_; have BKA0 := n7_; have HB := n8_; clear n0_ n1_ n2_ n3_ n4_ n5_ n6_ n7_ n8_; (try clear hb); (try clear hb2); (try clear hk); (try clear hi)))
               go_ret
               exact ⟨by first | rfl | (simp [errW_none, errW_some] <;> rfl) | (simp [*, errW_none, errW_some] <;> rfl), by repeat (first | (with_reducible first | exact HB.out | apply zW | apply zX | apply zY | refine zS ?_ GE9D.out | refine zS ?_ GE9S.out | refine zS ?_ GE9t.out | refine zS ?_ GEA0.out) | exact HB.out)⟩
              ·
               replace c53 := Bool.eq_false_iff.mpr c53
               subst c53
               have H1 : (none) = some r := by rw [if_neg (show ¬ (false = true) by decide)] at H; exact H
               clear H
               have H := H1
               clear H1
               exact absurd H (by simp)
             ·
              replace c51 := Bool.eq_false_iff.mpr c51
              subst c51
              have H1 : (none) = some r := by rw [if_neg (show ¬ (false = true) by decide)] at H; exact H
              clear H
              have H := H1
              clear H1
              exact absurd H (by simp)
            ·
             replace c49 := Bool.eq_false_iff.mpr c49
             subst c49
             have H1 : (none) = some r := by rw [if_neg (show ¬ (false = true) by decide)] at H; exact H
             clear H
             have H := H1
             clear H1
             exact absurd H (by simp)
        ·
         rw [if_neg c25] at H
         exact absurd H (by simp)
       ·
        rw [if_neg c24] at H
        exact absurd H (by simp)
     ·
      rw [if_neg c20] at H
      have c20b0 : (t588 == t590) = false := beq_eq_false_iff_ne.mpr c20
      have c20b1 : (t588 != t590) = true := bne_iff_ne.mpr c20
      exact absurd H (by simp)
    ·
     rw [if_neg c19] at H
     have c19b0 : (t587 == t589) = false := beq_eq_false_iff_ne.mpr c19
     have c19b1 : (t587 != t589) = true := bne_iff_ne.mpr c19
     exact absurd H (by simp)
end Go.Proofs.Ytfeeaipbmpmpgaa.PX

namespace Go.Proofs.Ytfeeaipbmpmpgaa.Pure
open Go.RowKit Go.Proofs.YtfeeaipbmpmpgaaW.PrintWords Go.Proofs.YtfeeaipbmpmpgaaW.PrintLast Go.Proofs.YtfeeaipbmpmpgaaW.PrintMore Go.Proofs.Ytfeeaipbmpmpgaa.PX
set_option linter.unusedVariables false
set_option linter.unusedSimpArgs false

def atR (a b : Int) (l : List Int) (x : Int) : Int × Int := if valB a b l = true then if cdom a l x = true then (cval a b l x, 0) else (0, 6) else (0, 2)
theorem At_some (a b : Int) (l : List Int) (x : Int) : curve_At.f a b l x = some (atR a b l x) := by
  have h := law_at a b l x
  unfold kimberlitelaw03_at.f at h
  unfold atR curve_At.f curve_Valid.f curve_has.f curve_to.f
  simp only [Option.bind_some]
  by_cases hv : valB a b l = true
  · obtain ⟨v1, v2, v3, v4, v5⟩ := val_from hv
    rw [if_pos hv, if_pos hv, w64 (x := a + (l.length : Int)) (by omega) (by omega)]
    by_cases c1 : x ≥ a
    · by_cases c2 : x ≤ a + (l.length : Int)
      · have hd : cdom a l x = true := cdom_iff.2 ⟨c1, c2⟩
        rw [if_pos hd, curve_at_some hv hd]
        simp [c1, c2]
      · have hd : ¬cdom a l x = true := fun h => c2 (cdom_iff.1 h).2
        rw [if_neg hd]
        simp [c1, c2]
    · have hd : ¬cdom a l x = true := fun h => c1 (cdom_iff.1 h).1
      rw [if_neg hd]
      simp [c1]
  · rw [if_neg hv, if_neg hv]
theorem refAt_some (a b : Int) (l : List Int) (x : Int) (hl : l.length ≤ 9223372036854775807) (k : Nat) (hk : 300 ≤ k) : kimberliteref03_At.f k a b l x = some (atR a b l x) := by
  unfold kimberliteref03_At.f atR
  rw [refValid_some a b l hl k (by omega)]
  simp only [Option.bind_some]
  by_cases hv : valB a b l = true
  · rw [if_pos hv, if_pos hv, out_some hv k (by omega)]
    simp only [Option.bind_some]
    unfold kimberliteref03_Row_has.f
    rw [to_some hv]
    by_cases c1 : x ≥ a
    · by_cases c2 : x ≤ a + (l.length : Int)
      · have hd : cdom a l x = true := cdom_iff.2 ⟨c1, c2⟩
        rw [if_pos hd, value_some hv hd]
        simp [c1, c2]
      · have hd : ¬cdom a l x = true := fun h => c2 (cdom_iff.1 h).2
        rw [if_neg hd]
        simp [c1, c2]
    · have hd : ¬cdom a l x = true := fun h => c1 (cdom_iff.1 h).1
      rw [if_neg hd]
      simp [c1]
  · rw [if_neg hv, if_neg hv]
theorem bad_iff {v : Int} : (!wi v 1099511627776) = true ↔ (v < -1099511627776 ∨ v > 1099511627776) := by
  rw [Bool.not_eq_true', Bool.eq_false_iff]
  constructor
  · intro h
    by_cases c : -1099511627776 ≤ v
    · right
      by_cases c2 : v ≤ 1099511627776
      · exact absurd (wi_iff.2 ⟨c, c2⟩) h
      · omega
    · left; omega
  · intro h hw
    have := wi_iff.1 hw
    omega
theorem refOf_l1 (a : Int) (l : List Int) (h0 : 0 < l.length) (hl : l.length ≤ 65) (hb : badV l = false) (d : Nat) : ∀ k n : Nat, n + d = l.length → 2 ≤ n → d + 400 < k → srt (diffs (l.take n)) = true →
    kimberliteref03_Of.l1 k a l (n : Int) = some (ofR a l) := by
  have hbd : ∀ v ∈ l, -1099511627776 ≤ v ∧ v ≤ 1099511627776 := fun v hv => by
    have := (List.any_eq_false.1 hb) v hv
    simp only [Bool.not_eq_true', Bool.not_eq_false] at this
    exact wi_iff.1 this
  have hof : ofR a l = if srt (diffs l) = true then madeR a (rd l 0) (diffs l) else (0, 0, [], 10) := by
    unfold ofR
    rw [if_neg (by omega), if_neg (by omega), if_neg (by rw [hb]; decide)]
  rw [hof]
  have he0 : rd l 0 = l[0] := rd_getElem l 0 h0
  induction d with
  | zero =>
    intro k n hn h2 hk hs
    obtain ⟨k, rfl⟩ : ∃ m, k = m + 1 := ⟨k - 1, by omega⟩
    rw [List.take_of_length_le (by omega)] at hs
    simp only [kimberliteref03_Of.l1]
    rw [if_neg (by omega), if_pos hs, ranged_some a l h0 (by omega) (fun v hv => by have := hbd v hv; omega) k (by omega), he0]
    rfl
  | succ d ih =>
    intro k n hn h2 hk hs
    obtain ⟨k, rfl⟩ : ∃ m, k = m + 1 := ⟨k - 1, by omega⟩
    obtain ⟨n, rfl⟩ : ∃ m, n = m + 2 := ⟨n - 2, by omega⟩
    have b0 := hbd _ (List.getElem_mem (show n < l.length by omega))
    have b1 := hbd _ (List.getElem_mem (show n + 1 < l.length by omega))
    have b2 := hbd _ (List.getElem_mem (show n + 2 < l.length by omega))
    simp only [kimberliteref03_Of.l1]
    rw [w64 (x := ((n + 2 : Nat) : Int) - 1) (by omega) (by omega), w64 (x := ((n + 2 : Nat) : Int) - 2) (by omega) (by omega), w64 (x := ((n + 2 : Nat) : Int) + 1) (by omega) (by omega), if_pos (by omega), if_pos (by omega), if_pos (by omega), if_pos (by omega), if_pos (by omega), if_pos (by omega),
      show ((n + 2 : Nat) : Int) - 1 = ((n + 1 : Nat) : Int) from by omega, show ((n + 2 : Nat) : Int) - 2 = (n : Int) from by omega, rd_getElem l n (by omega), rd_getElem l (n + 1) (by omega), rd_getElem l (n + 2) (by omega), w64 (x := l[n + 2] - l[n + 1]) (by omega) (by omega), w64 (x := l[n + 1] - l[n]) (by omega) (by omega)]
    by_cases c : l[n + 2] - l[n + 1] < l[n + 1] - l[n]
    · rw [if_pos c]
      have hns : ¬srt (diffs l) = true := by
        intro h
        unfold srt at h
        have hp := of_decide_eq_true h
        have := List.pairwise_iff_getElem.1 hp n (n + 1) (by rw [diffs_length]; omega) (by rw [diffs_length]; omega) (by omega)
        rw [diffs_getElem l n (by omega), diffs_getElem l (n + 1) (by omega)] at this
        have e3 : l[n + 1 + 1]'(by omega) = l[n + 2]'(by omega) := rfl
        omega
      rw [if_neg hns]
    · rw [if_neg c]
      refine ih k (n + 3) (by omega) (by omega) (by omega) ?_
      rw [diffs_take_succ l (n + 1) (by omega), diffs_take_succ l n (by omega)]
      rw [diffs_take_succ l n (by omega)] at hs
      rw [List.append_assoc]
      have e : ([l[n + 1] - l[n]] ++ [l[n + 1 + 1] - l[n + 1]] : List Int) = [l[n + 1] - l[n], l[n + 2] - l[n + 1]] := rfl
      rw [e, srt_snoc, hs]
      simp only [Bool.true_and]
      have hle : l[n + 1] - l[n] ≤ l[n + 2] - l[n + 1] := by omega
      exact decide_eq_true hle
theorem refOf_l0 (a : Int) (l : List Int) (h0 : 0 < l.length) (hl : l.length ≤ 65) (d : Nat) : ∀ k n : Nat, n + d = l.length → 2 * d + 600 < k → badV (l.take n) = false →
    kimberliteref03_Of.l0 k a l (n : Int) = some (ofR a l) := by
  induction d with
  | zero =>
    intro k n hn hk hs
    obtain ⟨k, rfl⟩ : ∃ m, k = m + 1 := ⟨k - 1, by omega⟩
    rw [List.take_of_length_le (by omega)] at hs
    simp only [kimberliteref03_Of.l0]
    rw [if_neg (by omega)]
    by_cases c : 2 ≤ l.length
    · have e2 : diffs (l.take 2) = [l[1] - l[0]] := by
        have h1 : diffs (l.take 1) = [] := by
          cases l with
          | nil => rfl
          | cons x r => rfl
        rw [diffs_take_succ l 0 (by omega), h1]
        rfl
      have := refOf_l1 a l h0 hl hs (l.length - 2) k 2 (by omega) (by omega) (by omega) (by rw [e2]; simp [srt])
      exact this
    · obtain ⟨v, rfl⟩ : ∃ v, l = [v] := by
        cases l with
        | nil => simp at h0
        | cons v r =>
          cases r with
          | nil => exact ⟨v, rfl⟩
          | cons x r => simp at c
      obtain ⟨k, rfl⟩ : ∃ m, k = m + 1 := ⟨k - 1, by omega⟩
      have hw : -1099511627776 ≤ v ∧ v ≤ 1099511627776 := by
        have := (List.any_eq_false.1 hs) v (by simp)
        simp only [Bool.not_eq_true', Bool.not_eq_false] at this
        exact wi_iff.1 this
      simp only [kimberliteref03_Of.l1]
      rw [if_neg (by simp), ranged_some a [v] (by simp) (by simp) (fun u hu => by simp at hu; omega) k (by simp; omega)]
      unfold ofR
      rw [if_neg (by simp), if_neg (by simp), if_neg (by rw [hs]; decide), if_pos (by simp [diffs, srt])]
      rfl
  | succ d ih =>
    intro k n hn hk hs
    obtain ⟨k, rfl⟩ : ∃ m, k = m + 2 := ⟨k - 2, by omega⟩
    simp only [kimberliteref03_Of.l0]
    rw [if_pos (by omega), if_pos (by omega), rd_getElem l n (by omega)]
    have e2 : ∀ t, t = true → (!wi l[n] 1099511627776) = true → kimberliteref03_Of.j1 (k + 1) a l (n : Int) t = some (ofR a l) := by
      intro t ht hw
      subst ht
      simp only [kimberliteref03_Of.j1]
      rw [if_pos trivial]
      have hb : badV l = true := by
        unfold badV
        rw [List.any_eq_true]
        exact ⟨l[n], List.getElem_mem _, hw⟩
      unfold ofR
      rw [if_neg (by omega), if_neg (by omega), if_pos hb]
    by_cases c1 : l[n] < -1099511627776
    · rw [if_pos c1]
      exact e2 _ rfl (bad_iff.2 (.inl c1))
    rw [if_neg c1]
    by_cases c2 : l[n] > 1099511627776
    · exact e2 _ (by simpa using c2) (bad_iff.2 (.inr c2))
    rw [decide_eq_false c2]
    simp only [kimberliteref03_Of.j1]
    rw [if_neg (by decide), w64 (x := (n : Int) + 1) (by omega) (by omega)]
    refine ih k (n + 1) (by omega) (by omega) ?_
    unfold badV at hs ⊢
    rw [List.take_succ_eq_append_getElem (by omega), List.any_append, hs]
    simp only [List.any_cons, List.any_nil, Bool.or_false, Bool.false_or]
    rw [Bool.eq_false_iff]
    intro h
    have := bad_iff.1 h
    omega
theorem refOf_some (a : Int) (l : List Int) (k : Nat) (hk : 1000 ≤ k) : kimberliteref03_Of.f k a l = some (ofR a l) := by
  unfold kimberliteref03_Of.f
  by_cases h1 : (l.length : Int) > 65
  · rw [if_pos h1]
    unfold ofR
    rw [if_pos (by omega)]
  rw [if_neg h1]
  by_cases h2 : (l.length : Int) = 0
  · rw [if_pos h2]
    unfold ofR
    rw [if_neg (by omega), if_pos (by omega)]
  rw [if_neg h2]
  have := refOf_l0 a l (by omega) (by omega) l.length k 0 (by omega) (by omega) (by simp [badV])
  exact this
theorem ofR_length (a : Int) (l : List Int) : (ofR a l).2.2.1.length ≤ 64 := by
  unfold ofR madeR
  split
  · simp
  split
  · simp
  split
  · simp
  split
  · split
    · rename_i h
      exact (val_from h).2.2.2.2
    · simp
  · simp
theorem values_l0 (a2 : Int) (vs : List Int) (a b : Int) (l : List Int) (hl : l.length ≤ 1000) (hvs : vs.length ≤ 1000) (d : Nat) : ∀ (k i : Nat) (m : List Int), i + d = vs.length → d + 2000 < k → m.length = vs.length → m.take i = vs.take i →
    kimberlitelaw03_CurveValues.l0 k a2 vs m (i : Int) a b l a b l = some true := by
  induction d with
  | zero =>
    intro k i m hi hk hm ht
    obtain ⟨k, rfl⟩ : ∃ m, k = m + 1 := ⟨k - 1, by omega⟩
    simp only [kimberlitelaw03_CurveValues.l0]
    rw [if_neg (by omega)]
    rw [List.take_of_length_le (by omega), List.take_of_length_le (by omega)] at ht
    subst ht
    unfold curve_Of.f
    rw [refOf_some a2 m k (by omega)]
    have hlen := ofR_length a2 m
    generalize ofR a2 m = t at *
    obtain ⟨t1, t2, t3, t4⟩ := t
    simp only at hlen
    obtain ⟨m', hm'⟩ := told_some t1 t2 t3 t4 t1 t2 t3 t4 (by omega) k (by omega) rfl
    simp only [Option.bind_some]
    rw [hm', same_some m m (by omega) k (by omega), alike_some a b l a b l (by omega) k (by omega)]
    simp [kimberlitelaw03_alive.f]
  | succ d ih =>
    intro k i m hi hk hm ht
    obtain ⟨k, rfl⟩ : ∃ m, k = m + 1 := ⟨k - 1, by omega⟩
    simp only [kimberlitelaw03_CurveValues.l0]
    rw [if_pos (by omega), if_pos (by omega), if_pos (by omega), w64 (x := (i : Int) + 1) (by omega) (by omega), rd_getElem vs i (by omega), Int.toNat_natCast]
    refine ih k (i + 1) _ (by omega) (by omega) (by rw [List.length_set]; exact hm) ?_
    rw [List.take_succ_eq_append_getElem (by omega : i < vs.length), List.take_succ_eq_append_getElem (by rw [List.length_set]; omega : i < (m.set i vs[i]).length), List.take_set_of_le (Nat.le_refl _), ht]
    simp
theorem CurveValues (x0 y0 : Int) (l0 : List Int) (a1 a2 : Int) (l3 : List Int) (J0 : CurveI x0 y0 l0) (n0 : l0.length ≤ 9223372036854775807) (h1 : I64 a1) (h2 : I64 a2) (J3 : ∀ x ∈ l3, I64 x) (n3 : l3.length ≤ 9223372036854775807) :
    ∃ k, kimberlitelaw03_CurveValues.f k x0 y0 l0 a1 a2 l3 = some true := by
  obtain ⟨K, hK⟩ : ∃ K : Nat, 5000 ≤ K := ⟨5000, Nat.le_refl _⟩
  refine ⟨K + 1, ?_⟩
  have e : ∀ t, t = true → kimberlitelaw03_CurveValues.j0 (K + 1) a1 a2 l3 t x0 y0 l0 = some true := by
    intro t ht
    subst ht
    simp only [kimberlitelaw03_CurveValues.j0]
    rw [if_pos trivial]
    rfl
  unfold kimberlitelaw03_CurveValues.f kimberlitelaw03_few.f
  simp only [Option.bind_some]
  by_cases hf : (l0.length : Int) ≤ 100
  · rw [if_pos (by simpa using hf)]
    by_cases hf2 : (l3.length : Int) > 100
    · exact e _ (by simpa using hf2)
    · rw [decide_eq_false hf2]
      simp only [kimberlitelaw03_CurveValues.j0]
      rw [if_neg (by decide), own_some x0 y0 l0 (by omega) K (by omega)]
      simp only [Option.bind_some]
      rw [At_some, refAt_some x0 y0 l0 a1 n0 K (by omega), refValid_some x0 y0 l0 n0 K (by omega)]
      unfold curve_Valid.f
      simp only [Option.bind_some, if_true]
      rw [if_neg (by simp), if_pos (by omega), if_pos (by omega), Int.toNat_natCast]
      exact values_l0 a2 l3 x0 y0 l0 (by omega) (by omega) l3.length K 0 _ (by omega) (by omega) (by simp) (by simp)
  · rw [if_neg (by simpa using hf)]
    exact e _ rfl
end Go.Proofs.Ytfeeaipbmpmpgaa.Pure

namespace Go.Proofs.Ytfeeaipbmpmpgaa.curveValues
open Go.ChangeShapes Go.WideShapes Go.ChangeAt Go.RowKit
open Go.ChangeMaps (open_string shut_string)
open Go.Proofs.YtfeeaipbmpmpgaaW.PrintWords Go.Proofs.YtfeeaipbmpmpgaaW.PrintLast Go.Proofs.YtfeeaipbmpmpgaaW.PrintMore Go.Proofs.Ytfeeaipbmpmpgaa.PX
set_option linter.unusedVariables false
theorem own : ownKnob Try.prog.godebug = none := by kernel_rfl
theorem laidOut : laidOutB Try.prog = true := by kernel_rfl
set_option maxRecDepth 100000 in
theorem lifted (os : Os) (started : os.Started) (H : Type) (enc : TypeId × Value → H) :
    ReturnsInHanded {} Try.checked os 8 .any (Rows.curveValuesSpec.pre6 enc Try.prog Try.f8 Rows.curveValuesRow.domain false) (Rows.curveValuesSpec.post enc Try.prog Try.f8 false true false false) := by
  refine returnsInHanded_of_change_sized (C := Try.checked) own started (by kernel_rfl) Try.func8
    (ChangeSpec.witness6 (enc := enc) (C := Try.checked) false ⟨#[], #[.agg #[.int .i64 0, .int .i64 0, .slice none 0 0], .int .i64 0, .int .i64 0, .slice none 0 0], []⟩ 8 (by kernel_rfl) (by kernel_rfl) (by kernel_rfl) (by kernel_rfl)) ?_
  intro W base args ds gs before hval0 hW hcnd hsz0 _
  have hval : ∀ (j : Nat) t v, Try.f8.params[j]? = some t → args[j]? = some v → Value.okWide Try.prog W .any base t v := hval0
  have hW' := hW
  obtain ⟨p, q, hA0, hV, rfl, hfz, hnd⟩ := hW
  have hA : DataW.TrodAll enc Try.prog W 0 (fun _ => true) true Try.f8.params.toList args.toList ds p := hA0
  rw [Try.params8] at hA hval
  obtain ⟨v0, vs0, d0, ds0, p0, q0, hargs, rfl, rfl, h0, r0⟩ := trodAll_cons hA
  obtain ⟨v1, vs1, d1, ds1, p1, q1, rfl, rfl, rfl, h1, r1⟩ := trodAll_cons r0
  obtain ⟨v2, vs2, d2, ds2, p2, q2, rfl, rfl, rfl, h2, r2⟩ := trodAll_cons r1
  obtain ⟨v3, vs3, d3, ds3, p3, q3, rfl, rfl, rfl, h3, r3⟩ := trodAll_cons r2
  obtain ⟨rfl, rfl, rfl⟩ := trodAll_nil r3
  obtain rfl : args = #[v0, v1, v2, v3] := by cases args; simp_all
  obtain ⟨rfl, rfl⟩ := trodVars_none hV
  have k0 := h0
  have lt0 : ∀ x ∈ p0, x.block < W.heap.size := by obtain ⟨m, hm⟩ := k0; exact DataW.trod_lt m _ _ _ hm
  obtain ⟨x0, y0, l0, A0, c0, rfl, e0, C0, J0⟩ := open_curve (hval 0 24 v0 rfl rfl) h0
  obtain ⟨a1, rfl, rfl, rfl, w1⟩ := open_int Try.underlying3 (hval 1 3 v1 rfl rfl) h1
  obtain ⟨a2, rfl, rfl, rfl, w2⟩ := open_int Try.underlying3 (hval 2 3 v2 rfl rfl) h2
  have k3 := h3
  have lt3 : ∀ x ∈ p3, x.block < W.heap.size := by obtain ⟨m, hm⟩ := k3; exact DataW.trod_lt m _ _ _ hm
  obtain ⟨A3, c3, l3, rfl, e3, C3, J3⟩ := open_ints22 (hval 3 22 v3 rfl rfl) h3
  clear hA0 hval0 hsz0
  obtain ⟨n, hn⟩ := Pure.CurveValues x0 y0 l0 a1 a2 l3 J0 C0.2.1 (i64_of_wf w1) (i64_of_wf w2) J3 C3.2.1
  refine (kimberlitelaw03_CurveValues.calls n x0 y0 A0 c0 l0 a1 a2 A3 c3 l3 true W C0 e0 C3 e3 hn).mono fun e W' ⟨he, bel⟩ => ?_
  subst he
  exact ⟨_, rfl, _, _, _, [], _, [], hW', trodAll_mk1 (shut_bool Try.underlying4 _), (trodAll_cons_mk (Below.trod laidOut (by kernel_rfl) (of_decide_eq_true (by kernel_rfl)) k0 bel lt0) (trodAll_cons_mk (shut_int Try.underlying3 w1) (trodAll_cons_mk (shut_int Try.underlying3 w2) (trodAll_cons_mk (Below.trod laidOut (by kernel_rfl) (of_decide_eq_true (by kernel_rfl)) k3 bel lt3) trodAll_mk0)))), rfl, bel.frame _, fun h => by cases h⟩
theorem over : Rows.curveValuesRow.holds Try.pinned (OpenSpec.ofChange Rows.curveValuesSpec) :=
  OpenClaim.holds_of_wide 8 Try.f8 rfl rfl rfl rfl rfl rfl rfl ⟨rfl, rfl, rfl, rfl, rfl⟩ rfl rfl rfl rfl rfl (by kernel_rfl) Try.func8 (by kernel_rfl)
    (of_decide_eq_true (by kernel_rfl)) (by unfold Func.isWrapper; first | (rw [if_pos (by decide +kernel)]; kernel_rfl) | (rw [if_neg (by decide +kernel)]; exact ⟨rfl, rfl⟩))
    (fun os started H enc _ => lifted os started H enc)
theorem proved : Rows.CurveValuesSaid := over
end Go.Proofs.Ytfeeaipbmpmpgaa.curveValues
namespace Go.Proofs.Ytfeeaipbmpmpgaa
/-- The row, under a short name, for the claim. -/
theorem curveValues_holds : Rows.CurveValuesSaid := curveValues.proved
#print axioms curveValues_holds
end Go.Proofs.Ytfeeaipbmpmpgaa

