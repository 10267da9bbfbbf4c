import Derived.StillTailTactics
import Derived.Test.YtfeeaipbmpmpgaaBFenchel1
namespace Go.Proofs.Ytfeeaipbmpmpgaa.PX
open Go.RowKit Go.Proofs.YtfeeaipbmpmpgaaW.PrintWords Go.Proofs.YtfeeaipbmpmpgaaW.PrintLast Go.Proofs.YtfeeaipbmpmpgaaW.PrintMore
attribute [local go_sem] max2_int min2_int max_two min_two max_three min_three max_four min_four   -- for this text's walks alone
set_option linter.unusedVariables false
set_option linter.unusedSimpArgs false
/-! ### curve_Meet: function 25 -/
mutual
def curve_Meet.j0 : Nat → Bool → Int → Int → List Int → Int → Int → List Int → Option (Int × Int × Int × Int)
 | 0, _, _, _, _, _, _, _ => none
 | k + 1, x23, x434000, x434001, x434002, x435000, x435001, x435002 => if x23 = true then (some (0, 0, 0, 2)) else ((curve_to.f x434000 x434001 x434002).bind fun t437 => ((curve_to.f x435000 x435001 x435002).bind fun t438 => (if (mx x434000 x435000) > (mn t437 t438) then (some (0, 0, 0, 6)) else (curve_Meet.l0 k (mn t437 t438) (mx x434000 x435000) (mx x434000 x435000) x434000 x434001 x434002 x435000 x435001 x435002))))
def curve_Meet.l0 : Nat → Int → Int → Int → Int → Int → List Int → Int → Int → List Int → Option (Int × Int × Int × Int)
 | 0, _, _, _, _, _, _, _, _, _ => none
 | k + 1, x9, x10, x11, x434000, x434001, x434002, x435000, x435001, x435002 => if x11 ≤ x9 then ((curve_at.f x434000 x434001 x434002 x11).bind fun t439 => ((curve_at.f x435000 x435001 x435002 x11).bind fun t440 => ((curve_at.f x434000 x434001 x434002 x10).bind fun t441 => ((curve_at.f x435000 x435001 x435002 x10).bind fun t442 => (if (wrap64 (t439 + t440)) < (wrap64 (t441 + t442)) then (curve_Meet.l0 k x9 x11 (wrap64 (x11 + 1)) x434000 x434001 x434002 x435000 x435001 x435002) else (curve_Meet.l0 k x9 x10 (wrap64 (x11 + 1)) x434000 x434001 x434002 x435000 x435001 x435002)))))) else ((curve_prices.f k x434000 x434001 x434002 x10).bind fun bt443 => ((curve_prices.f k x435000 x435001 x435002 x10).bind fun bt445 => ((curve_at.f x434000 x434001 x434002 x10).bind fun t447 => ((curve_at.f x435000 x435001 x435002 x10).bind fun t448 => (some (wrap64 (t447 + t448), x10, mx bt443.1 (wrap64 (-bt445.2)), 0))))))
end
def curve_Meet.f (k : Nat) (a0_0 : Int) (a0_1 : Int) (l0_2 : List Int) (a1_0 : Int) (a1_1 : Int) (l1_2 : List Int) : Option (Int × Int × Int × Int) := (curve_Valid.f a0_0 a0_1 l0_2).bind fun t435 => (if t435 = true then ((curve_Valid.f a1_0 a1_1 l1_2).bind fun t436 => (curve_Meet.j0 k (!t436) a0_0 a0_1 l0_2 a1_0 a1_1 l1_2)) else (curve_Meet.j0 k true a0_0 a0_1 l0_2 a1_0 a1_1 l1_2))
theorem curve_Meet.mono_l : ∀ k, (∀ y0 y1 y2 y3 y4 y5 y6, LeO (curve_Meet.j0 k y0 y1 y2 y3 y4 y5 y6) (curve_Meet.j0 (k + 1) y0 y1 y2 y3 y4 y5 y6)) ∧ (∀ y0 y1 y2 y3 y4 y5 y6 y7 y8, LeO (curve_Meet.l0 k y0 y1 y2 y3 y4 y5 y6 y7 y8) (curve_Meet.l0 (k + 1) y0 y1 y2 y3 y4 y5 y6 y7 y8))
 | 0 => ⟨fun _ _ _ _ _ _ _ r h => by simp [curve_Meet.j0] at h, fun _ _ _ _ _ _ _ _ _ r h => by simp [curve_Meet.l0] at h⟩
 | k + 1 => by
  obtain ⟨ih0, ih1⟩ := curve_Meet.mono_l k
  refine ⟨?_, ?_⟩
  ·
   intro y0 y1 y2 y3 y4 y5 y6
   unfold curve_Meet.j0
   repeat' first
   | (with_reducible exact ih0 _ _ _ _ _ _ _)
   | (with_reducible exact ih1 _ _ _ _ _ _ _ _ _)
   | (with_reducible exact curve_prices.mono _ _ _ _ _)
   | (with_reducible exact LeO.refl _)
   | (with_reducible exact LeO.none _)
   | (with_reducible refine LeO.ite ?_ ?_)
   | (with_reducible refine LeO.bind ?_ (fun _ => ?_))
   | exact ih0 _ _ _ _ _ _ _
   | exact ih1 _ _ _ _ _ _ _ _ _
   | exact curve_prices.mono _ _ _ _ _
   | exact LeO.none _
   | refine LeO.ite ?_ ?_
   | refine LeO.bind ?_ (fun _ => ?_)
  ·
   intro y0 y1 y2 y3 y4 y5 y6 y7 y8
   unfold curve_Meet.l0
   repeat' first
   | (with_reducible exact ih0 _ _ _ _ _ _ _)
   | (with_reducible exact ih1 _ _ _ _ _ _ _ _ _)
   | (with_reducible exact curve_prices.mono _ _ _ _ _)
   | (with_reducible exact LeO.refl _)
   | (with_reducible exact LeO.none _)
   | (with_reducible refine LeO.ite ?_ ?_)
   | (with_reducible refine LeO.bind ?_ (fun _ => ?_))
   | exact ih0 _ _ _ _ _ _ _
   | exact ih1 _ _ _ _ _ _ _ _ _
   | exact curve_prices.mono _ _ _ _ _
   | exact LeO.none _
   | refine LeO.ite ?_ ?_
   | refine LeO.bind ?_ (fun _ => ?_)
theorem curve_Meet.mono : ∀ a0 a1 a2 a3 a4 a5 k, LeO (curve_Meet.f k a0 a1 a2 a3 a4 a5) (curve_Meet.f (k + 1) a0 a1 a2 a3 a4 a5) := by
 intro a0 a1 a2 a3 a4 a5 k
 obtain ⟨ih0, ih1⟩ := curve_Meet.mono_l k
 unfold curve_Meet.f
 repeat' first
   | (with_reducible exact ih0 _ _ _ _ _ _ _)
   | (with_reducible exact ih1 _ _ _ _ _ _ _ _ _)
   | (with_reducible exact curve_prices.mono _ _ _ _ _)
   | (with_reducible exact LeO.refl _)
   | (with_reducible exact LeO.none _)
   | (with_reducible refine LeO.ite ?_ ?_)
   | (with_reducible refine LeO.bind ?_ (fun _ => ?_))
   | exact ih0 _ _ _ _ _ _ _
   | exact ih1 _ _ _ _ _ _ _ _ _
   | exact curve_prices.mono _ _ _ _ _
   | exact LeO.none _
   | refine LeO.ite ?_ ?_
   | refine LeO.bind ?_ (fun _ => ?_)
def curve_Meet.T3 : Bool × List (List Nat × List Nat) := (true, [([], []), ([0], [0]), ([], []), ([2], [2]), ([1, 3], [1, 3]), ([], []), ([5], [5]), ([], []), ([7, 6], [7]), ([6, 8], [6, 8]), ([4, 8, 0, 1, 2, 3, 4], [4]), ([9, 10, 0, 1, 2, 3, 4, 5, 6, 7, 8, 9, 10], [9])])
def curve_Meet.B3 : List Nat := [0, 1, 0, 4, 15, 0, 32, 0, 224, 480, 511, 2047]
theorem curve_Meet.tab3 : rtab .any (opsOf Try.f25 3) = curve_Meet.T3 := by kernel_rfl
theorem curve_Meet.bits3 : waitsOk curve_Meet.T3.2 curve_Meet.B3 = true := by kernel_rfl
def curve_Meet.T10 : Bool × List (List Nat × List Nat) := (true, [([], []), ([], []), ([0, 1], [0, 1]), ([], []), ([], []), ([3, 4, 2], [3, 4]), ([2, 5], [2, 5]), ([], []), ([], []), ([7, 8, 5], [7, 8]), ([], []), ([], []), ([10, 11, 9], [10, 11]), ([9, 12], [9, 12]), ([6, 13], [6, 13])])
def curve_Meet.B10 : List Nat := [0, 0, 3, 0, 0, 31, 63, 0, 0, 447, 0, 0, 4031, 8127, 16383]
theorem curve_Meet.tab10 : rtab .any (opsOf Try.f25 10) = curve_Meet.T10 := by kernel_rfl
theorem curve_Meet.bits10 : waitsOk curve_Meet.T10.2 curve_Meet.B10 = true := by kernel_rfl
def curve_Meet.T14 : Bool × List (List Nat × List Nat) := (true, [([], []), ([], []), ([0, 1], [0, 1]), ([], []), ([], []), ([3, 4, 2], [3, 4]), ([2, 5], [2, 5]), ([], []), ([], []), ([], []), ([9], [9]), ([8, 10], [8, 10]), ([6, 5, 0, 1, 2, 3, 4, 5, 6], [6]), ([7, 12, 0, 1, 2, 3, 4, 5, 6, 7, 12], [7]), ([11, 13, 0, 1, 2, 3, 4, 5, 6, 7, 8, 9, 10, 11, 12, 13], [11]), ([14, 0, 1, 2, 3, 4, 5, 6, 7, 8, 9, 10, 11, 12, 13, 14], [])])
def curve_Meet.B14 : List Nat := [0, 0, 3, 0, 0, 31, 63, 0, 0, 0, 512, 1792, 127, 4351, 16383, 32767]
theorem curve_Meet.tab14 : rtab .any (opsOf Try.f25 14) = curve_Meet.T14 := by kernel_rfl
theorem curve_Meet.bits14 : waitsOk curve_Meet.T14.2 curve_Meet.B14 = true := by kernel_rfl
set_option maxHeartbeats 8000000 in
set_option maxRecDepth 100000 in
theorem curve_Meet.calls (k : Nat) (a0_0 : Int) (a0_1 : Int) (A0_2 : Option Addr) (c0_2 : Nat) (l0_2 : List Int) (a1_0 : Int) (a1_1 : Int) (A1_2 : Option Addr) (c1_2 : Nat) (l1_2 : List Int) (r1 : Int) (r2 : Int) (r3 : Int) (r4 : Int) (w : World) (hr0_2 : Kd.C (Kd.int .i64) w A0_2 l0_2.length l0_2) (hc0_2 : l0_2.length ≤ c0_2) (hr1_2 : Kd.C (Kd.int .i64) w A1_2 l1_2.length l1_2) (hc1_2 : l1_2.length ≤ c1_2) (h : curve_Meet.f k a0_0 a0_1 l0_2 a1_0 a1_1 l1_2 = some (r1, r2, r3, r4)) :
  Calls Try.prog 25 #[.agg #[.int .i64 a0_0, .int .i64 a0_1, .slice A0_2 l0_2.length c0_2], .agg #[.int .i64 a1_0, .int .i64 a1_1, .slice A1_2 l1_2.length c1_2]] w fun e w' => e = .returned (.tuple #[.int .i64 r1, .int .i64 r2, .int .i64 r3, .int .i64 r4]) ∧ Below w.heap.size w w' := by
 have hu24 := Try.underlying24
 have HR0_2 := zA hr0_2
 have HC0_2 := zA hc0_2
 clear hr0_2 hc0_2
 have HR1_2 := zA hr1_2
 have HC1_2 := zA hc1_2
 clear hr1_2 hc1_2
 have HB := zA (Below.refl w.heap.size w)
 have H : ((curve_Valid.f a0_0 a0_1 l0_2).bind fun t435 => (if t435 = true then ((curve_Valid.f a1_0 a1_1 l1_2).bind fun t436 => (curve_Meet.j0 k (!t436) a0_0 a0_1 l0_2 a1_0 a1_1 l1_2)) else (curve_Meet.j0 k true a0_0 a0_1 l0_2 a1_0 a1_1 l1_2))) = some (r1, r2, r3, r4) := h
 clear h
 have HC3 := zA H
 clear H
 go_enter Try.func25, Try.ntmps25
 go_upto_region 1 with (first | ((with_reducible refine gate_dst (N := 2) rfl ?_); refine box_event ?hg (N := 2) ?hd (cs := #[.int .i64 a0_0, .int .i64 a0_1, .slice A0_2 l0_2.length c0_2]) (t := 24) ?hr ?_; (case hd => rfl); (case hg => rfl); (case hr => first | (go_simp; done) | (go_simp; rfl)); intro gA hg w4 hbox hb; have n0_ := zA (below_step (by repeat (first | (with_reducible first | exact HB.out | apply zW | apply zX | apply zY) | exact HB.out)) hb); have n1_ := zA (hbox); have n2_ := zA ((by rw [hg]; exact (below_size (by repeat (first | (with_reducible first | exact HB.out | apply zW | apply zX | apply zY) | exact HB.out))) : w.heap.size ≤ gA)); have n3_ := zA ((by rw [hg]; exact (below_size (by repeat (first | (with_reducible first | exact HB.out | apply zW | apply zX | apply zY) | exact HB.out))) : w.heap.size ≤ gA)); clear HB; have HB := n0_; have BK6z := n1_; have GW6z := n2_; have GE6z := n3_; clear n0_ n1_ n2_ n3_; clear hb hbox hg) | ((with_reducible refine gate_dst (N := 3) rfl ?_); refine box_event ?hg (N := 3) ?hd (cs := #[.int .i64 a1_0, .int .i64 a1_1, .slice A1_2 l1_2.length c1_2]) (t := 24) ?hr ?_; (case hd => rfl); (case hg => rfl); (case hr => first | (go_simp; done) | (go_simp; rfl)); intro gB hg w5 hbox hb; have n0_ := zA (blk_below (g := gA) (o := .cells #[.int .i64 a0_0, .int .i64 a0_1, .slice A0_2 l0_2.length c0_2] 24 (0, 0)) (by (with_reducible repeat (first | refine zN ?_ _ | refine zD ?_ | refine zB ?_ _)); exact BK6z.out) hb); have n1_ := zA (below_step (by repeat (first | (with_reducible first | exact HB.out | apply zW | apply zX | apply zY | refine zS ?_ GE6z.out) | exact HB.out)) hb); have n2_ := zA (hbox); have n3_ := zA ((by rw [hg]; exact (below_size (by repeat (first | (with_reducible first | exact HB.out | apply zW | apply zX | apply zY | refine zS ?_ GE6z.out) | exact HB.out))) : w.heap.size ≤ gB)); have n4_ := zA ((by rw [hg]; exact (below_size (by repeat (first | (with_reducible first | exact HB.out | apply zW | apply zX | apply zY | refine zS ?_ GE6z.out) | exact HB.out))) : w.heap.size ≤ gB)); have n5_ := zA ((by rw [hg]; exact Nat.ne_of_lt (blk_lt (g := gA) (o := .cells #[.int .i64 a0_0, .int .i64 a0_1, .slice A0_2 l0_2.length c0_2] 24 (0, 0)) (by (with_reducible repeat (first | refine zN ?_ _ | refine zD ?_ | refine zB ?_ _)); exact BK6z.out)) : gA ≠ gB)); have n6_ := zA ((by rw [hg]; exact Nat.ne_of_gt (blk_lt (g := gA) (o := .cells #[.int .i64 a0_0, .int .i64 a0_1, .slice A0_2 l0_2.length c0_2] 24 (0, 0)) (by (with_reducible repeat (first | refine zN ?_ _ | refine zD ?_ | refine zB ?_ _)); exact BK6z.out)) : gB ≠ gA)); clear BK6z; clear HB; have BK6z := n0_; have HB := n1_; have BK70 := n2_; have GW70 := n3_; have GE70 := n4_; have NB433_434 := n5_; have NB434_433 := n6_; clear n0_ n1_ n2_ n3_ n4_ n5_ n6_; clear hb hbox hg))
 (try simp only [Act.put, z1, z2, z3])
 go_cut [23] (fun v23 wc => ∃ (kq : Nat) (x23_2 : Bool), v23 = .bool x23_2 ∧ Aside0 (curve_Meet.j0 kq x23_2 a0_0 a0_1 l0_2 a1_0 a1_1 l1_2 = some (r1, r2, r3, r4)) ∧ Aside0 (kq ≤ k) ∧ Aside0 (wc.heap[gA]? = some (.cells #[.int .i64 a0_0, .int .i64 a0_1, (.slice A0_2 l0_2.length c0_2)] 24 (0, 0))) ∧ Aside0 (wc.heap[gB]? = some (.cells #[.int .i64 a1_0, .int .i64 a1_1, (.slice A1_2 l1_2.length c1_2)] 24 (0, 0))) ∧ Aside0 (Below w.heap.size w wc))
 case first =>
  have H := HC3.out
  clear HC3
  replace H := Option.bind_eq_some_iff.mp H
  obtain ⟨t435, A60, H⟩ := H
  replace H : (if t435 = true then ((curve_Valid.f a1_0 a1_1 l1_2).bind fun t436 => (curve_Meet.j0 k (!t436) a0_0 a0_1 l0_2 a1_0 a1_1 l1_2)) else (curve_Meet.j0 k true a0_0 a0_1 l0_2 a1_0 a1_1 l1_2)) = some (r1, r2, r3, r4) := H
  have A6 := zA A60
  clear A60
  by_cases c7 : t435 = true
  ·
   subst c7
   have H1 : ((curve_Valid.f a1_0 a1_1 l1_2).bind fun t436 => (curve_Meet.j0 k (!t436) a0_0 a0_1 l0_2 a1_0 a1_1 l1_2)) = some (r1, r2, r3, r4) := by rw [if_pos rfl] at H; exact H
   clear H
   have H := H1
   clear H1
   replace H := Option.bind_eq_some_iff.mp H
   obtain ⟨t436, A80, H⟩ := H
   replace H : (curve_Meet.j0 k (!t436) a0_0 a0_1 l0_2 a1_0 a1_1 l1_2) = some (r1, r2, r3, r4) := H
   have A8 := zA A80
   clear A80
   have H' := zA H
   clear H
   have hnb9 := NB433_434.out
   have hnc9 := NB434_433.out
   have hcz10_0 : w5.cell? ⟨gA, 0, none⟩ = some (.int .i64 a0_0) := (blk_cell BK6z.out 0).trans rfl
   have hcz10_1 : w5.cell? ⟨gA, 1, none⟩ = some (.int .i64 a0_1) := (blk_cell BK6z.out 1).trans rfl
   have hcz10_2 : w5.cell? ⟨gA, 2, none⟩ = some (.slice A0_2 l0_2.length c0_2) := (blk_cell BK6z.out 2).trans rfl
   have hfz10_0 := blk_frozen BK6z.out 0
   have hfz10_1 := blk_frozen BK6z.out 1
   have hfz10_2 := blk_frozen BK6z.out 2
   go_wp2_with (first | ((with_reducible refine gate_callee (f := 16) rfl ?_); refine goesL_ (some 17) rfl rfl Try.func16 (by kernel_rfl) rfl #[.agg #[.int .i64 a0_0, .int .i64 a0_1, .slice A0_2 l0_2.length c0_2]] rfl (by (try simp only [List.map_toArray, List.map_cons, List.map_nil]); first | done | rfl | (simp only [List.length_drop, List.length_take]; rfl)) ?_; (with_reducible refine (curve_Valid.calls a0_0 a0_1 _ _ l0_2 true _ ?side1 ?side2 A6.out).mono ?_); (case side1 => repeat (first | exact (Kd.C_below HR0_2.out HB.out) | (with_reducible refine Kd.C_alloc ?_ _) | (with_reducible refine Kd.C_drewN ?_ _) | (with_reducible refine Kd.C_drew ?_))); (case side2 => exact HC0_2.out); rintro e w11 ⟨rfl, hb⟩; refine ⟨_, rfl, ?_⟩; have n0_ := zA (blk_below (g := gA) (o := .cells #[.int .i64 a0_0, .int .i64 a0_1, .slice A0_2 l0_2.length c0_2] 24 (0, 0)) (by (with_reducible repeat (first | refine zN ?_ _ | refine zD ?_ | refine zB ?_ _)); exact BK6z.out) hb); have n1_ := zA (blk_below (g := gB) (o := .cells #[.int .i64 a1_0, .int .i64 a1_1, .slice A1_2 l1_2.length c1_2] 24 (0, 0)) (by (with_reducible repeat (first | refine zN ?_ _ | refine zD ?_ | refine zB ?_ _)); exact BK70.out) hb); have n2_ := zA (below_step (by repeat (first | (with_reducible first | exact HB.out | apply zW | apply zX | apply zY | refine zS ?_ GE6z.out | refine zS ?_ GE70.out) | exact HB.out)) hb); clear BK6z; clear BK70; clear HB; have BK6z := n0_; have BK70 := n1_; have HB := n2_; clear n0_ n1_ n2_; (try clear hb); (try clear hb2); (try clear hk); (try clear hi); have hcz12_0 : w11.cell? ⟨gB, 0, none⟩ = some (.int .i64 a1_0) := (blk_cell BK70.out 0).trans rfl; have hcz12_1 : w11.cell? ⟨gB, 1, none⟩ = some (.int .i64 a1_1) := (blk_cell BK70.out 1).trans rfl; have hcz12_2 : w11.cell? ⟨gB, 2, none⟩ = some (.slice A1_2 l1_2.length c1_2) := (blk_cell BK70.out 2).trans rfl; have hfz12_0 := blk_frozen BK70.out 0; have hfz12_1 := blk_frozen BK70.out 1; have hfz12_2 := blk_frozen BK70.out 2) | (go_at_call 16; (with_reducible refine (curve_Valid.calls a1_0 a1_1 _ _ l1_2 t436 _ ?side1 ?side2 A8.out).mono ?_); (case side1 => repeat (first | exact (Kd.C_below HR1_2.out HB.out) | (with_reducible refine Kd.C_alloc ?_ _) | (with_reducible refine Kd.C_drewN ?_ _) | (with_reducible refine Kd.C_drew ?_))); (case side2 => exact HC1_2.out); rintro e w13 ⟨rfl, hb⟩; have n0_ := zA (blk_below (g := gA) (o := .cells #[.int .i64 a0_0, .int .i64 a0_1, .slice A0_2 l0_2.length c0_2] 24 (0, 0)) (by (with_reducible repeat (first | refine zN ?_ _ | refine zD ?_ | refine zB ?_ _)); exact BK6z.out) hb); have n1_ := zA (blk_below (g := gB) (o := .cells #[.int .i64 a1_0, .int .i64 a1_1, .slice A1_2 l1_2.length c1_2] 24 (0, 0)) (by (with_reducible repeat (first | refine zN ?_ _ | refine zD ?_ | refine zB ?_ _)); exact BK70.out) hb); have n2_ := zA (below_step (by repeat (first | (with_reducible first | exact HB.out | apply zW | apply zX | apply zY | refine zS ?_ GE6z.out | refine zS ?_ GE70.out) | exact HB.out)) hb); clear BK6z; clear BK70; clear HB; have BK6z := n0_; have BK70 := n1_; have HB := n2_; clear n0_ n1_ n2_; (try clear hb); (try clear hb2); (try clear hk); (try clear hi)))
   go_meet
   case rel => exact ⟨_, (!t436), (by first | rfl | (simp; done) | (simp [*]; done)), H', ⟨by first | omega | exact Nat.le_refl _⟩, ⟨by (with_reducible repeat (first | refine zN ?_ _ | refine zD ?_ | refine zB ?_ _)); exact BK6z.out⟩, ⟨by (with_reducible repeat (first | refine zN ?_ _ | refine zD ?_ | refine zB ?_ _)); exact BK70.out⟩, ⟨by repeat (first | (with_reducible first | exact HB.out | apply zW | apply zX | apply zY | refine zS ?_ GE6z.out | refine zS ?_ GE70.out) | exact HB.out)⟩⟩
  ·
   replace c7 := Bool.eq_false_iff.mpr c7
   subst c7
   have H1 : (curve_Meet.j0 k true a0_0 a0_1 l0_2 a1_0 a1_1 l1_2) = some (r1, r2, r3, r4) := by rw [if_neg (show ¬ (false = true) by decide)] at H; exact H
   clear H
   have H := H1
   clear H1
   have H' := zA H
   clear H
   have hnb14 := NB433_434.out
   have hnc14 := NB434_433.out
   have hcz15_0 : w5.cell? ⟨gA, 0, none⟩ = some (.int .i64 a0_0) := (blk_cell BK6z.out 0).trans rfl
   have hcz15_1 : w5.cell? ⟨gA, 1, none⟩ = some (.int .i64 a0_1) := (blk_cell BK6z.out 1).trans rfl
   have hcz15_2 : w5.cell? ⟨gA, 2, none⟩ = some (.slice A0_2 l0_2.length c0_2) := (blk_cell BK6z.out 2).trans rfl
   have hfz15_0 := blk_frozen BK6z.out 0
   have hfz15_1 := blk_frozen BK6z.out 1
   have hfz15_2 := blk_frozen BK6z.out 2
   go_wp2_with (first | ((with_reducible refine gate_callee (f := 16) rfl ?_); refine goesL_ (some 17) rfl rfl Try.func16 (by kernel_rfl) rfl #[.agg #[.int .i64 a0_0, .int .i64 a0_1, .slice A0_2 l0_2.length c0_2]] rfl (by (try simp only [List.map_toArray, List.map_cons, List.map_nil]); first | done | rfl | (simp only [List.length_drop, List.length_take]; rfl)) ?_; (with_reducible refine (curve_Valid.calls a0_0 a0_1 _ _ l0_2 false _ ?side1 ?side2 A6.out).mono ?_); (case side1 => repeat (first | exact (Kd.C_below HR0_2.out HB.out) | (with_reducible refine Kd.C_alloc ?_ _) | (with_reducible refine Kd.C_drewN ?_ _) | (with_reducible refine Kd.C_drew ?_))); (case side2 => exact HC0_2.out); rintro e w16 ⟨rfl, hb⟩; refine ⟨_, rfl, ?_⟩; have n0_ := zA (blk_below (g := gA) (o := .cells #[.int .i64 a0_0, .int .i64 a0_1, .slice A0_2 l0_2.length c0_2] 24 (0, 0)) (by (with_reducible repeat (first | refine zN ?_ _ | refine zD ?_ | refine zB ?_ _)); exact BK6z.out) hb); have n1_ := zA (blk_below (g := gB) (o := .cells #[.int .i64 a1_0, .int .i64 a1_1, .slice A1_2 l1_2.length c1_2] 24 (0, 0)) (by (with_reducible repeat (first | refine zN ?_ _ | refine zD ?_ | refine zB ?_ _)); exact BK70.out) hb); have n2_ := zA (below_step (by repeat (first | (with_reducible first | exact HB.out | apply zW | apply zX | apply zY | refine zS ?_ GE6z.out | refine zS ?_ GE70.out) | exact HB.out)) hb); clear BK6z; clear BK70; clear HB; have BK6z := n0_; have BK70 := n1_; have HB := n2_; clear n0_ n1_ n2_; (try clear hb); (try clear hb2); (try clear hk); (try clear hi)))
   go_meet
   case rel => exact ⟨_, (true), (by first | rfl | (simp; done) | (simp [*]; done)), H', ⟨by first | omega | exact Nat.le_refl _⟩, ⟨by (with_reducible repeat (first | refine zN ?_ _ | refine zD ?_ | refine zB ?_ _)); exact BK6z.out⟩, ⟨by (with_reducible repeat (first | refine zN ?_ _ | refine zD ?_ | refine zB ?_ _)); exact BK70.out⟩, ⟨by repeat (first | (with_reducible first | exact HB.out | apply zW | apply zX | apply zY | refine zS ?_ GE6z.out | refine zS ?_ GE70.out) | exact HB.out)⟩⟩
 case rest =>
  clear HC3
  try clear c1
  try clear c2
  try clear p2
  try clear c7
  try clear c9
  try clear c14
  try clear c16
  try clear hcz10_0
  try clear hcz10_1
  try clear hcz10_2
  try clear hcz12_0
  try clear hcz12_1
  try clear hcz12_2
  try clear hcz15_0
  try clear hcz15_1
  try clear hcz15_2
  try clear hfz10_0
  try clear hfz10_1
  try clear hfz10_2
  try clear hfz12_0
  try clear hfz12_1
  try clear hfz12_2
  try clear hfz15_0
  try clear hfz15_1
  try clear hfz15_2
  obtain ⟨kq, x23_2, rfl, HA, HJ2, BK6z, BK70, HB⟩ := hcut
  cases kq with
  | zero => exact absurd HA.out (by simp [curve_Meet.j0])
  | succ kj2 =>
   have H := HA.out
   clear HA
   simp only [curve_Meet.j0] at H
   by_cases c17 : x23_2 = true
   ·
    subst c17
    have H1 : (some (0, 0, 0, 2)) = some (r1, r2, r3, r4) := by rw [if_pos rfl] at H; exact H
    clear H
    have H := H1
    clear H1
    simp only [Option.some.injEq, Prod.mk.injEq] at H
    obtain ⟨rfl, rfl, rfl, rfl⟩ := H
    go_wp2
    refine bodyPost_ret (results_list (rs := [.tmp 4, .tmp 5, .tmp 6, .tmp 7]) rfl (by simp) (.tmp (.tmp (.tmp (.tmp .nil))))) rfl ?_
    exact ⟨by first | rfl | (simp [errW_none, errW_some] <;> rfl) | (simp [*, errW_none, errW_some] <;> rfl), by repeat (first | (with_reducible first | exact HB.out | apply zW | apply zX | apply zY | refine zS ?_ GE6z.out | refine zS ?_ GE70.out) | exact HB.out)⟩
   ·
    replace c17 := Bool.eq_false_iff.mpr c17
    subst c17
    have H1 : ((curve_to.f a0_0 a0_1 l0_2).bind fun t437 => ((curve_to.f a1_0 a1_1 l1_2).bind fun t438 => (if (mx a0_0 a1_0) > (mn t437 t438) then (some (0, 0, 0, 6)) else (curve_Meet.l0 kj2 (mn t437 t438) (mx a0_0 a1_0) (mx a0_0 a1_0) a0_0 a0_1 l0_2 a1_0 a1_1 l1_2)))) = some (r1, r2, r3, r4) := by rw [if_neg (show ¬ (false = true) by decide)] at H; exact H
    clear H
    have H := H1
    clear H1
    obtain ⟨ji18, hji18⟩ : ∃ j_ : Int, (mx a0_0 a1_0) = j_ := ⟨_, rfl⟩
    replace H : ((curve_to.f a0_0 a0_1 l0_2).bind fun t437 => ((curve_to.f a1_0 a1_1 l1_2).bind fun t438 => (if (ji18) > (mn t437 t438) then (some (0, 0, 0, 6)) else (curve_Meet.l0 kj2 (mn t437 t438) ji18 ji18 a0_0 a0_1 l0_2 a1_0 a1_1 l1_2)))) = some (r1, r2, r3, r4) := by first | (rw [hji18] at H; exact H) | (simp only [hji18] at H ⊢; exact H)
    have hji18_ : (if a0_0 < a1_0 then a1_0 else a0_0) = ji18 := hji18
    replace H := Option.bind_eq_some_iff.mp H
    obtain ⟨t437, A190, H⟩ := H
    replace H : ((curve_to.f a1_0 a1_1 l1_2).bind fun t438 => (if (ji18) > (mn t437 t438) then (some (0, 0, 0, 6)) else (curve_Meet.l0 kj2 (mn t437 t438) ji18 ji18 a0_0 a0_1 l0_2 a1_0 a1_1 l1_2))) = some (r1, r2, r3, r4) := H
    have A19 := zA A190
    clear A190
    replace H := Option.bind_eq_some_iff.mp H
    obtain ⟨t438, A200, H⟩ := H
    replace H : (if (ji18) > (mn t437 t438) then (some (0, 0, 0, 6)) else (curve_Meet.l0 kj2 (mn t437 t438) ji18 ji18 a0_0 a0_1 l0_2 a1_0 a1_1 l1_2)) = some (r1, r2, r3, r4) := H
    have A20 := zA A200
    clear A200
    obtain ⟨ji21, hji21⟩ : ∃ j_ : Int, (mn t437 t438) = j_ := ⟨_, rfl⟩
    replace H : (if (ji18) > (ji21) then (some (0, 0, 0, 6)) else (curve_Meet.l0 kj2 ji21 ji18 ji18 a0_0 a0_1 l0_2 a1_0 a1_1 l1_2)) = some (r1, r2, r3, r4) := by first | (rw [hji21] at H; exact H) | (simp only [hji21] at H ⊢; exact H)
    (try rw [hji21] at A19)
    (try rw [hji21] at A20)
    have hji21_ : (if t438 < t437 then t438 else t437) = ji21 := hji21
    by_cases c22 : (ji18) > (ji21)
    ·
     rw [if_pos c22] at H
     have c22b0 : decide ((ji21) < (ji18)) = true := decide_eq_true c22
     clear c22
     simp only [Option.some.injEq, Prod.mk.injEq] at H
     obtain ⟨rfl, rfl, rfl, rfl⟩ := H
     try go_wp2
     have n0_ := zA (zD BK6z.out)
     have n1_ := zA (zD BK70.out)
     have n2_ := zA (zY HB.out)
     clear BK6z; clear BK70; clear HB
     have BK6z := n0_
     have BK70 := n1_
     have HB := n2_
     clear n0_ n1_ n2_
     refine start_ (n := 12) (S := fun w' => w'.cell? ⟨gA, 0, none⟩ = some (.int .i64 a0_0) ∧ w'.cell? ⟨gA, 1, none⟩ = some (.int .i64 a0_1) ∧ w'.cell? ⟨gA, 2, none⟩ = some (.slice A0_2 l0_2.length c0_2) ∧ w'.cell? ⟨gB, 0, none⟩ = some (.int .i64 a1_0) ∧ w'.cell? ⟨gB, 1, none⟩ = some (.int .i64 a1_1) ∧ w'.cell? ⟨gB, 2, none⟩ = some (.slice A1_2 l1_2.length c1_2)) (ds := []) #[O,O,O,O,O,O,O,O,O,O,O,O] (by kernel_rfl) rfl rfl ⟨(blk_cell BK6z.out 0).trans rfl, (blk_cell BK6z.out 1).trans rfl, (blk_cell BK6z.out 2).trans rfl, (blk_cell BK70.out 0).trans rfl, (blk_cell BK70.out 1).trans rfl, (blk_cell BK70.out 2).trans rfl⟩ (fun hHeld => ?_); refine with_tabW curve_Meet.tab3 curve_Meet.bits3 (fun HT_ HW_ => ?_)
     generalize wc.drew = w23 at BK6z BK70 HB hHeld ⊢
     refine pure_ (i := 0) (N := some 24) (v := ?_) (a' := ?_) #[Y,O,O,O,O,O,O,O,O,O,O,O] rfl rfl (any_of HT_.out (by kernel_rfl)) (fun _ _ _ h => h) (Or.inl ⟨by rfl, ?_⟩) ?_ ?_
     rotate_left
     ·
      intro w'; go_simp; with_reducible rfl
     rotate_left
     ·
      simp only [Act.put, z1, z2, z3, i64_w, i32_w]; rfl
     refine pure_ (i := 2) (N := some 26) (v := ?_) (a' := ?_) #[Y,O,Y,O,O,O,O,O,O,O,O,O] rfl rfl (any_of HT_.out (by kernel_rfl)) (fun _ _ _ h => h) (Or.inl ⟨by rfl, ?_⟩) ?_ ?_
     rotate_left
     ·
      intro w'; go_simp; with_reducible rfl
     rotate_left
     ·
      simp only [Act.put, z1, z2, z3, i64_w, i32_w]; rfl
     refine take_ (i := 1) (N := some 25) (v := ?_) (a' := ?_) #[Y,Y,Y,O,O,O,O,O,O,O,O,O] rfl rfl (take_ofW HT_.out HW_.out (by kernel_rfl)) (fun _ _ _ h => h) (Or.inl ⟨by rfl, ?_⟩) hHeld ?_ ?_
     rotate_left
     ·
      rintro w' ⟨s0, s1, s2, s3, s4, s5⟩
      go_simp; with_reducible rfl
     rotate_left
     ·
      simp only [Act.put, z1, z2, z3, i64_w, i32_w]; rfl
     refine take_ (i := 3) (N := some 27) (v := ?_) (a' := ?_) #[Y,Y,Y,Y,O,O,O,O,O,O,O,O] rfl rfl (take_ofW HT_.out HW_.out (by kernel_rfl)) (fun _ _ _ h => h) (Or.inl ⟨by rfl, ?_⟩) hHeld ?_ ?_
     rotate_left
     ·
      rintro w' ⟨s0, s1, s2, s3, s4, s5⟩
      go_simp; with_reducible rfl
     rotate_left
     ·
      simp only [Act.put, z1, z2, z3, i64_w, i32_w]; rfl
     refine pure_ (i := 4) (N := some 28) (v := ?_) (a' := ?_) #[Y,Y,Y,Y,Y,O,O,O,O,O,O,O] rfl rfl (any_of HT_.out (by kernel_rfl)) (fun _ _ _ h => h) (Or.inl ⟨by rfl, ?_⟩) ?_ ?_
     rotate_left
     ·
      intro w'; go_simp; with_reducible rfl
     rotate_left
     ·
      simp only [Act.put, z1, z2, z3, i64_w, i32_w]; rfl
     refine take_ (i := 5) (N := some 29) (v := ?_) (a' := ?_) #[Y,Y,Y,Y,Y,Y,O,O,O,O,O,O] rfl rfl (take_ofW HT_.out HW_.out (by kernel_rfl)) (fun _ _ _ h => h) (Or.inl ⟨by rfl, ?_⟩) hHeld ?_ ?_
     rotate_left
     ·
      rintro w' ⟨s0, s1, s2, s3, s4, s5⟩
      go_simp; with_reducible rfl
     rotate_left
     ·
      simp only [Act.put, z1, z2, z3, i64_w, i32_w]; rfl
     refine take_ (i := 7) (N := some 31) (v := ?_) (a' := ?_) #[Y,Y,Y,Y,Y,Y,O,Y,O,O,O,O] rfl rfl (take_ofW HT_.out HW_.out (by kernel_rfl)) (fun _ _ _ h => h) (Or.inl ⟨by rfl, ?_⟩) hHeld ?_ ?_
     rotate_left
     ·
      rintro w' ⟨s0, s1, s2, s3, s4, s5⟩
      go_simp; with_reducible rfl
     rotate_left
     ·
      simp only [Act.put, z1, z2, z3, i64_w, i32_w]; rfl
     refine one_ (i := 6) (N := some 30) #[Y,Y,Y,Y,Y,Y,Y,Y,O,O,O,O] rfl rfl (one_of HT_.out (by kernel_rfl)) (by decide) (fun K hK => ?_)
     refine goes_ Try.func58 (by kernel_rfl) rfl #[.agg #[.int .i64 a0_0, .int .i64 a0_1, .slice A0_2 l0_2.length c0_2]] (by rfl) rfl rfl (by (try simp only [List.map_toArray, List.map_cons, List.map_nil]); first | done | rfl | (simp only [List.length_drop, List.length_take]; rfl)) ?_
     with_reducible refine (curve_to.calls a0_0 a0_1 _ _ l0_2 t437 _ ?side1 ?side2 A19.out).mono ?_
     (case side1 => repeat (first | exact (Kd.C_below HR0_2.out HB.out) | (with_reducible refine Kd.C_alloc ?_ _) | (with_reducible refine Kd.C_drewN ?_ _) | (with_reducible refine Kd.C_drew ?_)))
     (case side2 => exact HC0_2.out)
     rintro e w24 ⟨rfl, hb⟩
     refine ⟨_, rfl, ?_⟩
     have n0_ := zA (blk_below (g := gA) (o := .cells #[.int .i64 a0_0, .int .i64 a0_1, .slice A0_2 l0_2.length c0_2] 24 (0, 0)) (by (with_reducible repeat (first | refine zN ?_ _ | refine zD ?_ | refine zB ?_ _)); exact BK6z.out) hb)
     have n1_ := zA (blk_below (g := gB) (o := .cells #[.int .i64 a1_0, .int .i64 a1_1, .slice A1_2 l1_2.length c1_2] 24 (0, 0)) (by (with_reducible repeat (first | refine zN ?_ _ | refine zD ?_ | refine zB ?_ _)); exact BK70.out) hb)
     have n2_ := zA (below_step (by repeat (first | (with_reducible first | exact HB.out | apply zW | apply zX | apply zY | refine zS ?_ GE6z.out | refine zS ?_ GE70.out) | exact HB.out)) hb)
     clear BK6z; clear BK70; clear HB
     have BK6z := n0_
     have BK70 := n1_
     have HB := n2_
     clear n0_ n1_ n2_
     (try clear hb)
     (try clear hb2)
     (try clear hk)
     (try clear hi)
     refine hK.out _ _ ⟨(blk_cell BK6z.out 0).trans rfl, (blk_cell BK6z.out 1).trans rfl, (blk_cell BK6z.out 2).trans rfl, (blk_cell BK70.out 0).trans rfl, (blk_cell BK70.out 1).trans rfl, (blk_cell BK70.out 2).trans rfl⟩ (fun hHeld => ?_)
     clear hK K
     refine norm_ (a' := ?_) ?_ ?_
     rotate_left
     ·
      show Act.put _ (some 30) _ = _
      simp only [Act.put, z1, z2, z3, i64_w, i32_w]; rfl
     refine one_ (i := 8) (N := some 32) #[Y,Y,Y,Y,Y,Y,Y,Y,Y,O,O,O] rfl rfl (one_of HT_.out (by kernel_rfl)) (by decide) (fun K hK => ?_)
     refine goes_ Try.func58 (by kernel_rfl) rfl #[.agg #[.int .i64 a1_0, .int .i64 a1_1, .slice A1_2 l1_2.length c1_2]] (by rfl) rfl rfl (by (try simp only [List.map_toArray, List.map_cons, List.map_nil]); first | done | rfl | (simp only [List.length_drop, List.length_take]; rfl)) ?_
     with_reducible refine (curve_to.calls a1_0 a1_1 _ _ l1_2 t438 _ ?side1 ?side2 A20.out).mono ?_
     (case side1 => repeat (first | exact (Kd.C_below HR1_2.out HB.out) | (with_reducible refine Kd.C_alloc ?_ _) | (with_reducible refine Kd.C_drewN ?_ _) | (with_reducible refine Kd.C_drew ?_)))
     (case side2 => exact HC1_2.out)
     rintro e w25 ⟨rfl, hb⟩
     refine ⟨_, rfl, ?_⟩
     have n0_ := zA (blk_below (g := gA) (o := .cells #[.int .i64 a0_0, .int .i64 a0_1, .slice A0_2 l0_2.length c0_2] 24 (0, 0)) (by (with_reducible repeat (first | refine zN ?_ _ | refine zD ?_ | refine zB ?_ _)); exact BK6z.out) hb)
     have n1_ := zA (blk_below (g := gB) (o := .cells #[.int .i64 a1_0, .int .i64 a1_1, .slice A1_2 l1_2.length c1_2] 24 (0, 0)) (by (with_reducible repeat (first | refine zN ?_ _ | refine zD ?_ | refine zB ?_ _)); exact BK70.out) hb)
     have n2_ := zA (below_step (by repeat (first | (with_reducible first | exact HB.out | apply zW | apply zX | apply zY | refine zS ?_ GE6z.out | refine zS ?_ GE70.out) | exact HB.out)) hb)
     clear BK6z; clear BK70; clear HB
     have BK6z := n0_
     have BK70 := n1_
     have HB := n2_
     clear n0_ n1_ n2_
     (try clear hb)
     (try clear hb2)
     (try clear hk)
     (try clear hi)
     refine hK.out _ _ ⟨(blk_cell BK6z.out 0).trans rfl, (blk_cell BK6z.out 1).trans rfl, (blk_cell BK6z.out 2).trans rfl, (blk_cell BK70.out 0).trans rfl, (blk_cell BK70.out 1).trans rfl, (blk_cell BK70.out 2).trans rfl⟩ (fun hHeld => ?_)
     clear hK K
     refine norm_ (a' := ?_) ?_ ?_
     rotate_left
     ·
      show Act.put _ (some 32) _ = _
      simp only [Act.put, z1, z2, z3, i64_w, i32_w]; rfl
     refine pure_ (i := 9) (N := some 33) (v := ?_) (a' := ?_) #[Y,Y,Y,Y,Y,Y,Y,Y,Y,Y,O,O] rfl rfl (any_of HT_.out (by kernel_rfl)) (fun _ _ _ h => h) (Or.inl ⟨by rfl, ?_⟩) ?_ ?_
     rotate_left
     ·
      intro w'; go_simp; with_reducible rfl
     rotate_left
     ·
      simp only [Act.put, z1, z2, z3, i64_w, i32_w]; rfl
     refine pure_ (i := 10) (N := some 8) (v := ?_) (a' := ?_) #[Y,Y,Y,Y,Y,Y,Y,Y,Y,Y,Y,O] rfl rfl (any_of HT_.out (by kernel_rfl)) (fun _ _ _ h => h) (Or.inl ⟨by rfl, ?_⟩) ?_ ?_
     rotate_left
     ·
      intro w'; go_simp; with_reducible rfl
     rotate_left
     ·
      simp only [Act.put, z1, z2, z3, i64_w, i32_w]; rfl
     refine pure_ (i := 11) (N := some 9) (v := ?_) (a' := ?_) #[Y,Y,Y,Y,Y,Y,Y,Y,Y,Y,Y,Y] rfl rfl (any_of HT_.out (by kernel_rfl)) (fun _ _ _ h => h) (Or.inl ⟨by rfl, ?_⟩) ?_ ?_
     rotate_left
     ·
      intro w'; go_simp; with_reducible rfl
     rotate_left
     ·
      simp only [Act.put, z1, z2, z3, i64_w, i32_w]; rfl
     refine done_ (done_of HT_.out (by kernel_rfl)) ?_
     try go_wp2
     refine bodyPost_ret (results_list (rs := [.tmp 4, .tmp 5, .tmp 6, .tmp 7]) rfl (by simp) (.tmp (.tmp (.tmp (.tmp .nil))))) rfl ?_
     exact ⟨by first | rfl | (simp [errW_none, errW_some] <;> rfl) | (simp only [← hji18, ← hji21]; first | rfl | (simp [errW_none, errW_some] <;> rfl)) | (simp [*, errW_none, errW_some] <;> rfl), by repeat (first | (with_reducible first | exact HB.out | apply zW | apply zX | apply zY | refine zS ?_ GE6z.out | refine zS ?_ GE70.out) | exact HB.out)⟩
    ·
     rw [if_neg c22] at H
     have c22b0 : decide ((ji21) < (ji18)) = false := decide_eq_false c22
     clear c22
     have H' := zA H
     clear H
     try go_wp2
     have n0_ := zA (zD BK6z.out)
     have n1_ := zA (zD BK70.out)
     have n2_ := zA (zY HB.out)
     clear BK6z; clear BK70; clear HB
     have BK6z := n0_
     have BK70 := n1_
     have HB := n2_
     clear n0_ n1_ n2_
     refine start_ (n := 12) (S := fun w' => w'.cell? ⟨gA, 0, none⟩ = some (.int .i64 a0_0) ∧ w'.cell? ⟨gA, 1, none⟩ = some (.int .i64 a0_1) ∧ w'.cell? ⟨gA, 2, none⟩ = some (.slice A0_2 l0_2.length c0_2) ∧ w'.cell? ⟨gB, 0, none⟩ = some (.int .i64 a1_0) ∧ w'.cell? ⟨gB, 1, none⟩ = some (.int .i64 a1_1) ∧ w'.cell? ⟨gB, 2, none⟩ = some (.slice A1_2 l1_2.length c1_2)) (ds := []) #[O,O,O,O,O,O,O,O,O,O,O,O] (by kernel_rfl) rfl rfl ⟨(blk_cell BK6z.out 0).trans rfl, (blk_cell BK6z.out 1).trans rfl, (blk_cell BK6z.out 2).trans rfl, (blk_cell BK70.out 0).trans rfl, (blk_cell BK70.out 1).trans rfl, (blk_cell BK70.out 2).trans rfl⟩ (fun hHeld => ?_); refine with_tabW curve_Meet.tab3 curve_Meet.bits3 (fun HT_ HW_ => ?_)
     generalize wc.drew = w26 at BK6z BK70 HB hHeld ⊢
     refine pure_ (i := 0) (N := some 24) (v := ?_) (a' := ?_) #[Y,O,O,O,O,O,O,O,O,O,O,O] rfl rfl (any_of HT_.out (by kernel_rfl)) (fun _ _ _ h => h) (Or.inl ⟨by rfl, ?_⟩) ?_ ?_
     rotate_left
     ·
      intro w'; go_simp; with_reducible rfl
     rotate_left
     ·
      simp only [Act.put, z1, z2, z3, i64_w, i32_w]; rfl
     refine pure_ (i := 2) (N := some 26) (v := ?_) (a' := ?_) #[Y,O,Y,O,O,O,O,O,O,O,O,O] rfl rfl (any_of HT_.out (by kernel_rfl)) (fun _ _ _ h => h) (Or.inl ⟨by rfl, ?_⟩) ?_ ?_
     rotate_left
     ·
      intro w'; go_simp; with_reducible rfl
     rotate_left
     ·
      simp only [Act.put, z1, z2, z3, i64_w, i32_w]; rfl
     refine take_ (i := 1) (N := some 25) (v := ?_) (a' := ?_) #[Y,Y,Y,O,O,O,O,O,O,O,O,O] rfl rfl (take_ofW HT_.out HW_.out (by kernel_rfl)) (fun _ _ _ h => h) (Or.inl ⟨by rfl, ?_⟩) hHeld ?_ ?_
     rotate_left
     ·
      rintro w' ⟨s0, s1, s2, s3, s4, s5⟩
      go_simp; with_reducible rfl
     rotate_left
     ·
      simp only [Act.put, z1, z2, z3, i64_w, i32_w]; rfl
     refine take_ (i := 3) (N := some 27) (v := ?_) (a' := ?_) #[Y,Y,Y,Y,O,O,O,O,O,O,O,O] rfl rfl (take_ofW HT_.out HW_.out (by kernel_rfl)) (fun _ _ _ h => h) (Or.inl ⟨by rfl, ?_⟩) hHeld ?_ ?_
     rotate_left
     ·
      rintro w' ⟨s0, s1, s2, s3, s4, s5⟩
      go_simp; with_reducible rfl
     rotate_left
     ·
      simp only [Act.put, z1, z2, z3, i64_w, i32_w]; rfl
     refine pure_ (i := 4) (N := some 28) (v := ?_) (a' := ?_) #[Y,Y,Y,Y,Y,O,O,O,O,O,O,O] rfl rfl (any_of HT_.out (by kernel_rfl)) (fun _ _ _ h => h) (Or.inl ⟨by rfl, ?_⟩) ?_ ?_
     rotate_left
     ·
      intro w'; go_simp; with_reducible rfl
     rotate_left
     ·
      simp only [Act.put, z1, z2, z3, i64_w, i32_w]; rfl
     refine take_ (i := 5) (N := some 29) (v := ?_) (a' := ?_) #[Y,Y,Y,Y,Y,Y,O,O,O,O,O,O] rfl rfl (take_ofW HT_.out HW_.out (by kernel_rfl)) (fun _ _ _ h => h) (Or.inl ⟨by rfl, ?_⟩) hHeld ?_ ?_
     rotate_left
     ·
      rintro w' ⟨s0, s1, s2, s3, s4, s5⟩
      go_simp; with_reducible rfl
     rotate_left
     ·
      simp only [Act.put, z1, z2, z3, i64_w, i32_w]; rfl
     refine take_ (i := 7) (N := some 31) (v := ?_) (a' := ?_) #[Y,Y,Y,Y,Y,Y,O,Y,O,O,O,O] rfl rfl (take_ofW HT_.out HW_.out (by kernel_rfl)) (fun _ _ _ h => h) (Or.inl ⟨by rfl, ?_⟩) hHeld ?_ ?_
     rotate_left
     ·
      rintro w' ⟨s0, s1, s2, s3, s4, s5⟩
      go_simp; with_reducible rfl
     rotate_left
     ·
      simp only [Act.put, z1, z2, z3, i64_w, i32_w]; rfl
     refine one_ (i := 6) (N := some 30) #[Y,Y,Y,Y,Y,Y,Y,Y,O,O,O,O] rfl rfl (one_of HT_.out (by kernel_rfl)) (by decide) (fun K hK => ?_)
     refine goes_ Try.func58 (by kernel_rfl) rfl #[.agg #[.int .i64 a0_0, .int .i64 a0_1, .slice A0_2 l0_2.length c0_2]] (by rfl) rfl rfl (by (try simp only [List.map_toArray, List.map_cons, List.map_nil]); first | done | rfl | (simp only [List.length_drop, List.length_take]; rfl)) ?_
     with_reducible refine (curve_to.calls a0_0 a0_1 _ _ l0_2 t437 _ ?side1 ?side2 A19.out).mono ?_
     (case side1 => repeat (first | exact (Kd.C_below HR0_2.out HB.out) | (with_reducible refine Kd.C_alloc ?_ _) | (with_reducible refine Kd.C_drewN ?_ _) | (with_reducible refine Kd.C_drew ?_)))
     (case side2 => exact HC0_2.out)
     rintro e w27 ⟨rfl, hb⟩
     refine ⟨_, rfl, ?_⟩
     have n0_ := zA (blk_below (g := gA) (o := .cells #[.int .i64 a0_0, .int .i64 a0_1, .slice A0_2 l0_2.length c0_2] 24 (0, 0)) (by (with_reducible repeat (first | refine zN ?_ _ | refine zD ?_ | refine zB ?_ _)); exact BK6z.out) hb)
     have n1_ := zA (blk_below (g := gB) (o := .cells #[.int .i64 a1_0, .int .i64 a1_1, .slice A1_2 l1_2.length c1_2] 24 (0, 0)) (by (with_reducible repeat (first | refine zN ?_ _ | refine zD ?_ | refine zB ?_ _)); exact BK70.out) hb)
     have n2_ := zA (below_step (by repeat (first | (with_reducible first | exact HB.out | apply zW | apply zX | apply zY | refine zS ?_ GE6z.out | refine zS ?_ GE70.out) | exact HB.out)) hb)
     clear BK6z; clear BK70; clear HB
     have BK6z := n0_
     have BK70 := n1_
     have HB := n2_
     clear n0_ n1_ n2_
     (try clear hb)
     (try clear hb2)
     (try clear hk)
     (try clear hi)
     refine hK.out _ _ ⟨(blk_cell BK6z.out 0).trans rfl, (blk_cell BK6z.out 1).trans rfl, (blk_cell BK6z.out 2).trans rfl, (blk_cell BK70.out 0).trans rfl, (blk_cell BK70.out 1).trans rfl, (blk_cell BK70.out 2).trans rfl⟩ (fun hHeld => ?_)
     clear hK K
     refine norm_ (a' := ?_) ?_ ?_
     rotate_left
     ·
      show Act.put _ (some 30) _ = _
      simp only [Act.put, z1, z2, z3, i64_w, i32_w]; rfl
     refine one_ (i := 8) (N := some 32) #[Y,Y,Y,Y,Y,Y,Y,Y,Y,O,O,O] rfl rfl (one_of HT_.out (by kernel_rfl)) (by decide) (fun K hK => ?_)
     refine goes_ Try.func58 (by kernel_rfl) rfl #[.agg #[.int .i64 a1_0, .int .i64 a1_1, .slice A1_2 l1_2.length c1_2]] (by rfl) rfl rfl (by (try simp only [List.map_toArray, List.map_cons, List.map_nil]); first | done | rfl | (simp only [List.length_drop, List.length_take]; rfl)) ?_
     with_reducible refine (curve_to.calls a1_0 a1_1 _ _ l1_2 t438 _ ?side1 ?side2 A20.out).mono ?_
     (case side1 => repeat (first | exact (Kd.C_below HR1_2.out HB.out) | (with_reducible refine Kd.C_alloc ?_ _) | (with_reducible refine Kd.C_drewN ?_ _) | (with_reducible refine Kd.C_drew ?_)))
     (case side2 => exact HC1_2.out)
     rintro e w28 ⟨rfl, hb⟩
     refine ⟨_, rfl, ?_⟩
     have n0_ := zA (blk_below (g := gA) (o := .cells #[.int .i64 a0_0, .int .i64 a0_1, .slice A0_2 l0_2.length c0_2] 24 (0, 0)) (by (with_reducible repeat (first | refine zN ?_ _ | refine zD ?_ | refine zB ?_ _)); exact BK6z.out) hb)
     have n1_ := zA (blk_below (g := gB) (o := .cells #[.int .i64 a1_0, .int .i64 a1_1, .slice A1_2 l1_2.length c1_2] 24 (0, 0)) (by (with_reducible repeat (first | refine zN ?_ _ | refine zD ?_ | refine zB ?_ _)); exact BK70.out) hb)
     have n2_ := zA (below_step (by repeat (first | (with_reducible first | exact HB.out | apply zW | apply zX | apply zY | refine zS ?_ GE6z.out | refine zS ?_ GE70.out) | exact HB.out)) hb)
     clear BK6z; clear BK70; clear HB
     have BK6z := n0_
     have BK70 := n1_
     have HB := n2_
     clear n0_ n1_ n2_
     (try clear hb)
     (try clear hb2)
     (try clear hk)
     (try clear hi)
     refine hK.out _ _ ⟨(blk_cell BK6z.out 0).trans rfl, (blk_cell BK6z.out 1).trans rfl, (blk_cell BK6z.out 2).trans rfl, (blk_cell BK70.out 0).trans rfl, (blk_cell BK70.out 1).trans rfl, (blk_cell BK70.out 2).trans rfl⟩ (fun hHeld => ?_)
     clear hK K
     refine norm_ (a' := ?_) ?_ ?_
     rotate_left
     ·
      show Act.put _ (some 32) _ = _
      simp only [Act.put, z1, z2, z3, i64_w, i32_w]; rfl
     refine pure_ (i := 9) (N := some 33) (v := ?_) (a' := ?_) #[Y,Y,Y,Y,Y,Y,Y,Y,Y,Y,O,O] rfl rfl (any_of HT_.out (by kernel_rfl)) (fun _ _ _ h => h) (Or.inl ⟨by rfl, ?_⟩) ?_ ?_
     rotate_left
     ·
      intro w'; go_simp; with_reducible rfl
     rotate_left
     ·
      simp only [Act.put, z1, z2, z3, i64_w, i32_w]; rfl
     refine pure_ (i := 10) (N := some 8) (v := ?_) (a' := ?_) #[Y,Y,Y,Y,Y,Y,Y,Y,Y,Y,Y,O] rfl rfl (any_of HT_.out (by kernel_rfl)) (fun _ _ _ h => h) (Or.inl ⟨by rfl, ?_⟩) ?_ ?_
     rotate_left
     ·
      intro w'; go_simp; with_reducible rfl
     rotate_left
     ·
      simp only [Act.put, z1, z2, z3, i64_w, i32_w]; rfl
     refine pure_ (i := 11) (N := some 9) (v := ?_) (a' := ?_) #[Y,Y,Y,Y,Y,Y,Y,Y,Y,Y,Y,Y] rfl rfl (any_of HT_.out (by kernel_rfl)) (fun _ _ _ h => h) (Or.inl ⟨by rfl, ?_⟩) ?_ ?_
     rotate_left
     ·
      intro w'; go_simp; with_reducible rfl
     rotate_left
     ·
      simp only [Act.put, z1, z2, z3, i64_w, i32_w]; rfl
     refine done_ (done_of HT_.out (by kernel_rfl)) ?_
     try go_wp2
     go_loopg [10, 11] kj2 (fun kq v10 v11 w' => ∃ (x10_2 : Int) (x11_2 : Int), v10 = .int .i64 x10_2 ∧ v11 = .int .i64 x11_2 ∧ Aside0 (curve_Meet.l0 kq ji21 x10_2 x11_2 a0_0 a0_1 l0_2 a1_0 a1_1 l1_2 = some (r1, r2, r3, r4)) ∧ Aside0 (kq ≤ kj2) ∧ Aside0 (w'.heap[gA]? = some (.cells #[.int .i64 a0_0, .int .i64 a0_1, (.slice A0_2 l0_2.length c0_2)] 24 (0, 0))) ∧ Aside0 (w'.heap[gB]? = some (.cells #[.int .i64 a1_0, .int .i64 a1_1, (.slice A1_2 l1_2.length c1_2)] 24 (0, 0))) ∧ Aside0 (Below w.heap.size w w'))
     case atStart => exact ⟨(ji18), (ji18), (by first | rfl | (simp; done) | (simp only [← hji18] <;> (first | rfl | simp)) | (simp [*]; done)), (by first | rfl | (simp; done) | (simp only [← hji18] <;> (first | rfl | simp)) | (simp [*]; done)), H', ⟨Nat.le_refl _⟩, ⟨by (with_reducible repeat (first | refine zN ?_ _ | refine zD ?_ | refine zB ?_ _)); exact BK6z.out⟩, ⟨by (with_reducible repeat (first | refine zN ?_ _ | refine zD ?_ | refine zB ?_ _)); exact BK70.out⟩, ⟨by repeat (first | (with_reducible first | exact HB.out | apply zW | apply zX | apply zY | refine zS ?_ GE6z.out | refine zS ?_ GE70.out) | exact HB.out)⟩⟩
     case round =>
      clear H'
      try clear c1
      try clear c2
      try clear p2
      try clear c5
      try clear c7
      try clear c9
      try clear c14
      try clear c16
      try clear c17
      try clear c22
      try clear c22b0
      try clear c25
      try clear hcz10_0
      try clear hcz10_1
      try clear hcz10_2
      try clear hcz12_0
      try clear hcz12_1
      try clear hcz12_2
      try clear hcz15_0
      try clear hcz15_1
      try clear hcz15_2
      try clear hfz10_0
      try clear hfz10_1
      try clear hfz10_2
      try clear hfz12_0
      try clear hfz12_1
      try clear hfz12_2
      try clear hfz15_0
      try clear hfz15_1
      try clear hfz15_2
      try clear p2
      obtain ⟨x10_2, x11_2, rfl, rfl, HA, HK2, BK6z, BK70, HB⟩ := hrel
      cases gk with
      | zero => exact absurd HA.out (by simp [curve_Meet.l0])
      | succ k2 =>
       have H := HA.out
       clear HA
       simp only [curve_Meet.l0] at H
       by_cases c29 : x11_2 ≤ ji21
       ·
        rw [if_pos c29] at H
        have c29b0 : decide (x11_2 ≤ ji21) = true := decide_eq_true c29
        clear c29
        replace H := Option.bind_eq_some_iff.mp H
        obtain ⟨t439, A300, H⟩ := H
        replace H : ((curve_at.f a1_0 a1_1 l1_2 x11_2).bind fun t440 => ((curve_at.f a0_0 a0_1 l0_2 x10_2).bind fun t441 => ((curve_at.f a1_0 a1_1 l1_2 x10_2).bind fun t442 => (if (wrap64 (t439 + t440)) < (wrap64 (t441 + t442)) then (curve_Meet.l0 k2 ji21 x11_2 (wrap64 (x11_2 + 1)) a0_0 a0_1 l0_2 a1_0 a1_1 l1_2) else (curve_Meet.l0 k2 ji21 x10_2 (wrap64 (x11_2 + 1)) a0_0 a0_1 l0_2 a1_0 a1_1 l1_2))))) = some (r1, r2, r3, r4) := H
        have A30 := zA A300
        clear A300
        replace H := Option.bind_eq_some_iff.mp H
        obtain ⟨t440, A310, H⟩ := H
        replace H : ((curve_at.f a0_0 a0_1 l0_2 x10_2).bind fun t441 => ((curve_at.f a1_0 a1_1 l1_2 x10_2).bind fun t442 => (if (wrap64 (t439 + t440)) < (wrap64 (t441 + t442)) then (curve_Meet.l0 k2 ji21 x11_2 (wrap64 (x11_2 + 1)) a0_0 a0_1 l0_2 a1_0 a1_1 l1_2) else (curve_Meet.l0 k2 ji21 x10_2 (wrap64 (x11_2 + 1)) a0_0 a0_1 l0_2 a1_0 a1_1 l1_2)))) = some (r1, r2, r3, r4) := H
        have A31 := zA A310
        clear A310
        replace H := Option.bind_eq_some_iff.mp H
        obtain ⟨t441, A320, H⟩ := H
        replace H : ((curve_at.f a1_0 a1_1 l1_2 x10_2).bind fun t442 => (if (wrap64 (t439 + t440)) < (wrap64 (t441 + t442)) then (curve_Meet.l0 k2 ji21 x11_2 (wrap64 (x11_2 + 1)) a0_0 a0_1 l0_2 a1_0 a1_1 l1_2) else (curve_Meet.l0 k2 ji21 x10_2 (wrap64 (x11_2 + 1)) a0_0 a0_1 l0_2 a1_0 a1_1 l1_2))) = some (r1, r2, r3, r4) := H
        have A32 := zA A320
        clear A320
        replace H := Option.bind_eq_some_iff.mp H
        obtain ⟨t442, A330, H⟩ := H
        replace H : (if (wrap64 (t439 + t440)) < (wrap64 (t441 + t442)) then (curve_Meet.l0 k2 ji21 x11_2 (wrap64 (x11_2 + 1)) a0_0 a0_1 l0_2 a1_0 a1_1 l1_2) else (curve_Meet.l0 k2 ji21 x10_2 (wrap64 (x11_2 + 1)) a0_0 a0_1 l0_2 a1_0 a1_1 l1_2)) = some (r1, r2, r3, r4) := H
        have A33 := zA A330
        clear A330
        by_cases c34 : (wrap64 (t439 + t440)) < (wrap64 (t441 + t442))
        ·
         rw [if_pos c34] at H
         have c34b0 : decide ((wrap64 (t439 + t440)) < (wrap64 (t441 + t442))) = true := decide_eq_true c34
         clear c34
         have H' := zA H
         clear H
         try go_wp2
         have n0_ := zA (zD BK6z.out)
         have n1_ := zA (zD BK70.out)
         have n2_ := zA (zY HB.out)
         clear BK6z; clear BK70; clear HB
         have BK6z := n0_
         have BK70 := n1_
         have HB := n2_
         clear n0_ n1_ n2_
         refine start_ (n := 15) (S := fun w' => w'.cell? ⟨gA, 0, none⟩ = some (.int .i64 a0_0) ∧ w'.cell? ⟨gA, 1, none⟩ = some (.int .i64 a0_1) ∧ w'.cell? ⟨gA, 2, none⟩ = some (.slice A0_2 l0_2.length c0_2) ∧ w'.cell? ⟨gB, 0, none⟩ = some (.int .i64 a1_0) ∧ w'.cell? ⟨gB, 1, none⟩ = some (.int .i64 a1_1) ∧ w'.cell? ⟨gB, 2, none⟩ = some (.slice A1_2 l1_2.length c1_2)) (ds := []) #[O,O,O,O,O,O,O,O,O,O,O,O,O,O,O] (by kernel_rfl) rfl rfl ⟨(blk_cell BK6z.out 0).trans rfl, (blk_cell BK6z.out 1).trans rfl, (blk_cell BK6z.out 2).trans rfl, (blk_cell BK70.out 0).trans rfl, (blk_cell BK70.out 1).trans rfl, (blk_cell BK70.out 2).trans rfl⟩ (fun hHeld => ?_); refine with_tabW curve_Meet.tab10 curve_Meet.bits10 (fun HT_ HW_ => ?_)
         generalize wr.drew = w35 at BK6z BK70 HB hHeld ⊢
         refine pure_ (i := 1) (N := some 45) (v := ?_) (a' := ?_) #[O,Y,O,O,O,O,O,O,O,O,O,O,O,O,O] rfl rfl (any_of HT_.out (by kernel_rfl)) (fun _ _ _ h => h) (Or.inl ⟨by rfl, ?_⟩) ?_ ?_
         rotate_left
         ·
          intro w'; go_simp; with_reducible rfl
         rotate_left
         ·
          simp only [Act.put, z1, z2, z3, i64_w, i32_w]; rfl
         refine pure_ (i := 4) (N := some 48) (v := ?_) (a' := ?_) #[O,Y,O,O,Y,O,O,O,O,O,O,O,O,O,O] rfl rfl (any_of HT_.out (by kernel_rfl)) (fun _ _ _ h => h) (Or.inl ⟨by rfl, ?_⟩) ?_ ?_
         rotate_left
         ·
          intro w'; go_simp; with_reducible rfl
         rotate_left
         ·
          simp only [Act.put, z1, z2, z3, i64_w, i32_w]; rfl
         refine pure_ (i := 8) (N := some 52) (v := ?_) (a' := ?_) #[O,Y,O,O,Y,O,O,O,Y,O,O,O,O,O,O] rfl rfl (any_of HT_.out (by kernel_rfl)) (fun _ _ _ h => h) (Or.inl ⟨by rfl, ?_⟩) ?_ ?_
         rotate_left
         ·
          intro w'; go_simp; with_reducible rfl
         rotate_left
         ·
          simp only [Act.put, z1, z2, z3, i64_w, i32_w]; rfl
         refine pure_ (i := 11) (N := some 55) (v := ?_) (a' := ?_) #[O,Y,O,O,Y,O,O,O,Y,O,O,Y,O,O,O] rfl rfl (any_of HT_.out (by kernel_rfl)) (fun _ _ _ h => h) (Or.inl ⟨by rfl, ?_⟩) ?_ ?_
         rotate_left
         ·
          intro w'; go_simp; with_reducible rfl
         rotate_left
         ·
          simp only [Act.put, z1, z2, z3, i64_w, i32_w]; rfl
         refine take_ (i := 0) (N := some 44) (v := ?_) (a' := ?_) #[Y,Y,O,O,Y,O,O,O,Y,O,O,Y,O,O,O] rfl rfl (take_ofW HT_.out HW_.out (by kernel_rfl)) (fun _ _ _ h => h) (Or.inl ⟨by rfl, ?_⟩) hHeld ?_ ?_
         rotate_left
         ·
          rintro w' ⟨s0, s1, s2, s3, s4, s5⟩
          go_simp; with_reducible rfl
         rotate_left
         ·
          simp only [Act.put, z1, z2, z3, i64_w, i32_w]; rfl
         refine take_ (i := 3) (N := some 47) (v := ?_) (a' := ?_) #[Y,Y,O,Y,Y,O,O,O,Y,O,O,Y,O,O,O] rfl rfl (take_ofW HT_.out HW_.out (by kernel_rfl)) (fun _ _ _ h => h) (Or.inl ⟨by rfl, ?_⟩) hHeld ?_ ?_
         rotate_left
         ·
          rintro w' ⟨s0, s1, s2, s3, s4, s5⟩
          go_simp; with_reducible rfl
         rotate_left
         ·
          simp only [Act.put, z1, z2, z3, i64_w, i32_w]; rfl
         refine take_ (i := 7) (N := some 51) (v := ?_) (a' := ?_) #[Y,Y,O,Y,Y,O,O,Y,Y,O,O,Y,O,O,O] rfl rfl (take_ofW HT_.out HW_.out (by kernel_rfl)) (fun _ _ _ h => h) (Or.inl ⟨by rfl, ?_⟩) hHeld ?_ ?_
         rotate_left
         ·
          rintro w' ⟨s0, s1, s2, s3, s4, s5⟩
          go_simp; with_reducible rfl
         rotate_left
         ·
          simp only [Act.put, z1, z2, z3, i64_w, i32_w]; rfl
         refine take_ (i := 10) (N := some 54) (v := ?_) (a' := ?_) #[Y,Y,O,Y,Y,O,O,Y,Y,O,Y,Y,O,O,O] rfl rfl (take_ofW HT_.out HW_.out (by kernel_rfl)) (fun _ _ _ h => h) (Or.inl ⟨by rfl, ?_⟩) hHeld ?_ ?_
         rotate_left
         ·
          rintro w' ⟨s0, s1, s2, s3, s4, s5⟩
          go_simp; with_reducible rfl
         rotate_left
         ·
          simp only [Act.put, z1, z2, z3, i64_w, i32_w]; rfl
         refine one_ (i := 2) (N := some 46) #[Y,Y,Y,Y,Y,O,O,Y,Y,O,Y,Y,O,O,O] rfl rfl (one_of HT_.out (by kernel_rfl)) (by decide) (fun K hK => ?_)
         refine goes_ Try.func61 (by kernel_rfl) rfl #[.agg #[.int .i64 a0_0, .int .i64 a0_1, .slice A0_2 l0_2.length c0_2], .int .i64 x11_2] (by rfl) rfl rfl (by (try simp only [List.map_toArray, List.map_cons, List.map_nil]); first | done | rfl | (simp only [List.length_drop, List.length_take]; rfl)) ?_
         with_reducible refine (curve_at.calls a0_0 a0_1 _ _ l0_2 x11_2 t439 _ ?side1 ?side2 A30.out).mono ?_
         (case side1 => repeat (first | exact (Kd.C_below HR0_2.out HB.out) | (with_reducible refine Kd.C_alloc ?_ _) | (with_reducible refine Kd.C_drewN ?_ _) | (with_reducible refine Kd.C_drew ?_)))
         (case side2 => exact HC0_2.out)
         rintro e w36 ⟨rfl, hb⟩
         refine ⟨_, rfl, ?_⟩
         have n0_ := zA (blk_below (g := gA) (o := .cells #[.int .i64 a0_0, .int .i64 a0_1, .slice A0_2 l0_2.length c0_2] 24 (0, 0)) (by (with_reducible repeat (first | refine zN ?_ _ | refine zD ?_ | refine zB ?_ _)); exact BK6z.out) hb)
         have n1_ := zA (blk_below (g := gB) (o := .cells #[.int .i64 a1_0, .int .i64 a1_1, .slice A1_2 l1_2.length c1_2] 24 (0, 0)) (by (with_reducible repeat (first | refine zN ?_ _ | refine zD ?_ | refine zB ?_ _)); exact BK70.out) hb)
         have n2_ := zA (below_step (by repeat (first | (with_reducible first | exact HB.out | apply zW | apply zX | apply zY | refine zS ?_ GE6z.out | refine zS ?_ GE70.out) | exact HB.out)) hb)
         clear BK6z; clear BK70; clear HB
         have BK6z := n0_
         have BK70 := n1_
         have HB := n2_
         clear n0_ n1_ n2_
         (try clear hb)
         (try clear hb2)
         (try clear hk)
         (try clear hi)
         refine hK.out _ _ ⟨(blk_cell BK6z.out 0).trans rfl, (blk_cell BK6z.out 1).trans rfl, (blk_cell BK6z.out 2).trans rfl, (blk_cell BK70.out 0).trans rfl, (blk_cell BK70.out 1).trans rfl, (blk_cell BK70.out 2).trans rfl⟩ (fun hHeld => ?_)
         clear hK K
         refine norm_ (a' := ?_) ?_ ?_
         rotate_left
         ·
          show Act.put _ (some 46) _ = _
          simp only [Act.put, z1, z2, z3, i64_w, i32_w]; rfl
         refine one_ (i := 5) (N := some 49) #[Y,Y,Y,Y,Y,Y,O,Y,Y,O,Y,Y,O,O,O] rfl rfl (one_of HT_.out (by kernel_rfl)) (by decide) (fun K hK => ?_)
         refine goes_ Try.func61 (by kernel_rfl) rfl #[.agg #[.int .i64 a1_0, .int .i64 a1_1, .slice A1_2 l1_2.length c1_2], .int .i64 x11_2] (by rfl) rfl rfl (by (try simp only [List.map_toArray, List.map_cons, List.map_nil]); first | done | rfl | (simp only [List.length_drop, List.length_take]; rfl)) ?_
         with_reducible refine (curve_at.calls a1_0 a1_1 _ _ l1_2 x11_2 t440 _ ?side1 ?side2 A31.out).mono ?_
         (case side1 => repeat (first | exact (Kd.C_below HR1_2.out HB.out) | (with_reducible refine Kd.C_alloc ?_ _) | (with_reducible refine Kd.C_drewN ?_ _) | (with_reducible refine Kd.C_drew ?_)))
         (case side2 => exact HC1_2.out)
         rintro e w37 ⟨rfl, hb⟩
         refine ⟨_, rfl, ?_⟩
         have n0_ := zA (blk_below (g := gA) (o := .cells #[.int .i64 a0_0, .int .i64 a0_1, .slice A0_2 l0_2.length c0_2] 24 (0, 0)) (by (with_reducible repeat (first | refine zN ?_ _ | refine zD ?_ | refine zB ?_ _)); exact BK6z.out) hb)
         have n1_ := zA (blk_below (g := gB) (o := .cells #[.int .i64 a1_0, .int .i64 a1_1, .slice A1_2 l1_2.length c1_2] 24 (0, 0)) (by (with_reducible repeat (first | refine zN ?_ _ | refine zD ?_ | refine zB ?_ _)); exact BK70.out) hb)
         have n2_ := zA (below_step (by repeat (first | (with_reducible first | exact HB.out | apply zW | apply zX | apply zY | refine zS ?_ GE6z.out | refine zS ?_ GE70.out) | exact HB.out)) hb)
         clear BK6z; clear BK70; clear HB
         have BK6z := n0_
         have BK70 := n1_
         have HB := n2_
         clear n0_ n1_ n2_
         (try clear hb)
         (try clear hb2)
         (try clear hk)
         (try clear hi)
         refine hK.out _ _ ⟨(blk_cell BK6z.out 0).trans rfl, (blk_cell BK6z.out 1).trans rfl, (blk_cell BK6z.out 2).trans rfl, (blk_cell BK70.out 0).trans rfl, (blk_cell BK70.out 1).trans rfl, (blk_cell BK70.out 2).trans rfl⟩ (fun hHeld => ?_)
         clear hK K
         refine norm_ (a' := ?_) ?_ ?_
         rotate_left
         ·
          show Act.put _ (some 49) _ = _
          simp only [Act.put, z1, z2, z3, i64_w, i32_w]; rfl
         refine pure_ (i := 6) (N := some 50) (v := ?_) (a' := ?_) #[Y,Y,Y,Y,Y,Y,Y,Y,Y,O,Y,Y,O,O,O] rfl rfl (any_of HT_.out (by kernel_rfl)) (fun _ _ _ h => h) (Or.inl ⟨by rfl, ?_⟩) ?_ ?_
         rotate_left
         ·
          intro w'; go_simp; with_reducible rfl
         rotate_left
         ·
          simp only [Act.put, z1, z2, z3, i64_w, i32_w]; rfl
         refine one_ (i := 9) (N := some 53) #[Y,Y,Y,Y,Y,Y,Y,Y,Y,Y,Y,Y,O,O,O] rfl rfl (one_of HT_.out (by kernel_rfl)) (by decide) (fun K hK => ?_)
         refine goes_ Try.func61 (by kernel_rfl) rfl #[.agg #[.int .i64 a0_0, .int .i64 a0_1, .slice A0_2 l0_2.length c0_2], .int .i64 x10_2] (by rfl) rfl rfl (by (try simp only [List.map_toArray, List.map_cons, List.map_nil]); first | done | rfl | (simp only [List.length_drop, List.length_take]; rfl)) ?_
         with_reducible refine (curve_at.calls a0_0 a0_1 _ _ l0_2 x10_2 t441 _ ?side1 ?side2 A32.out).mono ?_
         (case side1 => repeat (first | exact (Kd.C_below HR0_2.out HB.out) | (with_reducible refine Kd.C_alloc ?_ _) | (with_reducible refine Kd.C_drewN ?_ _) | (with_reducible refine Kd.C_drew ?_)))
         (case side2 => exact HC0_2.out)
         rintro e w38 ⟨rfl, hb⟩
         refine ⟨_, rfl, ?_⟩
         have n0_ := zA (blk_below (g := gA) (o := .cells #[.int .i64 a0_0, .int .i64 a0_1, .slice A0_2 l0_2.length c0_2] 24 (0, 0)) (by (with_reducible repeat (first | refine zN ?_ _ | refine zD ?_ | refine zB ?_ _)); exact BK6z.out) hb)
         have n1_ := zA (blk_below (g := gB) (o := .cells #[.int .i64 a1_0, .int .i64 a1_1, .slice A1_2 l1_2.length c1_2] 24 (0, 0)) (by (with_reducible repeat (first | refine zN ?_ _ | refine zD ?_ | refine zB ?_ _)); exact BK70.out) hb)
         have n2_ := zA (below_step (by repeat (first | (with_reducible first | exact HB.out | apply zW | apply zX | apply zY | refine zS ?_ GE6z.out | refine zS ?_ GE70.out) | exact HB.out)) hb)
         clear BK6z; clear BK70; clear HB
         have BK6z := n0_
         have BK70 := n1_
         have HB := n2_
         clear n0_ n1_ n2_
         (try clear hb)
         (try clear hb2)
         (try clear hk)
         (try clear hi)
         refine hK.out _ _ ⟨(blk_cell BK6z.out 0).trans rfl, (blk_cell BK6z.out 1).trans rfl, (blk_cell BK6z.out 2).trans rfl, (blk_cell BK70.out 0).trans rfl, (blk_cell BK70.out 1).trans rfl, (blk_cell BK70.out 2).trans rfl⟩ (fun hHeld => ?_)
         clear hK K
         refine norm_ (a' := ?_) ?_ ?_
         rotate_left
         ·
          show Act.put _ (some 53) _ = _
          simp only [Act.put, z1, z2, z3, i64_w, i32_w]; rfl
         refine one_ (i := 12) (N := some 56) #[Y,Y,Y,Y,Y,Y,Y,Y,Y,Y,Y,Y,Y,O,O] rfl rfl (one_of HT_.out (by kernel_rfl)) (by decide) (fun K hK => ?_)
         refine goes_ Try.func61 (by kernel_rfl) rfl #[.agg #[.int .i64 a1_0, .int .i64 a1_1, .slice A1_2 l1_2.length c1_2], .int .i64 x10_2] (by rfl) rfl rfl (by (try simp only [List.map_toArray, List.map_cons, List.map_nil]); first | done | rfl | (simp only [List.length_drop, List.length_take]; rfl)) ?_
         with_reducible refine (curve_at.calls a1_0 a1_1 _ _ l1_2 x10_2 t442 _ ?side1 ?side2 A33.out).mono ?_
         (case side1 => repeat (first | exact (Kd.C_below HR1_2.out HB.out) | (with_reducible refine Kd.C_alloc ?_ _) | (with_reducible refine Kd.C_drewN ?_ _) | (with_reducible refine Kd.C_drew ?_)))
         (case side2 => exact HC1_2.out)
         rintro e w39 ⟨rfl, hb⟩
         refine ⟨_, rfl, ?_⟩
         have n0_ := zA (blk_below (g := gA) (o := .cells #[.int .i64 a0_0, .int .i64 a0_1, .slice A0_2 l0_2.length c0_2] 24 (0, 0)) (by (with_reducible repeat (first | refine zN ?_ _ | refine zD ?_ | refine zB ?_ _)); exact BK6z.out) hb)
         have n1_ := zA (blk_below (g := gB) (o := .cells #[.int .i64 a1_0, .int .i64 a1_1, .slice A1_2 l1_2.length c1_2] 24 (0, 0)) (by (with_reducible repeat (first | refine zN ?_ _ | refine zD ?_ | refine zB ?_ _)); exact BK70.out) hb)
         have n2_ := zA (below_step (by repeat (first | (with_reducible first | exact HB.out | apply zW | apply zX | apply zY | refine zS ?_ GE6z.out | refine zS ?_ GE70.out) | exact HB.out)) hb)
         clear BK6z; clear BK70; clear HB
         have BK6z := n0_
         have BK70 := n1_
         have HB := n2_
         clear n0_ n1_ n2_
         (try clear hb)
         (try clear hb2)
         (try clear hk)
         (try clear hi)
         refine hK.out _ _ ⟨(blk_cell BK6z.out 0).trans rfl, (blk_cell BK6z.out 1).trans rfl, (blk_cell BK6z.out 2).trans rfl, (blk_cell BK70.out 0).trans rfl, (blk_cell BK70.out 1).trans rfl, (blk_cell BK70.out 2).trans rfl⟩ (fun hHeld => ?_)
         clear hK K
         refine norm_ (a' := ?_) ?_ ?_
         rotate_left
         ·
          show Act.put _ (some 56) _ = _
          simp only [Act.put, z1, z2, z3, i64_w, i32_w]; rfl
         refine pure_ (i := 13) (N := some 57) (v := ?_) (a' := ?_) #[Y,Y,Y,Y,Y,Y,Y,Y,Y,Y,Y,Y,Y,Y,O] rfl rfl (any_of HT_.out (by kernel_rfl)) (fun _ _ _ h => h) (Or.inl ⟨by rfl, ?_⟩) ?_ ?_
         rotate_left
         ·
          intro w'; go_simp; with_reducible rfl
         rotate_left
         ·
          simp only [Act.put, z1, z2, z3, i64_w, i32_w]; rfl
         refine pure_ (i := 14) (N := some 58) (v := ?_) (a' := ?_) #[Y,Y,Y,Y,Y,Y,Y,Y,Y,Y,Y,Y,Y,Y,Y] rfl rfl (any_of HT_.out (by kernel_rfl)) (fun _ _ _ h => h) (Or.inl ⟨by rfl, ?_⟩) ?_ ?_
         rotate_left
         ·
          intro w'; go_simp; with_reducible rfl
         rotate_left
         ·
          simp only [Act.put, z1, z2, z3, i64_w, i32_w]; rfl
         refine done_ (done_of HT_.out (by kernel_rfl)) ?_
         try go_wp2
         go_roundg k2
         case measure => have := HJ2.out; have := HK2.out; omega
         case rel => exact ⟨(x11_2), (wrap64 (x11_2 + 1)), (by first | rfl | (simp; done) | (simp [*]; done)), (by first | rfl | (simp; done) | (simp [*]; done)), H', ⟨by have := HJ2.out; have := HK2.out; omega⟩, ⟨by (with_reducible repeat (first | refine zN ?_ _ | refine zD ?_ | refine zB ?_ _)); exact BK6z.out⟩, ⟨by (with_reducible repeat (first | refine zN ?_ _ | refine zD ?_ | refine zB ?_ _)); exact BK70.out⟩, ⟨by repeat (first | (with_reducible first | exact HB.out | apply zW | apply zX | apply zY | refine zS ?_ GE6z.out | refine zS ?_ GE70.out) | exact HB.out)⟩⟩
        ·
         rw [if_neg c34] at H
         have c34b0 : decide ((wrap64 (t439 + t440)) < (wrap64 (t441 + t442))) = false := decide_eq_false c34
         clear c34
         have H' := zA H
         clear H
         try go_wp2
         have n0_ := zA (zD BK6z.out)
         have n1_ := zA (zD BK70.out)
         have n2_ := zA (zY HB.out)
         clear BK6z; clear BK70; clear HB
         have BK6z := n0_
         have BK70 := n1_
         have HB := n2_
         clear n0_ n1_ n2_
         refine start_ (n := 15) (S := fun w' => w'.cell? ⟨gA, 0, none⟩ = some (.int .i64 a0_0) ∧ w'.cell? ⟨gA, 1, none⟩ = some (.int .i64 a0_1) ∧ w'.cell? ⟨gA, 2, none⟩ = some (.slice A0_2 l0_2.length c0_2) ∧ w'.cell? ⟨gB, 0, none⟩ = some (.int .i64 a1_0) ∧ w'.cell? ⟨gB, 1, none⟩ = some (.int .i64 a1_1) ∧ w'.cell? ⟨gB, 2, none⟩ = some (.slice A1_2 l1_2.length c1_2)) (ds := []) #[O,O,O,O,O,O,O,O,O,O,O,O,O,O,O] (by kernel_rfl) rfl rfl ⟨(blk_cell BK6z.out 0).trans rfl, (blk_cell BK6z.out 1).trans rfl, (blk_cell BK6z.out 2).trans rfl, (blk_cell BK70.out 0).trans rfl, (blk_cell BK70.out 1).trans rfl, (blk_cell BK70.out 2).trans rfl⟩ (fun hHeld => ?_); refine with_tabW curve_Meet.tab10 curve_Meet.bits10 (fun HT_ HW_ => ?_)
         generalize wr.drew = w40 at BK6z BK70 HB hHeld ⊢
         refine pure_ (i := 1) (N := some 45) (v := ?_) (a' := ?_) #[O,Y,O,O,O,O,O,O,O,O,O,O,O,O,O] rfl rfl (any_of HT_.out (by kernel_rfl)) (fun _ _ _ h => h) (Or.inl ⟨by rfl, ?_⟩) ?_ ?_
         rotate_left
         ·
          intro w'; go_simp; with_reducible rfl
         rotate_left
         ·
          simp only [Act.put, z1, z2, z3, i64_w, i32_w]; rfl
         refine pure_ (i := 4) (N := some 48) (v := ?_) (a' := ?_) #[O,Y,O,O,Y,O,O,O,O,O,O,O,O,O,O] rfl rfl (any_of HT_.out (by kernel_rfl)) (fun _ _ _ h => h) (Or.inl ⟨by rfl, ?_⟩) ?_ ?_
         rotate_left
         ·
          intro w'; go_simp; with_reducible rfl
         rotate_left
         ·
          simp only [Act.put, z1, z2, z3, i64_w, i32_w]; rfl
         refine pure_ (i := 8) (N := some 52) (v := ?_) (a' := ?_) #[O,Y,O,O,Y,O,O,O,Y,O,O,O,O,O,O] rfl rfl (any_of HT_.out (by kernel_rfl)) (fun _ _ _ h => h) (Or.inl ⟨by rfl, ?_⟩) ?_ ?_
         rotate_left
         ·
          intro w'; go_simp; with_reducible rfl
         rotate_left
         ·
          simp only [Act.put, z1, z2, z3, i64_w, i32_w]; rfl
         refine pure_ (i := 11) (N := some 55) (v := ?_) (a' := ?_) #[O,Y,O,O,Y,O,O,O,Y,O,O,Y,O,O,O] rfl rfl (any_of HT_.out (by kernel_rfl)) (fun _ _ _ h => h) (Or.inl ⟨by rfl, ?_⟩) ?_ ?_
         rotate_left
         ·
          intro w'; go_simp; with_reducible rfl
         rotate_left
         ·
          simp only [Act.put, z1, z2, z3, i64_w, i32_w]; rfl
         refine take_ (i := 0) (N := some 44) (v := ?_) (a' := ?_) #[Y,Y,O,O,Y,O,O,O,Y,O,O,Y,O,O,O] rfl rfl (take_ofW HT_.out HW_.out (by kernel_rfl)) (fun _ _ _ h => h) (Or.inl ⟨by rfl, ?_⟩) hHeld ?_ ?_
         rotate_left
         ·
          rintro w' ⟨s0, s1, s2, s3, s4, s5⟩
          go_simp; with_reducible rfl
         rotate_left
         ·
          simp only [Act.put, z1, z2, z3, i64_w, i32_w]; rfl
         refine take_ (i := 3) (N := some 47) (v := ?_) (a' := ?_) #[Y,Y,O,Y,Y,O,O,O,Y,O,O,Y,O,O,O] rfl rfl (take_ofW HT_.out HW_.out (by kernel_rfl)) (fun _ _ _ h => h) (Or.inl ⟨by rfl, ?_⟩) hHeld ?_ ?_
         rotate_left
         ·
          rintro w' ⟨s0, s1, s2, s3, s4, s5⟩
          go_simp; with_reducible rfl
         rotate_left
         ·
          simp only [Act.put, z1, z2, z3, i64_w, i32_w]; rfl
         refine take_ (i := 7) (N := some 51) (v := ?_) (a' := ?_) #[Y,Y,O,Y,Y,O,O,Y,Y,O,O,Y,O,O,O] rfl rfl (take_ofW HT_.out HW_.out (by kernel_rfl)) (fun _ _ _ h => h) (Or.inl ⟨by rfl, ?_⟩) hHeld ?_ ?_
         rotate_left
         ·
          rintro w' ⟨s0, s1, s2, s3, s4, s5⟩
          go_simp; with_reducible rfl
         rotate_left
         ·
          simp only [Act.put, z1, z2, z3, i64_w, i32_w]; rfl
         refine take_ (i := 10) (N := some 54) (v := ?_) (a' := ?_) #[Y,Y,O,Y,Y,O,O,Y,Y,O,Y,Y,O,O,O] rfl rfl (take_ofW HT_.out HW_.out (by kernel_rfl)) (fun _ _ _ h => h) (Or.inl ⟨by rfl, ?_⟩) hHeld ?_ ?_
         rotate_left
         ·
          rintro w' ⟨s0, s1, s2, s3, s4, s5⟩
          go_simp; with_reducible rfl
         rotate_left
         ·
          simp only [Act.put, z1, z2, z3, i64_w, i32_w]; rfl
         refine one_ (i := 2) (N := some 46) #[Y,Y,Y,Y,Y,O,O,Y,Y,O,Y,Y,O,O,O] rfl rfl (one_of HT_.out (by kernel_rfl)) (by decide) (fun K hK => ?_)
         refine goes_ Try.func61 (by kernel_rfl) rfl #[.agg #[.int .i64 a0_0, .int .i64 a0_1, .slice A0_2 l0_2.length c0_2], .int .i64 x11_2] (by rfl) rfl rfl (by (try simp only [List.map_toArray, List.map_cons, List.map_nil]); first | done | rfl | (simp only [List.length_drop, List.length_take]; rfl)) ?_
         with_reducible refine (curve_at.calls a0_0 a0_1 _ _ l0_2 x11_2 t439 _ ?side1 ?side2 A30.out).mono ?_
         (case side1 => repeat (first | exact (Kd.C_below HR0_2.out HB.out) | (with_reducible refine Kd.C_alloc ?_ _) | (with_reducible refine Kd.C_drewN ?_ _) | (with_reducible refine Kd.C_drew ?_)))
         (case side2 => exact HC0_2.out)
         rintro e w41 ⟨rfl, hb⟩
         refine ⟨_, rfl, ?_⟩
         have n0_ := zA (blk_below (g := gA) (o := .cells #[.int .i64 a0_0, .int .i64 a0_1, .slice A0_2 l0_2.length c0_2] 24 (0, 0)) (by (with_reducible repeat (first | refine zN ?_ _ | refine zD ?_ | refine zB ?_ _)); exact BK6z.out) hb)
         have n1_ := zA (blk_below (g := gB) (o := .cells #[.int .i64 a1_0, .int .i64 a1_1, .slice A1_2 l1_2.length c1_2] 24 (0, 0)) (by (with_reducible repeat (first | refine zN ?_ _ | refine zD ?_ | refine zB ?_ _)); exact BK70.out) hb)
         have n2_ := zA (below_step (by repeat (first | (with_reducible first | exact HB.out | apply zW | apply zX | apply zY | refine zS ?_ GE6z.out | refine zS ?_ GE70.out) | exact HB.out)) hb)
         clear BK6z; clear BK70; clear HB
         have BK6z := n0_
         have BK70 := n1_
         have HB := n2_
         clear n0_ n1_ n2_
         (try clear hb)
         (try clear hb2)
         (try clear hk)
         (try clear hi)
         refine hK.out _ _ ⟨(blk_cell BK6z.out 0).trans rfl, (blk_cell BK6z.out 1).trans rfl, (blk_cell BK6z.out 2).trans rfl, (blk_cell BK70.out 0).trans rfl, (blk_cell BK70.out 1).trans rfl, (blk_cell BK70.out 2).trans rfl⟩ (fun hHeld => ?_)
         clear hK K
         refine norm_ (a' := ?_) ?_ ?_
         rotate_left
         ·
          show Act.put _ (some 46) _ = _
          simp only [Act.put, z1, z2, z3, i64_w, i32_w]; rfl
         refine one_ (i := 5) (N := some 49) #[Y,Y,Y,Y,Y,Y,O,Y,Y,O,Y,Y,O,O,O] rfl rfl (one_of HT_.out (by kernel_rfl)) (by decide) (fun K hK => ?_)
         refine goes_ Try.func61 (by kernel_rfl) rfl #[.agg #[.int .i64 a1_0, .int .i64 a1_1, .slice A1_2 l1_2.length c1_2], .int .i64 x11_2] (by rfl) rfl rfl (by (try simp only [List.map_toArray, List.map_cons, List.map_nil]); first | done | rfl | (simp only [List.length_drop, List.length_take]; rfl)) ?_
         with_reducible refine (curve_at.calls a1_0 a1_1 _ _ l1_2 x11_2 t440 _ ?side1 ?side2 A31.out).mono ?_
         (case side1 => repeat (first | exact (Kd.C_below HR1_2.out HB.out) | (with_reducible refine Kd.C_alloc ?_ _) | (with_reducible refine Kd.C_drewN ?_ _) | (with_reducible refine Kd.C_drew ?_)))
         (case side2 => exact HC1_2.out)
         rintro e w42 ⟨rfl, hb⟩
         refine ⟨_, rfl, ?_⟩
         have n0_ := zA (blk_below (g := gA) (o := .cells #[.int .i64 a0_0, .int .i64 a0_1, .slice A0_2 l0_2.length c0_2] 24 (0, 0)) (by (with_reducible repeat (first | refine zN ?_ _ | refine zD ?_ | refine zB ?_ _)); exact BK6z.out) hb)
         have n1_ := zA (blk_below (g := gB) (o := .cells #[.int .i64 a1_0, .int .i64 a1_1, .slice A1_2 l1_2.length c1_2] 24 (0, 0)) (by (with_reducible repeat (first | refine zN ?_ _ | refine zD ?_ | refine zB ?_ _)); exact BK70.out) hb)
         have n2_ := zA (below_step (by repeat (first | (with_reducible first | exact HB.out | apply zW | apply zX | apply zY | refine zS ?_ GE6z.out | refine zS ?_ GE70.out) | exact HB.out)) hb)
         clear BK6z; clear BK70; clear HB
         have BK6z := n0_
         have BK70 := n1_
         have HB := n2_
         clear n0_ n1_ n2_
         (try clear hb)
         (try clear hb2)
         (try clear hk)
         (try clear hi)
         refine hK.out _ _ ⟨(blk_cell BK6z.out 0).trans rfl, (blk_cell BK6z.out 1).trans rfl, (blk_cell BK6z.out 2).trans rfl, (blk_cell BK70.out 0).trans rfl, (blk_cell BK70.out 1).trans rfl, (blk_cell BK70.out 2).trans rfl⟩ (fun hHeld => ?_)
         clear hK K
         refine norm_ (a' := ?_) ?_ ?_
         rotate_left
         ·
          show Act.put _ (some 49) _ = _
          simp only [Act.put, z1, z2, z3, i64_w, i32_w]; rfl
         refine pure_ (i := 6) (N := some 50) (v := ?_) (a' := ?_) #[Y,Y,Y,Y,Y,Y,Y,Y,Y,O,Y,Y,O,O,O] rfl rfl (any_of HT_.out (by kernel_rfl)) (fun _ _ _ h => h) (Or.inl ⟨by rfl, ?_⟩) ?_ ?_
         rotate_left
         ·
          intro w'; go_simp; with_reducible rfl
         rotate_left
         ·
          simp only [Act.put, z1, z2, z3, i64_w, i32_w]; rfl
         refine one_ (i := 9) (N := some 53) #[Y,Y,Y,Y,Y,Y,Y,Y,Y,Y,Y,Y,O,O,O] rfl rfl (one_of HT_.out (by kernel_rfl)) (by decide) (fun K hK => ?_)
         refine goes_ Try.func61 (by kernel_rfl) rfl #[.agg #[.int .i64 a0_0, .int .i64 a0_1, .slice A0_2 l0_2.length c0_2], .int .i64 x10_2] (by rfl) rfl rfl (by (try simp only [List.map_toArray, List.map_cons, List.map_nil]); first | done | rfl | (simp only [List.length_drop, List.length_take]; rfl)) ?_
         with_reducible refine (curve_at.calls a0_0 a0_1 _ _ l0_2 x10_2 t441 _ ?side1 ?side2 A32.out).mono ?_
         (case side1 => repeat (first | exact (Kd.C_below HR0_2.out HB.out) | (with_reducible refine Kd.C_alloc ?_ _) | (with_reducible refine Kd.C_drewN ?_ _) | (with_reducible refine Kd.C_drew ?_)))
         (case side2 => exact HC0_2.out)
         rintro e w43 ⟨rfl, hb⟩
         refine ⟨_, rfl, ?_⟩
         have n0_ := zA (blk_below (g := gA) (o := .cells #[.int .i64 a0_0, .int .i64 a0_1, .slice A0_2 l0_2.length c0_2] 24 (0, 0)) (by (with_reducible repeat (first | refine zN ?_ _ | refine zD ?_ | refine zB ?_ _)); exact BK6z.out) hb)
         have n1_ := zA (blk_below (g := gB) (o := .cells #[.int .i64 a1_0, .int .i64 a1_1, .slice A1_2 l1_2.length c1_2] 24 (0, 0)) (by (with_reducible repeat (first | refine zN ?_ _ | refine zD ?_ | refine zB ?_ _)); exact BK70.out) hb)
         have n2_ := zA (below_step (by repeat (first | (with_reducible first | exact HB.out | apply zW | apply zX | apply zY | refine zS ?_ GE6z.out | refine zS ?_ GE70.out) | exact HB.out)) hb)
         clear BK6z; clear BK70; clear HB
         have BK6z := n0_
         have BK70 := n1_
         have HB := n2_
         clear n0_ n1_ n2_
         (try clear hb)
         (try clear hb2)
         (try clear hk)
         (try clear hi)
         refine hK.out _ _ ⟨(blk_cell BK6z.out 0).trans rfl, (blk_cell BK6z.out 1).trans rfl, (blk_cell BK6z.out 2).trans rfl, (blk_cell BK70.out 0).trans rfl, (blk_cell BK70.out 1).trans rfl, (blk_cell BK70.out 2).trans rfl⟩ (fun hHeld => ?_)
         clear hK K
         refine norm_ (a' := ?_) ?_ ?_
         rotate_left
         ·
          show Act.put _ (some 53) _ = _
          simp only [Act.put, z1, z2, z3, i64_w, i32_w]; rfl
         refine one_ (i := 12) (N := some 56) #[Y,Y,Y,Y,Y,Y,Y,Y,Y,Y,Y,Y,Y,O,O] rfl rfl (one_of HT_.out (by kernel_rfl)) (by decide) (fun K hK => ?_)
         refine goes_ Try.func61 (by kernel_rfl) rfl #[.agg #[.int .i64 a1_0, .int .i64 a1_1, .slice A1_2 l1_2.length c1_2], .int .i64 x10_2] (by rfl) rfl rfl (by (try simp only [List.map_toArray, List.map_cons, List.map_nil]); first | done | rfl | (simp only [List.length_drop, List.length_take]; rfl)) ?_
         with_reducible refine (curve_at.calls a1_0 a1_1 _ _ l1_2 x10_2 t442 _ ?side1 ?side2 A33.out).mono ?_
         (case side1 => repeat (first | exact (Kd.C_below HR1_2.out HB.out) | (with_reducible refine Kd.C_alloc ?_ _) | (with_reducible refine Kd.C_drewN ?_ _) | (with_reducible refine Kd.C_drew ?_)))
         (case side2 => exact HC1_2.out)
         rintro e w44 ⟨rfl, hb⟩
         refine ⟨_, rfl, ?_⟩
         have n0_ := zA (blk_below (g := gA) (o := .cells #[.int .i64 a0_0, .int .i64 a0_1, .slice A0_2 l0_2.length c0_2] 24 (0, 0)) (by (with_reducible repeat (first | refine zN ?_ _ | refine zD ?_ | refine zB ?_ _)); exact BK6z.out) hb)
         have n1_ := zA (blk_below (g := gB) (o := .cells #[.int .i64 a1_0, .int .i64 a1_1, .slice A1_2 l1_2.length c1_2] 24 (0, 0)) (by (with_reducible repeat (first | refine zN ?_ _ | refine zD ?_ | refine zB ?_ _)); exact BK70.out) hb)
         have n2_ := zA (below_step (by repeat (first | (with_reducible first | exact HB.out | apply zW | apply zX | apply zY | refine zS ?_ GE6z.out | refine zS ?_ GE70.out) | exact HB.out)) hb)
         clear BK6z; clear BK70; clear HB
         have BK6z := n0_
         have BK70 := n1_
         have HB := n2_
         clear n0_ n1_ n2_
         (try clear hb)
         (try clear hb2)
         (try clear hk)
         (try clear hi)
         refine hK.out _ _ ⟨(blk_cell BK6z.out 0).trans rfl, (blk_cell BK6z.out 1).trans rfl, (blk_cell BK6z.out 2).trans rfl, (blk_cell BK70.out 0).trans rfl, (blk_cell BK70.out 1).trans rfl, (blk_cell BK70.out 2).trans rfl⟩ (fun hHeld => ?_)
         clear hK K
         refine norm_ (a' := ?_) ?_ ?_
         rotate_left
         ·
          show Act.put _ (some 56) _ = _
          simp only [Act.put, z1, z2, z3, i64_w, i32_w]; rfl
         refine pure_ (i := 13) (N := some 57) (v := ?_) (a' := ?_) #[Y,Y,Y,Y,Y,Y,Y,Y,Y,Y,Y,Y,Y,Y,O] rfl rfl (any_of HT_.out (by kernel_rfl)) (fun _ _ _ h => h) (Or.inl ⟨by rfl, ?_⟩) ?_ ?_
         rotate_left
         ·
          intro w'; go_simp; with_reducible rfl
         rotate_left
         ·
          simp only [Act.put, z1, z2, z3, i64_w, i32_w]; rfl
         refine pure_ (i := 14) (N := some 58) (v := ?_) (a' := ?_) #[Y,Y,Y,Y,Y,Y,Y,Y,Y,Y,Y,Y,Y,Y,Y] rfl rfl (any_of HT_.out (by kernel_rfl)) (fun _ _ _ h => h) (Or.inl ⟨by rfl, ?_⟩) ?_ ?_
         rotate_left
         ·
          intro w'; go_simp; with_reducible rfl
         rotate_left
         ·
          simp only [Act.put, z1, z2, z3, i64_w, i32_w]; rfl
         refine done_ (done_of HT_.out (by kernel_rfl)) ?_
         try go_wp2
         go_roundg k2
         case measure => have := HJ2.out; have := HK2.out; omega
         case rel => exact ⟨(x10_2), (wrap64 (x11_2 + 1)), (by first | rfl | (simp; done) | (simp [*]; done)), (by first | rfl | (simp; done) | (simp [*]; done)), H', ⟨by have := HJ2.out; have := HK2.out; omega⟩, ⟨by (with_reducible repeat (first | refine zN ?_ _ | refine zD ?_ | refine zB ?_ _)); exact BK6z.out⟩, ⟨by (with_reducible repeat (first | refine zN ?_ _ | refine zD ?_ | refine zB ?_ _)); exact BK70.out⟩, ⟨by repeat (first | (with_reducible first | exact HB.out | apply zW | apply zX | apply zY | refine zS ?_ GE6z.out | refine zS ?_ GE70.out) | exact HB.out)⟩⟩
       ·
        rw [if_neg c29] at H
        have c29b0 : decide (x11_2 ≤ ji21) = false := decide_eq_false c29
        clear c29
        replace H := Option.bind_eq_some_iff.mp H
        obtain ⟨⟨t443, t444⟩, A450, H⟩ := H
        replace H : ((curve_prices.f k2 a1_0 a1_1 l1_2 x10_2).bind fun bt445 => ((curve_at.f a0_0 a0_1 l0_2 x10_2).bind fun t447 => ((curve_at.f a1_0 a1_1 l1_2 x10_2).bind fun t448 => (some (wrap64 (t447 + t448), x10_2, mx t443 (wrap64 (-bt445.2)), 0))))) = some (r1, r2, r3, r4) := H
        have A45 := zA A450
        clear A450
        replace H := Option.bind_eq_some_iff.mp H
        obtain ⟨⟨t445, t446⟩, A460, H⟩ := H
        replace H : ((curve_at.f a0_0 a0_1 l0_2 x10_2).bind fun t447 => ((curve_at.f a1_0 a1_1 l1_2 x10_2).bind fun t448 => (some (wrap64 (t447 + t448), x10_2, mx t443 (wrap64 (-t446)), 0)))) = some (r1, r2, r3, r4) := H
        have A46 := zA A460
        clear A460
        replace H := Option.bind_eq_some_iff.mp H
        obtain ⟨t447, A470, H⟩ := H
        replace H : ((curve_at.f a1_0 a1_1 l1_2 x10_2).bind fun t448 => (some (wrap64 (t447 + t448), x10_2, mx t443 (wrap64 (-t446)), 0))) = some (r1, r2, r3, r4) := H
        have A47 := zA A470
        clear A470
        replace H := Option.bind_eq_some_iff.mp H
        obtain ⟨t448, A480, H⟩ := H
        replace H : (some (wrap64 (t447 + t448), x10_2, mx t443 (wrap64 (-t446)), 0)) = some (r1, r2, r3, r4) := H
        have A48 := zA A480
        clear A480
        obtain ⟨ji49, hji49⟩ : ∃ j_ : Int, (mx t443 (wrap64 (-t446))) = j_ := ⟨_, rfl⟩
        replace H : (some (wrap64 (t447 + t448), x10_2, ji49, 0)) = some (r1, r2, r3, r4) := by first | (rw [hji49] at H; exact H) | (simp only [hji49] at H ⊢; exact H)
        (try rw [hji49] at A45)
        (try rw [hji49] at A46)
        (try rw [hji49] at A47)
        (try rw [hji49] at A48)
        have hji49_ : (if t443 < (wrap64 (-t446)) then (wrap64 (-t446)) else t443) = ji49 := hji49
        simp only [Option.some.injEq, Prod.mk.injEq] at H
        obtain ⟨rfl, rfl, rfl, rfl⟩ := H
        have hnb50 := NB433_434.out
        have hnc50 := NB434_433.out
        have hcz51_0 : wr.cell? ⟨gA, 0, none⟩ = some (.int .i64 a0_0) := (blk_cell BK6z.out 0).trans rfl
        have hcz51_1 : wr.cell? ⟨gA, 1, none⟩ = some (.int .i64 a0_1) := (blk_cell BK6z.out 1).trans rfl
        have hcz51_2 : wr.cell? ⟨gA, 2, none⟩ = some (.slice A0_2 l0_2.length c0_2) := (blk_cell BK6z.out 2).trans rfl
        have hfz51_0 := blk_frozen BK6z.out 0
        have hfz51_1 := blk_frozen BK6z.out 1
        have hfz51_2 := blk_frozen BK6z.out 2
        try go_wp2_with (first | ((with_reducible refine gate_callee (f := 62) rfl ?_); refine goesL_ (some 63) rfl rfl Try.func62 (by kernel_rfl) rfl #[.agg #[.int .i64 a0_0, .int .i64 a0_1, .slice A0_2 l0_2.length c0_2], .int .i64 x10_2] rfl (by (try simp only [List.map_toArray, List.map_cons, List.map_nil]); first | done | rfl | (simp only [List.length_drop, List.length_take]; rfl)) ?_; (with_reducible refine (curve_prices.calls k2 a0_0 a0_1 _ _ l0_2 x10_2 t443 t444 _ ?side1 ?side2 A45.out).mono ?_); (case side1 => repeat (first | exact (Kd.C_below HR0_2.out HB.out) | (with_reducible refine Kd.C_alloc ?_ _) | (with_reducible refine Kd.C_drewN ?_ _) | (with_reducible refine Kd.C_drew ?_))); (case side2 => exact HC0_2.out); rintro e w52 ⟨rfl, hb⟩; refine ⟨_, rfl, ?_⟩; have n0_ := zA (blk_below (g := gA) (o := .cells #[.int .i64 a0_0, .int .i64 a0_1, .slice A0_2 l0_2.length c0_2] 24 (0, 0)) (by (with_reducible repeat (first | refine zN ?_ _ | refine zD ?_ | refine zB ?_ _)); exact BK6z.out) hb); have n1_ := zA (blk_below (g := gB) (o := .cells #[.int .i64 a1_0, .int .i64 a1_1, .slice A1_2 l1_2.length c1_2] 24 (0, 0)) (by (with_reducible repeat (first | refine zN ?_ _ | refine zD ?_ | refine zB ?_ _)); exact BK70.out) hb); have n2_ := zA (below_step (by repeat (first | (with_reducible first | exact HB.out | apply zW | apply zX | apply zY | refine zS ?_ GE6z.out | refine zS ?_ GE70.out) | exact HB.out)) hb); clear BK6z; clear BK70; clear HB; have BK6z := n0_; have BK70 := n1_; have HB := n2_; clear n0_ n1_ n2_; (try clear hb); (try clear hb2); (try clear hk); (try clear hi); have hcz53_0 : w52.cell? ⟨gB, 0, none⟩ = some (.int .i64 a1_0) := (blk_cell BK70.out 0).trans rfl; have hcz53_1 : w52.cell? ⟨gB, 1, none⟩ = some (.int .i64 a1_1) := (blk_cell BK70.out 1).trans rfl; have hcz53_2 : w52.cell? ⟨gB, 2, none⟩ = some (.slice A1_2 l1_2.length c1_2) := (blk_cell BK70.out 2).trans rfl; have hfz53_0 := blk_frozen BK70.out 0; have hfz53_1 := blk_frozen BK70.out 1; have hfz53_2 := blk_frozen BK70.out 2) | ((with_reducible refine gate_callee (f := 62) rfl ?_); refine goesL_ (some 69) rfl rfl Try.func62 (by kernel_rfl) rfl #[.agg #[.int .i64 a1_0, .int .i64 a1_1, .slice A1_2 l1_2.length c1_2], .int .i64 x10_2] rfl (by (try simp only [List.map_toArray, List.map_cons, List.map_nil]); first | done | rfl | (simp only [List.length_drop, List.length_take]; rfl)) ?_; (with_reducible refine (curve_prices.calls k2 a1_0 a1_1 _ _ l1_2 x10_2 t445 t446 _ ?side1 ?side2 A46.out).mono ?_); (case side1 => repeat (first | exact (Kd.C_below HR1_2.out HB.out) | (with_reducible refine Kd.C_alloc ?_ _) | (with_reducible refine Kd.C_drewN ?_ _) | (with_reducible refine Kd.C_drew ?_))); (case side2 => exact HC1_2.out); rintro e w54 ⟨rfl, hb⟩; refine ⟨_, rfl, ?_⟩; have n0_ := zA (blk_below (g := gA) (o := .cells #[.int .i64 a0_0, .int .i64 a0_1, .slice A0_2 l0_2.length c0_2] 24 (0, 0)) (by (with_reducible repeat (first | refine zN ?_ _ | refine zD ?_ | refine zB ?_ _)); exact BK6z.out) hb); have n1_ := zA (blk_below (g := gB) (o := .cells #[.int .i64 a1_0, .int .i64 a1_1, .slice A1_2 l1_2.length c1_2] 24 (0, 0)) (by (with_reducible repeat (first | refine zN ?_ _ | refine zD ?_ | refine zB ?_ _)); exact BK70.out) hb); have n2_ := zA (below_step (by repeat (first | (with_reducible first | exact HB.out | apply zW | apply zX | apply zY | refine zS ?_ GE6z.out | refine zS ?_ GE70.out) | exact HB.out)) hb); clear BK6z; clear BK70; clear HB; have BK6z := n0_; have BK70 := n1_; have HB := n2_; clear n0_ n1_ n2_; (try clear hb); (try clear hb2); (try clear hk); (try clear hi)))
        have n0_ := zA (zD BK6z.out)
        have n1_ := zA (zD BK70.out)
        have n2_ := zA (zY HB.out)
        clear BK6z; clear BK70; clear HB
        have BK6z := n0_
        have BK70 := n1_
        have HB := n2_
        clear n0_ n1_ n2_
        refine start_ (n := 16) (S := fun w' => w'.cell? ⟨gA, 0, none⟩ = some (.int .i64 a0_0) ∧ w'.cell? ⟨gA, 1, none⟩ = some (.int .i64 a0_1) ∧ w'.cell? ⟨gA, 2, none⟩ = some (.slice A0_2 l0_2.length c0_2) ∧ w'.cell? ⟨gB, 0, none⟩ = some (.int .i64 a1_0) ∧ w'.cell? ⟨gB, 1, none⟩ = some (.int .i64 a1_1) ∧ w'.cell? ⟨gB, 2, none⟩ = some (.slice A1_2 l1_2.length c1_2)) (ds := []) #[O,O,O,O,O,O,O,O,O,O,O,O,O,O,O,O] (by kernel_rfl) rfl rfl ⟨(blk_cell BK6z.out 0).trans rfl, (blk_cell BK6z.out 1).trans rfl, (blk_cell BK6z.out 2).trans rfl, (blk_cell BK70.out 0).trans rfl, (blk_cell BK70.out 1).trans rfl, (blk_cell BK70.out 2).trans rfl⟩ (fun hHeld => ?_); refine with_tabW curve_Meet.tab14 curve_Meet.bits14 (fun HT_ HW_ => ?_)
        generalize w54.drew = w55 at BK6z BK70 HB hHeld ⊢
        refine pure_ (i := 1) (N := some 73) (v := ?_) (a' := ?_) #[O,Y,O,O,O,O,O,O,O,O,O,O,O,O,O,O] rfl rfl (any_of HT_.out (by kernel_rfl)) (fun _ _ _ h => h) (Or.inl ⟨by rfl, ?_⟩) ?_ ?_
        rotate_left
        ·
         intro w'; go_simp; with_reducible rfl
        rotate_left
        ·
         simp only [Act.put, z1, z2, z3, i64_w, i32_w]; rfl
        refine pure_ (i := 4) (N := some 76) (v := ?_) (a' := ?_) #[O,Y,O,O,Y,O,O,O,O,O,O,O,O,O,O,O] rfl rfl (any_of HT_.out (by kernel_rfl)) (fun _ _ _ h => h) (Or.inl ⟨by rfl, ?_⟩) ?_ ?_
        rotate_left
        ·
         intro w'; go_simp; with_reducible rfl
        rotate_left
        ·
         simp only [Act.put, z1, z2, z3, i64_w, i32_w]; rfl
        refine pure_ (i := 7) (N := some 79) (v := ?_) (a' := ?_) #[O,Y,O,O,Y,O,O,Y,O,O,O,O,O,O,O,O] rfl rfl (any_of HT_.out (by kernel_rfl)) (fun _ _ _ h => h) (Or.inl ⟨by rfl, ?_⟩) ?_ ?_
        rotate_left
        ·
         intro w'; go_simp; with_reducible rfl
        rotate_left
        ·
         simp only [Act.put, z1, z2, z3, i64_w, i32_w]; rfl
        refine pure_ (i := 8) (N := some 80) (v := ?_) (a' := ?_) #[O,Y,O,O,Y,O,O,Y,Y,O,O,O,O,O,O,O] rfl rfl (any_of HT_.out (by kernel_rfl)) (fun _ _ _ h => h) (Or.inl ⟨by rfl, ?_⟩) ?_ ?_
        rotate_left
        ·
         intro w'; go_simp; with_reducible rfl
        rotate_left
        ·
         simp only [Act.put, z1, z2, z3, i64_w, i32_w]; rfl
        refine pure_ (i := 9) (N := some 81) (v := ?_) (a' := ?_) #[O,Y,O,O,Y,O,O,Y,Y,Y,O,O,O,O,O,O] rfl rfl (any_of HT_.out (by kernel_rfl)) (fun _ _ _ h => h) (Or.inl ⟨by rfl, ?_⟩) ?_ ?_
        rotate_left
        ·
         intro w'; go_simp; with_reducible rfl
        rotate_left
        ·
         simp only [Act.put, z1, z2, z3, i64_w, i32_w]; rfl
        refine pure_ (i := 10) (N := some 82) (v := ?_) (a' := ?_) #[O,Y,O,O,Y,O,O,Y,Y,Y,Y,O,O,O,O,O] rfl rfl (any_of HT_.out (by kernel_rfl)) (fun _ _ _ h => h) (Or.inl ⟨by rfl, ?_⟩) ?_ ?_
        rotate_left
        ·
         intro w'; go_simp; with_reducible rfl
        rotate_left
        ·
         simp only [Act.put, z1, z2, z3, i64_w, i32_w]; rfl
        refine pure_ (i := 11) (N := some 83) (v := ?_) (a' := ?_) #[O,Y,O,O,Y,O,O,Y,Y,Y,Y,Y,O,O,O,O] rfl rfl (any_of HT_.out (by kernel_rfl)) (fun _ _ _ h => h) (Or.inl ⟨by rfl, ?_⟩) ?_ ?_
        rotate_left
        ·
         intro w'; go_simp; with_reducible rfl
        rotate_left
        ·
         simp only [Act.put, z1, z2, z3, i64_w, i32_w]; rfl
        refine take_ (i := 0) (N := some 72) (v := ?_) (a' := ?_) #[Y,Y,O,O,Y,O,O,Y,Y,Y,Y,Y,O,O,O,O] rfl rfl (take_ofW HT_.out HW_.out (by kernel_rfl)) (fun _ _ _ h => h) (Or.inl ⟨by rfl, ?_⟩) hHeld ?_ ?_
        rotate_left
        ·
         rintro w' ⟨s0, s1, s2, s3, s4, s5⟩
         go_simp; with_reducible rfl
        rotate_left
        ·
         simp only [Act.put, z1, z2, z3, i64_w, i32_w]; rfl
        refine take_ (i := 3) (N := some 75) (v := ?_) (a' := ?_) #[Y,Y,O,Y,Y,O,O,Y,Y,Y,Y,Y,O,O,O,O] rfl rfl (take_ofW HT_.out HW_.out (by kernel_rfl)) (fun _ _ _ h => h) (Or.inl ⟨by rfl, ?_⟩) hHeld ?_ ?_
        rotate_left
        ·
         rintro w' ⟨s0, s1, s2, s3, s4, s5⟩
         go_simp; with_reducible rfl
        rotate_left
        ·
         simp only [Act.put, z1, z2, z3, i64_w, i32_w]; rfl
        refine one_ (i := 2) (N := some 74) #[Y,Y,Y,Y,Y,O,O,Y,Y,Y,Y,Y,O,O,O,O] rfl rfl (one_of HT_.out (by kernel_rfl)) (by decide) (fun K hK => ?_)
        refine goes_ Try.func61 (by kernel_rfl) rfl #[.agg #[.int .i64 a0_0, .int .i64 a0_1, .slice A0_2 l0_2.length c0_2], .int .i64 x10_2] (by rfl) rfl rfl (by (try simp only [List.map_toArray, List.map_cons, List.map_nil]); first | done | rfl | (simp only [List.length_drop, List.length_take]; rfl)) ?_
        with_reducible refine (curve_at.calls a0_0 a0_1 _ _ l0_2 x10_2 t447 _ ?side1 ?side2 A47.out).mono ?_
        (case side1 => repeat (first | exact (Kd.C_below HR0_2.out HB.out) | (with_reducible refine Kd.C_alloc ?_ _) | (with_reducible refine Kd.C_drewN ?_ _) | (with_reducible refine Kd.C_drew ?_)))
        (case side2 => exact HC0_2.out)
        rintro e w56 ⟨rfl, hb⟩
        refine ⟨_, rfl, ?_⟩
        have n0_ := zA (blk_below (g := gA) (o := .cells #[.int .i64 a0_0, .int .i64 a0_1, .slice A0_2 l0_2.length c0_2] 24 (0, 0)) (by (with_reducible repeat (first | refine zN ?_ _ | refine zD ?_ | refine zB ?_ _)); exact BK6z.out) hb)
        have n1_ := zA (blk_below (g := gB) (o := .cells #[.int .i64 a1_0, .int .i64 a1_1, .slice A1_2 l1_2.length c1_2] 24 (0, 0)) (by (with_reducible repeat (first | refine zN ?_ _ | refine zD ?_ | refine zB ?_ _)); exact BK70.out) hb)
        have n2_ := zA (below_step (by repeat (first | (with_reducible first | exact HB.out | apply zW | apply zX | apply zY | refine zS ?_ GE6z.out | refine zS ?_ GE70.out) | exact HB.out)) hb)
        clear BK6z; clear BK70; clear HB
        have BK6z := n0_
        have BK70 := n1_
        have HB := n2_
        clear n0_ n1_ n2_
        (try clear hb)
        (try clear hb2)
        (try clear hk)
        (try clear hi)
        refine hK.out _ _ ⟨(blk_cell BK6z.out 0).trans rfl, (blk_cell BK6z.out 1).trans rfl, (blk_cell BK6z.out 2).trans rfl, (blk_cell BK70.out 0).trans rfl, (blk_cell BK70.out 1).trans rfl, (blk_cell BK70.out 2).trans rfl⟩ (fun hHeld => ?_)
        clear hK K
        refine norm_ (a' := ?_) ?_ ?_
        rotate_left
        ·
         show Act.put _ (some 74) _ = _
         simp only [Act.put, z1, z2, z3, i64_w, i32_w]; rfl
        refine one_ (i := 5) (N := some 77) #[Y,Y,Y,Y,Y,Y,O,Y,Y,Y,Y,Y,O,O,O,O] rfl rfl (one_of HT_.out (by kernel_rfl)) (by decide) (fun K hK => ?_)
        refine goes_ Try.func61 (by kernel_rfl) rfl #[.agg #[.int .i64 a1_0, .int .i64 a1_1, .slice A1_2 l1_2.length c1_2], .int .i64 x10_2] (by rfl) rfl rfl (by (try simp only [List.map_toArray, List.map_cons, List.map_nil]); first | done | rfl | (simp only [List.length_drop, List.length_take]; rfl)) ?_
        with_reducible refine (curve_at.calls a1_0 a1_1 _ _ l1_2 x10_2 t448 _ ?side1 ?side2 A48.out).mono ?_
        (case side1 => repeat (first | exact (Kd.C_below HR1_2.out HB.out) | (with_reducible refine Kd.C_alloc ?_ _) | (with_reducible refine Kd.C_drewN ?_ _) | (with_reducible refine Kd.C_drew ?_)))
        (case side2 => exact HC1_2.out)
        rintro e w57 ⟨rfl, hb⟩
        refine ⟨_, rfl, ?_⟩
        have n0_ := zA (blk_below (g := gA) (o := .cells #[.int .i64 a0_0, .int .i64 a0_1, .slice A0_2 l0_2.length c0_2] 24 (0, 0)) (by (with_reducible repeat (first | refine zN ?_ _ | refine zD ?_ | refine zB ?_ _)); exact BK6z.out) hb)
        have n1_ := zA (blk_below (g := gB) (o := .cells #[.int .i64 a1_0, .int .i64 a1_1, .slice A1_2 l1_2.length c1_2] 24 (0, 0)) (by (with_reducible repeat (first | refine zN ?_ _ | refine zD ?_ | refine zB ?_ _)); exact BK70.out) hb)
        have n2_ := zA (below_step (by repeat (first | (with_reducible first | exact HB.out | apply zW | apply zX | apply zY | refine zS ?_ GE6z.out | refine zS ?_ GE70.out) | exact HB.out)) hb)
        clear BK6z; clear BK70; clear HB
        have BK6z := n0_
        have BK70 := n1_
        have HB := n2_
        clear n0_ n1_ n2_
        (try clear hb)
        (try clear hb2)
        (try clear hk)
        (try clear hi)
        refine hK.out _ _ ⟨(blk_cell BK6z.out 0).trans rfl, (blk_cell BK6z.out 1).trans rfl, (blk_cell BK6z.out 2).trans rfl, (blk_cell BK70.out 0).trans rfl, (blk_cell BK70.out 1).trans rfl, (blk_cell BK70.out 2).trans rfl⟩ (fun hHeld => ?_)
        clear hK K
        refine norm_ (a' := ?_) ?_ ?_
        rotate_left
        ·
         show Act.put _ (some 77) _ = _
         simp only [Act.put, z1, z2, z3, i64_w, i32_w]; rfl
        refine pure_ (i := 6) (N := some 78) (v := ?_) (a' := ?_) #[Y,Y,Y,Y,Y,Y,Y,Y,Y,Y,Y,Y,O,O,O,O] rfl rfl (any_of HT_.out (by kernel_rfl)) (fun _ _ _ h => h) (Or.inl ⟨by rfl, ?_⟩) ?_ ?_
        rotate_left
        ·
         intro w'; go_simp; with_reducible rfl
        rotate_left
        ·
         simp only [Act.put, z1, z2, z3, i64_w, i32_w]; rfl
        refine pure_ (i := 12) (N := some 4) (v := ?_) (a' := ?_) #[Y,Y,Y,Y,Y,Y,Y,Y,Y,Y,Y,Y,Y,O,O,O] rfl rfl (any_of HT_.out (by kernel_rfl)) (fun _ _ _ h => h) (Or.inl ⟨by rfl, ?_⟩) ?_ ?_
        rotate_left
        ·
         intro w'; go_simp; with_reducible rfl
        rotate_left
        ·
         simp only [Act.put, z1, z2, z3, i64_w, i32_w]; rfl
        refine pure_ (i := 13) (N := some 5) (v := ?_) (a' := ?_) #[Y,Y,Y,Y,Y,Y,Y,Y,Y,Y,Y,Y,Y,Y,O,O] rfl rfl (any_of HT_.out (by kernel_rfl)) (fun _ _ _ h => h) (Or.inl ⟨by rfl, ?_⟩) ?_ ?_
        rotate_left
        ·
         intro w'; go_simp; with_reducible rfl
        rotate_left
        ·
         simp only [Act.put, z1, z2, z3, i64_w, i32_w]; rfl
        refine pure_ (i := 14) (N := some 6) (v := ?_) (a' := ?_) #[Y,Y,Y,Y,Y,Y,Y,Y,Y,Y,Y,Y,Y,Y,Y,O] rfl rfl (any_of HT_.out (by kernel_rfl)) (fun _ _ _ h => h) (Or.inl ⟨by rfl, ?_⟩) ?_ ?_
        rotate_left
        ·
         intro w'; go_simp; with_reducible rfl
        rotate_left
        ·
         simp only [Act.put, z1, z2, z3, i64_w, i32_w]; rfl
        refine pure_ (i := 15) (N := some 7) (v := ?_) (a' := ?_) #[Y,Y,Y,Y,Y,Y,Y,Y,Y,Y,Y,Y,Y,Y,Y,Y] rfl rfl (any_of HT_.out (by kernel_rfl)) (fun _ _ _ h => h) (Or.inl ⟨by rfl, ?_⟩) ?_ ?_
        rotate_left
        ·
         intro w'; go_simp; with_reducible rfl
        rotate_left
        ·
         simp only [Act.put, z1, z2, z3, i64_w, i32_w]; rfl
        refine done_ (done_of HT_.out (by kernel_rfl)) ?_
        try go_wp2
        refine bodyPost_ret (results_list (rs := [.tmp 4, .tmp 5, .tmp 6, .tmp 7]) rfl (by simp) (.tmp (.tmp (.tmp (.tmp .nil))))) rfl ?_
        exact ⟨by first | rfl | (simp [errW_none, errW_some] <;> rfl) | (simp only [← hji18, ← hji21, ← hji49]; first | rfl | (simp [errW_none, errW_some] <;> rfl)) | (simp [*, errW_none, errW_some] <;> rfl), by repeat (first | (with_reducible first | exact HB.out | apply zW | apply zX | apply zY | refine zS ?_ GE6z.out | refine zS ?_ GE70.out) | exact HB.out)⟩
end Go.Proofs.Ytfeeaipbmpmpgaa.PX

namespace Go.Proofs.Ytfeeaipbmpmpgaa.PX
open Go.RowKit Go.Proofs.YtfeeaipbmpmpgaaW.PrintWords Go.Proofs.YtfeeaipbmpmpgaaW.PrintLast Go.Proofs.YtfeeaipbmpmpgaaW.PrintMore
set_option linter.unusedVariables false
set_option linter.unusedSimpArgs false

/-! ### what Meet tells -/
theorem prices_at (a b : Int) (l : List Int) (x : Int) (k : Nat) (h0 : 0 ≤ x - a) (h1 : x - a ≤ (l.length : Int)) (h2 : l.length ≤ 64) : curve_prices.f (k + 1) a b l x = some (loI a l x, hiI a l x) := by
  have hw : wrap64 (x - a) = x - a := w64 (by omega) (by omega)
  have hw1 : 0 < x - a → wrap64 (x - a - 1) = x - a - 1 := fun _ => w64 (by omega) (by omega)
  have hj : ∀ lo : Int, curve_prices.j0 (k + 1) x lo 1048576 a b l = some (lo, hiI a l x) := fun lo => by
    simp only [curve_prices.j0, hw]
    unfold hiI
    by_cases c : x - a < (l.length : Int)
    · rw [if_pos c, if_pos c]
      simp [h0, c]
      omega
    · rw [if_neg c, if_neg c]
  unfold curve_prices.f loI
  rw [hw]
  by_cases c : x - a > 0
  · rw [if_pos c, if_pos c, hw1 c, if_pos (by omega), if_pos (by omega), hj]
  · rw [if_neg c, if_neg c, hj]
theorem mx_le {a b c : Int} : mx a b ≤ c ↔ a ≤ c ∧ b ≤ c := by unfold mx; split <;> omega
theorem le_mn {a b c : Int} : c ≤ mn a b ↔ c ≤ a ∧ c ≤ b := by unfold mn; split <;> omega
theorem rd_bound {a b : Int} {l : List Int} (hv : valB a b l = true) (i : Int) (h0 : 0 ≤ i) (h1 : i < (l.length : Int)) : -1048576 ≤ rd l i ∧ rd l i ≤ 1048576 := by
  obtain ⟨n, rfl⟩ := Int.eq_ofNat_of_zero_le h0
  rw [rd_getElem l n (by omega)]
  exact (val_all hv).2 _ (List.getElem_mem _)
theorem lo_bound {a b : Int} {l : List Int} (hv : valB a b l = true) {x : Int} (hd : cdom a l x = true) : -1048576 ≤ loI a l x ∧ loI a l x ≤ 1048576 := by
  have hd := cdom_iff.1 hd
  unfold loI
  split
  · exact rd_bound hv _ (by omega) (by omega)
  · omega
theorem hi_bound {a b : Int} {l : List Int} (hv : valB a b l = true) {x : Int} (hd : cdom a l x = true) : -1048576 ≤ hiI a l x ∧ hiI a l x ≤ 1048576 := by
  have hd := cdom_iff.1 hd
  unfold hiI
  split
  · exact rd_bound hv _ (by omega) (by omega)
  · omega
theorem cval_step {a b : Int} {l : List Int} (x : Int) (h0 : a ≤ x) (h1 : x < a + (l.length : Int)) : cval a b l (x + 1) = cval a b l x + rd l (x - a) := by
  obtain ⟨n, hn⟩ := Int.eq_ofNat_of_zero_le (show 0 ≤ x - a from by omega)
  unfold cval
  rw [show x + 1 - a = ((n + 1 : Nat) : Int) from by omega, hn, Int.toNat_natCast, Int.toNat_natCast, sm_succ l n (by omega), rd_getElem l n (by omega)]
  omega
structure Meets (a b : Int) (l : List Int) (a' b' : Int) (l' : List Int) (x : Int) : Prop where
  one : cdom a l x = true
  two : cdom a' l' x = true
  least : ∀ z, cdom a l z = true → cdom a' l' z = true → cval a b l x + cval a' b' l' x ≤ cval a b l z + cval a' b' l' z
  first : ∀ z, cdom a l z = true → cdom a' l' z = true → z < x → cval a b l x + cval a' b' l' x < cval a b l z + cval a' b' l' z
/-- The price that Meet tells. -/
def meetP (a : Int) (l : List Int) (a' : Int) (l' : List Int) (x : Int) : Int := mx (loI a l x) (-hiI a' l' x)
theorem meet_l0 {a b : Int} {l : List Int} {a' b' : Int} {l' : List Int} (hv : valB a b l = true) (hv' : valB a' b' l' = true) (lo hi : Int) (elo : mx a a' = lo) (ehi : mn (a + (l.length : Int)) (a' + (l'.length : Int)) = hi) (d : Nat) :
    ∀ (k : Nat) (x y : Int), y + (d : Int) = hi + 1 → d + 1 < k → lo ≤ x → x ≤ hi → lo ≤ y → (∀ z, lo ≤ z → z < y → cval a b l x + cval a' b' l' x ≤ cval a b l z + cval a' b' l' z) → (∀ z, lo ≤ z → z < x → cval a b l x + cval a' b' l' x < cval a b l z + cval a' b' l' z) →
    ∃ x', curve_Meet.l0 k hi x y a b l a' b' l' = some (cval a b l x' + cval a' b' l' x', x', meetP a l a' l' x', 0) ∧ Meets a b l a' b' l' x' := by
  obtain ⟨p1, p2, p3, p4, p5⟩ := val_from hv
  obtain ⟨q1, q2, q3, q4, q5⟩ := val_from hv'
  have hdom : ∀ z, (cdom a l z = true ∧ cdom a' l' z = true) ↔ lo ≤ z ∧ z ≤ hi := fun z => by
    rw [cdom_iff, cdom_iff, ← elo, ← ehi, mx_le, le_mn]
    omega
  have hlo : -1048576 ≤ lo ∧ lo ≤ 1048576 := by rw [← elo]; unfold mx; split <;> omega
  have hhi : -1048640 ≤ hi ∧ hi ≤ 1048640 := by rw [← ehi]; unfold mn; split <;> omega
  have hb : ∀ z, -2199157473280 ≤ cval a b l z + cval a' b' l' z ∧ cval a b l z + cval a' b' l' z ≤ 2199157473280 := fun z => by
    have h1 := (cval_bound hv (z - a).toNat)
    have h2 := (cval_bound hv' (z - a').toNat)
    unfold cval
    omega
  have hat : ∀ z, lo ≤ z → z ≤ hi → curve_at.f a b l z = some (cval a b l z) ∧ curve_at.f a' b' l' z = some (cval a' b' l' z) := fun z h1 h2 => by
    have h3 := (hdom z).2 ⟨h1, h2⟩
    exact ⟨curve_at_some hv h3.1, curve_at_some hv' h3.2⟩
  induction d with
  | zero =>
    intro k x y hy hk hx0 hx1 hy0 hle hlt
    obtain ⟨k, rfl⟩ : ∃ m, k = m + 2 := ⟨k - 2, by omega⟩
    have hd := (hdom x).2 ⟨hx0, hx1⟩
    have hd1 := cdom_iff.1 hd.1
    have hd2 := cdom_iff.1 hd.2
    have hhb := hi_bound hv' hd.2
    simp only [curve_Meet.l0]
    rw [if_neg (by omega), prices_at a b l x k (by omega) (by omega) p5, prices_at a' b' l' x k (by omega) (by omega) q5, (hat x hx0 hx1).1, (hat x hx0 hx1).2]
    simp only [Option.bind_some]
    rw [w64 (x := cval a b l x + cval a' b' l' x) (by have := hb x; omega) (by have := hb x; omega), w64 (x := -hiI a' l' x) (by omega) (by omega)]
    refine ⟨x, rfl, hd.1, hd.2, fun z h1 h2 => ?_, fun z h1 h2 h3 => ?_⟩
    · have := (hdom z).1 ⟨h1, h2⟩
      exact hle z this.1 (by omega)
    · have := (hdom z).1 ⟨h1, h2⟩
      exact hlt z this.1 h3
  | succ d ih =>
    intro k x y hy hk hx0 hx1 hy0 hle hlt
    obtain ⟨k, rfl⟩ : ∃ m, k = m + 1 := ⟨k - 1, by omega⟩
    have hyh : y ≤ hi := by omega
    simp only [curve_Meet.l0]
    rw [if_pos hyh, (hat y hy0 hyh).1, (hat y hy0 hyh).2, (hat x hx0 hx1).1, (hat x hx0 hx1).2]
    simp only [Option.bind_some]
    rw [w64 (x := cval a b l x + cval a' b' l' x) (by have := hb x; omega) (by have := hb x; omega), w64 (x := cval a b l y + cval a' b' l' y) (by have := hb y; omega) (by have := hb y; omega), w64 (x := y + 1) (by omega) (by omega)]
    by_cases c : cval a b l y + cval a' b' l' y < cval a b l x + cval a' b' l' x
    · rw [if_pos c]
      refine ih k y (y + 1) (by omega) (by omega) hy0 hyh (by omega) (fun z h1 h2 => ?_) (fun z h1 h2 => ?_)
      · by_cases e : z = y
        · subst e; omega
        · have := hle z h1 (by omega); omega
      · have := hle z h1 h2; omega
    · rw [if_neg c]
      refine ih k x (y + 1) (by omega) (by omega) hx0 hx1 (by omega) (fun z h1 h2 => ?_) hlt
      by_cases e : z = y
      · subst e; omega
      · exact hle z h1 (by omega)
/-- Meet: the errors, or the first place of the least sum and the price there. -/
theorem meet_some (a b : Int) (l : List Int) (a' b' : Int) (l' : List Int) (k : Nat) (hk : 100 ≤ k) :
    (∃ e, e ≠ 0 ∧ curve_Meet.f k a b l a' b' l' = some (0, 0, 0, e) ∧ (e = 2 ∧ ¬(valB a b l = true ∧ valB a' b' l' = true) ∨ e = 6 ∧ valB a b l = true ∧ valB a' b' l' = true ∧ mn (a + (l.length : Int)) (a' + (l'.length : Int)) < mx a a')) ∨
    (valB a b l = true ∧ valB a' b' l' = true ∧ mx a a' ≤ mn (a + (l.length : Int)) (a' + (l'.length : Int)) ∧ ∃ x, curve_Meet.f k a b l a' b' l' = some (cval a b l x + cval a' b' l' x, x, meetP a l a' l' x, 0) ∧ Meets a b l a' b' l' x) := by
  obtain ⟨k, rfl⟩ : ∃ m, k = m + 1 := ⟨k - 1, by omega⟩
  unfold curve_Meet.f curve_Valid.f
  simp only [Option.bind_some]
  by_cases h1 : valB a b l = true
  · rw [if_pos h1]
    by_cases h2 : valB a' b' l' = true
    · obtain ⟨p1, p2, p3, p4, p5⟩ := val_from h1
      obtain ⟨q1, q2, q3, q4, q5⟩ := val_from h2
      rw [h2]
      simp only [curve_Meet.j0, curve_to.f, Option.bind_some]
      rw [w64 (x := a + (l.length : Int)) (by omega) (by omega), w64 (x := a' + (l'.length : Int)) (by omega) (by omega)]
      by_cases h3 : mx a a' > mn (a + (l.length : Int)) (a' + (l'.length : Int))
      · rw [if_pos h3]
        exact .inl ⟨6, by decide, by simp, .inr ⟨rfl, h1, trivial, h3⟩⟩
      · rw [if_neg h3]
        refine .inr ⟨h1, trivial, by omega, ?_⟩
        obtain ⟨x, hx, hm⟩ := meet_l0 h1 h2 _ _ rfl rfl (mn (a + (l.length : Int)) (a' + (l'.length : Int)) + 1 - mx a a').toNat k (mx a a') (mx a a') (by omega)
          (by have e1 : mn (a + (l.length : Int)) (a' + (l'.length : Int)) ≤ a + (l.length : Int) := (le_mn.1 (Int.le_refl _)).1
              have e2 : a ≤ mx a a' := (mx_le.1 (Int.le_refl _)).1
              omega)
          (by omega) (by omega) (by omega) (fun z z1 z2 => by omega) (fun z z1 z2 => by omega)
        exact ⟨x, by simpa using hx, hm⟩
    · rw [Bool.eq_false_iff.2 h2]
      simp only [curve_Meet.j0]
      exact .inl ⟨2, by decide, by simp, .inl ⟨rfl, fun h => by simp at h⟩⟩
  · rw [if_neg h1]
    simp only [curve_Meet.j0]
    exact .inl ⟨2, by decide, by simp, .inl ⟨rfl, fun h => h1 h.1⟩⟩
end Go.Proofs.Ytfeeaipbmpmpgaa.PX

namespace Go.Proofs.Ytfeeaipbmpmpgaa.PX
open Go.RowKit Go.Proofs.YtfeeaipbmpmpgaaW.PrintWords Go.Proofs.YtfeeaipbmpmpgaaW.PrintLast Go.Proofs.YtfeeaipbmpmpgaaW.PrintMore
set_option linter.unusedVariables false
set_option linter.unusedSimpArgs false

theorem snoc_induction {α : Type} {P : List α → Prop} (h0 : P []) (h1 : ∀ l x, P l → P (l ++ [x])) (l : List α) : P l := by
  have h : ∀ l : List α, P l.reverse := fun l => by
    induction l with
    | nil => exact h0
    | cons x l ih => rw [List.reverse_cons]; exact h1 _ _ ih
  have := h l.reverse
  rwa [List.reverse_reverse] at this
theorem bestS_spec (ks : List (Option Int)) : ((bestS ks).1 = -1 ∧ ∀ o ∈ ks, o = none) ∨
    (∃ i : Nat, ∃ hi : i < ks.length, (bestS ks).1 = (i : Int) ∧ ks[i] = some (bestS ks).2 ∧ (∀ (j : Nat) (hj : j < ks.length) k, ks[j] = some k → (bestS ks).2 ≤ k ∧ (i < j → (bestS ks).2 < k))) := by
  induction ks using snoc_induction with
  | h0 => exact .inl ⟨rfl, by simp⟩
  | h1 ks o ih =>
    rw [bestS_snoc]
    cases o with
    | none =>
      simp only [bestStep]
      rcases ih with ⟨h1, h2⟩ | ⟨i, hi, h1, h2, h3⟩
      · refine .inl ⟨h1, fun o ho => ?_⟩
        rcases List.mem_append.1 ho with ho | ho
        · exact h2 o ho
        · simpa using ho
      · refine .inr ⟨i, by simp; omega, h1, by rw [List.getElem_append_left hi]; exact h2, fun j hj k hk => ?_⟩
        by_cases e : j < ks.length
        · rw [List.getElem_append_left e] at hk
          exact h3 j e k hk
        · have : j = ks.length := by simp at hj; omega
          subst this
          simp at hk
    | some x =>
      simp only [bestStep]
      rcases ih with ⟨h1, h2⟩ | ⟨i, hi, h1, h2, h3⟩
      · rw [if_pos (.inl (by omega))]
        refine .inr ⟨ks.length, by simp, rfl, by simp, fun j hj k hk => ?_⟩
        by_cases e : j < ks.length
        · rw [List.getElem_append_left e] at hk
          have := h2 _ (List.getElem_mem e)
          rw [this] at hk
          cases hk
        · have : j = ks.length := by simp at hj; omega
          subst this
          simp at hk
          omega
      · by_cases c : x ≤ (bestS ks).2
        · rw [if_pos (.inr c)]
          refine .inr ⟨ks.length, by simp, rfl, by simp, fun j hj k hk => ?_⟩
          by_cases e : j < ks.length
          · rw [List.getElem_append_left e] at hk
            have := (h3 j e k hk).1
            simp only
            omega
          · have : j = ks.length := by simp at hj; omega
            subst this
            simp at hk
            simp only
            omega
        · rw [if_neg (by omega)]
          refine .inr ⟨i, by simp; omega, h1, by rw [List.getElem_append_left hi]; exact h2, fun j hj k hk => ?_⟩
          by_cases e : j < ks.length
          · rw [List.getElem_append_left e] at hk
            exact h3 j e k hk
          · have : j = ks.length := by simp at hj; omega
            subst this
            simp at hk
            omega

theorem runP_succ (n : Nat) (ps : List (S24 × Int)) : runP (n + 1) ps = stepP (runP n ps) := by
  induction n generalizing ps with
  | zero => rfl
  | succ n ih => exact ih (stepP ps)

/-- The pairs are the curves, each at a number of its domain, together at m. -/
structure OkP (cs : List S24) (ps : List (S24 × Int)) (m : Int) : Prop where
  fst : ps.map (·.1) = cs
  dom : ∀ p ∈ ps, p.1.f0 ≤ p.2 ∧ p.2 ≤ toP p.1
  sum : (ps.map (·.2)).sum = m
theorem OkP.start (cs : List S24) : OkP cs (startP cs) (leastP cs) := by
  refine ⟨by simp [startP, List.map_map, Function.comp_def], fun p hp => ?_, by simp [startP, leastP, List.map_map, Function.comp_def]⟩
  obtain ⟨c, _, rfl⟩ := List.mem_map.1 hp
  simp only [toP]
  omega
theorem sum_to (ps : List (S24 × Int)) (hd : ∀ p ∈ ps, p.1.f0 ≤ p.2 ∧ p.2 ≤ toP p.1) (hn : ∀ p ∈ ps, keyP p = none) : (ps.map (·.2)).sum = mostP (ps.map (·.1)) := by
  induction ps with
  | nil => simp [mostP]
  | cons p ps ih =>
    have h1 := ih (fun q hq => hd q (List.mem_cons_of_mem _ hq)) (fun q hq => hn q (List.mem_cons_of_mem _ hq))
    have h2 := hd p List.mem_cons_self
    have h3 := hn p List.mem_cons_self
    unfold keyP nextK at h3
    by_cases c : p.2 - p.1.f0 < (p.1.f2.length : Int)
    · rw [if_pos c] at h3; cases h3
    · simp only [mostP, List.map_cons, List.sum_cons, List.map_map] at h1 ⊢
      rw [h1]
      unfold toP at *
      omega
theorem sum_modify (ps : List (S24 × Int)) (i : Nat) (hi : i < ps.length) : ((ps.modify i bump).map (·.2)).sum = (ps.map (·.2)).sum + 1 := by
  induction ps generalizing i with
  | nil => simp at hi
  | cons p ps ih =>
    cases i with
    | zero => simp [bump]; omega
    | succ i =>
      simp only [List.modify_succ_cons, List.map_cons, List.sum_cons]
      rw [ih i (by simpa using hi)]
      omega
theorem fst_modify (ps : List (S24 × Int)) (i : Nat) : (ps.modify i bump).map (·.1) = ps.map (·.1) := by
  apply List.ext_getElem (by simp)
  intro j h1 h2
  simp only [List.getElem_map, List.getElem_modify]
  split <;> rfl
theorem OkP.best {cs : List S24} {ps : List (S24 × Int)} {m : Int} (h : OkP cs ps m) (hm : m < mostP cs) :
    ∃ i : Nat, ∃ hi : i < ps.length, bestP ps = (i : Int) ∧ ps[i].2 < toP ps[i].1 := by
  rcases bestS_spec (ps.map keyP) with ⟨h1, h2⟩ | ⟨i, hi, h1, h2, h3⟩
  · exfalso
    have := sum_to ps h.dom (fun p hp => h2 _ (List.mem_map_of_mem hp))
    rw [h.sum, h.fst] at this
    omega
  · have hi' : i < ps.length := by simpa using hi
    refine ⟨i, hi', h1, ?_⟩
    rw [List.getElem_map] at h2
    unfold keyP nextK at h2
    by_cases c : ps[i].2 - ps[i].1.f0 < (ps[i].1.f2.length : Int)
    · unfold toP; omega
    · rw [if_neg c] at h2; cases h2
theorem OkP.step {cs : List S24} {ps : List (S24 × Int)} {m : Int} (h : OkP cs ps m) (hm : m < mostP cs) : OkP cs (stepP ps) (m + 1) := by
  obtain ⟨i, hi, h1, h2⟩ := h.best hm
  unfold stepP
  rw [h1, Int.toNat_natCast]
  refine ⟨(fst_modify ps i).trans h.fst, fun p hp => ?_, by rw [sum_modify ps i hi, h.sum]⟩
  obtain ⟨j, hj, rfl⟩ := List.getElem_of_mem hp
  have hj' : j < ps.length := by simpa using hj
  have h3 := h.dom _ (List.getElem_mem hj')
  rw [List.getElem_modify]
  by_cases e : i = j
  · subst e
    rw [if_pos rfl]
    simp only [bump]
    omega
  · rw [if_neg e]
    exact h3
theorem OkP.run {cs : List S24} (n : Nat) (hn : leastP cs + (n : Int) ≤ mostP cs) : OkP cs (runP n (startP cs)) (leastP cs + n) := by
  induction n with
  | zero => simpa [runP] using OkP.start cs
  | succ n ih =>
    rw [runP_succ]
    have := (ih (by omega)).step (by omega)
    rw [show leastP cs + ((n + 1 : Nat) : Int) = leastP cs + (n : Int) + 1 from by omega]
    exact this
end Go.Proofs.Ytfeeaipbmpmpgaa.PX

namespace Go.Proofs.Ytfeeaipbmpmpgaa.PX
open Go.RowKit Go.Proofs.YtfeeaipbmpmpgaaW.PrintWords Go.Proofs.YtfeeaipbmpmpgaaW.PrintLast Go.Proofs.YtfeeaipbmpmpgaaW.PrintMore
attribute [local go_sem] max2_int min2_int max_two min_two max_three min_three max_four min_four
set_option linter.unusedVariables false
set_option linter.unusedSimpArgs false

def splitPs (cs : List S24) (total : Int) : List (S24 × Int) := runP (total - leastP cs).toNat (startP cs)
def SplitPost (w : World) (cs : List S24) (total : Int) (e : Ending) (w' : World) : Prop :=
  (total < leastP cs ∨ mostP cs < total → SplitErr w 10 e w') ∧
  (leastP cs ≤ total → total ≤ mostP cs → SplitTold w ((splitPs cs total).map (·.2), sumP (splitPs cs total), priceP (splitPs cs total)) e w')
theorem least_bound (cs : List S24) (hv : ∀ c ∈ cs, valB c.f0 c.f1 c.f2 = true) : -1048576 * (cs.length : Int) ≤ leastP cs ∧ leastP cs ≤ 1048576 * (cs.length : Int) ∧ leastP cs ≤ mostP cs ∧ mostP cs ≤ leastP cs + 64 * (cs.length : Int) := by
  induction cs with
  | nil => simp [leastP, mostP]
  | cons c cs ih =>
    have h1 := ih (fun x hx => hv x (List.mem_cons_of_mem _ hx))
    have h2 := val_from (hv c List.mem_cons_self)
    simp only [leastP, mostP, List.map_cons, List.sum_cons, List.length_cons, toP] at h1 ⊢
    omega

theorem R_lit0 (w wr : World) (h : w.heap.size ≤ wr.heap.size) : Kd.R (Kd.int .i64) 3 (wr.alloc (.cells #[] 3)) w.heap.size (fun _ => True) (.slice (some ⟨wr.heap.size, 0, none⟩) 0 0) ([] : List Int) :=
  Kd.R_of_own ⟨rfl, .inr ⟨wr.heap.size, 0, #[], rfl, h, blk_new _ _, by simp, by unfold maxLen; omega, rfl, rfl⟩⟩ (fun _ _ => trivial)
theorem keys_eq (L : List Sh) : (bestS (L.map Sh.key)).1 = bestP (L.map Sh.p) := by
  unfold bestP
  rw [List.map_map]
  rfl
theorem turn_p (L : List Sh) (i : Nat) (hi : i < L.length) : (L.modify i fun s => { s with x := L[i].x + 1 }).map Sh.p = (L.map Sh.p).modify i bump := by
  apply List.ext_getElem (by simp)
  intro j h1 h2
  simp only [List.getElem_map, List.getElem_modify]
  by_cases e : i = j
  · subst e
    rw [if_pos rfl, if_pos rfl]
    rfl
  · rw [if_neg e, if_neg e]
theorem fits_of {cs : List S24} {L : List Sh} {m : Int} (hv : ∀ c ∈ cs, valB c.f0 c.f1 c.f2 = true) (h : OkP cs (L.map Sh.p) m) (s : Sh) (hs : s ∈ L) : s.fits := by
  have h1 := h.dom s.p (List.mem_map_of_mem hs)
  have h2 : s.p.1 ∈ cs := by rw [← h.fst]; exact List.mem_map_of_mem (List.mem_map_of_mem hs)
  have h3 := val_from (hv _ h2)
  simp only [Sh.p, toP] at h1 h3
  unfold Sh.fits
  omega

set_option maxHeartbeats 8000000 in
set_option maxRecDepth 100000 in
theorem split_walk (A : Option Addr) (c : Nat) (cs : List S24) (total : Int) (w : World) (hr : Kd.C k24 w A cs.length cs) (hc : cs.length ≤ c) (hn : cs.length ≤ 8) (h0 : 0 < cs.length) (hv : ∀ c ∈ cs, valB c.f0 c.f1 c.f2 = true) (hany : cs.any notVal = false) :
    Calls Try.prog 19 #[.slice A cs.length c, .int .i64 total] w (SplitPost w cs total) := by
  have hn' : decide (8 < cs.length) = false := decide_eq_false (by omega)
  have h0' : (cs.length == 0) = false := beq_eq_false_iff_ne.2 (by omega)
  have h0'' : ((cs.length : Int) == 0) = false := beq_eq_false_iff_ne.2 (by omega)
  have hn'' : decide ((8 : Int) < (cs.length : Int)) = false := decide_eq_false (by omega)
  have h1 : ¬ (cs = []) := fun e => by simp [e] at h0
  have HC := containsFuncC_calls A c cs w hr hc
  rw [hany] at HC
  have HA := Aside0.mk HC
  have HR := Aside0.mk hr
  have HV := Aside0.mk hv
  have hu24 := Try.underlying24
  have hu69 := Try.underlying69
  clear HC hv hr hc hany
  go_enter Try.func19, Try.ntmps19
  go_wp2_with (go_at_call 56; (with_reducible refine (HA.out).mono ?_); rintro e w' ⟨rfl, hb⟩; have HB := Aside0.mk hb; clear hb)
  go_loopw [8, 9, 10, 32] (fun v l m i wr => ∃ (k : Nat) (L : List Sh), k ≤ cs.length ∧ i = .int .i64 (k : Int) ∧ l = .int .i64 (leastP (cs.take k)) ∧ m = .int .i64 (mostP (cs.take k)) ∧ Aside0 (L.map Sh.p = startP (cs.take k)) ∧ Aside0 (ShRow w wr v L)) (fun _ _ _ i _ => cs.length - (intOf i).toNat)
  case atStart => exact ⟨0, [], by omega, rfl, rfl, rfl, ⟨rfl⟩, ⟨(ShRow.nil w).move HB.out⟩⟩
  case round =>
    clear HB
    obtain ⟨k, L, hk, rfl, rfl, rfl, HP, HS⟩ := hrel
    by_cases hlt : k < cs.length
    · obtain ⟨ad, A1, c1, rfl, e0, e1, e2, hl1, hr1⟩ := at_T24 HR.out (k : Int) (by omega) (by omega)
      rw [Int.toNat_natCast] at e0 e1 e2
      have e0' := (HS.out.below.cell (World.block_lt_of_cell? w _ e0)).trans e0
      have e1' := (HS.out.below.cell (World.block_lt_of_cell? w _ e1)).trans e1
      have e2' := (HS.out.below.cell (World.block_lt_of_cell? w _ e2)).trans e2
      have hP1 := startP_take_succ cs k hlt
      have hL1 := leastP_take_succ cs k hlt
      have hM1 := mostP_take_succ cs k hlt
      have hb1 := least_bound (cs.take k) (fun x hx => HV.out x (List.mem_of_mem_take hx))
      have hlk : (cs.take k).length = k := by simp; omega
      rw [hlk] at hb1
      have hvs := val_from (HV.out cs[k] (List.getElem_mem hlt))
      rw [rd_T24_getElem cs k hlt] at e0' e1' e2' hr1 hl1
      clear hlk e0 e1 e2
      obtain ⟨b1, b2, b3, b4⟩ := hb1
      obtain ⟨v1, v2, v3, v4, v5⟩ := hvs
      have HP1 := Aside0.mk hP1
      have HL1 := Aside0.mk hL1
      have HM1 := Aside0.mk hM1
      have HC1 := Aside0.mk (And.intro hr1 hl1)
      clear hP1 hL1 hM1 hr1 hl1
      generalize cs[k] = s0 at *
      generalize leastP (cs.take k) = lk at *
      generalize mostP (cs.take k) = mk at *
      obtain ⟨sa, sb, sl⟩ := s0
      simp only at e0' e1' e2' v1 v2 v3 v4 v5
      have hT := fun w1 h1 => curve_to.calls sa sb A1 c1 sl (sa + (sl.length : Int)) w1 h1 HC1.out.2 (by unfold curve_to.f; rw [w64 (by omega) (by omega)])
      have HT := Aside0.mk hT
      have hLn : L.length ≤ 8 := by
        have := congrArg List.length HP.out
        simp [startP] at this
        omega
      have HLn := Aside0.mk hLn
      clear hT hLn
      go_wp2_with (first | ((with_reducible refine gate_dst (N := 12) rfl ?_); refine box_event ?hg (N := 12) ?hd (cs := #[.int .i64 0, .int .i64 0, .slice none 0 0]) (t := 24) ?hr ?_; (case hd => rfl); (case hg => rfl); (case hr => first | (go_simp; done) | (go_simp; rfl)); intro g12 hg w1 hbox hb; have BK1 := Aside0.mk hbox; have HB1 := Aside0.mk hb; have GE1 := Aside0.mk (Nat.le_of_eq hg.symm); clear hbox hb hg; have hz0 : w1.cell? ⟨g12, 0, none⟩ = some (.int .i64 0) := (blk_cell BK1.out 0).trans rfl; have hz1 : w1.cell? ⟨g12, 1, none⟩ = some (.int .i64 0) := (blk_cell BK1.out 1).trans rfl; have hz2 : w1.cell? ⟨g12, 2, none⟩ = some (.slice none 0 0) := (blk_cell BK1.out 2).trans rfl; have hf0 := blk_frozen BK1.out 0; have hf1 := blk_frozen BK1.out 1; have hf2 := blk_frozen BK1.out 2) | ((with_reducible refine gate_dst (N := 41) rfl ?_); refine box_event ?hg (N := 41) ?hd (cs := #[.int .i64 sa, .int .i64 sb, .slice A1 sl.length c1, .int .i64 sa]) (t := 69) ?hr ?_; (case hd => rfl); (case hg => rfl); (case hr => first | (go_simp; done) | (go_simp; rfl)); intro g41 hg w2 hbox hb; have HW := Aside0.mk (below_set (j := 2) (v := .slice A1 sl.length c1) (below_set (j := 1) (v := .int .i64 sb) (below_set (j := 0) (v := .int .i64 sa) HB1.out GE1.out) GE1.out) GE1.out); have BK12 := Aside0.mk (blk_below (blk_put (cs' := #[.int .i64 sa, .int .i64 sb, .slice A1 sl.length c1]) (blk_put (cs' := #[.int .i64 sa, .int .i64 sb, .slice none 0 0]) (blk_put (cs' := #[.int .i64 sa, .int .i64 0, .slice none 0 0]) BK1.out 0 _ rfl) 1 _ rfl) 2 _ rfl) hb); have BK41 := Aside0.mk hbox; have GE41 := Aside0.mk (Nat.le_trans HW.out.size (Nat.le_of_eq hg.symm)); have HB2 := Aside0.mk (below_then HW.out HW.out.size hb); clear hbox hb hg hz0 hz1 hz2 hf0 hf1 hf2) | ((with_reducible refine gate_builtin (b := .append) rfl ?_); have HM := Aside0.mk (HS.out.move HB2.out); refine Kd.R_append ptrK (w0 := w) w.heap.size rfl (.tmp 36) (.tmp 42) 66 67 (.pointer none) 8 rfl Try.underlying66 info67 rfl (by decide) (by decide) _ (L.map Sh.g) g41 [.pointer (some ⟨g41, 0, none⟩)] (fun _ => True) (fun _ => False) rfl rfl rfl (fun _ hk => hk.elim) (fun _ _ => trivial) HM.out.row HM.out.below HM.out.below.size (by have := HLn.out; rw [List.length_map]; omega) ?_; intro v1 w3 hr hb hg _; have HS3 := Aside0.mk (HM.out.add (s := ⟨g41, sa, sb, sl, A1, c1, sa⟩) BK41.out (Nat.le_trans HS.out.below.size GE41.out) HC1.out (fun hmem => by obtain ⟨s, hs, he⟩ := List.mem_map.1 hmem; have h1 := blk_lt (HS.out.blk s hs); have h2 := GE41.out; simp only at he; omega) hr hb hg); have BK3 := Aside0.mk ((hg.block g12 (blk_lt BK12.out) (Kd.R_ne HM.out.row BK12.out (by decide))).trans BK12.out); clear hr hb hg; have hz0 : w3.cell? ⟨g12, 0, none⟩ = some (.int .i64 sa) := (blk_cell BK3.out 0).trans rfl; have hz1 : w3.cell? ⟨g12, 1, none⟩ = some (.int .i64 sb) := (blk_cell BK3.out 1).trans rfl; have hz2 : w3.cell? ⟨g12, 2, none⟩ = some (.slice A1 sl.length c1) := (blk_cell BK3.out 2).trans rfl) | (go_at_call 58; (with_reducible refine (HT.out _ (Kd.C_below HC1.out.1 HS3.out.below)).mono ?_); rintro e w4 ⟨rfl, hb⟩; have HB4 := Aside0.mk hb; clear hb))
      go_roundw
      case rel => exact ⟨k + 1, L ++ [⟨g41, sa, sb, sl, A1, c1, sa⟩], by omega, by go_num, by rw [HL1.out], by rw [HM1.out]; rfl, ⟨by rw [List.map_append, HP.out, HP1.out]; rfl⟩, ⟨HS3.out.move HB4.out⟩⟩
      case measure => simp [intOf]; omega
    · obtain rfl : k = cs.length := by omega
      rw [List.take_length] at *
      obtain ⟨Av, cv, rfl, hcv, _⟩ := Kd.R_reads HS.out.row
      have hb := least_bound cs HV.out
      obtain ⟨b1, b2, b3, b4⟩ := hb
      have hLl : (L.map Sh.g).length = cs.length := by
        have := congrArg List.length HP.out
        simpa [startP] using this
      rw [hLl] at hcv
      rw [hLl] at HS
      rw [hLl]
      clear hLl
      generalize hlk : leastP cs = lk at *
      generalize hmk : mostP cs = mk at *
      have HLK := Aside0.mk hlk
      have HMK := Aside0.mk hmk
      clear hlk hmk
      by_cases ht1 : total < lk
      · have ht1' : decide (total < lk) = true := decide_eq_true ht1
        have HT := Aside0.mk ht1
        clear ht1
        go_wp2
        refine bodyPost_ret (v := .tuple #[.slice none 0 0, .int .i64 0, .int .i64 0, .int .i64 10]) (by simp [results, Try.results19, go_sem]) rfl ⟨fun _ => ⟨rfl, HS.out.below⟩, fun h => ?_⟩
        exact absurd h (by rw [HLK.out]; have := HT.out; omega)
      · have ht1' : decide (total < lk) = false := decide_eq_false ht1
        by_cases ht2 : mk < total
        · have ht2' : decide (mk < total) = true := decide_eq_true ht2
          have HT := Aside0.mk ht2
          clear ht1 ht2
          go_wp2
          refine bodyPost_ret (v := .tuple #[.slice none 0 0, .int .i64 0, .int .i64 0, .int .i64 10]) (by simp [results, Try.results19, go_sem]) rfl ⟨fun _ => ⟨rfl, HS.out.below⟩, fun _ h => ?_⟩
          exact absurd h (by rw [HMK.out]; have := HT.out; omega)
        · have ht2' : decide (mk < total) = false := decide_eq_false ht2
          have HT := Aside0.mk (And.intro (show lk ≤ total from by omega) (show total ≤ mk from by omega))
          have htb : -9000000 ≤ total := by omega
          have htc : total ≤ 9000000 := by omega
          clear ht1 ht2
          have HL0 := Aside0.mk HP.out
          clear HP
          go_wp2
          go_loopw [9] (fun l wr => ∃ (n : Nat) (L : List Sh), l = .int .i64 (lk + (n : Int)) ∧ lk + (n : Int) ≤ total ∧ Aside0 (L.map Sh.p = runP n (startP cs)) ∧ Aside0 (ShRow w wr (.slice Av cs.length cv) L)) (fun l _ => (total - intOf l).toNat)
          case atStart => exact ⟨0, L, by simp, by have := HT.out.1; simp; omega, ⟨HL0.out⟩, HS⟩
          case round =>
            clear HS HL0
            obtain ⟨n, L, rfl, hnt, HP, HS⟩ := hrel
            have hok := OkP.run (cs := cs) n (by rw [HLK.out, HMK.out]; have := HT.out.2; omega)
            rw [← HP.out, HLK.out] at hok
            have hLl : L.length = cs.length := by
              have := congrArg List.length hok.fst
              simpa using this
            have HOK := Aside0.mk hok
            clear hok
            by_cases hlt : lk + (n : Int) < total
            · obtain ⟨i, hi, hb1, hb2⟩ := HOK.out.best (by rw [HMK.out]; have := HT.out.2; omega)
              have hi' : i < L.length := by simpa using hi
              have hmem : L[i] ∈ L := List.getElem_mem hi'
              have hfit := fits_of HV.out HOK.out L[i] hmem
              obtain ⟨Aq, cq, eq, _, hC⟩ := Kd.R_reads HS.out.row
              injection eq with ea en ec
              subst ea ec
              rw [List.length_map] at hC
              have hBC := best_calls Av cv L _ hC (by omega) (by omega) (fun s hs => ⟨HS.out.lies s hs, fits_of HV.out HOK.out s hs⟩)
              obtain ⟨ad, rfl, hx⟩ := at_ptr hC i hi'
              rw [keys_eq, hb1, hLl] at hBC
              rw [show (L.map Sh.g).getD i 0 = L[i].g from by simp [List.getD_eq_getElem?_getD, hi']] at hx
              have hblk := HS.out.blk _ hmem
              have hc3 := (blk_cell hblk 3).trans rfl
              have hf3 := blk_frozen hblk 3
              have HTURN := Aside0.mk (fun m => (HS.out.move (pw_below_drewN (Below.refl _ _) m)).turn i hi' (L[i].x + 1))
              have HTP := Aside0.mk (turn_p L i hi')
              have HB1 := Aside0.mk hb1
              have HBC := Aside0.mk hBC
              have hil : i < cs.length := by omega
              have hxb : -9000000 ≤ L[i].x ∧ L[i].x ≤ 9000000 := by unfold Sh.fits at hfit; omega
              obtain ⟨x1, x2⟩ := hxb
              clear hBC hb1 hb2 hC en hblk hmem hfit
              generalize L[i] = s at *
              obtain ⟨sg, sa, sb, sl, sA, sc, sx⟩ := s
              simp only at hx hc3 hf3 x1 x2
              go_wp2_with (go_at_call 59; (with_reducible refine (HBC.out).mono ?_); rintro e w4 ⟨rfl, ⟨nd, rfl⟩⟩)
              go_roundw
              case rel => exact ⟨n + 1, _, congrArg (Value.int .i64) (by omega), by omega, ⟨by rw [HTP.out, runP_succ, ← HP.out]; unfold stepP; rw [HB1.out, Int.toNat_natCast]⟩, ⟨HTURN.out nd⟩⟩
              case measure => simp [intOf]; omega
            · have hps : L.map Sh.p = splitPs cs total := by
                unfold splitPs
                rw [HP.out, HLK.out]
                congr 1
                omega
              have HPS := Aside0.mk hps
              clear hps
              have HOP : ∀ s ∈ L, s.fits := fun s hs => fits_of HV.out HOK.out s hs
              have HF := Aside0.mk HOP
              clear HOP HOK HP HV
              go_wp2
              go_loopw [13, 14, 15, 80] (fun v s p i wr => ∃ (k : Nat) (S P : Int), k ≤ cs.length ∧ i = .int .i64 (k : Int) ∧ s = .int .i64 S ∧ p = .int .i64 P ∧ Aside0 (S = sumP ((L.map Sh.p).take k)) ∧ Aside0 (P = priceP ((L.map Sh.p).take k)) ∧ Aside0 (Kd.R (Kd.int .i64) 3 wr w.heap.size (fun _ => True) v (((L.map Sh.p).take k).map (·.2))) ∧ Aside0 (ShRow w wr (.slice Av cs.length cv) L)) (fun _ _ _ i _ => cs.length - (intOf i).toNat)
              case atStart => exact ⟨0, 0, -1048576, by omega, rfl, rfl, rfl, ⟨rfl⟩, ⟨rfl⟩, ⟨R_lit0 _ _ HS.out.below.size⟩, ⟨HS.out.move (below_alloc (Below.refl _ _) _)⟩⟩
              case round =>
                clear HS
                obtain ⟨k, S, P, hk, rfl, rfl, rfl, HSu, HPr, HX, HS⟩ := hrel
                by_cases hlt2 : k < cs.length
                · have hkl : k < L.length := by omega
                  have hmem : L[k] ∈ L := List.getElem_mem hkl
                  have hfit := HF.out _ hmem
                  obtain ⟨Aq, cq, eq, _, hC⟩ := Kd.R_reads HS.out.row
                  injection eq with ea en ec
                  subst ea ec
                  rw [List.length_map] at hC
                  obtain ⟨ad, rfl, hx⟩ := at_ptr hC k hkl
                  rw [show (L.map Sh.g).getD k 0 = L[k].g from by simp [List.getD_eq_getElem?_getD, hkl]] at hx
                  have hrd := HS.out.reads _ hmem
                  have htk : (L.map Sh.p).take (k + 1) = (L.map Sh.p).take k ++ [L[k].p] := by
                    rw [List.take_succ_eq_append_getElem (by simpa using hkl)]
                    simp
                  have hsu : sumP ((L.map Sh.p).take (k + 1)) = wrap64 (S + valP L[k].p) := by rw [htk, HSu.out]; unfold sumP; rw [List.foldl_append]; rfl
                  have hpr : priceP ((L.map Sh.p).take (k + 1)) = mx P (loP L[k].p) := by rw [htk, HPr.out]; unfold priceP; rw [List.foldl_append]; rfl
                  have hxs : ((L.map Sh.p).take (k + 1)).map (·.2) = ((L.map Sh.p).take k).map (·.2) ++ [L[k].x] := by rw [htk, List.map_append]; rfl
                  have HSU := Aside0.mk hsu
                  have HPR := Aside0.mk hpr
                  have HXS := Aside0.mk hxs
                  have HAT := Aside0.mk (fun (w1 : World) (q1 : Kd.C (Kd.int .i64) w1 L[k].A L[k].l.length L[k].l) => at_calls L[k].a L[k].b L[k].A L[k].c L[k].l L[k].x w1 q1 hrd.2 hfit.1 hfit.2.1 hfit.2.2.1)
                  have HPC := Aside0.mk (fun (w1 : World) (q1 : Kd.C (Kd.int .i64) w1 L[k].A L[k].l.length L[k].l) => prices_calls L[k].a L[k].b L[k].A L[k].c L[k].l L[k].x w1 q1 hrd.2 hfit.1 hfit.2.1 hfit.2.2.1)
                  have HRD := Aside0.mk hrd.1
                  have HLn := Aside0.mk (show (((L.map Sh.p).take k).map (·.2)).length ≤ 8 from by simp; omega)
                  have HBK := Aside0.mk (fun (W : World) (h : ShRow w W (.slice (some ad) cs.length cv) L) => h.blk _ hmem)
                  have hb0 := HBK.out _ HS.out
                  have hc0 := (blk_cell hb0 0).trans rfl
                  have hc1 := (blk_cell hb0 1).trans rfl
                  have hc2 := (blk_cell hb0 2).trans rfl
                  have hc3 := (blk_cell hb0 3).trans rfl
                  clear htk hsu hpr hxs hrd hfit hb0 hC en hmem
                  generalize L[k] = s at *
                  obtain ⟨sg, sa, sb, sl, sA, sc, sx⟩ := s
                  simp only at hx hc0 hc1 hc2 hc3
                  generalize ((L.map Sh.p).take k).map (·.2) = xs at *
                  go_wp2_with ((with_reducible refine gate_builtin (b := .append) rfl ?_); refine Kd.R_append (Kd.int .i64) (w0 := w) w.heap.size rfl (.tmp 84) (.tmp 89) 22 3 (.int .i64 0) 8 rfl Try.underlying22 info3 rfl (by decide) (by decide) _ xs sx [.int .i64 sx] (fun _ => True) (fun _ => False) rfl rfl rfl (fun _ hk => hk.elim) (fun _ _ => trivial) HX.out HS.out.below HS.out.below.size (by have := HLn.out; omega) ?_; intro v1 w2 hr hb hg _; have HX2 := Aside0.mk hr; have HS2 := Aside0.mk (HS.out.grown HX.out hg hb); clear hr hb hg hc0 hc1 hc2 hc3; have hb0 := HBK.out _ HS2.out; have hc0 := (blk_cell hb0 0).trans rfl; have hc1 := (blk_cell hb0 1).trans rfl; have hc2 := (blk_cell hb0 2).trans rfl; have hc3 := (blk_cell hb0 3).trans rfl; clear hb0; simp only at hc0 hc1 hc2 hc3)
                  have HS2d := Aside0.mk (HS2.out.move (below_drew (Below.refl _ w2)))
                  go_region_held3 (fun W => W.cell? ⟨sg, 0, none⟩ = some (.int .i64 sa) ∧ W.cell? ⟨sg, 1, none⟩ = some (.int .i64 sb) ∧ W.cell? ⟨sg, 2, none⟩ = some (.slice sA sl.length sc) ∧ W.cell? ⟨sg, 3, none⟩ = some (.int .i64 sx)) (first | exact ⟨hc0, hc1, hc2, hc3⟩ | exact ⟨(HB3.out.cell (World.block_lt_of_cell? _ _ hc0)).trans hc0, (HB3.out.cell (World.block_lt_of_cell? _ _ hc1)).trans hc1, (HB3.out.cell (World.block_lt_of_cell? _ _ hc2)).trans hc2, (HB3.out.cell (World.block_lt_of_cell? _ _ hc3)).trans hc3⟩) (first | (go_at_call 61; (with_reducible refine (HAT.out _ ?_).mono ?_); (exact Kd.C_below HRD.out HS2d.out.below); rintro e w3 ⟨rfl, hb⟩; have HB3 := Aside0.mk hb; clear hb))
                  have HS3 := Aside0.mk (HS2d.out.move HB3.out)
                  have HX3 := Aside0.mk (Kd.R_below (Kd.R_drew HX2.out) HB3.out)
                  have hb0 := HBK.out _ HS3.out
                  have hd0 := (blk_cell hb0 0).trans rfl
                  have hd1 := (blk_cell hb0 1).trans rfl
                  have hd2 := (blk_cell hb0 2).trans rfl
                  have hd3 := (blk_cell hb0 3).trans rfl
                  clear hb0 hc0 hc1 hc2 hc3
                  simp only at hd0 hd1 hd2 hd3
                  simp only [i64_w]
                  rw [show addup sb (List.take (sx - sa).toNat sl) = valP (⟨sa, sb, sl⟩, sx) from rfl]
                  go_wp2
                  have HS3d := Aside0.mk (HS3.out.move (below_drew (Below.refl _ w3)))
                  go_region_held3 (fun W => W.cell? ⟨sg, 0, none⟩ = some (.int .i64 sa) ∧ W.cell? ⟨sg, 1, none⟩ = some (.int .i64 sb) ∧ W.cell? ⟨sg, 2, none⟩ = some (.slice sA sl.length sc) ∧ W.cell? ⟨sg, 3, none⟩ = some (.int .i64 sx)) (first | exact ⟨hd0, hd1, hd2, hd3⟩ | exact ⟨(HB4.out.cell (World.block_lt_of_cell? _ _ hd0)).trans hd0, (HB4.out.cell (World.block_lt_of_cell? _ _ hd1)).trans hd1, (HB4.out.cell (World.block_lt_of_cell? _ _ hd2)).trans hd2, (HB4.out.cell (World.block_lt_of_cell? _ _ hd3)).trans hd3⟩) (first | (go_at_call 62; (with_reducible refine (HPC.out _ ?_).mono ?_); (exact Kd.C_below HRD.out HS3d.out.below); rintro e w4 ⟨rfl, hb⟩; have HB4 := Aside0.mk hb; clear hb))
                  go_wp2
                  go_roundw
                  case rel => exact ⟨k + 1, _, _, by omega, by go_num, rfl, rfl, ⟨HSU.out.symm⟩, ⟨HPR.out.symm⟩, ⟨by rw [HXS.out]; exact Kd.R_below (Kd.R_drew HX3.out) HB4.out⟩, ⟨HS3d.out.move HB4.out⟩⟩
                  case measure => simp [intOf]; omega
                · obtain rfl : k = cs.length := by omega
                  have htk : (L.map Sh.p).take cs.length = L.map Sh.p := List.take_of_length_le (by simp; omega)
                  rw [htk, HPS.out] at HSu HPr HX
                  clear htk
                  obtain ⟨Ax, cx, rfl, _, _⟩ := Kd.R_reads HX.out
                  go_wp2
                  refine bodyPost_ret (v := .tuple #[.slice Ax ((splitPs cs total).map (·.2)).length cx, .int .i64 S, .int .i64 P, .int .i64 0]) (by simp [results, Try.results19, go_sem]) rfl ⟨fun h => ?_, fun _ _ => ⟨_, by rw [HSu.out, HPr.out], HX.out, HS.out.below⟩⟩
                  exfalso
                  rw [HLK.out, HMK.out] at h
                  have := HT.out
                  omega
end Go.Proofs.Ytfeeaipbmpmpgaa.PX

namespace Go.Proofs.Ytfeeaipbmpmpgaa.PX
open Go.RowKit Go.Proofs.YtfeeaipbmpmpgaaW.PrintWords Go.Proofs.YtfeeaipbmpmpgaaW.PrintLast Go.Proofs.YtfeeaipbmpmpgaaW.PrintMore
set_option linter.unusedVariables false
set_option linter.unusedSimpArgs false

def splitR (cs : List S24) (total : Int) : List Int × Int × Int × Int :=
  if 8 < cs.length then ([], 0, 0, 3) else if cs.length = 0 then ([], 0, 0, 2) else if cs.any notVal = true then ([], 0, 0, 2)
  else if total < leastP cs ∨ mostP cs < total then ([], 0, 0, 10) else ((splitPs cs total).map (·.2), sumP (splitPs cs total), priceP (splitPs cs total), 0)
def curve_Split.f (l0 : List S24) (a1 : Int) : Option (List Int × Int × Int × Int) := some (splitR l0 a1)
theorem curve_Split.calls (A0 : Option Addr) (c0 : Nat) (l0 : List S24) (a1 : Int) (r1 : List Int) (r2 : Int) (r3 : Int) (r4 : Int) (w : World) (hr0 : Kd.C k24 w A0 l0.length l0) (hc0 : l0.length ≤ c0) (h : curve_Split.f l0 a1 = some (r1, r2, r3, r4)) :
    Calls Try.prog 19 #[.slice A0 l0.length c0, .int .i64 a1] w fun e w' => ∃ v1_ : Value, e = .returned (.tuple #[v1_, .int .i64 r2, .int .i64 r3, .int .i64 r4]) ∧ Kd.R (Kd.int .i64) 3 w' w.heap.size (fun _ => True) v1_ r1 ∧ Below w.heap.size w w' := by
  have h := Option.some.inj h
  unfold splitR at h
  have err : ∀ q : Int, (([], 0, 0, q) : List Int × Int × Int × Int) = (r1, r2, r3, r4) → ∀ e w', SplitErr w q e w' → ∃ v1_ : Value, e = .returned (.tuple #[v1_, .int .i64 r2, .int .i64 r3, .int .i64 r4]) ∧ Kd.R (Kd.int .i64) 3 w' w.heap.size (fun _ => True) v1_ r1 ∧ Below w.heap.size w w' := by
    intro q hq e w' ⟨he, hb⟩
    simp only [Prod.mk.injEq] at hq
    obtain ⟨rfl, rfl, rfl, rfl⟩ := hq
    exact ⟨_, he, Kd.R_nil _ _ _ _ _, hb⟩
  by_cases h1 : 8 < l0.length
  · rw [if_pos h1] at h
    exact (split_many A0 c0 l0 a1 w h1 hr0.2.1).mono (err 3 h)
  · rw [if_neg h1] at h
    by_cases h2 : l0.length = 0
    · rw [if_pos h2] at h
      rw [h2]
      exact (split_none A0 c0 a1 w).mono (err 2 h)
    · rw [if_neg h2] at h
      by_cases h3 : l0.any notVal = true
      · rw [if_pos h3] at h
        exact (split_invalid A0 c0 l0 a1 w hr0 hc0 (by omega) (by omega) h3).mono (err 2 h)
      · rw [if_neg h3] at h
        have hany : l0.any notVal = false := Bool.eq_false_iff.2 h3
        have hv : ∀ c ∈ l0, valB c.f0 c.f1 c.f2 = true := fun c hc => by
          have := (List.any_eq_false.1 hany) c hc
          unfold notVal at this
          simpa using this
        refine (split_walk A0 c0 l0 a1 w hr0 hc0 (by omega) (by omega) hv hany).mono ?_
        intro e w' hp
        by_cases h4 : a1 < leastP l0 ∨ mostP l0 < a1
        · rw [if_pos h4] at h
          exact err 10 h e w' (hp.1 h4)
        · rw [if_neg h4] at h
          obtain ⟨v, he, hR, hB⟩ := hp.2 (by omega) (by omega)
          simp only [Prod.mk.injEq] at h
          obtain ⟨rfl, rfl, rfl, rfl⟩ := h
          exact ⟨v, he, hR, hB⟩
end Go.Proofs.Ytfeeaipbmpmpgaa.PX

namespace Go.Proofs.Ytfeeaipbmpmpgaa.PX
open Go.RowKit Go.Proofs.YtfeeaipbmpmpgaaW.PrintWords Go.Proofs.YtfeeaipbmpmpgaaW.PrintLast Go.Proofs.YtfeeaipbmpmpgaaW.PrintMore
set_option linter.unusedVariables false
set_option linter.unusedSimpArgs false

/-! ### what the greedy way keeps: a slope that was taken is at most one that wasn't, and below that of a later curve -/
def lastP (p : S24 × Int) : Option Int := if 0 < p.2 - p.1.f0 then some (rd p.1.f2 (p.2 - p.1.f0 - 1)) else none
def Greedy (ps : List (S24 × Int)) : Prop :=
  ∀ (i j : Nat) (hi : i < ps.length) (hj : j < ps.length) (a b : Int), lastP ps[i] = some a → keyP ps[j] = some b → a ≤ b ∧ (i < j → a < b)
theorem Greedy.start (cs : List S24) : Greedy (startP cs) := by
  intro i j hi hj a b h1 h2
  simp [startP, lastP] at h1
theorem key_bump {p : S24 × Int} (hs : p.1.f2.Pairwise (· ≤ ·)) (h0 : p.1.f0 ≤ p.2) {a b : Int} (h1 : keyP p = some a) (h2 : keyP (bump p) = some b) : a ≤ b := by
  unfold keyP nextK bump at *
  simp only at h2
  by_cases c : p.2 - p.1.f0 < (p.1.f2.length : Int)
  · by_cases d : p.2 + 1 - p.1.f0 < (p.1.f2.length : Int)
    · rw [if_pos c] at h1
      rw [if_pos d] at h2
      injection h1 with h1
      injection h2 with h2
      obtain ⟨n, hn⟩ := Int.eq_ofNat_of_zero_le (show 0 ≤ p.2 - p.1.f0 from by omega)
      rw [hn] at h1
      rw [show p.2 + 1 - p.1.f0 = ((n + 1 : Nat) : Int) from by omega] at h2
      rw [rd_getElem _ n (by omega)] at h1
      rw [rd_getElem _ (n + 1) (by omega)] at h2
      rw [← h1, ← h2]
      exact List.pairwise_iff_getElem.1 hs n (n + 1) (by omega) (by omega) (by omega)
    · rw [if_neg d] at h2; cases h2
  · rw [if_neg c] at h1; cases h1
theorem last_bump {p : S24 × Int} (h0 : p.1.f0 ≤ p.2) {a : Int} (h1 : keyP p = some a) : lastP (bump p) = some a := by
  unfold keyP nextK at h1
  unfold lastP bump
  by_cases c : p.2 - p.1.f0 < (p.1.f2.length : Int)
  · rw [if_pos c] at h1
    simp only
    rw [if_pos (by omega), show p.2 + 1 - p.1.f0 - 1 = p.2 - p.1.f0 from by omega]
    exact h1
  · rw [if_neg c] at h1; cases h1
theorem Greedy.step {cs : List S24} (hv : ∀ c ∈ cs, valB c.f0 c.f1 c.f2 = true) {ps : List (S24 × Int)} {m : Int} (hok : OkP cs ps m) (h : Greedy ps) : Greedy (stepP ps) := by
  rcases bestS_spec (ps.map keyP) with ⟨h1, h2⟩ | ⟨t, ht, h1, h2, h3⟩
  · intro i j hi hj a b ha hb
    exfalso
    have hj' : j < ps.length := by simpa [stepP] using hj
    have hn := h2 _ (List.mem_map_of_mem (List.getElem_mem hj'))
    have hb' := hb
    simp only [stepP, List.getElem_modify] at hb'
    split at hb'
    · have e : keyP (bump ps[j]) = none := by
        unfold keyP nextK at hn
        unfold keyP nextK bump
        simp only
        by_cases c : ps[j].2 - ps[j].1.f0 < (ps[j].1.f2.length : Int)
        · rw [if_pos c] at hn; cases hn
        · rw [if_neg (by omega)]
      rw [e] at hb'; cases hb'
    · rw [hn] at hb'; cases hb'
  · have ht' : t < ps.length := by simpa using ht
    have hb : bestP ps = (t : Int) := h1
    rw [List.getElem_map] at h2
    generalize (bestS (ps.map keyP)).2 = s at h2 h3
    have hk : ∀ (j : Nat) (hj : j < ps.length) (k : Int), keyP ps[j] = some k → s ≤ k ∧ (t < j → s < k) := fun j hj k hk => h3 j (by simpa using hj) k (by simpa using hk)
    have hmem : ps[t] ∈ ps := List.getElem_mem ht'
    have hdom := hok.dom _ hmem
    have hc : ps[t].1 ∈ cs := by rw [← hok.fst]; exact List.mem_map_of_mem hmem
    have hsort := (val_all (hv _ hc)).1
    have hlast := last_bump hdom.1 h2
    intro i j hi hj a b ha hb'
    simp only [stepP, hb, Int.toNat_natCast, List.getElem_modify] at ha hb'
    have hi' : i < ps.length := by simpa [stepP] using hi
    have hj' : j < ps.length := by simpa [stepP] using hj
    by_cases ei : t = i
    · subst ei
      rw [if_pos rfl, hlast] at ha
      injection ha with ha
      subst ha
      by_cases ej : t = j
      · subst ej
        rw [if_pos rfl] at hb'
        exact ⟨key_bump hsort hdom.1 h2 hb', fun h => by omega⟩
      · rw [if_neg ej] at hb'
        exact hk j hj' b hb'
    · rw [if_neg ei] at ha
      by_cases ej : t = j
      · subst ej
        rw [if_pos rfl] at hb'
        have g1 := h i t hi' ht' a s ha h2
        have g2 := key_bump hsort hdom.1 h2 hb'
        exact ⟨by omega, fun hlt => by have := g1.2 hlt; omega⟩
      · rw [if_neg ej] at hb'
        exact h i j hi' hj' a b ha hb'
theorem Greedy.run {cs : List S24} (hv : ∀ c ∈ cs, valB c.f0 c.f1 c.f2 = true) (n : Nat) (hn : leastP cs + (n : Int) ≤ mostP cs) : Greedy (runP n (startP cs)) := by
  induction n with
  | zero => exact Greedy.start cs
  | succ n ih =>
    rw [runP_succ]
    exact (ih (by omega)).step hv (OkP.run n (by omega))

/-! ### the price -/
theorem priceP_spec (ps : List (S24 × Int)) (B : Int) (hB : ∀ p ∈ ps, loP p ≤ B) (hB0 : -1048576 ≤ B) : -1048576 ≤ priceP ps ∧ priceP ps ≤ B ∧ ∀ p ∈ ps, loP p ≤ priceP ps := by
  induction ps using snoc_induction with
  | h0 => simp [priceP, hB0]
  | h1 ps q ih =>
    obtain ⟨h1, h2, h3⟩ := ih (fun p hp => hB p (List.mem_append_left _ hp))
    have hq := hB q (by simp)
    have e : priceP (ps ++ [q]) = mx (priceP ps) (loP q) := by simp [priceP]
    rw [e]
    unfold mx
    split
    · refine ⟨by omega, hq, fun p hp => ?_⟩
      rcases List.mem_append.1 hp with hp | hp
      · have := h3 p hp; omega
      · rw [List.mem_singleton.1 hp]; omega
    · refine ⟨h1, h2, fun p hp => ?_⟩
      rcases List.mem_append.1 hp with hp | hp
      · exact h3 p hp
      · rw [List.mem_singleton.1 hp]; omega
theorem lo_last {p : S24 × Int} : (lastP p = some (loP p)) ∨ (lastP p = none ∧ loP p = -1048576) := by
  unfold lastP loP
  split
  · exact .inl rfl
  · exact .inr ⟨rfl, rfl⟩
/-- The price is at most what the next unit costs anywhere. -/
theorem price_le_key {ps : List (S24 × Int)} (h : Greedy ps) (hv : ∀ p ∈ ps, valB p.1.f0 p.1.f1 p.1.f2 = true) (hd : ∀ p ∈ ps, p.1.f0 ≤ p.2 ∧ p.2 ≤ toP p.1) (j : Nat) (hj : j < ps.length) (b : Int) (hb : keyP ps[j] = some b) : priceP ps ≤ b := by
  have hbv : -1048576 ≤ b := by
    have hm := List.getElem_mem hj
    have h1 := hd _ hm
    have h2 := (val_all (hv _ hm)).2
    unfold keyP nextK at hb
    by_cases c : ps[j].2 - ps[j].1.f0 < (ps[j].1.f2.length : Int)
    · rw [if_pos c] at hb
      injection hb with hb
      obtain ⟨n, hn⟩ := Int.eq_ofNat_of_zero_le (show 0 ≤ ps[j].2 - ps[j].1.f0 from by omega)
      rw [hn, rd_getElem _ n (by omega)] at hb
      rw [← hb]
      exact (h2 _ (List.getElem_mem _)).1
    · rw [if_neg c] at hb; cases hb
  refine (priceP_spec ps b (fun p hp => ?_) hbv).2.1
  obtain ⟨i, hi, rfl⟩ := List.getElem_of_mem hp
  rcases lo_last (p := ps[i]) with e | ⟨_, e⟩
  · exact (h i j hi hj _ b e hb).1
  · omega
theorem lo_le {p : S24 × Int} (hv : valB p.1.f0 p.1.f1 p.1.f2 = true) (hd : p.1.f0 ≤ p.2 ∧ p.2 ≤ toP p.1) : loP p ≤ 1048576 := by
  unfold loP
  unfold toP at hd
  split
  · obtain ⟨n, hn⟩ := Int.eq_ofNat_of_zero_le (show 0 ≤ p.2 - p.1.f0 - 1 from by omega)
    rw [hn, rd_getElem _ n (by omega)]
    exact ((val_all hv).2 _ (List.getElem_mem _)).2
  · omega

/-! ### least at a price -/
theorem sm_up (l : List Int) (q : Int) (t u : Nat) (htu : t ≤ u) (hu : u ≤ l.length) (h : ∀ (k : Nat) (hk : k < l.length), t ≤ k → q ≤ l[k]) : sm l t + q * ((u - t : Nat) : Int) ≤ sm l u := by
  induction u with
  | zero => have : t = 0 := by omega
            subst this
            simp
  | succ u ih =>
    by_cases e : t = u + 1
    · subst e; simp
    · have := ih (by omega) (by omega)
      have h2 := h u (by omega) (by omega)
      rw [sm_succ l u (by omega)]
      rw [show ((u + 1 - t : Nat) : Int) = ((u - t : Nat) : Int) + 1 from by omega, Int.mul_add]
      omega
theorem sm_down (l : List Int) (q : Int) (t u : Nat) (htu : u ≤ t) (ht : t ≤ l.length) (h : ∀ (k : Nat) (hk : k < l.length), k < t → l[k] ≤ q) : sm l t ≤ sm l u + q * ((t - u : Nat) : Int) := by
  induction t with
  | zero => have : u = 0 := by omega
            subst this
            simp
  | succ t ih =>
    by_cases e : u = t + 1
    · subst e; simp
    · have := ih (by omega) (by omega) (fun k hk hkt => h k hk (by omega))
      have h2 := h t (by omega) (by omega)
      rw [sm_succ l t (by omega)]
      rw [show ((t + 1 - u : Nat) : Int) = ((t - u : Nat) : Int) + 1 from by omega, Int.mul_add]
      omega
/-- At x the curve less q times the number is least. -/
def LeastAt (c : S24) (q x : Int) : Prop := ∀ y, c.f0 ≤ y → y ≤ toP c → valP (c, x) - q * x ≤ valP (c, y) - q * y
theorem valP_eq {c : S24} (hv : valB c.f0 c.f1 c.f2 = true) (x : Int) : valP (c, x) = c.f1 + sm c.f2 (x - c.f0).toNat := by
  have h := val_from hv
  unfold valP
  exact addup_take c.f1 c.f2 (x - c.f0).toNat (by omega) (by omega) (fun s hs => by have := (val_all hv).2 s hs; omega)
theorem leastAt_of {c : S24} {q x : Int} (hv : valB c.f0 c.f1 c.f2 = true) (hd : c.f0 ≤ x ∧ x ≤ toP c) (hlo : loP (c, x) ≤ q) (hq : -1048576 ≤ q) (hhi : ∀ b, keyP (c, x) = some b → q ≤ b) : LeastAt c q x := by
  intro y hy1 hy2
  rw [valP_eq hv, valP_eq hv]
  unfold toP at hd hy2
  have hs := (val_all hv).1
  obtain ⟨t, ht⟩ := Int.eq_ofNat_of_zero_le (show 0 ≤ x - c.f0 from by omega)
  obtain ⟨u, hu⟩ := Int.eq_ofNat_of_zero_le (show 0 ≤ y - c.f0 from by omega)
  rw [ht, hu, Int.toNat_natCast, Int.toNat_natCast]
  have hx : x = c.f0 + (t : Int) := by omega
  have hy : y = c.f0 + (u : Int) := by omega
  rw [hx, hy, Int.mul_add, Int.mul_add]
  rcases Nat.le_total t u with htu | htu
  · have h1 := sm_up c.f2 q t u htu (by omega) (fun k hk hkt => by
      have hb : keyP (c, x) = some c.f2[t] := by
        unfold keyP nextK
        simp only
        rw [if_pos (by omega), ht, rd_getElem _ t (by omega)]
      have h2 := hhi _ hb
      by_cases e : t = k
      · subst e; exact h2
      · have := List.pairwise_iff_getElem.1 hs t k (by omega) hk (by omega)
        omega)
    have e : q * ((u - t : Nat) : Int) = q * (u : Int) - q * (t : Int) := by
      rw [← Int.mul_sub]
      congr 1
      omega
    omega
  · have h1 := sm_down c.f2 q t u htu (by omega) (fun k hk hkt => by
      have hl : loP (c, x) = c.f2[t - 1] := by
        unfold loP
        simp only
        rw [if_pos (by omega), show x - c.f0 - 1 = ((t - 1 : Nat) : Int) from by omega, rd_getElem _ (t - 1) (by omega)]
      rw [hl] at hlo
      by_cases e : k = t - 1
      · subst e; exact hlo
      · have := List.pairwise_iff_getElem.1 hs k (t - 1) hk (by omega) (by omega)
        omega)
    have e : q * ((t - u : Nat) : Int) = q * (t : Int) - q * (u : Int) := by
      rw [← Int.mul_sub]
      congr 1
      omega
    omega
end Go.Proofs.Ytfeeaipbmpmpgaa.PX

namespace Go.Proofs.Ytfeeaipbmpmpgaa.PX
open Go.RowKit Go.Proofs.YtfeeaipbmpmpgaaW.PrintWords Go.Proofs.YtfeeaipbmpmpgaaW.PrintLast Go.Proofs.YtfeeaipbmpmpgaaW.PrintMore
attribute [local go_sem] max2_int min2_int max_two min_two max_three min_three max_four min_four   -- for this text's walks alone
set_option linter.unusedVariables false
set_option linter.unusedSimpArgs false
/-! ### kimberliteref03_Row_To: function 65 -/
def kimberliteref03_Row_To.f (a0_0 : Int) (l0_1 : List Int) : Option (Int) := some (wrap64 ((wrap64 (a0_0 + (l0_1.length : Int))) - 1))
set_option maxHeartbeats 8000000 in
set_option maxRecDepth 100000 in
theorem kimberliteref03_Row_To.calls (a0_0 : Int) (A0_1 : Option Addr) (c0_1 : Nat) (l0_1 : List Int) (r : Int) (w : World) (hr0_1 : Kd.C (Kd.int .i64) w A0_1 l0_1.length l0_1) (hc0_1 : l0_1.length ≤ c0_1) (h : kimberliteref03_Row_To.f a0_0 l0_1 = some r) :
  Calls Try.prog 65 #[.agg #[.int .i64 a0_0, .slice A0_1 l0_1.length c0_1]] w fun e w' => e = .returned (.int .i64 r) ∧ Below w.heap.size w w' := by
 have hu78 := Try.underlying78
 have HR0_1 := zA hr0_1
 have HC0_1 := zA hc0_1
 clear hr0_1 hc0_1
 have HB := zA (Below.refl w.heap.size w)
 have H : (some (wrap64 ((wrap64 (a0_0 + (l0_1.length : Int))) - 1))) = some r := h
 clear h
 obtain rfl := Option.some.inj H
 go_enter Try.func65, Try.ntmps65
 go_wp2_with (first | ((with_reducible refine gate_dst (N := 1) rfl ?_); refine box_event ?hg (N := 1) ?hd (cs := #[.int .i64 a0_0, .slice A0_1 l0_1.length c0_1]) (t := 78) ?hr ?_; (case hd => rfl); (case hg => rfl); (case hr => first | (go_simp; done) | (go_simp; rfl)); intro gA hg w2 hbox hb; have n0_ := zA (below_step (by repeat (first | (with_reducible first | exact HB.out | apply zW | apply zX | apply zY) | exact HB.out)) hb); have n1_ := zA (hbox); have n2_ := zA ((by rw [hg]; exact (below_size (by repeat (first | (with_reducible first | exact HB.out | apply zW | apply zX | apply zY) | exact HB.out))) : w.heap.size ≤ gA)); have n3_ := zA ((by rw [hg]; exact (below_size (by repeat (first | (with_reducible first | exact HB.out | apply zW | apply zX | apply zY) | exact HB.out))) : w.heap.size ≤ gA)); clear HB; have HB := n0_; have BK4t := n1_; have GW4t := n2_; have GE4t := n3_; clear n0_ n1_ n2_ n3_; clear hb hbox hg; have hcz3_0 : w2.cell? ⟨gA, 0, none⟩ = some (.int .i64 a0_0) := (blk_cell BK4t.out 0).trans rfl; have hcz3_1 : w2.cell? ⟨gA, 1, none⟩ = some (.slice A0_1 l0_1.length c0_1) := (blk_cell BK4t.out 1).trans rfl; have hfz3_0 := blk_frozen BK4t.out 0; have hfz3_1 := blk_frozen BK4t.out 1))
 go_ret
 exact ⟨by first | rfl | (simp [errW_none, errW_some] <;> rfl) | (simp [*, errW_none, errW_some] <;> rfl), by repeat (first | (with_reducible first | exact HB.out | apply zW | apply zX | apply zY | refine zS ?_ GE4t.out) | exact HB.out)⟩
end Go.Proofs.Ytfeeaipbmpmpgaa.PX

namespace Go.Proofs.Ytfeeaipbmpmpgaa.PX
open Go.RowKit Go.Proofs.YtfeeaipbmpmpgaaW.PrintWords Go.Proofs.YtfeeaipbmpmpgaaW.PrintLast Go.Proofs.YtfeeaipbmpmpgaaW.PrintMore
attribute [local go_sem] max2_int min2_int max_two min_two max_three min_three max_four min_four   -- for this text's walks alone
set_option linter.unusedVariables false
set_option linter.unusedSimpArgs false
/-! ### kimberliteref03_Row_Value: function 68 -/
def kimberliteref03_Row_Value.f (a0_0 : Int) (l0_1 : List Int) (a1 : Int) : Option (Int) := if 0 ≤ (wrap64 (a1 - a0_0)) then (if (wrap64 (a1 - a0_0)) < (l0_1.length : Int) then (some (rd l0_1 (wrap64 (a1 - a0_0)))) else (none)) else (none)
set_option maxHeartbeats 8000000 in
set_option maxRecDepth 100000 in
theorem kimberliteref03_Row_Value.calls (a0_0 : Int) (A0_1 : Option Addr) (c0_1 : Nat) (l0_1 : List Int) (a1 : Int) (r : Int) (w : World) (hr0_1 : Kd.C (Kd.int .i64) w A0_1 l0_1.length l0_1) (hc0_1 : l0_1.length ≤ c0_1) (h : kimberliteref03_Row_Value.f a0_0 l0_1 a1 = some r) :
  Calls Try.prog 68 #[.agg #[.int .i64 a0_0, .slice A0_1 l0_1.length c0_1], .int .i64 a1] w fun e w' => e = .returned (.int .i64 r) ∧ Below w.heap.size w w' := by
 have hu78 := Try.underlying78
 have HR0_1 := zA hr0_1
 have HC0_1 := zA hc0_1
 clear hr0_1 hc0_1
 have HB := zA (Below.refl w.heap.size w)
 have H : (if 0 ≤ (wrap64 (a1 - a0_0)) then (if (wrap64 (a1 - a0_0)) < (l0_1.length : Int) then (some (rd l0_1 (wrap64 (a1 - a0_0)))) else (none)) else (none)) = some r := h
 clear h
 obtain ⟨ji3, hji3⟩ : ∃ j_ : Int, (wrap64 (a1 - a0_0)) = j_ := ⟨_, rfl⟩
 replace H : (if 0 ≤ (ji3) then (if (ji3) < (l0_1.length : Int) then (some (rd l0_1 (ji3))) else (none)) else (none)) = some r := by first | (rw [hji3] at H; exact H) | (simp only [hji3] at H ⊢; exact H)
 have hji3w : (IntKind.i64.wrap (a1 - a0_0)) = ji3 := (i64_w _).trans hji3
 by_cases c4 : 0 ≤ (ji3)
 ·
  rw [if_pos c4] at H
  have c4b0 : decide (0 ≤ (ji3)) = true := decide_eq_true c4
  clear c4
  by_cases c5 : (ji3) < (l0_1.length : Int)
  ·
   rw [if_pos c5] at H
   have c5b0 : decide ((ji3) < (l0_1.length : Int)) = true := decide_eq_true c5
   clear c5
   obtain rfl := Option.some.inj H
   go_enter Try.func68, Try.ntmps68
   go_wp2_with (first | ((with_reducible refine gate_dst (N := 2) rfl ?_); refine box_event ?hg (N := 2) ?hd (cs := #[.int .i64 a0_0, .slice A0_1 l0_1.length c0_1]) (t := 78) ?hr ?_; (case hd => rfl); (case hg => rfl); (case hr => first | (go_simp; done) | (go_simp; rfl)); intro gA hg w6 hbox hb; have n0_ := zA (below_step (by repeat (first | (with_reducible first | exact HB.out | apply zW | apply zX | apply zY) | exact HB.out)) hb); have n1_ := zA (hbox); have n2_ := zA ((by rw [hg]; exact (below_size (by repeat (first | (with_reducible first | exact HB.out | apply zW | apply zX | apply zY) | exact HB.out))) : w.heap.size ≤ gA)); have n3_ := zA ((by rw [hg]; exact (below_size (by repeat (first | (with_reducible first | exact HB.out | apply zW | apply zX | apply zY) | exact HB.out))) : w.heap.size ≤ gA)); clear HB; have HB := n0_; have BK4u := n1_; have GW4u := n2_; have GE4u := n3_; clear n0_ n1_ n2_ n3_; clear hb hbox hg; have hcz7_0 : w6.cell? ⟨gA, 0, none⟩ = some (.int .i64 a0_0) := (blk_cell BK4u.out 0).trans rfl; have hcz7_1 : w6.cell? ⟨gA, 1, none⟩ = some (.slice A0_1 l0_1.length c0_1) := (blk_cell BK4u.out 1).trans rfl; have hfz7_0 := blk_frozen BK4u.out 0; have hfz7_1 := blk_frozen BK4u.out 1; have p305 : 0 ≤ ((ji3) : Int) := of_decide_eq_true (by first | (with_reducible assumption) | assumption); have q305 : (ji3) < (l0_1.length : Int) := of_decide_eq_true (by first | (with_reducible assumption) | assumption); obtain ⟨ad305, e305, hx305_0⟩ := Kd.at_int HR0_1.out (ji3) p305 q305; cases e305; replace hx305_0 := (HB.out.cell (World.block_lt_of_cell? w _ hx305_0)).trans hx305_0; replace p305 := eq_true p305; replace q305 := eq_true q305))
   go_ret
   exact ⟨by first | rfl | (simp [errW_none, errW_some] <;> rfl) | (simp only [← hji3]; first | rfl | (simp [errW_none, errW_some] <;> rfl)) | (simp [*, errW_none, errW_some] <;> rfl), by repeat (first | (with_reducible first | exact HB.out | apply zW | apply zX | apply zY | refine zS ?_ GE4u.out) | exact HB.out)⟩
  ·
   rw [if_neg c5] at H
   exact absurd H (by simp)
 ·
  rw [if_neg c4] at H
  exact absurd H (by simp)
end Go.Proofs.Ytfeeaipbmpmpgaa.PX

namespace Go.Proofs.Ytfeeaipbmpmpgaa.PX
open Go.RowKit Go.Proofs.YtfeeaipbmpmpgaaW.PrintWords Go.Proofs.YtfeeaipbmpmpgaaW.PrintLast Go.Proofs.YtfeeaipbmpmpgaaW.PrintMore
attribute [local go_sem] max2_int min2_int max_two min_two max_three min_three max_four min_four   -- for this text's walks alone
set_option linter.unusedVariables false
set_option linter.unusedSimpArgs false
/-! ### kimberliteref03_Greatest: function 63 -/
def kimberliteref03_Greatest.l0 : Nat → Int → Int → Int → Int → List Int → Option (Int)
 | 0, _, _, _, _, _ => none
 | k + 1, x1, x5, x6, x307000, x307001 => (kimberliteref03_Row_To.f x307000 x307001).bind fun t308 => (if x6 ≤ t308 then ((kimberliteref03_Row_Value.f x307000 x307001 x6).bind fun t309 => (kimberliteref03_Greatest.l0 k x1 (mx x5 (wrap64 ((wrap64 (x1 * x6)) - t309))) (wrap64 (x6 + 1)) x307000 x307001)) else (some x5))
def kimberliteref03_Greatest.f (k : Nat) (a0_0 : Int) (l0_1 : List Int) (a1 : Int) : Option (Int) := if 0 < (l0_1.length : Int) then (kimberliteref03_Greatest.l0 k a1 (wrap64 ((wrap64 (a1 * a0_0)) - (rd l0_1 0))) a0_0 a0_0 l0_1) else (none)
theorem kimberliteref03_Greatest.mono_l : ∀ k, (∀ y0 y1 y2 y3 y4, LeO (kimberliteref03_Greatest.l0 k y0 y1 y2 y3 y4) (kimberliteref03_Greatest.l0 (k + 1) y0 y1 y2 y3 y4))
 | 0 => fun _ _ _ _ _ r h => by simp [kimberliteref03_Greatest.l0] at h
 | k + 1 => by
  have ih0 := kimberliteref03_Greatest.mono_l k
  ·
   intro y0 y1 y2 y3 y4
   unfold kimberliteref03_Greatest.l0
   repeat' first
   | (with_reducible exact ih0 _ _ _ _ _)
   | (with_reducible exact LeO.refl _)
   | (with_reducible exact LeO.none _)
   | (with_reducible refine LeO.ite ?_ ?_)
   | (with_reducible refine LeO.bind ?_ (fun _ => ?_))
   | exact ih0 _ _ _ _ _
   | exact LeO.none _
   | refine LeO.ite ?_ ?_
   | refine LeO.bind ?_ (fun _ => ?_)
theorem kimberliteref03_Greatest.mono : ∀ a0 a1 a2 k, LeO (kimberliteref03_Greatest.f k a0 a1 a2) (kimberliteref03_Greatest.f (k + 1) a0 a1 a2) := by
 intro a0 a1 a2 k
 have ih0 := kimberliteref03_Greatest.mono_l k
 unfold kimberliteref03_Greatest.f
 repeat' first
   | (with_reducible exact ih0 _ _ _ _ _)
   | (with_reducible exact LeO.refl _)
   | (with_reducible exact LeO.none _)
   | (with_reducible refine LeO.ite ?_ ?_)
   | (with_reducible refine LeO.bind ?_ (fun _ => ?_))
   | exact ih0 _ _ _ _ _
   | exact LeO.none _
   | refine LeO.ite ?_ ?_
   | refine LeO.bind ?_ (fun _ => ?_)
set_option maxHeartbeats 8000000 in
set_option maxRecDepth 100000 in
theorem kimberliteref03_Greatest.calls (k : Nat) (a0_0 : Int) (A0_1 : Option Addr) (c0_1 : Nat) (l0_1 : List Int) (a1 : Int) (r : Int) (w : World) (hr0_1 : Kd.C (Kd.int .i64) w A0_1 l0_1.length l0_1) (hc0_1 : l0_1.length ≤ c0_1) (h : kimberliteref03_Greatest.f k a0_0 l0_1 a1 = some r) :
  Calls Try.prog 63 #[.agg #[.int .i64 a0_0, .slice A0_1 l0_1.length c0_1], .int .i64 a1] w fun e w' => e = .returned (.int .i64 r) ∧ Below w.heap.size w w' := by
 have hu78 := Try.underlying78
 have HR0_1 := zA hr0_1
 have HC0_1 := zA hc0_1
 clear hr0_1 hc0_1
 have HB := zA (Below.refl w.heap.size w)
 have H : (if 0 < (l0_1.length : Int) then (kimberliteref03_Greatest.l0 k a1 (wrap64 ((wrap64 (a1 * a0_0)) - (rd l0_1 0))) a0_0 a0_0 l0_1) else (none)) = some r := h
 clear h
 by_cases c3 : 0 < (l0_1.length : Int)
 ·
  rw [if_pos c3] at H
  have c3b0 : decide (0 < (l0_1.length : Int)) = true := decide_eq_true c3
  have c3b1 : decide (0 < l0_1.length) = true := decide_eq_true (by omega)
  clear c3
  have H' := zA H
  clear H
  go_enter Try.func63, Try.ntmps63
  go_wp2_with (first | ((with_reducible refine gate_dst (N := 2) rfl ?_); refine box_event ?hg (N := 2) ?hd (cs := #[.int .i64 a0_0, .slice A0_1 l0_1.length c0_1]) (t := 78) ?hr ?_; (case hd => rfl); (case hg => rfl); (case hr => first | (go_simp; done) | (go_simp; rfl)); intro gA hg w4 hbox hb; have n0_ := zA (below_step (by repeat (first | (with_reducible first | exact HB.out | apply zW | apply zX | apply zY) | exact HB.out)) hb); have n1_ := zA (hbox); have n2_ := zA ((by rw [hg]; exact (below_size (by repeat (first | (with_reducible first | exact HB.out | apply zW | apply zX | apply zY) | exact HB.out))) : w.heap.size ≤ gA)); have n3_ := zA ((by rw [hg]; exact (below_size (by repeat (first | (with_reducible first | exact HB.out | apply zW | apply zX | apply zY) | exact HB.out))) : w.heap.size ≤ gA)); clear HB; have HB := n0_; have BK4w := n1_; have GW4w := n2_; have GE4w := n3_; clear n0_ n1_ n2_ n3_; clear hb hbox hg; have hcz5_0 : w4.cell? ⟨gA, 0, none⟩ = some (.int .i64 a0_0) := (blk_cell BK4w.out 0).trans rfl; have hcz5_1 : w4.cell? ⟨gA, 1, none⟩ = some (.slice A0_1 l0_1.length c0_1) := (blk_cell BK4w.out 1).trans rfl; have hfz5_0 := blk_frozen BK4w.out 0; have hfz5_1 := blk_frozen BK4w.out 1; have p307 : 0 ≤ (0 : Int) := (by omega); have q307 : 0 < (l0_1.length : Int) := of_decide_eq_true (by first | (with_reducible assumption) | assumption); obtain ⟨ad307, e307, hx307_0⟩ := Kd.at_int HR0_1.out 0 p307 q307; cases e307; have qi307 : (0 < l0_1.length) = True := eq_true (by omega); (try rw [show ((0 : Int)).toNat = 0 from rfl] at hx307_0); (try rw [Addr.add_zero'] at hx307_0); replace hx307_0 := (HB.out.cell (World.block_lt_of_cell? w _ hx307_0)).trans hx307_0; replace p307 := eq_true p307; replace q307 := eq_true q307))
  repeat (go_quiet (first | ((with_reducible refine gate_dst (N := 2) rfl ?_); refine box_event ?hg (N := 2) ?hd (cs := #[.int .i64 a0_0, .slice A0_1 l0_1.length c0_1]) (t := 78) ?hr ?_; (case hd => rfl); (case hg => rfl); (case hr => first | (go_simp; done) | (go_simp; rfl)); intro gA hg w4 hbox hb; have n0_ := zA (below_step (by repeat (first | (with_reducible first | exact HB.out | apply zW | apply zX | apply zY) | exact HB.out)) hb); have n1_ := zA (hbox); have n2_ := zA ((by rw [hg]; exact (below_size (by repeat (first | (with_reducible first | exact HB.out | apply zW | apply zX | apply zY) | exact HB.out))) : w.heap.size ≤ gA)); have n3_ := zA ((by rw [hg]; exact (below_size (by repeat (first | (with_reducible first | exact HB.out | apply zW | apply zX | apply zY) | exact HB.out))) : w.heap.size ≤ gA)); clear HB; have HB := n0_; have BK4w := n1_; have GW4w := n2_; have GE4w := n3_; clear n0_ n1_ n2_ n3_; clear hb hbox hg; have hcz5_0 : w4.cell? ⟨gA, 0, none⟩ = some (.int .i64 a0_0) := (blk_cell BK4w.out 0).trans rfl; have hcz5_1 : w4.cell? ⟨gA, 1, none⟩ = some (.slice A0_1 l0_1.length c0_1) := (blk_cell BK4w.out 1).trans rfl; have hfz5_0 := blk_frozen BK4w.out 0; have hfz5_1 := blk_frozen BK4w.out 1; have p307 : 0 ≤ (0 : Int) := (by omega); have q307 : 0 < (l0_1.length : Int) := of_decide_eq_true (by first | (with_reducible assumption) | assumption); obtain ⟨ad307, e307, hx307_0⟩ := Kd.at_int HR0_1.out 0 p307 q307; cases e307; have qi307 : (0 < l0_1.length) = True := eq_true (by omega); (try rw [show ((0 : Int)).toNat = 0 from rfl] at hx307_0); (try rw [Addr.add_zero'] at hx307_0); replace hx307_0 := (HB.out.cell (World.block_lt_of_cell? w _ hx307_0)).trans hx307_0; replace p307 := eq_true p307; replace q307 := eq_true q307)); try go_wp2_with (first | ((with_reducible refine gate_dst (N := 2) rfl ?_); refine box_event ?hg (N := 2) ?hd (cs := #[.int .i64 a0_0, .slice A0_1 l0_1.length c0_1]) (t := 78) ?hr ?_; (case hd => rfl); (case hg => rfl); (case hr => first | (go_simp; done) | (go_simp; rfl)); intro gA hg w4 hbox hb; have n0_ := zA (below_step (by repeat (first | (with_reducible first | exact HB.out | apply zW | apply zX | apply zY) | exact HB.out)) hb); have n1_ := zA (hbox); have n2_ := zA ((by rw [hg]; exact (below_size (by repeat (first | (with_reducible first | exact HB.out | apply zW | apply zX | apply zY) | exact HB.out))) : w.heap.size ≤ gA)); have n3_ := zA ((by rw [hg]; exact (below_size (by repeat (first | (with_reducible first | exact HB.out | apply zW | apply zX | apply zY) | exact HB.out))) : w.heap.size ≤ gA)); clear HB; have HB := n0_; have BK4w := n1_; have GW4w := n2_; have GE4w := n3_; clear n0_ n1_ n2_ n3_; clear hb hbox hg; have hcz5_0 : w4.cell? ⟨gA, 0, none⟩ = some (.int .i64 a0_0) := (blk_cell BK4w.out 0).trans rfl; have hcz5_1 : w4.cell? ⟨gA, 1, none⟩ = some (.slice A0_1 l0_1.length c0_1) := (blk_cell BK4w.out 1).trans rfl; have hfz5_0 := blk_frozen BK4w.out 0; have hfz5_1 := blk_frozen BK4w.out 1; have p307 : 0 ≤ (0 : Int) := (by omega); have q307 : 0 < (l0_1.length : Int) := of_decide_eq_true (by first | (with_reducible assumption) | assumption); obtain ⟨ad307, e307, hx307_0⟩ := Kd.at_int HR0_1.out 0 p307 q307; cases e307; have qi307 : (0 < l0_1.length) = True := eq_true (by omega); (try rw [show ((0 : Int)).toNat = 0 from rfl] at hx307_0); (try rw [Addr.add_zero'] at hx307_0); replace hx307_0 := (HB.out.cell (World.block_lt_of_cell? w _ hx307_0)).trans hx307_0; replace p307 := eq_true p307; replace q307 := eq_true q307)))
  go_loopg [5, 6] k (fun kq v5 v6 w' => ∃ (x5_1 : Int) (x6_1 : Int), v5 = .int .i64 x5_1 ∧ v6 = .int .i64 x6_1 ∧ Aside0 (kimberliteref03_Greatest.l0 kq a1 x5_1 x6_1 a0_0 l0_1 = some r) ∧ Aside0 (kq ≤ k) ∧ Aside0 (w'.heap[gA]? = some (.cells #[.int .i64 a0_0, (.slice (some ad307) l0_1.length c0_1)] 78 (0, 0))) ∧ Aside0 (Below w.heap.size w w'))
  case atStart => exact ⟨(wrap64 ((wrap64 (a1 * a0_0)) - (rd l0_1 0))), (a0_0), (by first | rfl | (simp; done) | (simp [*]; done)), (by first | rfl | (simp; done) | (simp [*]; done)), H', ⟨Nat.le_refl _⟩, ⟨by (with_reducible repeat (first | refine zN ?_ _ | refine zD ?_ | refine zB ?_ _)); exact BK4w.out⟩, ⟨by repeat (first | (with_reducible first | exact HB.out | apply zW | apply zX | apply zY | refine zS ?_ GE4w.out) | exact HB.out)⟩⟩
  case round =>
   clear H'
   try clear p2
   try clear c3
   try clear c3b0
   try clear c3b1
   try clear p3
   try clear q3
   try clear hx3
   try clear qi3
   try clear hcz5_0
   try clear hcz5_1
   try clear hfz5_0
   try clear hfz5_1
   try clear hx307_0
   try clear p307
   try clear q307
   obtain ⟨x5_1, x6_1, rfl, rfl, HA, HK1, BK4w, HB⟩ := hrel
   cases gk with
   | zero => exact absurd HA.out (by simp [kimberliteref03_Greatest.l0])
   | succ k1 =>
    have H := HA.out
    clear HA
    simp only [kimberliteref03_Greatest.l0] at H
    replace H := Option.bind_eq_some_iff.mp H
    obtain ⟨t308, A60, H⟩ := H
    replace H : (if x6_1 ≤ t308 then ((kimberliteref03_Row_Value.f a0_0 l0_1 x6_1).bind fun t309 => (kimberliteref03_Greatest.l0 k1 a1 (mx x5_1 (wrap64 ((wrap64 (a1 * x6_1)) - t309))) (wrap64 (x6_1 + 1)) a0_0 l0_1)) else (some x5_1)) = some r := H
    have A6 := zA A60
    clear A60
    by_cases c7 : x6_1 ≤ t308
    ·
     rw [if_pos c7] at H
     have c7b0 : decide (x6_1 ≤ t308) = true := decide_eq_true c7
     clear c7
     replace H := Option.bind_eq_some_iff.mp H
     obtain ⟨t309, A80, H⟩ := H
     replace H : (kimberliteref03_Greatest.l0 k1 a1 (mx x5_1 (wrap64 ((wrap64 (a1 * x6_1)) - t309))) (wrap64 (x6_1 + 1)) a0_0 l0_1) = some r := H
     have A8 := zA A80
     clear A80
     obtain ⟨ji9, hji9⟩ : ∃ j_ : Int, (mx x5_1 (wrap64 ((wrap64 (a1 * x6_1)) - t309))) = j_ := ⟨_, rfl⟩
     replace H : (kimberliteref03_Greatest.l0 k1 a1 ji9 (wrap64 (x6_1 + 1)) a0_0 l0_1) = some r := by first | (rw [hji9] at H; exact H) | (simp only [hji9] at H ⊢; exact H)
     (try rw [hji9] at A6)
     (try rw [hji9] at A8)
     have hji9_ : (if x5_1 < (wrap64 ((wrap64 (a1 * x6_1)) - t309)) then (wrap64 ((wrap64 (a1 * x6_1)) - t309)) else x5_1) = ji9 := hji9
     have H' := zA H
     clear H
     have hcz10_0 : wr.cell? ⟨gA, 0, none⟩ = some (.int .i64 a0_0) := (blk_cell BK4w.out 0).trans rfl
     have hcz10_1 : wr.cell? ⟨gA, 1, none⟩ = some (.slice (some ad307) l0_1.length c0_1) := (blk_cell BK4w.out 1).trans rfl
     have hfz10_0 := blk_frozen BK4w.out 0
     have hfz10_1 := blk_frozen BK4w.out 1
     go_wp2_with (first | (go_at_call 65; (with_reducible refine (kimberliteref03_Row_To.calls a0_0 _ _ l0_1 t308 _ ?side1 ?side2 A6.out).mono ?_); (case side1 => repeat (first | exact (Kd.C_below HR0_1.out HB.out) | (with_reducible refine Kd.C_alloc ?_ _) | (with_reducible refine Kd.C_drewN ?_ _) | (with_reducible refine Kd.C_drew ?_))); (case side2 => exact HC0_1.out); rintro e w11 ⟨rfl, hb⟩; have n0_ := zA (blk_below (g := gA) (o := .cells #[.int .i64 a0_0, .slice (some ad307) l0_1.length c0_1] 78 (0, 0)) (by (with_reducible repeat (first | refine zN ?_ _ | refine zD ?_ | refine zB ?_ _)); exact BK4w.out) hb); have n1_ := zA (below_step (by repeat (first | (with_reducible first | exact HB.out | apply zW | apply zX | apply zY | refine zS ?_ GE4w.out) | exact HB.out)) hb); clear BK4w; clear HB; have BK4w := n0_; have HB := n1_; clear n0_ n1_; (try clear hb); (try clear hb2); (try clear hk); (try clear hi); have hcz12_0 : w11.cell? ⟨gA, 0, none⟩ = some (.int .i64 a0_0) := (blk_cell BK4w.out 0).trans rfl; have hcz12_1 : w11.cell? ⟨gA, 1, none⟩ = some (.slice (some ad307) l0_1.length c0_1) := (blk_cell BK4w.out 1).trans rfl; have hfz12_0 := blk_frozen BK4w.out 0; have hfz12_1 := blk_frozen BK4w.out 1) | (go_at_call 68; (with_reducible refine (kimberliteref03_Row_Value.calls a0_0 _ _ l0_1 x6_1 t309 _ ?side1 ?side2 A8.out).mono ?_); (case side1 => repeat (first | exact (Kd.C_below HR0_1.out HB.out) | (with_reducible refine Kd.C_alloc ?_ _) | (with_reducible refine Kd.C_drewN ?_ _) | (with_reducible refine Kd.C_drew ?_))); (case side2 => exact HC0_1.out); rintro e w13 ⟨rfl, hb⟩; have n0_ := zA (blk_below (g := gA) (o := .cells #[.int .i64 a0_0, .slice (some ad307) l0_1.length c0_1] 78 (0, 0)) (by (with_reducible repeat (first | refine zN ?_ _ | refine zD ?_ | refine zB ?_ _)); exact BK4w.out) hb); have n1_ := zA (below_step (by repeat (first | (with_reducible first | exact HB.out | apply zW | apply zX | apply zY | refine zS ?_ GE4w.out) | exact HB.out)) hb); clear BK4w; clear HB; have BK4w := n0_; have HB := n1_; clear n0_ n1_; (try clear hb); (try clear hb2); (try clear hk); (try clear hi)))
     repeat (go_quiet (first | (go_at_call 65; (with_reducible refine (kimberliteref03_Row_To.calls a0_0 _ _ l0_1 t308 _ ?side1 ?side2 A6.out).mono ?_); (case side1 => repeat (first | exact (Kd.C_below HR0_1.out HB.out) | (with_reducible refine Kd.C_alloc ?_ _) | (with_reducible refine Kd.C_drewN ?_ _) | (with_reducible refine Kd.C_drew ?_))); (case side2 => exact HC0_1.out); rintro e w11 ⟨rfl, hb⟩; have n0_ := zA (blk_below (g := gA) (o := .cells #[.int .i64 a0_0, .slice (some ad307) l0_1.length c0_1] 78 (0, 0)) (by (with_reducible repeat (first | refine zN ?_ _ | refine zD ?_ | refine zB ?_ _)); exact BK4w.out) hb); have n1_ := zA (below_step (by repeat (first | (with_reducible first | exact HB.out | apply zW | apply zX | apply zY | refine zS ?_ GE4w.out) | exact HB.out)) hb); clear BK4w; clear HB; have BK4w := n0_; have HB := n1_; clear n0_ n1_; (try clear hb); (try clear hb2); (try clear hk); (try clear hi); have hcz12_0 : w11.cell? ⟨gA, 0, none⟩ = some (.int .i64 a0_0) := (blk_cell BK4w.out 0).trans rfl; have hcz12_1 : w11.cell? ⟨gA, 1, none⟩ = some (.slice (some ad307) l0_1.length c0_1) := (blk_cell BK4w.out 1).trans rfl; have hfz12_0 := blk_frozen BK4w.out 0; have hfz12_1 := blk_frozen BK4w.out 1) | (go_at_call 68; (with_reducible refine (kimberliteref03_Row_Value.calls a0_0 _ _ l0_1 x6_1 t309 _ ?side1 ?side2 A8.out).mono ?_); (case side1 => repeat (first | exact (Kd.C_below HR0_1.out HB.out) | (with_reducible refine Kd.C_alloc ?_ _) | (with_reducible refine Kd.C_drewN ?_ _) | (with_reducible refine Kd.C_drew ?_))); (case side2 => exact HC0_1.out); rintro e w13 ⟨rfl, hb⟩; have n0_ := zA (blk_below (g := gA) (o := .cells #[.int .i64 a0_0, .slice (some ad307) l0_1.length c0_1] 78 (0, 0)) (by (with_reducible repeat (first | refine zN ?_ _ | refine zD ?_ | refine zB ?_ _)); exact BK4w.out) hb); have n1_ := zA (below_step (by repeat (first | (with_reducible first | exact HB.out | apply zW | apply zX | apply zY | refine zS ?_ GE4w.out) | exact HB.out)) hb); clear BK4w; clear HB; have BK4w := n0_; have HB := n1_; clear n0_ n1_; (try clear hb); (try clear hb2); (try clear hk); (try clear hi))); try go_wp2_with (first | (go_at_call 65; (with_reducible refine (kimberliteref03_Row_To.calls a0_0 _ _ l0_1 t308 _ ?side1 ?side2 A6.out).mono ?_); (case side1 => repeat (first | exact (Kd.C_below HR0_1.out HB.out) | (with_reducible refine Kd.C_alloc ?_ _) | (with_reducible refine Kd.C_drewN ?_ _) | (with_reducible refine Kd.C_drew ?_))); (case side2 => exact HC0_1.out); rintro e w11 ⟨rfl, hb⟩; have n0_ := zA (blk_below (g := gA) (o := .cells #[.int .i64 a0_0, .slice (some ad307) l0_1.length c0_1] 78 (0, 0)) (by (with_reducible repeat (first | refine zN ?_ _ | refine zD ?_ | refine zB ?_ _)); exact BK4w.out) hb); have n1_ := zA (below_step (by repeat (first | (with_reducible first | exact HB.out | apply zW | apply zX | apply zY | refine zS ?_ GE4w.out) | exact HB.out)) hb); clear BK4w; clear HB; have BK4w := n0_; have HB := n1_; clear n0_ n1_; (try clear hb); (try clear hb2); (try clear hk); (try clear hi); have hcz12_0 : w11.cell? ⟨gA, 0, none⟩ = some (.int .i64 a0_0) := (blk_cell BK4w.out 0).trans rfl; have hcz12_1 : w11.cell? ⟨gA, 1, none⟩ = some (.slice (some ad307) l0_1.length c0_1) := (blk_cell BK4w.out 1).trans rfl; have hfz12_0 := blk_frozen BK4w.out 0; have hfz12_1 := blk_frozen BK4w.out 1) | (go_at_call 68; (with_reducible refine (kimberliteref03_Row_Value.calls a0_0 _ _ l0_1 x6_1 t309 _ ?side1 ?side2 A8.out).mono ?_); (case side1 => repeat (first | exact (Kd.C_below HR0_1.out HB.out) | (with_reducible refine Kd.C_alloc ?_ _) | (with_reducible refine Kd.C_drewN ?_ _) | (with_reducible refine Kd.C_drew ?_))); (case side2 => exact HC0_1.out); rintro e w13 ⟨rfl, hb⟩; have n0_ := zA (blk_below (g := gA) (o := .cells #[.int .i64 a0_0, .slice (some ad307) l0_1.length c0_1] 78 (0, 0)) (by (with_reducible repeat (first | refine zN ?_ _ | refine zD ?_ | refine zB ?_ _)); exact BK4w.out) hb); have n1_ := zA (below_step (by repeat (first | (with_reducible first | exact HB.out | apply zW | apply zX | apply zY | refine zS ?_ GE4w.out) | exact HB.out)) hb); clear BK4w; clear HB; have BK4w := n0_; have HB := n1_; clear n0_ n1_; (try clear hb); (try clear hb2); (try clear hk); (try clear hi))))
     go_roundg k1
     case measure => have := HK1.out; omega
     case rel => exact ⟨(ji9), (wrap64 (x6_1 + 1)), (by first | rfl | (simp; done) | (simp only [← hji9] <;> (first | rfl | simp)) | (simp [*]; done)), (by first | rfl | (simp; done) | (simp [*]; done)), H', ⟨by have := HK1.out; omega⟩, ⟨by (with_reducible repeat (first | refine zN ?_ _ | refine zD ?_ | refine zB ?_ _)); exact BK4w.out⟩, ⟨by repeat (first | (with_reducible first | exact HB.out | apply zW | apply zX | apply zY | refine zS ?_ GE4w.out) | exact HB.out)⟩⟩
    ·
     rw [if_neg c7] at H
     have c7b0 : decide (x6_1 ≤ t308) = false := decide_eq_false c7
     clear c7
     obtain rfl := Option.some.inj H
     have hcz14_0 : wr.cell? ⟨gA, 0, none⟩ = some (.int .i64 a0_0) := (blk_cell BK4w.out 0).trans rfl
     have hcz14_1 : wr.cell? ⟨gA, 1, none⟩ = some (.slice (some ad307) l0_1.length c0_1) := (blk_cell BK4w.out 1).trans rfl
     have hfz14_0 := blk_frozen BK4w.out 0
     have hfz14_1 := blk_frozen BK4w.out 1
     go_wp2_with (first | (go_at_call 65; (with_reducible refine (kimberliteref03_Row_To.calls a0_0 _ _ l0_1 t308 _ ?side1 ?side2 A6.out).mono ?_); (case side1 => repeat (first | exact (Kd.C_below HR0_1.out HB.out) | (with_reducible refine Kd.C_alloc ?_ _) | (with_reducible refine Kd.C_drewN ?_ _) | (with_reducible refine Kd.C_drew ?_))); (case side2 => exact HC0_1.out); rintro e w15 ⟨rfl, hb⟩; have n0_ := zA (blk_below (g := gA) (o := .cells #[.int .i64 a0_0, .slice (some ad307) l0_1.length c0_1] 78 (0, 0)) (by (with_reducible repeat (first | refine zN ?_ _ | refine zD ?_ | refine zB ?_ _)); exact BK4w.out) hb); have n1_ := zA (below_step (by repeat (first | (with_reducible first | exact HB.out | apply zW | apply zX | apply zY | refine zS ?_ GE4w.out) | exact HB.out)) hb); clear BK4w; clear HB; have BK4w := n0_; have HB := n1_; clear n0_ n1_; (try clear hb); (try clear hb2); (try clear hk); (try clear hi)))
     repeat (go_quiet (first | (go_at_call 65; (with_reducible refine (kimberliteref03_Row_To.calls a0_0 _ _ l0_1 t308 _ ?side1 ?side2 A6.out).mono ?_); (case side1 => repeat (first | exact (Kd.C_below HR0_1.out HB.out) | (with_reducible refine Kd.C_alloc ?_ _) | (with_reducible refine Kd.C_drewN ?_ _) | (with_reducible refine Kd.C_drew ?_))); (case side2 => exact HC0_1.out); rintro e w15 ⟨rfl, hb⟩; have n0_ := zA (blk_below (g := gA) (o := .cells #[.int .i64 a0_0, .slice (some ad307) l0_1.length c0_1] 78 (0, 0)) (by (with_reducible repeat (first | refine zN ?_ _ | refine zD ?_ | refine zB ?_ _)); exact BK4w.out) hb); have n1_ := zA (below_step (by repeat (first | (with_reducible first | exact HB.out | apply zW | apply zX | apply zY | refine zS ?_ GE4w.out) | exact HB.out)) hb); clear BK4w; clear HB; have BK4w := n0_; have HB := n1_; clear n0_ n1_; (try clear hb); (try clear hb2); (try clear hk); (try clear hi))); try go_wp2_with (first | (go_at_call 65; (with_reducible refine (kimberliteref03_Row_To.calls a0_0 _ _ l0_1 t308 _ ?side1 ?side2 A6.out).mono ?_); (case side1 => repeat (first | exact (Kd.C_below HR0_1.out HB.out) | (with_reducible refine Kd.C_alloc ?_ _) | (with_reducible refine Kd.C_drewN ?_ _) | (with_reducible refine Kd.C_drew ?_))); (case side2 => exact HC0_1.out); rintro e w15 ⟨rfl, hb⟩; have n0_ := zA (blk_below (g := gA) (o := .cells #[.int .i64 a0_0, .slice (some ad307) l0_1.length c0_1] 78 (0, 0)) (by (with_reducible repeat (first | refine zN ?_ _ | refine zD ?_ | refine zB ?_ _)); exact BK4w.out) hb); have n1_ := zA (below_step (by repeat (first | (with_reducible first | exact HB.out | apply zW | apply zX | apply zY | refine zS ?_ GE4w.out) | exact HB.out)) hb); clear BK4w; clear HB; have BK4w := n0_; have HB := n1_; clear n0_ n1_; (try clear hb); (try clear hb2); (try clear hk); (try clear hi))))
     go_ret
     exact ⟨by first | rfl | (simp [errW_none, errW_some] <;> rfl) | (simp [*, errW_none, errW_some] <;> rfl), by repeat (first | (with_reducible first | exact HB.out | apply zW | apply zX | apply zY | refine zS ?_ GE4w.out) | exact HB.out)⟩
 ·
  rw [if_neg c3] at H
  exact absurd H (by simp)
end Go.Proofs.Ytfeeaipbmpmpgaa.PX

namespace Go.Proofs.Ytfeeaipbmpmpgaa.PX
open Go.RowKit Go.Proofs.YtfeeaipbmpmpgaaW.PrintWords Go.Proofs.YtfeeaipbmpmpgaaW.PrintLast Go.Proofs.YtfeeaipbmpmpgaaW.PrintMore
attribute [local go_sem] max2_int min2_int max_two min_two max_three min_three max_four min_four   -- for this text's walks alone
set_option linter.unusedVariables false
set_option linter.unusedSimpArgs false
/-! ### kimberliteref03_Out: function 64 -/
def kimberliteref03_Out.l0 : Nat → Int → Int → Int → List Int → Int → List Int → Option (Int × List Int)
 | 0, _, _, _, _, _, _ => none
 | k + 1, x4, x311000, x311001, x311002, x316000, x316001 => if x4 < (x311002.length : Int) then (if 0 ≤ x4 then (if x4 < (x316001.length : Int) then (if x316001.length < 17592186044416 then (kimberliteref03_Out.l0 k (wrap64 (x4 + 1)) x311000 x311001 x311002 x316000 (x316001 ++ [wrap64 ((rd x316001 x4) + (rd x311002 x4))])) else (none)) else (none)) else (none)) else (some (x316000, x316001))
def kimberliteref03_Out.f (k : Nat) (a0_0 : Int) (a0_1 : Int) (l0_2 : List Int) : Option (Int × List Int) := kimberliteref03_Out.l0 k 0 a0_0 a0_1 l0_2 a0_0 (([a0_1] : List Int))
theorem kimberliteref03_Out.mono_l : ∀ k, (∀ y0 y1 y2 y3 y4 y5, LeO (kimberliteref03_Out.l0 k y0 y1 y2 y3 y4 y5) (kimberliteref03_Out.l0 (k + 1) y0 y1 y2 y3 y4 y5))
 | 0 => fun _ _ _ _ _ _ r h => by simp [kimberliteref03_Out.l0] at h
 | k + 1 => by
  have ih0 := kimberliteref03_Out.mono_l k
  ·
   intro y0 y1 y2 y3 y4 y5
   unfold kimberliteref03_Out.l0
   repeat' first
   | (with_reducible exact ih0 _ _ _ _ _ _)
   | (with_reducible exact LeO.refl _)
   | (with_reducible exact LeO.none _)
   | (with_reducible refine LeO.ite ?_ ?_)
   | (with_reducible refine LeO.bind ?_ (fun _ => ?_))
   | exact ih0 _ _ _ _ _ _
   | exact LeO.none _
   | refine LeO.ite ?_ ?_
   | refine LeO.bind ?_ (fun _ => ?_)
theorem kimberliteref03_Out.mono : ∀ a0 a1 a2 k, LeO (kimberliteref03_Out.f k a0 a1 a2) (kimberliteref03_Out.f (k + 1) a0 a1 a2) := by
 intro a0 a1 a2 k
 have ih0 := kimberliteref03_Out.mono_l k
 unfold kimberliteref03_Out.f
 repeat' first
   | (with_reducible exact ih0 _ _ _ _ _ _)
   | (with_reducible exact LeO.refl _)
   | (with_reducible exact LeO.none _)
   | (with_reducible refine LeO.ite ?_ ?_)
   | (with_reducible refine LeO.bind ?_ (fun _ => ?_))
   | exact ih0 _ _ _ _ _ _
   | exact LeO.none _
   | refine LeO.ite ?_ ?_
   | refine LeO.bind ?_ (fun _ => ?_)
def kimberliteref03_Out.T5 : Bool × List (List Nat × List Nat) := (true, [([], []), ([0], [0]), ([], []), ([2], [2]), ([], []), ([3, 4], [3, 4]), ([5], [5]), ([], []), ([7], [7]), ([], []), ([8, 9], [8, 9]), ([10], [10]), ([6, 11], [6, 11]), ([12], [12]), ([1, 13], [1, 13]), ([0, 1, 2, 3, 4, 5, 6, 7, 8, 9, 10, 11, 12, 13, 14], []), ([15, 14, 14, 0, 1, 2, 3, 4, 5, 6, 7, 8, 9, 10, 11, 12, 13, 14], [14, 15])])
def kimberliteref03_Out.B5 : List Nat := [0, 1, 0, 4, 0, 28, 60, 0, 128, 0, 896, 1920, 4092, 8188, 16383, 32767, 65535]
theorem kimberliteref03_Out.tab5 : rtab .any (opsOf Try.f64 5) = kimberliteref03_Out.T5 := by kernel_rfl
theorem kimberliteref03_Out.bits5 : waitsOk kimberliteref03_Out.T5.2 kimberliteref03_Out.B5 = true := by kernel_rfl
set_option maxHeartbeats 8000000 in
set_option maxRecDepth 100000 in
theorem kimberliteref03_Out.calls (k : Nat) (a0_0 : Int) (a0_1 : Int) (A0_2 : Option Addr) (c0_2 : Nat) (l0_2 : List Int) (r1 : Int) (r2 : List Int) (w : World) (hr0_2 : Kd.C (Kd.int .i64) w A0_2 l0_2.length l0_2) (hc0_2 : l0_2.length ≤ c0_2) (h : kimberliteref03_Out.f k a0_0 a0_1 l0_2 = some (r1, r2)) :
  Calls Try.prog 64 #[.agg #[.int .i64 a0_0, .int .i64 a0_1, .slice A0_2 l0_2.length c0_2]] w fun e w' => ∃ v1_ : Value, e = .returned (.agg #[.int .i64 r1, v1_]) ∧ Kd.R (Kd.int .i64) 3 w' w.heap.size (fun _ => True) v1_ r2 ∧ Below w.heap.size w w' := by
 have hu24 := Try.underlying24
 have hu78 := Try.underlying78
 have HR0_2 := zA hr0_2
 have HC0_2 := zA hc0_2
 clear hr0_2 hc0_2
 have HB := zA (Below.refl w.heap.size w)
 have H : (kimberliteref03_Out.l0 k 0 a0_0 a0_1 l0_2 a0_0 (([a0_1] : List Int))) = some (r1, r2) := h
 clear h
 obtain ⟨y312, hy312⟩ : ∃ y_ : List Int, y_ = (([a0_1] : List Int)) := ⟨_, rfl⟩
 replace H : (kimberliteref03_Out.l0 k 0 a0_0 a0_1 l0_2 a0_0 y312) = some (r1, r2) := by first | (rw [hy312]; with_reducible exact H) | (have H2_ := (Option.bind_some _ _).symm.trans H; rw [hy312]; with_reducible exact H2_) | (have H2_ := (Option.bind_some _ _).symm.trans H; with_reducible exact H2_) | with_reducible exact H | (rw [hy312]; exact H) | exact H
 have Ny312 := zA hy312
 clear hy312
 have H' := zA H
 clear H
 go_enter Try.func64, Try.ntmps64
 go_wp2_with (first | ((with_reducible refine gate_dst (N := 1) rfl ?_); refine box_event ?hg (N := 1) ?hd (cs := #[.int .i64 a0_0, .int .i64 a0_1, .slice A0_2 l0_2.length c0_2]) (t := 24) ?hr ?_; (case hd => rfl); (case hg => rfl); (case hr => first | (go_simp; done) | (go_simp; rfl)); intro gA hg w2 hbox hb; have n0_ := zA (below_step (by repeat (first | (with_reducible first | exact HB.out | apply zW | apply zX | apply zY) | exact HB.out)) hb); have n1_ := zA (hbox); have n2_ := zA ((by rw [hg]; exact (below_size (by repeat (first | (with_reducible first | exact HB.out | apply zW | apply zX | apply zY) | exact HB.out))) : w.heap.size ≤ gA)); have n3_ := zA ((by rw [hg]; exact (below_size (by repeat (first | (with_reducible first | exact HB.out | apply zW | apply zX | apply zY) | exact HB.out))) : w.heap.size ≤ gA)); clear HB; have HB := n0_; have BK50 := n1_; have GW50 := n2_; have GE50 := n3_; clear n0_ n1_ n2_ n3_; clear hb hbox hg) | ((with_reducible refine gate_dst (N := 2) rfl ?_); refine box_event ?hg (N := 2) ?hd (cs := #[.int .i64 0, .slice none 0 0]) (t := 78) ?hr ?_; (case hd => rfl); (case hg => rfl); (case hr => first | (go_simp; done) | (go_simp; rfl)); intro gB hg w3 hbox hb; have n0_ := zA (blk_below (g := gA) (o := .cells #[.int .i64 a0_0, .int .i64 a0_1, .slice A0_2 l0_2.length c0_2] 24 (0, 0)) (by (with_reducible repeat (first | refine zN ?_ _ | refine zD ?_ | refine zB ?_ _)); exact BK50.out) hb); have n1_ := zA (below_step (by repeat (first | (with_reducible first | exact HB.out | apply zW | apply zX | apply zY | refine zS ?_ GE50.out) | exact HB.out)) hb); have n2_ := zA (hbox); have n3_ := zA ((by rw [hg]; exact (below_size (by repeat (first | (with_reducible first | exact HB.out | apply zW | apply zX | apply zY | refine zS ?_ GE50.out) | exact HB.out))) : w.heap.size ≤ gB)); have n4_ := zA ((by rw [hg]; exact (below_size (by repeat (first | (with_reducible first | exact HB.out | apply zW | apply zX | apply zY | refine zS ?_ GE50.out) | exact HB.out))) : w.heap.size ≤ gB)); have n5_ := zA ((by rw [hg]; exact Nat.ne_of_lt (blk_lt (g := gA) (o := .cells #[.int .i64 a0_0, .int .i64 a0_1, .slice A0_2 l0_2.length c0_2] 24 (0, 0)) (by (with_reducible repeat (first | refine zN ?_ _ | refine zD ?_ | refine zB ?_ _)); exact BK50.out)) : gA ≠ gB)); have n6_ := zA ((by rw [hg]; exact Nat.ne_of_gt (blk_lt (g := gA) (o := .cells #[.int .i64 a0_0, .int .i64 a0_1, .slice A0_2 l0_2.length c0_2] 24 (0, 0)) (by (with_reducible repeat (first | refine zN ?_ _ | refine zD ?_ | refine zB ?_ _)); exact BK50.out)) : gB ≠ gA)); clear BK50; clear HB; have BK50 := n0_; have HB := n1_; have BK51 := n2_; have GW51 := n3_; have GE51 := n4_; have NB310_311 := n5_; have NB311_310 := n6_; clear n0_ n1_ n2_ n3_ n4_ n5_ n6_; clear hb hbox hg; have hnb4 := NB310_311.out; have hnc4 := NB311_310.out; have hcz5_0 : w3.cell? ⟨gA, 0, none⟩ = some (.int .i64 a0_0) := (blk_cell BK50.out 0).trans rfl; have hcz5_1 : w3.cell? ⟨gA, 1, none⟩ = some (.int .i64 a0_1) := (blk_cell BK50.out 1).trans rfl; have hcz5_2 : w3.cell? ⟨gA, 2, none⟩ = some (.slice A0_2 l0_2.length c0_2) := (blk_cell BK50.out 2).trans rfl; have hfz5_0 := blk_frozen BK50.out 0; have hfz5_1 := blk_frozen BK50.out 1; have hfz5_2 := blk_frozen BK50.out 2) | ((with_reducible refine gate_dst (N := 9) rfl ?_); refine Kd.R_lit (Kd.int .i64) _ 3 ?hg (N := 9) ?hd (xs := ([a0_1] : List Int)) (inner := [.int .i64 a0_1]) (ok := fun _ => True) (okp := fun _ => True) ?hr ?hp (fun _ hk => hk) trivial (Below.refl _ _) (Nat.le_refl _) (by simp) ?_; (case hd => rfl); (case hg => rfl); (case hr => first | (go_simp; done) | (go_simp; rfl)); (case hp => exact (Reps.one (show Kd.M (Kd.int .i64) _ _ _ a0_1 [.int .i64 a0_1] from rfl) (Reps.none _ _))); intro v313 w6 ho7 hb hg_ hnew_; clear hg_ hnew_; (first | rw [← Ny312.out] at ho7 | (simp only [Int.reduceToNat] at ho7; rw [← Ny312.out] at ho7)); have n0_ := zA (Kd.R_lower ho7 (below_size (by repeat (first | (with_reducible first | exact HB.out | apply zW | apply zX | apply zY | refine zS ?_ GE50.out | refine zS ?_ GE51.out) | exact HB.out)))); have n1_ := zA (blk_below (g := gA) (o := .cells #[.int .i64 a0_0, .int .i64 a0_1, .slice A0_2 l0_2.length c0_2] 24 (0, 0)) (by (with_reducible repeat (first | refine zN ?_ _ | refine zD ?_ | refine zB ?_ _)); exact BK50.out) hb); have n2_ := zA (blk_below (g := gB) (o := .cells #[.int .i64 0, .slice none 0 0] 78 (0, 0)) (by (with_reducible repeat (first | refine zN ?_ _ | refine zD ?_ | refine zB ?_ _)); exact BK51.out) hb); have n3_ := zA (below_step (by repeat (first | (with_reducible first | exact HB.out | apply zW | apply zX | apply zY | refine zS ?_ GE50.out | refine zS ?_ GE51.out) | exact HB.out)) hb); clear BK50; clear BK51; clear HB; have HO54 := n0_; have BK50 := n1_; have BK51 := n2_; have HB := n3_; clear n0_ n1_ n2_ n3_; clear hb ho7; obtain ⟨Ao8, co8, eo8⟩ := Kd.R_slice HO54.out; subst eo8) | ((with_reducible refine gate_dst (N := 3) rfl ?_); refine box_event ?hg (N := 3) ?hd (cs := #[.int .i64 0, .slice none 0 0]) (t := 78) ?hr ?_; (case hd => rfl); (case hg => rfl); (case hr => first | (go_simp; done) | (go_simp; rfl)); intro gC hg w9 hbox hb; have n0_ := zA (Kd.R_below (by (with_reducible repeat (first | apply Kd.R_alloc | apply Kd.R_drewN | apply Kd.R_drew)); exact HO54.out) hb); have n1_ := zA (blk_below (g := gA) (o := .cells #[.int .i64 a0_0, .int .i64 a0_1, .slice A0_2 l0_2.length c0_2] 24 (0, 0)) (by (with_reducible repeat (first | refine zN ?_ _ | refine zD ?_ | refine zB ?_ _)); exact BK50.out) hb); have n2_ := zA (blk_below (g := gB) (o := .cells #[.int .i64 0, .slice none 0 0] 78 (0, 0)) (by (with_reducible repeat (first | refine zN ?_ _ | refine zD ?_ | refine zB ?_ _)); exact BK51.out) hb); have n3_ := zA (below_step (by repeat (first | (with_reducible first | exact HB.out | apply zW | apply zX | apply zY | refine zS ?_ GE50.out | refine zS ?_ GE51.out) | exact HB.out)) hb); have n4_ := zA (hbox); have n5_ := zA ((by rw [hg]; exact (below_size (by repeat (first | (with_reducible first | exact HB.out | apply zW | apply zX | apply zY | refine zS ?_ GE50.out | refine zS ?_ GE51.out) | exact HB.out))) : w.heap.size ≤ gC)); have n6_ := zA ((by rw [hg]; exact (below_size (by repeat (first | (with_reducible first | exact HB.out | apply zW | apply zX | apply zY | refine zS ?_ GE50.out | refine zS ?_ GE51.out) | exact HB.out))) : w.heap.size ≤ gC)); have n7_ := zA ((by rw [hg]; exact Nat.ne_of_lt (blk_lt (g := gA) (o := .cells #[.int .i64 a0_0, .int .i64 a0_1, .slice A0_2 l0_2.length c0_2] 24 (0, 0)) (by (with_reducible repeat (first | refine zN ?_ _ | refine zD ?_ | refine zB ?_ _)); exact BK50.out)) : gA ≠ gC)); have n8_ := zA ((by rw [hg]; exact Nat.ne_of_gt (blk_lt (g := gA) (o := .cells #[.int .i64 a0_0, .int .i64 a0_1, .slice A0_2 l0_2.length c0_2] 24 (0, 0)) (by (with_reducible repeat (first | refine zN ?_ _ | refine zD ?_ | refine zB ?_ _)); exact BK50.out)) : gC ≠ gA)); have n9_ := zA ((by rw [hg]; exact Nat.ne_of_lt (blk_lt (g := gB) (o := .cells #[.int .i64 0, .slice none 0 0] 78 (0, 0)) (by (with_reducible repeat (first | refine zN ?_ _ | refine zD ?_ | refine zB ?_ _)); exact BK51.out)) : gB ≠ gC)); have n10_ := zA ((by rw [hg]; exact Nat.ne_of_gt (blk_lt (g := gB) (o := .cells #[.int .i64 0, .slice none 0 0] 78 (0, 0)) (by (with_reducible repeat (first | refine zN ?_ _ | refine zD ?_ | refine zB ?_ _)); exact BK51.out)) : gC ≠ gB)); clear HO54; clear BK50; clear BK51; clear HB; have HO54 := n0_; have BK50 := n1_; have BK51 := n2_; have HB := n3_; have BK55 := n4_; have GW55 := n5_; have GE55 := n6_; have NB310_315 := n7_; have NB315_310 := n8_; have NB311_315 := n9_; have NB315_311 := n10_; clear n0_ n1_ n2_ n3_ n4_ n5_ n6_ n7_ n8_ n9_ n10_; clear hb hbox hg; have hnb10 := NB315_310.out; have hnc10 := NB310_315.out; have hnb11 := NB315_311.out; have hnc11 := NB311_315.out; have hcz12_0 : w9.cell? ⟨gC, 0, none⟩ = some (.int .i64 0) := (blk_cell BK55.out 0).trans rfl; have hcz12_1 : w9.cell? ⟨gC, 1, none⟩ = some (.slice none 0 0) := (blk_cell BK55.out 1).trans rfl; have hfz12_0 := blk_frozen BK55.out 0; have hfz12_1 := blk_frozen BK55.out 1))
 go_loopg [4] k (fun kq v4 w' => ∃ (x4_1 : Int) (x316001_1 : List Int) (u316001 : Value), v4 = .int .i64 x4_1 ∧ Aside0 (kimberliteref03_Out.l0 kq x4_1 a0_0 a0_1 l0_2 a0_0 x316001_1 = some (r1, r2)) ∧ Aside0 (kq ≤ k) ∧ Aside0 (Kd.R (Kd.int .i64) 3 w' w.heap.size (fun _ => True) u316001 x316001_1) ∧ Aside0 (w'.heap[gA]? = some (.cells #[.int .i64 a0_0, .int .i64 a0_1, (.slice A0_2 l0_2.length c0_2)] 24 (0, 0))) ∧ Aside0 (w'.heap[gB]? = some (.cells #[.int .i64 0, (.slice none 0 0)] 78 (0, 0))) ∧ Aside0 (w'.heap[gC]? = some (.cells #[.int .i64 a0_0, u316001] 78 (0, 0))) ∧ Aside0 (Below w.heap.size w w'))
 case atStart => exact ⟨(0), (y312), (.slice Ao8 y312.length co8), (by first | rfl | (simp; done) | (simp [*]; done)), H', ⟨Nat.le_refl _⟩, ⟨by (with_reducible repeat (first | apply Kd.R_alloc | apply Kd.R_drewN | apply Kd.R_drew)); exact Kd.R_mono (Kd.R_far (p := ⟨gC, 1, none⟩) (Kd.R_far (p := ⟨gC, 0, none⟩) (Kd.R_types HO54.out BK55.out (by decide)) (fun _ hk => hk.2) (.int .i64 a0_0)) (fun _ hk => hk.2) (.slice Ao8 y312.length co8)) (fun _ hk => trivial)⟩, ⟨by (with_reducible repeat (first | refine zN ?_ _ | refine zD ?_ | refine zB ?_ _)); refine blk_far ?_ NB310_315.out _; (with_reducible repeat (first | refine zN ?_ _ | refine zD ?_ | refine zB ?_ _)); refine blk_far ?_ NB310_315.out _; (with_reducible repeat (first | refine zN ?_ _ | refine zD ?_ | refine zB ?_ _)); exact BK50.out⟩, ⟨by (with_reducible repeat (first | refine zN ?_ _ | refine zD ?_ | refine zB ?_ _)); refine blk_far ?_ NB311_315.out _; (with_reducible repeat (first | refine zN ?_ _ | refine zD ?_ | refine zB ?_ _)); refine blk_far ?_ NB311_315.out _; (with_reducible repeat (first | refine zN ?_ _ | refine zD ?_ | refine zB ?_ _)); exact BK51.out⟩, ⟨by (with_reducible repeat (first | refine zN ?_ _ | refine zD ?_ | refine zB ?_ _)); refine blk_put (cs := #[.int .i64 a0_0, .slice none 0 0]) ?_ 1 _ rfl; (with_reducible repeat (first | refine zN ?_ _ | refine zD ?_ | refine zB ?_ _)); refine blk_put (cs := #[.int .i64 0, .slice none 0 0]) ?_ 0 _ rfl; (with_reducible repeat (first | refine zN ?_ _ | refine zD ?_ | refine zB ?_ _)); exact BK55.out⟩, ⟨by repeat (first | (with_reducible first | exact HB.out | apply zW | apply zX | apply zY | refine zS ?_ GE50.out | refine zS ?_ GE51.out | refine zS ?_ GE55.out) | exact HB.out)⟩⟩
 case round =>
  clear H'
  try clear c1
  try clear p2
  try clear c4
  try clear c6
  try clear c10
  try clear c11
  try clear hcz12_0
  try clear hcz12_1
  try clear hcz5_0
  try clear hcz5_1
  try clear hcz5_2
  try clear hfz12_0
  try clear hfz12_1
  try clear hfz5_0
  try clear hfz5_1
  try clear hfz5_2
  obtain ⟨x4_1, x316001_1, u316001, rfl, HA, HK1, HO_316001, BK50, BK51, BK55, HB⟩ := hrel
  cases gk with
  | zero => exact absurd HA.out (by simp [kimberliteref03_Out.l0])
  | succ k1 =>
   have H := HA.out
   clear HA
   simp only [kimberliteref03_Out.l0] at H
   by_cases c13 : x4_1 < (l0_2.length : Int)
   ·
    rw [if_pos c13] at H
    have c13b0 : decide (x4_1 < (l0_2.length : Int)) = true := decide_eq_true c13
    clear c13
    by_cases c14 : 0 ≤ x4_1
    ·
     rw [if_pos c14] at H
     have c14b0 : decide (0 ≤ x4_1) = true := decide_eq_true c14
     clear c14
     by_cases c15 : x4_1 < (x316001_1.length : Int)
     ·
      rw [if_pos c15] at H
      have c15b0 : decide (x4_1 < (x316001_1.length : Int)) = true := decide_eq_true c15
      clear c15
      by_cases c16 : x316001_1.length < 17592186044416
      ·
       rw [if_pos c16] at H
       have LMc16 := zA c16
       clear c16
       obtain ⟨y318, hy318⟩ : ∃ y_ : List Int, y_ = (x316001_1 ++ [wrap64 ((rd x316001_1 x4_1) + (rd l0_2 x4_1))]) := ⟨_, rfl⟩
       replace H : (kimberliteref03_Out.l0 k1 (wrap64 (x4_1 + 1)) a0_0 a0_1 l0_2 a0_0 y318) = some (r1, r2) := by first | (rw [hy318]; with_reducible exact H) | (have H2_ := (Option.bind_some _ _).symm.trans H; rw [hy318]; with_reducible exact H2_) | (have H2_ := (Option.bind_some _ _).symm.trans H; with_reducible exact H2_) | with_reducible exact H | (rw [hy318]; exact H) | exact H
       have Ny318 := zA hy318
       clear hy318
       have H' := zA H
       clear H
       have hnb17 := NB310_311.out
       have hnc17 := NB311_310.out
       have hnb18 := NB310_315.out
       have hnc18 := NB315_310.out
       have hcz19_0 : wr.cell? ⟨gA, 0, none⟩ = some (.int .i64 a0_0) := (blk_cell BK50.out 0).trans rfl
       have hcz19_1 : wr.cell? ⟨gA, 1, none⟩ = some (.int .i64 a0_1) := (blk_cell BK50.out 1).trans rfl
       have hcz19_2 : wr.cell? ⟨gA, 2, none⟩ = some (.slice A0_2 l0_2.length c0_2) := (blk_cell BK50.out 2).trans rfl
       have hfz19_0 := blk_frozen BK50.out 0
       have hfz19_1 := blk_frozen BK50.out 1
       have hfz19_2 := blk_frozen BK50.out 2
       try go_wp2
       have n0_ := zA (Kd.R_drew HO_316001.out)
       have n1_ := zA (zD BK50.out)
       have n2_ := zA (zD BK51.out)
       have n3_ := zA (zD BK55.out)
       have n4_ := zA (zY HB.out)
       clear HO_316001; clear BK50; clear BK51; clear BK55; clear HB
       have HO_316001 := n0_
       have BK50 := n1_
       have BK51 := n2_
       have BK55 := n3_
       have HB := n4_
       clear n0_ n1_ n2_ n3_ n4_
       obtain ⟨Ao21, co21, eo21⟩ := Kd.R_slice HO_316001.out
       (first | subst eo21 | (injection eo21 with f1_ f2_ f3_; have f4_ := f1_.symm; have f5_ := f3_.symm; clear f1_ f2_ f3_; subst f4_; subst f5_))
       have p316 : 0 ≤ (x4_1 : Int) := of_decide_eq_true (by first | (with_reducible assumption) | assumption)
       have q316 : x4_1 < (x316001_1.length : Int) := of_decide_eq_true (by first | (with_reducible assumption) | assumption)
       obtain ⟨ad316, e316, hx316_0⟩ := Kd.at_int (Kd.R_reads' HO_316001.out).2.2 x4_1 p316 q316
       cases e316
       replace p316 := eq_true p316
       replace q316 := eq_true q316
       have p317 : 0 ≤ (x4_1 : Int) := of_decide_eq_true (by first | (with_reducible assumption) | assumption)
       have q317 : x4_1 < (l0_2.length : Int) := of_decide_eq_true (by first | (with_reducible assumption) | assumption)
       obtain ⟨ad317, e317, hx317_0⟩ := Kd.at_int HR0_2.out x4_1 p317 q317
       have hw317_0 := hx317_0
       cases e317
       replace hx317_0 := (HB.out.cell (World.block_lt_of_cell? w _ hx317_0)).trans hx317_0
       replace p317 := eq_true p317
       replace q317 := eq_true q317
       refine start_ (n := 17) (S := fun w' => w'.cell? ⟨gC, 0, none⟩ = some (.int .i64 a0_0) ∧ w'.cell? ⟨gC, 1, none⟩ = some (.slice (some ad316) x316001_1.length co21) ∧ w'.cell? ⟨gA, 0, none⟩ = some (.int .i64 a0_0) ∧ w'.cell? ⟨gA, 1, none⟩ = some (.int .i64 a0_1) ∧ w'.cell? ⟨gA, 2, none⟩ = some (.slice (some ad317) l0_2.length c0_2) ∧ w'.cell? (ad316.add (x4_1).toNat) = some (.int .i64 (rd x316001_1 x4_1)) ∧ w'.cell? (ad317.add (x4_1).toNat) = some (.int .i64 (rd l0_2 x4_1))) (ds := [14, 16]) #[O,O,O,O,O,O,O,O,O,O,O,O,O,O,O,O,O] (by kernel_rfl) rfl rfl ⟨(blk_cell BK55.out 0).trans rfl, (blk_cell BK55.out 1).trans rfl, (blk_cell BK50.out 0).trans rfl, (blk_cell BK50.out 1).trans rfl, (blk_cell BK50.out 2).trans rfl, hx316_0, ((HB.out.cell (World.block_lt_of_cell? w _ hw317_0)).trans hw317_0)⟩ (fun hHeld => ?_); refine with_tabW kimberliteref03_Out.tab5 kimberliteref03_Out.bits5 (fun HT_ HW_ => ?_)
       generalize wr.drew = w20 at HO_316001 BK50 BK51 BK55 HB hx316_0 hx317_0 hHeld ⊢
       refine pure_ (i := 0) (N := some 18) (v := ?_) (a' := ?_) #[Y,O,O,O,O,O,O,O,O,O,O,O,O,O,O,O,O] rfl rfl (any_of HT_.out (by kernel_rfl)) (fun _ _ _ h => h) (Or.inl ⟨by rfl, ?_⟩) ?_ ?_
       rotate_left
       ·
        intro w'; go_simp; with_reducible rfl
       rotate_left
       ·
        simp only [Act.put, z1, z2, z3, i64_w, i32_w]; rfl
       refine pure_ (i := 2) (N := some 20) (v := ?_) (a' := ?_) #[Y,O,Y,O,O,O,O,O,O,O,O,O,O,O,O,O,O] rfl rfl (any_of HT_.out (by kernel_rfl)) (fun _ _ _ h => h) (Or.inl ⟨by rfl, ?_⟩) ?_ ?_
       rotate_left
       ·
        intro w'; go_simp; with_reducible rfl
       rotate_left
       ·
        simp only [Act.put, z1, z2, z3, i64_w, i32_w]; rfl
       refine pure_ (i := 4) (N := some 22) (v := ?_) (a' := ?_) #[Y,O,Y,O,Y,O,O,O,O,O,O,O,O,O,O,O,O] rfl rfl (any_of HT_.out (by kernel_rfl)) (fun _ _ _ h => h) (Or.inl ⟨by rfl, ?_⟩) ?_ ?_
       rotate_left
       ·
        intro w'; go_simp; with_reducible rfl
       rotate_left
       ·
        simp only [Act.put, z1, z2, z3, i64_w, i32_w]; rfl
       refine pure_ (i := 7) (N := some 25) (v := ?_) (a' := ?_) #[Y,O,Y,O,Y,O,O,Y,O,O,O,O,O,O,O,O,O] rfl rfl (any_of HT_.out (by kernel_rfl)) (fun _ _ _ h => h) (Or.inl ⟨by rfl, ?_⟩) ?_ ?_
       rotate_left
       ·
        intro w'; go_simp; with_reducible rfl
       rotate_left
       ·
        simp only [Act.put, z1, z2, z3, i64_w, i32_w]; rfl
       refine pure_ (i := 9) (N := some 27) (v := ?_) (a' := ?_) #[Y,O,Y,O,Y,O,O,Y,O,Y,O,O,O,O,O,O,O] rfl rfl (any_of HT_.out (by kernel_rfl)) (fun _ _ _ h => h) (Or.inl ⟨by rfl, ?_⟩) ?_ ?_
       rotate_left
       ·
        intro w'; go_simp; with_reducible rfl
       rotate_left
       ·
        simp only [Act.put, z1, z2, z3, i64_w, i32_w]; rfl
       refine take_ (i := 1) (N := some 19) (v := ?_) (a' := ?_) #[Y,Y,Y,O,Y,O,O,Y,O,Y,O,O,O,O,O,O,O] rfl rfl (take_ofW HT_.out HW_.out (by kernel_rfl)) (fun _ _ _ h => h) (Or.inl ⟨by rfl, ?_⟩) hHeld ?_ ?_
       rotate_left
       ·
        rintro w' ⟨s0, s1, s2, s3, s4, s5, s6⟩
        go_simp; with_reducible rfl
       rotate_left
       ·
        simp only [Act.put, z1, z2, z3, i64_w, i32_w]; rfl
       refine take_ (i := 3) (N := some 21) (v := ?_) (a' := ?_) #[Y,Y,Y,Y,Y,O,O,Y,O,Y,O,O,O,O,O,O,O] rfl rfl (take_ofW HT_.out HW_.out (by kernel_rfl)) (fun _ _ _ h => h) (Or.inl ⟨by rfl, ?_⟩) hHeld ?_ ?_
       rotate_left
       ·
        rintro w' ⟨s0, s1, s2, s3, s4, s5, s6⟩
        go_simp; with_reducible rfl
       rotate_left
       ·
        simp only [Act.put, z1, z2, z3, i64_w, i32_w]; rfl
       refine pure_ (i := 5) (N := some 23) (v := ?_) (a' := ?_) #[Y,Y,Y,Y,Y,Y,O,Y,O,Y,O,O,O,O,O,O,O] rfl rfl (any_of HT_.out (by kernel_rfl)) (fun _ _ _ h => h) (Or.inl ⟨by rfl, ?_⟩) ?_ ?_
       rotate_left
       ·
        intro w'; go_simp; with_reducible rfl
       rotate_left
       ·
        simp only [Act.put, z1, z2, z3, i64_w, i32_w]; rfl
       refine take_ (i := 6) (N := some 24) (v := ?_) (a' := ?_) #[Y,Y,Y,Y,Y,Y,Y,Y,O,Y,O,O,O,O,O,O,O] rfl rfl (take_ofW HT_.out HW_.out (by kernel_rfl)) (fun _ _ _ h => h) (Or.inl ⟨by rfl, ?_⟩) hHeld ?_ ?_
       rotate_left
       ·
        rintro w' ⟨s0, s1, s2, s3, s4, s5, s6⟩
        go_simp; with_reducible rfl
       rotate_left
       ·
        simp only [Act.put, z1, z2, z3, i64_w, i32_w]; rfl
       refine take_ (i := 8) (N := some 26) (v := ?_) (a' := ?_) #[Y,Y,Y,Y,Y,Y,Y,Y,Y,Y,O,O,O,O,O,O,O] rfl rfl (take_ofW HT_.out HW_.out (by kernel_rfl)) (fun _ _ _ h => h) (Or.inl ⟨by rfl, ?_⟩) hHeld ?_ ?_
       rotate_left
       ·
        rintro w' ⟨s0, s1, s2, s3, s4, s5, s6⟩
        go_simp; with_reducible rfl
       rotate_left
       ·
        simp only [Act.put, z1, z2, z3, i64_w, i32_w]; rfl
       refine pure_ (i := 10) (N := some 28) (v := ?_) (a' := ?_) #[Y,Y,Y,Y,Y,Y,Y,Y,Y,Y,Y,O,O,O,O,O,O] rfl rfl (any_of HT_.out (by kernel_rfl)) (fun _ _ _ h => h) (Or.inl ⟨by rfl, ?_⟩) ?_ ?_
       rotate_left
       ·
        intro w'; go_simp; with_reducible rfl
       rotate_left
       ·
        simp only [Act.put, z1, z2, z3, i64_w, i32_w]; rfl
       refine take_ (i := 11) (N := some 29) (v := ?_) (a' := ?_) #[Y,Y,Y,Y,Y,Y,Y,Y,Y,Y,Y,Y,O,O,O,O,O] rfl rfl (take_ofW HT_.out HW_.out (by kernel_rfl)) (fun _ _ _ h => h) (Or.inl ⟨by rfl, ?_⟩) hHeld ?_ ?_
       rotate_left
       ·
        rintro w' ⟨s0, s1, s2, s3, s4, s5, s6⟩
        go_simp; with_reducible rfl
       rotate_left
       ·
        simp only [Act.put, z1, z2, z3, i64_w, i32_w]; rfl
       refine pure_ (i := 12) (N := some 30) (v := ?_) (a' := ?_) #[Y,Y,Y,Y,Y,Y,Y,Y,Y,Y,Y,Y,Y,O,O,O,O] rfl rfl (any_of HT_.out (by kernel_rfl)) (fun _ _ _ h => h) (Or.inl ⟨by rfl, ?_⟩) ?_ ?_
       rotate_left
       ·
        intro w'; go_simp; with_reducible rfl
       rotate_left
       ·
        simp only [Act.put, z1, z2, z3, i64_w, i32_w]; rfl
       refine one_ (i := 13) (N := some 31) #[Y,Y,Y,Y,Y,Y,Y,Y,Y,Y,Y,Y,Y,Y,O,O,O] rfl rfl (one_of HT_.out (by kernel_rfl)) (by decide) (fun K hK => ?_)
       refine value_ (w1 := ?_) (v := ?_) (by rfl) rfl ?_ ?_
       rotate_left 2
       ·
        go_simp
        constructor
        ·
         rfl
        ·
         rfl
       refine hK.out _ _ ⟨(blk_cell (zB BK55.out _) 0).trans rfl, (blk_cell (zB BK55.out _) 1).trans rfl, (blk_cell (zB BK50.out _) 0).trans rfl, (blk_cell (zB BK50.out _) 1).trans rfl, (blk_cell (zB BK50.out _) 2).trans rfl, (World.cell?_alloc_lt _ _ _ (World.block_lt_of_cell? _ _ (hHeld.2.2.2.2.2.1))).trans (hHeld.2.2.2.2.2.1), (World.cell?_alloc_lt _ _ _ (World.block_lt_of_cell? _ _ (((HB.out.cell (World.block_lt_of_cell? w _ hw317_0)).trans hw317_0)))).trans (((HB.out.cell (World.block_lt_of_cell? w _ hw317_0)).trans hw317_0))⟩ (fun hHeld => ?_)
       clear hK K
       refine norm_ (a' := ?_) ?_ ?_
       rotate_left
       ·
        show Act.put _ (some 31) _ = _
        simp only [Act.put, z1, z2, z3, i64_w, i32_w]; rfl
       refine last_ (i := 14) (N := some 32) #[Y,Y,Y,Y,Y,Y,Y,Y,Y,Y,Y,Y,Y,Y,Y,O,O] rfl rfl (one_of HT_.out (by kernel_rfl)) (by decide) (fun K hK => ?_)
       refine Kd.R_append_step (Kd.int .i64) (w0 := w) w.heap.size (by rfl) (.tmp 19) (.tmp 31) 22 3 (.int .i64 0) 8 rfl Try.underlying22 info3 rfl (by decide) (by omega) (.slice (some ad316) x316001_1.length co21) x316001_1 (wrap64 ((rd x316001_1 x4_1) + (rd l0_2 x4_1))) [.int .i64 (wrap64 ((rd x316001_1 x4_1) + (rd l0_2 x4_1)))] (fun _ => True) (fun _ => False) rfl rfl ?aP (fun _ hk => hk.elim) ?aF ?aO ?aB ?aS ?aL ?_
       (case aP => exact rfl)
       (case aB => exact (by repeat (first | (with_reducible first | exact HB.out | apply zW | apply zX | apply zY | refine zS ?_ GE50.out | refine zS ?_ GE51.out | refine zS ?_ GE55.out) | exact HB.out)))
       (case aF => exact (fun _ _ => trivial))
       (case aO => exact (by (with_reducible repeat (first | apply Kd.R_alloc | apply Kd.R_drewN | apply Kd.R_drew)); exact HO_316001.out))
       (case aS => exact (below_size (by repeat (first | (with_reducible first | exact HB.out | apply zW | apply zX | apply zY | refine zS ?_ GE50.out | refine zS ?_ GE51.out | refine zS ?_ GE55.out) | exact HB.out))))
       (case aL => have := LMc16.out; omega)
       intro v319 w22 ho hb hg hat
       rw [← Ny318.out] at ho
       have n0_ := zA (blk_grown (g := gA) (o := .cells #[.int .i64 a0_0, .int .i64 a0_1, .slice (some ad317) l0_2.length c0_2] 24 (0, 0)) (by (with_reducible repeat (first | refine zN ?_ _ | refine zD ?_ | refine zB ?_ _)); exact BK50.out) hg (Kd.R_ne HO_316001.out BK50.out (by decide)))
       have n1_ := zA (blk_grown (g := gB) (o := .cells #[.int .i64 0, .slice none 0 0] 78 (0, 0)) (by (with_reducible repeat (first | refine zN ?_ _ | refine zD ?_ | refine zB ?_ _)); exact BK51.out) hg (Kd.R_ne HO_316001.out BK51.out (by decide)))
       have n2_ := zA (blk_grown (g := gC) (o := .cells #[.int .i64 a0_0, .slice (some ad316) x316001_1.length co21] 78 (0, 0)) (by (with_reducible repeat (first | refine zN ?_ _ | refine zD ?_ | refine zB ?_ _)); exact BK55.out) hg (Kd.R_ne HO_316001.out BK55.out (by decide)))
       have n3_ := zA (hb)
       have n4_ := zA (ho)
       clear BK50; clear BK51; clear BK55; clear HB; clear HO_316001
       have BK50 := n0_
       have BK51 := n1_
       have BK55 := n2_
       have HB := n3_
       have HO5A := n4_
       clear n0_ n1_ n2_ n3_ n4_; clear ho hb hg hat
       obtain ⟨Ao23, co23, eo23⟩ := Kd.R_slice HO5A.out
       (first | subst eo23 | (injection eo23 with f1_ f2_ f3_; have f4_ := f1_.symm; have f5_ := f3_.symm; clear f1_ f2_ f3_; subst f4_; subst f5_))
       refine hK.out _ _ ?_
       clear hK K
       refine norm_ (a' := ?_) ?_ ?_
       rotate_left
       ·
        show Act.put _ (some 32) _ = _
        simp only [Act.put, z1, z2, z3, i64_w, i32_w]; rfl
       refine pure_ (i := 15) (N := some 33) (v := ?_) (a' := ?_) #[Y,Y,Y,Y,Y,Y,Y,Y,Y,Y,Y,Y,Y,Y,Y,Y,O] rfl rfl (any_of HT_.out (by kernel_rfl)) (fun _ _ _ h => h) (Or.inl ⟨by rfl, ?_⟩) ?_ ?_
       rotate_left
       ·
        intro w'; go_simp; with_reducible rfl
       rotate_left
       ·
        simp only [Act.put, z1, z2, z3, i64_w, i32_w]; rfl
       refine last_ (i := 16) (N := none) #[Y,Y,Y,Y,Y,Y,Y,Y,Y,Y,Y,Y,Y,Y,Y,Y,Y] rfl rfl (one_of HT_.out (by kernel_rfl)) (by decide) (fun K hK => ?_)
       have hs24 : w22.cell? ⟨gC, 1, none⟩ = some (.slice (some ad316) x316001_1.length co21) := (blk_cell BK55.out 1).trans rfl
       have hfs24 := blk_frozen BK55.out 1
       have hns24_0 := NB310_315.out
       have hns24_1 := NB311_315.out
       have hms24_0 := NB315_310.out
       have hms24_1 := NB315_311.out
       refine skip_ (w1 := ?_) (by rfl) rfl ?_ ?_
       rotate_left
       ·
        go_simp; rfl
       refine hK.out _ _ ?_
       clear hK K
       refine done_ (done_of HT_.out (by kernel_rfl)) ?_
       try go_wp2
       go_roundg k1
       case measure => have := HK1.out; omega
       case rel => exact ⟨(wrap64 (x4_1 + 1)), (y318), (.slice Ao23 y318.length co23), (by first | rfl | (simp; done) | (simp [*]; done)), H', ⟨by have := HK1.out; omega⟩, ⟨by (with_reducible repeat (first | apply Kd.R_alloc | apply Kd.R_drewN | apply Kd.R_drew)); exact Kd.R_mono (Kd.R_far (p := ⟨gC, 1, none⟩) (Kd.R_types HO5A.out BK55.out (by decide)) (fun _ hk => hk.2) (.slice Ao23 y318.length co23)) (fun _ hk => trivial)⟩, ⟨by (with_reducible repeat (first | refine zN ?_ _ | refine zD ?_ | refine zB ?_ _)); refine blk_far ?_ NB310_315.out _; (with_reducible repeat (first | refine zN ?_ _ | refine zD ?_ | refine zB ?_ _)); exact BK50.out⟩, ⟨by (with_reducible repeat (first | refine zN ?_ _ | refine zD ?_ | refine zB ?_ _)); refine blk_far ?_ NB311_315.out _; (with_reducible repeat (first | refine zN ?_ _ | refine zD ?_ | refine zB ?_ _)); exact BK51.out⟩, ⟨by (with_reducible repeat (first | refine zN ?_ _ | refine zD ?_ | refine zB ?_ _)); refine blk_put (cs := #[.int .i64 a0_0, .slice (some ad316) x316001_1.length co21]) ?_ 1 _ rfl; (with_reducible repeat (first | refine zN ?_ _ | refine zD ?_ | refine zB ?_ _)); exact BK55.out⟩, ⟨by repeat (first | (with_reducible first | exact HB.out | apply zW | apply zX | apply zY | refine zS ?_ GE50.out | refine zS ?_ GE51.out | refine zS ?_ GE55.out) | exact HB.out)⟩⟩
      ·
       rw [if_neg c16] at H
       exact absurd H (by simp)
     ·
      rw [if_neg c15] at H
      exact absurd H (by simp)
    ·
     rw [if_neg c14] at H
     exact absurd H (by simp)
   ·
    rw [if_neg c13] at H
    have c13b0 : decide (x4_1 < (l0_2.length : Int)) = false := decide_eq_false c13
    clear c13
    simp only [Option.some.injEq, Prod.mk.injEq] at H
    obtain ⟨rfl, rfl⟩ := H
    have hnb25 := NB310_311.out
    have hnc25 := NB311_310.out
    have hnb26 := NB310_315.out
    have hnc26 := NB315_310.out
    have hcz27_0 : wr.cell? ⟨gA, 0, none⟩ = some (.int .i64 a0_0) := (blk_cell BK50.out 0).trans rfl
    have hcz27_1 : wr.cell? ⟨gA, 1, none⟩ = some (.int .i64 a0_1) := (blk_cell BK50.out 1).trans rfl
    have hcz27_2 : wr.cell? ⟨gA, 2, none⟩ = some (.slice A0_2 l0_2.length c0_2) := (blk_cell BK50.out 2).trans rfl
    have hfz27_0 := blk_frozen BK50.out 0
    have hfz27_1 := blk_frozen BK50.out 1
    have hfz27_2 := blk_frozen BK50.out 2
    have hnb28 := NB315_311.out
    have hnc28 := NB311_315.out
    have hcz29_0 : wr.cell? ⟨gC, 0, none⟩ = some (.int .i64 a0_0) := (blk_cell BK55.out 0).trans rfl
    have hcz29_1 : wr.cell? ⟨gC, 1, none⟩ = some (u316001) := (blk_cell BK55.out 1).trans rfl
    have hfz29_0 := blk_frozen BK55.out 0
    have hfz29_1 := blk_frozen BK55.out 1
    have hcz30_0 : wr.cell? ⟨gB, 0, none⟩ = some (.int .i64 0) := (blk_cell BK51.out 0).trans rfl
    have hcz30_1 : wr.cell? ⟨gB, 1, none⟩ = some (.slice none 0 0) := (blk_cell BK51.out 1).trans rfl
    have hfz30_0 := blk_frozen BK51.out 0
    have hfz30_1 := blk_frozen BK51.out 1
    obtain ⟨Ao31, co31, eo31⟩ := Kd.R_slice HO_316001.out
    subst eo31
    go_wp2
    refine bodyPost_ret (results_cell_row rfl _ _ gB 78 #[.int .i64 a0_0, .slice Ao31 x316001_1.length co31] (0, 0) _ rfl (by (with_reducible repeat (first | refine zN ?_ _ | refine zD ?_ | refine zB ?_ _)); refine blk_put (cs := #[.int .i64 a0_0, .slice none 0 0]) ?_ 1 _ rfl; (with_reducible repeat (first | refine zN ?_ _ | refine zD ?_ | refine zB ?_ _)); refine blk_put (cs := #[.int .i64 0, .slice none 0 0]) ?_ 0 _ rfl; (with_reducible repeat (first | refine zN ?_ _ | refine zD ?_ | refine zB ?_ _)); exact BK51.out) Try.underlying78 rfl (by kernel_rfl)) rfl ?_
    exact ⟨_, by first | rfl | (simp [errW_none, errW_some] <;> rfl) | (simp [*, errW_none, errW_some] <;> rfl), by (with_reducible repeat (first | apply Kd.R_alloc | apply Kd.R_drewN | apply Kd.R_drew)); exact Kd.R_mono (Kd.R_far (p := ⟨gB, 1, none⟩) (Kd.R_far (p := ⟨gB, 0, none⟩) (Kd.R_types HO_316001.out BK51.out (by decide)) (fun _ hk => hk.2) (.int .i64 a0_0)) (fun _ hk => hk.2) (.slice Ao31 x316001_1.length co31)) (fun _ hk => trivial), by repeat (first | (with_reducible first | exact HB.out | apply zW | apply zX | apply zY | refine zS ?_ GE50.out | refine zS ?_ GE51.out | refine zS ?_ GE55.out) | exact HB.out)⟩
end Go.Proofs.Ytfeeaipbmpmpgaa.PX

namespace Go.Proofs.Ytfeeaipbmpmpgaa.PX
open Go.RowKit Go.Proofs.YtfeeaipbmpmpgaaW.PrintWords Go.Proofs.YtfeeaipbmpmpgaaW.PrintLast Go.Proofs.YtfeeaipbmpmpgaaW.PrintMore
attribute [local go_sem] max2_int min2_int max_two min_two max_three min_three max_four min_four   -- for this text's walks alone
set_option linter.unusedVariables false
set_option linter.unusedSimpArgs false
/-! ### kimberlitelaw03_greatest: function 21 -/
def kimberlitelaw03_greatest.f (k : Nat) (a0_0 : Int) (a0_1 : Int) (l0_2 : List Int) (a1 : Int) : Option (Int) := (kimberliteref03_Out.f k a0_0 a0_1 l0_2).bind fun bt322 => ((kimberliteref03_Greatest.f k bt322.1 bt322.2 a1).bind fun t326 => (some t326))
theorem kimberlitelaw03_greatest.mono : ∀ a0 a1 a2 a3 k, LeO (kimberlitelaw03_greatest.f k a0 a1 a2 a3) (kimberlitelaw03_greatest.f (k + 1) a0 a1 a2 a3) := by
 intro a0 a1 a2 a3 k
 unfold kimberlitelaw03_greatest.f
 repeat' first
   | (with_reducible exact kimberliteref03_Greatest.mono _ _ _ _)
   | (with_reducible exact kimberliteref03_Out.mono _ _ _ _)
   | (with_reducible exact LeO.refl _)
   | (with_reducible exact LeO.none _)
   | (with_reducible refine LeO.ite ?_ ?_)
   | (with_reducible refine LeO.bind ?_ (fun _ => ?_))
   | exact kimberliteref03_Greatest.mono _ _ _ _
   | exact kimberliteref03_Out.mono _ _ _ _
   | exact LeO.none _
   | refine LeO.ite ?_ ?_
   | refine LeO.bind ?_ (fun _ => ?_)
set_option maxHeartbeats 8000000 in
set_option maxRecDepth 100000 in
theorem kimberlitelaw03_greatest.calls (k : Nat) (a0_0 : Int) (a0_1 : Int) (A0_2 : Option Addr) (c0_2 : Nat) (l0_2 : List Int) (a1 : Int) (r : Int) (w : World) (hr0_2 : Kd.C (Kd.int .i64) w A0_2 l0_2.length l0_2) (hc0_2 : l0_2.length ≤ c0_2) (h : kimberlitelaw03_greatest.f k a0_0 a0_1 l0_2 a1 = some r) :
  Calls Try.prog 21 #[.agg #[.int .i64 a0_0, .int .i64 a0_1, .slice A0_2 l0_2.length c0_2], .int .i64 a1] w fun e w' => e = .returned (.int .i64 r) ∧ Below w.heap.size w w' := by
 have hu24 := Try.underlying24
 have HR0_2 := zA hr0_2
 have HC0_2 := zA hc0_2
 clear hr0_2 hc0_2
 have HB := zA (Below.refl w.heap.size w)
 have H : ((kimberliteref03_Out.f k a0_0 a0_1 l0_2).bind fun bt322 => ((kimberliteref03_Greatest.f k bt322.1 bt322.2 a1).bind fun t326 => (some t326))) = some r := h
 clear h
 replace H := Option.bind_eq_some_iff.mp H
 obtain ⟨⟨t322, t323⟩, A30, H⟩ := H
 replace H : ((kimberliteref03_Greatest.f k t322 t323 a1).bind fun t326 => (some t326)) = some r := H
 have A3 := zA A30
 clear A30
 replace H := Option.bind_eq_some_iff.mp H
 obtain ⟨t326, A40, H⟩ := H
 replace H : (some t326) = some r := H
 have A4 := zA A40
 clear A40
 obtain rfl := Option.some.inj H
 go_enter Try.func21, Try.ntmps21
 go_wp2_with (first | ((with_reducible refine gate_dst (N := 2) rfl ?_); refine box_event ?hg (N := 2) ?hd (cs := #[.int .i64 a0_0, .int .i64 a0_1, .slice A0_2 l0_2.length c0_2]) (t := 24) ?hr ?_; (case hd => rfl); (case hg => rfl); (case hr => first | (go_simp; done) | (go_simp; rfl)); intro gA hg w5 hbox hb; have n0_ := zA (below_step (by repeat (first | (with_reducible first | exact HB.out | apply zW | apply zX | apply zY) | exact HB.out)) hb); have n1_ := zA (hbox); have n2_ := zA ((by rw [hg]; exact (below_size (by repeat (first | (with_reducible first | exact HB.out | apply zW | apply zX | apply zY) | exact HB.out))) : w.heap.size ≤ gA)); have n3_ := zA ((by rw [hg]; exact (below_size (by repeat (first | (with_reducible first | exact HB.out | apply zW | apply zX | apply zY) | exact HB.out))) : w.heap.size ≤ gA)); clear HB; have HB := n0_; have BK5B := n1_; have GW5B := n2_; have GE5B := n3_; clear n0_ n1_ n2_ n3_; clear hb hbox hg; have hcz6_0 : w5.cell? ⟨gA, 0, none⟩ = some (.int .i64 a0_0) := (blk_cell BK5B.out 0).trans rfl; have hcz6_1 : w5.cell? ⟨gA, 1, none⟩ = some (.int .i64 a0_1) := (blk_cell BK5B.out 1).trans rfl; have hcz6_2 : w5.cell? ⟨gA, 2, none⟩ = some (.slice A0_2 l0_2.length c0_2) := (blk_cell BK5B.out 2).trans rfl; have hfz6_0 := blk_frozen BK5B.out 0; have hfz6_1 := blk_frozen BK5B.out 1; have hfz6_2 := blk_frozen BK5B.out 2) | ((with_reducible refine gate_callee (f := 64) rfl ?_); refine goesL_ (some 6) rfl rfl Try.func64 (by kernel_rfl) rfl #[.agg #[.int .i64 a0_0, .int .i64 a0_1, .slice A0_2 l0_2.length c0_2]] rfl (by (try simp only [List.map_toArray, List.map_cons, List.map_nil]); first | done | rfl | (simp only [List.length_drop, List.length_take]; rfl)) ?_; (with_reducible refine (kimberliteref03_Out.calls k a0_0 a0_1 _ _ l0_2 t322 t323 _ ?side1 ?side2 A3.out).mono ?_); (case side1 => repeat (first | exact (Kd.C_below HR0_2.out HB.out) | (with_reducible refine Kd.C_alloc ?_ _) | (with_reducible refine Kd.C_drewN ?_ _) | (with_reducible refine Kd.C_drew ?_))); (case side2 => exact HC0_2.out); rintro e w7 ⟨v324, rfl, ho0, hb⟩; refine ⟨_, rfl, ?_⟩; have n0_ := zA (Kd.R_lower ho0 (below_size (by repeat (first | (with_reducible first | exact HB.out | apply zW | apply zX | apply zY | refine zS ?_ GE5B.out) | exact HB.out)))); have n1_ := zA (blk_below (g := gA) (o := .cells #[.int .i64 a0_0, .int .i64 a0_1, .slice A0_2 l0_2.length c0_2] 24 (0, 0)) (by (with_reducible repeat (first | refine zN ?_ _ | refine zD ?_ | refine zB ?_ _)); exact BK5B.out) hb); have n2_ := zA (below_step (by repeat (first | (with_reducible first | exact HB.out | apply zW | apply zX | apply zY | refine zS ?_ GE5B.out) | exact HB.out)) hb); clear BK5B; clear HB; have HO5F := n0_; have BK5B := n1_; have HB := n2_; clear n0_ n1_ n2_; (try clear hb); (try clear hb2); (try clear hk); (try clear hi); (try clear ho0); obtain ⟨Ao8, co8, eo8⟩ := Kd.R_slice HO5F.out; subst eo8) | ((with_reducible refine gate_callee (f := 63) rfl ?_); refine goesL_ (some 8) rfl rfl Try.func63 (by kernel_rfl) rfl #[.agg #[.int .i64 t322, .slice Ao8 t323.length co8], .int .i64 a1] rfl (by (try simp only [List.map_toArray, List.map_cons, List.map_nil]); first | done | rfl | (simp only [List.length_drop, List.length_take]; rfl)) ?_; (with_reducible refine (kimberliteref03_Greatest.calls k t322 _ _ t323 a1 t326 _ ?side1 ?side2 A4.out).mono ?_); (case side1 => repeat (first | exact (Kd.R_reads' HO5F.out).2.2 | (with_reducible refine Kd.C_alloc ?_ _) | (with_reducible refine Kd.C_drewN ?_ _) | (with_reducible refine Kd.C_drew ?_))); (case side2 => exact (Kd.R_reads' HO5F.out).2.1); rintro e w9 ⟨rfl, hb⟩; refine ⟨_, rfl, ?_⟩; have n0_ := zA (Kd.R_below (by (with_reducible repeat (first | apply Kd.R_alloc | apply Kd.R_drewN | apply Kd.R_drew)); exact HO5F.out) hb); have n1_ := zA (blk_below (g := gA) (o := .cells #[.int .i64 a0_0, .int .i64 a0_1, .slice A0_2 l0_2.length c0_2] 24 (0, 0)) (by (with_reducible repeat (first | refine zN ?_ _ | refine zD ?_ | refine zB ?_ _)); exact BK5B.out) hb); have n2_ := zA (below_step (by repeat (first | (with_reducible first | exact HB.out | apply zW | apply zX | apply zY | refine zS ?_ GE5B.out) | exact HB.out)) hb); clear HO5F; clear BK5B; clear HB; have HO5F := n0_; have BK5B := n1_; have HB := n2_; clear n0_ n1_ n2_; (try clear hb); (try clear hb2); (try clear hk); (try clear hi)))
 go_ret
 exact ⟨by first | rfl | (simp [errW_none, errW_some] <;> rfl) | (simp [*, errW_none, errW_some] <;> rfl), by repeat (first | (with_reducible first | exact HB.out | apply zW | apply zX | apply zY | refine zS ?_ GE5B.out) | exact HB.out)⟩
end Go.Proofs.Ytfeeaipbmpmpgaa.PX

namespace Go.Proofs.Ytfeeaipbmpmpgaa.PX
open Go.RowKit Go.Proofs.YtfeeaipbmpmpgaaW.PrintWords Go.Proofs.YtfeeaipbmpmpgaaW.PrintLast Go.Proofs.YtfeeaipbmpmpgaaW.PrintMore
set_option linter.unusedVariables false
set_option linter.unusedSimpArgs false

/-! ### a curve written out -/
def outV (b : Int) (l : List Int) : List Int := (List.range (l.length + 1)).map fun i => b + sm l i
theorem outV_length (b : Int) (l : List Int) : (outV b l).length = l.length + 1 := by simp [outV]
theorem outV_get (b : Int) (l : List Int) (i : Nat) (h : i ≤ l.length) : rd (outV b l) (i : Int) = b + sm l i := by
  rw [rd_getElem _ i (by rw [outV_length]; omega)]
  simp [outV]
theorem outV_take (b : Int) (l : List Int) (n : Nat) (h : n < l.length) : (List.range (n + 1)).map (fun i => b + sm l i) ++ [b + sm l (n + 1)] = (List.range (n + 2)).map (fun i => b + sm l i) := by
  rw [List.range_succ (n := n + 1), List.map_append]
  rfl
theorem out_l0 {a b : Int} {l : List Int} (hv : valB a b l = true) (d : Nat) : ∀ k n : Nat, n + d = l.length → d < k →
    kimberliteref03_Out.l0 k (n : Int) a b l a ((List.range (n + 1)).map fun i => b + sm l i) = some (a, outV b l) := by
  have hl := (val_from hv).2.2.2.2
  induction d with
  | zero =>
    intro k n hn hk
    obtain ⟨k, rfl⟩ : ∃ m, k = m + 1 := ⟨k - 1, by omega⟩
    simp only [kimberliteref03_Out.l0]
    rw [if_neg (by omega)]
    have : n = l.length := by omega
    subst this
    rfl
  | succ d ih =>
    intro k n hn hk
    obtain ⟨k, rfl⟩ : ∃ m, k = m + 1 := ⟨k - 1, by omega⟩
    have hlen : ((List.range (n + 1)).map fun i => b + sm l i).length = n + 1 := by simp
    have hb := cval_bound hv (n + 1)
    have hr : rd ((List.range (n + 1)).map fun i => b + sm l i) (n : Int) = b + sm l n := by
      rw [rd_getElem _ n (by rw [hlen]; omega)]
      simp
    simp only [kimberliteref03_Out.l0]
    rw [if_pos (by omega), if_pos (by omega), hlen, if_pos (by omega), if_pos (by omega), hr, rd_getElem l n (by omega)]
    have hs := sm_succ l n (by omega)
    rw [show b + sm l n + l[n] = b + sm l (n + 1) from by omega, w64 (x := b + sm l (n + 1)) (by omega) (by omega), w64 (x := (n : Int) + 1) (by omega) (by omega), show ((n : Int) + 1) = ((n + 1 : Nat) : Int) from by omega, outV_take b l n (by omega)]
    exact ih k (n + 1) (by omega) (by omega)
theorem out_some {a b : Int} {l : List Int} (hv : valB a b l = true) (k : Nat) (hk : 100 ≤ k) : kimberliteref03_Out.f k a b l = some (a, outV b l) := by
  have hl := (val_from hv).2.2.2.2
  have := out_l0 hv l.length k 0 (by omega) (by omega)
  unfold kimberliteref03_Out.f
  simpa [sm] using this

/-! ### the greatest of p*x - c(x) -/
def grV (a b : Int) (l : List Int) (p : Int) : Nat → Int
  | 0 => p * a - b
  | n + 1 => mx (grV a b l p n) (p * (a + (n : Int) + 1) - (b + sm l (n + 1)))
def gr (a b : Int) (l : List Int) (p : Int) : Int := grV a b l p l.length
theorem grV_ge (a b : Int) (l : List Int) (p : Int) (n i : Nat) (h : i ≤ n) : p * (a + (i : Int)) - (b + sm l i) ≤ grV a b l p n := by
  induction n with
  | zero =>
    have : i = 0 := by omega
    subst this
    simp [grV, sm]
  | succ n ih =>
    simp only [grV, mx]
    by_cases e : i = n + 1
    · subst e
      rw [show a + ((n + 1 : Nat) : Int) = a + (n : Int) + 1 from by omega]
      split <;> omega
    · have := ih (by omega)
      split <;> omega
theorem grV_ex (a b : Int) (l : List Int) (p : Int) (n : Nat) : ∃ i, i ≤ n ∧ grV a b l p n = p * (a + (i : Int)) - (b + sm l i) := by
  induction n with
  | zero => exact ⟨0, by omega, by simp [grV, sm]⟩
  | succ n ih =>
    obtain ⟨i, hi, e⟩ := ih
    simp only [grV, mx]
    split
    · exact ⟨n + 1, by omega, by rw [show a + ((n + 1 : Nat) : Int) = a + (n : Int) + 1 from by omega]⟩
    · exact ⟨i, by omega, e⟩
/-- A product of two numbers within bounds is within the bounds' product. -/
theorem mul_bound {p x P X : Int} (hp : -P ≤ p ∧ p ≤ P) (hx : -X ≤ x ∧ x ≤ X) : -(P * X) ≤ p * x ∧ p * x ≤ P * X := by
  have h0 : 0 ≤ P := by omega
  have h1 : 0 ≤ X := by omega
  rcases Int.le_total 0 p with h | h <;> rcases Int.le_total 0 x with g | g
  · have a := Int.mul_le_mul hp.2 hx.2 g h0
    have b := Int.mul_nonneg h g
    have c := Int.mul_nonneg h0 h1
    omega
  · have a := Int.mul_le_mul hp.2 (show -x ≤ X from by omega) (by omega) h0
    have b := Int.mul_nonneg h (show 0 ≤ -x from by omega)
    have c := Int.mul_nonneg h0 h1
    rw [Int.mul_neg] at a b
    omega
  · have a := Int.mul_le_mul (show -p ≤ P from by omega) hx.2 g h0
    have b := Int.mul_nonneg (show 0 ≤ -p from by omega) g
    have c := Int.mul_nonneg h0 h1
    rw [Int.neg_mul] at a b
    omega
  · have a := Int.mul_le_mul (show -p ≤ P from by omega) (show -x ≤ X from by omega) (by omega) h0
    have b := Int.mul_nonneg (show 0 ≤ -p from by omega) (show 0 ≤ -x from by omega)
    have c := Int.mul_nonneg h0 h1
    rw [Int.neg_mul_neg] at a b
    omega
theorem mul_small {p x : Int} (hp : -1073741825 ≤ p ∧ p ≤ 1073741825) (hx : -2097152 ≤ x ∧ x ≤ 2097152) : -2251799815782400 ≤ p * x ∧ p * x ≤ 2251799815782400 := by
  have := mul_bound (P := 1073741825) (X := 2097152) hp hx
  omega
theorem great_l0 {a b : Int} {l : List Int} (hv : valB a b l = true) {p : Int} (hp : -1073741825 ≤ p ∧ p ≤ 1073741825) (d : Nat) : ∀ k n : Nat, n + d = l.length → d + 1 < k →
    kimberliteref03_Greatest.l0 k p (grV a b l p n) (a + ((n + 1 : Nat) : Int)) a (outV b l) = some (gr a b l p) := by
  have hvf := val_from hv
  have hl : l.length ≤ 64 := hvf.2.2.2.2
  have ha : -1048576 ≤ a ∧ a ≤ 1048576 := ⟨hvf.1, hvf.2.1⟩
  clear hvf
  have hto : kimberliteref03_Row_To.f a (outV b l) = some (a + (l.length : Int)) := by
    unfold kimberliteref03_Row_To.f
    rw [outV_length]
    rw [w64 (x := a + ((l.length + 1 : Nat) : Int)) (by omega) (by omega), w64 (by omega) (by omega)]
    congr 1
    omega
  induction d with
  | zero =>
    intro k n hn hk
    obtain ⟨k, rfl⟩ : ∃ m, k = m + 1 := ⟨k - 1, by omega⟩
    simp only [kimberliteref03_Greatest.l0]
    rw [hto]
    simp only [Option.bind_some]
    rw [if_neg (by omega)]
    have : n = l.length := by omega
    subst this
    rfl
  | succ d ih =>
    intro k n hn hk
    obtain ⟨k, rfl⟩ : ∃ m, k = m + 1 := ⟨k - 1, by omega⟩
    have hval : kimberliteref03_Row_Value.f a (outV b l) (a + ((n + 1 : Nat) : Int)) = some (b + sm l (n + 1)) := by
      unfold kimberliteref03_Row_Value.f
      rw [w64 (x := a + ((n + 1 : Nat) : Int) - a) (by omega) (by omega), show a + ((n + 1 : Nat) : Int) - a = ((n + 1 : Nat) : Int) from by omega, if_pos (by omega), outV_length, if_pos (by omega), outV_get b l (n + 1) (by omega)]
    have hb := cval_bound hv (n + 1)
    have hm := mul_small hp (x := a + ((n + 1 : Nat) : Int)) (by omega)
    simp only [kimberliteref03_Greatest.l0]
    rw [hto]
    simp only [Option.bind_some]
    rw [if_pos (by omega), hval]
    simp only [Option.bind_some]
    rw [w64 (x := p * (a + ((n + 1 : Nat) : Int))) (by omega) (by omega), w64 (x := p * (a + ((n + 1 : Nat) : Int)) - (b + sm l (n + 1))) (by omega) (by omega), w64 (x := a + ((n + 1 : Nat) : Int) + 1) (by omega) (by omega)]
    rw [show a + ((n + 1 : Nat) : Int) + 1 = a + ((n + 1 + 1 : Nat) : Int) from by omega]
    have hg : mx (grV a b l p n) (p * (a + ((n + 1 : Nat) : Int)) - (b + sm l (n + 1))) = grV a b l p (n + 1) := by
      simp only [grV]
      rw [show a + ((n + 1 : Nat) : Int) = a + (n : Int) + 1 from by omega]
    rw [hg]
    exact ih k (n + 1) (by omega) (by omega)
theorem great_some {a b : Int} {l : List Int} (hv : valB a b l = true) {p : Int} (hp : -1073741825 ≤ p ∧ p ≤ 1073741825) (k : Nat) (hk : 100 ≤ k) : kimberliteref03_Greatest.f k a (outV b l) p = some (gr a b l p) := by
  have hvf := val_from hv
  have hl : l.length ≤ 64 := hvf.2.2.2.2
  have ha : -1048576 ≤ a ∧ a ≤ 1048576 := ⟨hvf.1, hvf.2.1⟩
  have hb : -1099511627776 ≤ b ∧ b ≤ 1099511627776 := ⟨hvf.2.2.1, hvf.2.2.2.1⟩
  clear hvf
  obtain ⟨k, rfl⟩ : ∃ m, k = m + 1 := ⟨k - 1, by omega⟩
  have hm := mul_small hp (x := a) (by omega)
  have h0 : rd (outV b l) 0 = b := by
    have := outV_get b l 0 (by omega)
    simpa [sm] using this
  have hto : kimberliteref03_Row_To.f a (outV b l) = some (a + (l.length : Int)) := by
    unfold kimberliteref03_Row_To.f
    rw [outV_length]
    rw [w64 (x := a + ((l.length + 1 : Nat) : Int)) (by omega) (by omega), w64 (by omega) (by omega)]
    congr 1
    omega
  have hval : kimberliteref03_Row_Value.f a (outV b l) a = some b := by
    unfold kimberliteref03_Row_Value.f
    rw [Int.sub_self, w64 (x := 0) (by decide) (by decide), if_pos (by decide), outV_length, if_pos (by omega), h0]
  unfold kimberliteref03_Greatest.f
  rw [outV_length, if_pos (by omega), h0]
  simp only [kimberliteref03_Greatest.l0]
  rw [hto]
  simp only [Option.bind_some]
  rw [if_pos (by omega), hval]
  simp only [Option.bind_some]
  rw [w64 (x := p * a) (by omega) (by omega), w64 (x := p * a - b) (by omega) (by omega), w64 (x := a + 1) (by omega) (by omega)]
  have hg : mx (p * a - b) (p * a - b) = grV a b l p 0 := by simp [mx, grV]
  rw [hg]
  exact great_l0 hv hp l.length k 0 (by omega) (by omega)
theorem law_great {a b : Int} {l : List Int} (hv : valB a b l = true) {p : Int} (hp : -1073741825 ≤ p ∧ p ≤ 1073741825) (k : Nat) (hk : 100 ≤ k) : kimberlitelaw03_greatest.f k a b l p = some (gr a b l p) := by
  unfold kimberlitelaw03_greatest.f
  rw [out_some hv k hk]
  simp only [Option.bind_some]
  rw [great_some hv hp k hk]
  rfl
/-- Every number of the domain gives at most the greatest. -/
theorem gr_ge (a b : Int) (l : List Int) (p x : Int) (hd : cdom a l x = true) : p * x - cval a b l x ≤ gr a b l p := by
  have h := cdom_iff.1 hd
  obtain ⟨n, hn⟩ := Int.eq_ofNat_of_zero_le (show 0 ≤ x - a from by omega)
  have := grV_ge a b l p l.length n (by omega)
  unfold cval gr
  rw [hn, Int.toNat_natCast]
  rw [show a + (n : Int) = x from by omega] at this
  exact this
theorem gr_ex (a b : Int) (l : List Int) (p : Int) : ∃ x, cdom a l x = true ∧ gr a b l p = p * x - cval a b l x := by
  obtain ⟨i, hi, e⟩ := grV_ex a b l p l.length
  refine ⟨a + (i : Int), cdom_iff.2 (by omega), ?_⟩
  unfold gr cval
  rw [e, show (a + (i : Int) - a).toNat = i from by omega]
theorem gr_bound {a b : Int} {l : List Int} (hv : valB a b l = true) {p : Int} (hp : -1073741825 ≤ p ∧ p ≤ 1073741825) : -2252999815782400 ≤ gr a b l p ∧ gr a b l p ≤ 2252999815782400 := by
  obtain ⟨x, hx, e⟩ := gr_ex a b l p
  have hvf := val_from hv
  have hd := cdom_iff.1 hx
  have hm := mul_small hp (x := x) (by omega)
  have hc := cval_bound hv (x - a).toNat
  unfold cval at e
  omega
end Go.Proofs.Ytfeeaipbmpmpgaa.PX

namespace Go.Proofs.Ytfeeaipbmpmpgaa.PX
open Go.RowKit Go.Proofs.YtfeeaipbmpmpgaaW.PrintWords Go.Proofs.YtfeeaipbmpmpgaaW.PrintLast Go.Proofs.YtfeeaipbmpmpgaaW.PrintMore
set_option linter.unusedVariables false
set_option linter.unusedSimpArgs false

theorem joinR_cases (a b : Int) (l : List Int) (a' b' : Int) (l' : List Int) :
    (valB a b l = true ∧ valB a' b' l' = true ∧ valB (a + a') (b + b') (mrg l l') = true ∧ joinR a b l a' b' l' = (a + a', b + b', mrg l l', 0)) ∨
    (valB a b l = true ∧ valB a' b' l' = true ∧ valB (a + a') (b + b') (mrg l l') = false ∧ joinR a b l a' b' l' = (0, 0, [], 4)) ∨
    ((valB a b l = false ∨ valB a' b' l' = false) ∧ joinR a b l a' b' l' = (0, 0, [], 2)) := by
  unfold joinR madeR
  by_cases h1 : valB a b l = true
  · by_cases h2 : valB a' b' l' = true
    · rw [if_pos h1, if_pos h2, sortI_append l l' (val_all h1).1 (val_all h2).1]
      by_cases h3 : valB (a + a') (b + b') (mrg l l') = true
      · exact .inl ⟨h1, h2, h3, by rw [if_pos h3]⟩
      · exact .inr (.inl ⟨h1, h2, Bool.eq_false_iff.2 h3, by rw [if_neg h3]⟩)
    · rw [if_pos h1, if_neg h2]
      exact .inr (.inr ⟨.inr (Bool.eq_false_iff.2 h2), rfl⟩)
  · rw [if_neg h1]
    exact .inr (.inr ⟨.inl (Bool.eq_false_iff.2 h1), rfl⟩)
theorem joinR_comm (a b : Int) (l : List Int) (a' b' : Int) (l' : List Int) : joinR a b l a' b' l' = joinR a' b' l' a b l := by
  unfold joinR
  rw [Int.add_comm a, Int.add_comm b, sortI_congr (List.perm_append_comm : (l ++ l').Perm (l' ++ l))]
  by_cases h1 : valB a b l = true
  · by_cases h2 : valB a' b' l' = true
    · rw [if_pos h1, if_pos h2, if_pos h2, if_pos h1]
    · rw [if_pos h1, if_neg h2, if_neg h2]
  · by_cases h2 : valB a' b' l' = true
    · rw [if_neg h1, if_pos h2, if_neg h1]
    · rw [if_neg h1, if_neg h2]
theorem joinR_length (a b : Int) (l : List Int) (a' b' : Int) (l' : List Int) : (joinR a b l a' b' l').2.2.1.length ≤ 64 := by
  rcases joinR_cases a b l a' b' l' with ⟨_, _, h, e⟩ | ⟨_, _, _, e⟩ | ⟨_, e⟩
  · rw [e]; exact (val_from h).2.2.2.2
  · rw [e]; simp
  · rw [e]; simp
theorem mrg_assoc {l m n : List Int} (hl : l.Pairwise (· ≤ ·)) (hm : m.Pairwise (· ≤ ·)) (hn : n.Pairwise (· ≤ ·)) : mrg (mrg l m) n = mrg l (mrg m n) :=
  sorted_eq (mrg_sorted _ _ (mrg_sorted _ _ hl hm) hn) (mrg_sorted _ _ hl (mrg_sorted _ _ hm hn)) (by
    refine (mrg_perm _ _).trans (((mrg_perm l m).append_right n).trans ?_)
    rw [List.append_assoc]
    exact ((mrg_perm m n).append_left l).symm.trans (mrg_perm l (mrg m n)).symm)
/-- The least sum at a number: no division is smaller. -/
theorem cval_join_le {a b : Int} {l : List Int} {a' b' : Int} {l' : List Int} (h1 : valB a b l = true) (h2 : valB a' b' l' = true) (x y : Int) (hx : cdom a l x = true) (hy : cdom a' l' y = true) :
    cval (a + a') (b + b') (mrg l l') (x + y) ≤ cval a b l x + cval a' b' l' y := by
  have d1 := cdom_iff.1 hx
  have d2 := cdom_iff.1 hy
  have := sm_mrg_le l l' (val_all h1).1 (val_all h2).1 (x - a).toNat (y - a').toNat (by omega) (by omega)
  unfold cval
  rw [show (x + y - (a + a')).toNat = (x - a).toNat + (y - a').toNat from by omega]
  omega
theorem cdom_join {a : Int} {l : List Int} {a' : Int} {l' : List Int} (x y : Int) (hx : cdom a l x = true) (hy : cdom a' l' y = true) : cdom (a + a') (mrg l l') (x + y) = true := by
  have d1 := cdom_iff.1 hx
  have d2 := cdom_iff.1 hy
  rw [cdom_iff, mrg_length]
  omega
/-- .. and one is just that. -/
theorem cval_join_ex {a b : Int} {l : List Int} {a' b' : Int} {l' : List Int} (h1 : valB a b l = true) (h2 : valB a' b' l' = true) (z : Int) (hz : cdom (a + a') (mrg l l') z = true) :
    ∃ t : Nat, t ≤ l.length ∧ cdom a' l' (z - a - (t : Int)) = true ∧ cval a b l (a + (t : Int)) + cval a' b' l' (z - a - (t : Int)) = cval (a + a') (b + b') (mrg l l') z := by
  have d1 := cdom_iff.1 hz
  rw [mrg_length] at d1
  obtain ⟨i, j, e, hi, hj, hs⟩ := sm_mrg_ex l l' (z - (a + a')).toNat (by omega)
  refine ⟨i, hi, cdom_iff.2 (by omega), ?_⟩
  unfold cval
  rw [hs, show (a + (i : Int) - a).toNat = i from by omega, show (z - a - (i : Int) - a').toNat = j from by omega]
  omega
theorem cval_i64 {a b : Int} {l : List Int} (h : valB a b l = true) (x : Int) : -1099578736640 ≤ cval a b l x ∧ cval a b l x ≤ 1099578736640 := by
  have := cval_bound h (x - a).toNat
  unfold cval
  omega
end Go.Proofs.Ytfeeaipbmpmpgaa.PX

namespace Go.Proofs.Ytfeeaipbmpmpgaa.PX
open Go.RowKit Go.Proofs.YtfeeaipbmpmpgaaW.PrintWords Go.Proofs.YtfeeaipbmpmpgaaW.PrintLast Go.Proofs.YtfeeaipbmpmpgaaW.PrintMore
set_option linter.unusedVariables false
set_option linter.unusedSimpArgs false

theorem alive_join : joinR 0 0 [1, 3] 0 0 [2, 2] = (0, 0, [1, 2, 2, 3], 0) := by
  have hs : sortI ([1, 3] ++ [2, 2]) = [1, 2, 2, 3] := by simp [sortI, List.mergeSort, List.MergeSort.Internal.splitInTwo]
  unfold joinR madeR
  rw [hs]
  decide +kernel
theorem alive_split : splitR [⟨0, 0, [1, 3]⟩, ⟨0, 0, [2, 2]⟩] 3 = ([1, 2], 5, 2, 0) := by
  decide +kernel
theorem C_blk {w : World} {g : Nat} {e : Nat} {cs : Array Value} (xs : List Int) (h : w.heap[g]? = some (.cells cs e (0, 0))) (hc : cs = (xs.map (Value.int .i64)).toArray) (hm : xs.length ≤ 1000) : Kd.C (Kd.int .i64) w (some ⟨g, 0, none⟩) xs.length xs := by
  subst hc
  refine ⟨rfl, by omega, fun _ => ⟨_, rfl, fun j p hj => ⟨[.int .i64 p], rfl, rfl, fun i u hu => ?_⟩⟩⟩
  have hs : (Kd.int .i64).sz = 1 := rfl
  rw [hs, Nat.mul_one]
  cases i with
  | succ i => simp at hu
  | zero =>
    have hu' : Value.int .i64 p = u := by simpa using hu
    subst hu'
    rw [Nat.add_zero, add_plain, blk_cell h]
    simp [hj]
theorem alive_join_calls (g0 g1 : Nat) (W : World) (h0 : W.heap[g0]? = some (.cells #[.int .i64 1, .int .i64 3] 3 (0, 0))) (h1 : W.heap[g1]? = some (.cells #[.int .i64 2, .int .i64 2] 3 (0, 0))) :
    Calls Try.prog 14 #[.agg #[.int .i64 0, .int .i64 0, .slice (some ⟨g0, 0, none⟩) 2 2], .agg #[.int .i64 0, .int .i64 0, .slice (some ⟨g1, 0, none⟩) 2 2]] W fun e w' => ∃ v, e = .returned (.tuple #[.agg #[.int .i64 0, .int .i64 0, v], .int .i64 0]) ∧ Kd.R (Kd.int .i64) 3 w' W.heap.size (fun _ => True) v [1, 2, 2, 3] ∧ Below W.heap.size W w' :=
  curve_Join.calls 0 0 _ 2 [1, 3] 0 0 _ 2 [2, 2] _ _ _ _ W (C_blk [1, 3] h0 rfl (by decide)) (by decide) (C_blk [2, 2] h1 rfl (by decide)) (by decide) (congrArg some alive_join)
theorem C_curves {W : World} {g g0 g1 : Nat} (hb : W.heap[g]? = some (.cells #[.int .i64 0, .int .i64 0, .slice (some ⟨g0, 0, none⟩) 2 2, .int .i64 0, .int .i64 0, .slice (some ⟨g1, 0, none⟩) 2 2] 24 (0, 0)))
    (h0 : W.heap[g0]? = some (.cells #[.int .i64 1, .int .i64 3] 3 (0, 0))) (h1 : W.heap[g1]? = some (.cells #[.int .i64 2, .int .i64 2] 3 (0, 0))) :
    Kd.C k24 W (some ⟨g, 0, none⟩) 2 [⟨0, 0, [1, 3]⟩, ⟨0, 0, [2, 2]⟩] := by
  have hsz : k24.sz = 3 := rfl
  refine ⟨rfl, by omega, fun _ => ⟨_, rfl, fun j p hj => ?_⟩⟩
  match j with
  | 0 =>
    have : p = ⟨0, 0, [1, 3]⟩ := by simpa using hj.symm
    subst this
    refine ⟨_, rfl, k24_mk W ⟨0, 0, [1, 3]⟩ (c2 := 2) (by decide) (C_blk [1, 3] h0 rfl (by decide)), fun i u hu => ?_⟩
    rw [add_plain, blk_cell hb, hsz, Nat.zero_mul, Nat.zero_add]
    match i with
    | 0 => simpa using hu
    | 1 => simpa using hu
    | 2 => simpa using hu
    | i + 3 => simp at hu
  | 1 =>
    have : p = ⟨0, 0, [2, 2]⟩ := by simpa using hj.symm
    subst this
    refine ⟨_, rfl, k24_mk W ⟨0, 0, [2, 2]⟩ (c2 := 2) (by decide) (C_blk [2, 2] h1 rfl (by decide)), fun i u hu => ?_⟩
    rw [add_plain, blk_cell hb, hsz, Nat.one_mul]
    match i with
    | 0 => simpa using hu
    | 1 => simpa using hu
    | 2 => simpa using hu
    | i + 3 => simp at hu
  | j + 2 => simp at hj
theorem alive_split_calls (g g0 g1 : Nat) (W : World) (hb : W.heap[g]? = some (.cells #[.int .i64 0, .int .i64 0, .slice (some ⟨g0, 0, none⟩) 2 2, .int .i64 0, .int .i64 0, .slice (some ⟨g1, 0, none⟩) 2 2] 24 (0, 0)))
    (h0 : W.heap[g0]? = some (.cells #[.int .i64 1, .int .i64 3] 3 (0, 0))) (h1 : W.heap[g1]? = some (.cells #[.int .i64 2, .int .i64 2] 3 (0, 0))) :
    Calls Try.prog 19 #[.slice (some ⟨g, 0, none⟩) 2 2, .int .i64 3] W fun e w' => ∃ v, e = .returned (.tuple #[v, .int .i64 5, .int .i64 2, .int .i64 0]) ∧ Kd.R (Kd.int .i64) 3 w' W.heap.size (fun _ => True) v [1, 2] ∧ Below W.heap.size W w' :=
  curve_Split.calls _ 2 [⟨0, 0, [1, 3]⟩, ⟨0, 0, [2, 2]⟩] 3 _ _ _ _ W (C_curves hb h0 h1) (by decide) (congrArg some alive_split)
def aliveW (w : World) : World :=
  (((w.alloc (.cells #[.int .i64 1, .int .i64 3] 3)).alloc (.cells #[.int .i64 2, .int .i64 2] 3)).alloc (.cells #[.int .i64 0, .int .i64 0, .slice (some ⟨w.heap.size, 0, none⟩) 2 2] 24)).alloc (.cells #[.int .i64 0, .int .i64 0, .slice (some ⟨w.heap.size + 1, 0, none⟩) 2 2] 24)
theorem size1 (w : World) (o : Obj) : (w.alloc o).heap.size = w.heap.size + 1 := by simp
theorem aliveW_facts (w : World) : (aliveW w).heap[w.heap.size]? = some (.cells #[.int .i64 1, .int .i64 3] 3 (0, 0)) ∧ (aliveW w).heap[w.heap.size + 1]? = some (.cells #[.int .i64 2, .int .i64 2] 3 (0, 0)) ∧
    (aliveW w).heap[w.heap.size + 1 + 1]? = some (.cells #[.int .i64 0, .int .i64 0, .slice (some ⟨w.heap.size, 0, none⟩) 2 2] 24 (0, 0)) ∧ (aliveW w).heap[w.heap.size + 1 + 1 + 1]? = some (.cells #[.int .i64 0, .int .i64 0, .slice (some ⟨w.heap.size + 1, 0, none⟩) 2 2] 24 (0, 0)) ∧ Below w.heap.size w (aliveW w) := by
  refine ⟨blk_alloc (blk_alloc (blk_alloc (blk_new _ _) _) _) _, ?_, ?_, ?_, below_alloc (below_alloc (below_alloc (below_alloc (Below.refl _ _) _) _) _) _⟩
  · rw [← size1 w (.cells #[.int .i64 1, .int .i64 3] 3)]
    exact blk_alloc (blk_alloc (blk_new _ _) _) _
  · rw [← size1 w (.cells #[.int .i64 1, .int .i64 3] 3), ← size1 (w.alloc (.cells #[.int .i64 1, .int .i64 3] 3)) (.cells #[.int .i64 2, .int .i64 2] 3)]
    exact blk_alloc (blk_new _ _) _
  · have h := blk_new (((w.alloc (.cells #[.int .i64 1, .int .i64 3] 3)).alloc (.cells #[.int .i64 2, .int .i64 2] 3)).alloc (.cells #[.int .i64 0, .int .i64 0, .slice (some ⟨w.heap.size, 0, none⟩) 2 2] 24)) (.cells #[.int .i64 0, .int .i64 0, .slice (some ⟨w.heap.size + 1, 0, none⟩) 2 2] 24)
    rw [size1, size1, size1] at h
    exact h
theorem same_lit {w : World} (A : Option Addr) (c : Nat) (l : List Int) (n : Nat) (hn : n = l.length) (cs : Array Value) (hcs : cs = (l.map (Value.int .i64)).toArray) (hc : l.length ≤ c) (hr : Kd.C (Kd.int .i64) w A l.length l) (hm : l.length ≤ 1000 := by decide) (hs : kimberlitelaw03_same.f 1000 l l = some true := by decide +kernel) :
    Calls Try.prog 24 #[.slice A n c, .slice (some ⟨w.heap.size, 0, none⟩) n n] (w.alloc (.cells cs 3)) fun e w' => e = .returned (.bool true) ∧ Below w.heap.size w w' := by
  subst hn
  refine (kimberlitelaw03_same.calls 1000 A c l _ l.length l true _ (Kd.C_alloc hr _) hc (C_blk l (blk_new _ _) hcs hm) (Nat.le_refl _) hs).mono ?_
  rintro e w' ⟨rfl, hd⟩
  exact ⟨rfl, below_then (below_alloc (Below.refl _ _) _) (by simp) hd.below⟩
def aliveV (w1 : World) (Av : Option Addr) (cv : Nat) (g0 g1 : Nat) : World :=
  (w1.alloc (.cells #[.int .i64 0, .int .i64 0, .slice Av 4 cv] 24)).alloc (.cells #[.int .i64 0, .int .i64 0, .slice (some ⟨g0, 0, none⟩) 2 2, .int .i64 0, .int .i64 0, .slice (some ⟨g1, 0, none⟩) 2 2] 24)
theorem aliveV_facts (w1 : World) (Av : Option Addr) (cv : Nat) (g0 g1 : Nat) : (aliveV w1 Av cv g0 g1).heap[w1.heap.size]? = some (.cells #[.int .i64 0, .int .i64 0, .slice Av 4 cv] 24 (0, 0)) ∧
    (aliveV w1 Av cv g0 g1).heap[w1.heap.size + 1]? = some (.cells #[.int .i64 0, .int .i64 0, .slice (some ⟨g0, 0, none⟩) 2 2, .int .i64 0, .int .i64 0, .slice (some ⟨g1, 0, none⟩) 2 2] 24 (0, 0)) ∧ Below w1.heap.size w1 (aliveV w1 Av cv g0 g1) := by
  refine ⟨blk_alloc (blk_new _ _) _, ?_, below_alloc (below_alloc (Below.refl _ _) _) _⟩
  rw [← size1 w1 (.cells #[.int .i64 0, .int .i64 0, .slice Av 4 cv] 24)]
  exact blk_new _ _
def kimberlitelaw03_alive.f : Option Bool := some true
set_option maxHeartbeats 8000000 in
set_option maxRecDepth 100000 in
theorem kimberlitelaw03_alive.calls (r : Bool) (w : World) (h : kimberlitelaw03_alive.f = some r) :
    Calls Try.prog 17 #[] w fun e w' => e = .returned (.bool r) ∧ Below w.heap.size w w' := by
  obtain rfl := Option.some.inj h
  clear h
  have hu24 := Try.underlying24
  obtain ⟨B0, B1, B2, B3, HBW⟩ := aliveW_facts w
  have A0 := Aside0.mk B0
  have A1 := Aside0.mk B1
  have A2 := Aside0.mk B2
  have A3 := Aside0.mk B3
  have AW := Aside0.mk HBW
  clear B0 B1 B2 B3 HBW
  go_enter Try.func17, Try.ntmps17
  go_wp2_with fail
  change Calls _ _ _ (aliveW w) _
  generalize aliveW w = W at A0 A1 A2 A3 AW ⊢
  generalize hg0 : w.heap.size = g0 at A0 A1 A2 A3 ⊢
  generalize hg1 : g0 + 1 = g1 at A0 A1 A2 A3 ⊢
  generalize hg2 : g1 + 1 = g2 at A0 A1 A2 A3 ⊢
  generalize hg3 : g2 + 1 = g3 at A0 A1 A2 A3 ⊢
  clear hg0 hg1 hg2 hg3
  refine (alive_join_calls g0 g1 W A0.out A1.out).mono ?_
  rintro e w1 ⟨v, rfl, hR, hB⟩
  obtain ⟨Av, cv, rfl, hcv, hCv⟩ := Kd.R_reads hR
  have HR := Aside0.mk hCv
  have HV := Aside0.mk hcv
  have HB := Aside0.mk hB
  have hc20 : w1.cell? ⟨g2, 0, none⟩ = some (.int .i64 0) := (blk_cell (blk_below A2.out hB) 0).trans rfl
  have hc21 : w1.cell? ⟨g2, 1, none⟩ = some (.int .i64 0) := (blk_cell (blk_below A2.out hB) 1).trans rfl
  have hc22 : w1.cell? ⟨g2, 2, none⟩ = some (.slice (some ⟨g0, 0, none⟩) 2 2) := (blk_cell (blk_below A2.out hB) 2).trans rfl
  have hc30 : w1.cell? ⟨g3, 0, none⟩ = some (.int .i64 0) := (blk_cell (blk_below A3.out hB) 0).trans rfl
  have hc31 : w1.cell? ⟨g3, 1, none⟩ = some (.int .i64 0) := (blk_cell (blk_below A3.out hB) 1).trans rfl
  have hc32 : w1.cell? ⟨g3, 2, none⟩ = some (.slice (some ⟨g1, 0, none⟩) 2 2) := (blk_cell (blk_below A3.out hB) 2).trans rfl
  have hl2 : g2 < w1.heap.size := blk_lt (blk_below A2.out hB)
  have hl3 : g3 < w1.heap.size := blk_lt (blk_below A3.out hB)
  clear hR hB hcv hCv
  go_wp2_with fail
  change Calls _ _ _ (aliveV w1 Av cv g0 g1) _
  obtain ⟨D0, D1, D2⟩ := aliveV_facts w1 Av cv g0 g1
  have E0 := blk_below (blk_below A0.out HB.out) D2
  have E1 := blk_below (blk_below A1.out HB.out) D2
  have HRv := Aside0.mk (Kd.C_below HR.out D2)
  have HB2 := Aside0.mk (below_then AW.out AW.out.size (below_then HB.out HB.out.size D2))
  generalize aliveV w1 Av cv g0 g1 = V at D0 D1 E0 E1 HRv HB2 ⊢
  generalize w1.heap.size = n0 at D0 D1 E0 E1 ⊢
  clear hc20 hc21 hc22 hc30 hc31 hc32 hl2 hl3 D2
  refine (alive_split_calls (n0 + 1) g0 g1 V D1 E0 E1).mono ?_
  rintro e w2 ⟨v2, rfl, hR2, hB3⟩
  obtain ⟨Au, cu, rfl, hcu, hCu⟩ := Kd.R_reads hR2
  have HU := Aside0.mk hCu
  have HUc := Aside0.mk hcu
  have hn0 : w2.cell? ⟨n0, 2, none⟩ = some (.slice Av 4 cv) := (blk_cell (blk_below D0 hB3) 2).trans rfl
  have HV2 := Aside0.mk (Kd.C_below HRv.out hB3)
  have HB4 := Aside0.mk (below_then HB2.out HB2.out.size hB3)
  clear D0 D1 E0 E1 hR2 hB3 hCu hcu
  go_wp2_with fail
  refine (same_lit (w := w2) Av cv [1, 2, 2, 3] 4 rfl _ rfl HV.out HV2.out).mono ?_
  rintro e w3 ⟨rfl, hb5⟩
  have HB5 := Aside0.mk (below_then HB4.out HB4.out.size hb5)
  have HU2 := Aside0.mk (Kd.C_below HU.out hb5)
  clear hb5
  go_wp2_with fail
  refine (same_lit (w := w3) Au cu [1, 2] 2 rfl _ rfl HUc.out HU2.out).mono ?_
  rintro e w4 ⟨rfl, hb6⟩
  have HB6 := Aside0.mk (below_then HB5.out HB5.out.size hb6)
  clear hb6
  go_wp2
  go_ret
  exact ⟨rfl, HB6.out⟩
end Go.Proofs.Ytfeeaipbmpmpgaa.PX
