import Derived.StillTailTactics
import Derived.Lib.SmallJoins
import Derived.Deep.Slices
import Derived.Deep.Fields
import Derived.ChangeSame
import Derived.WalkKit
import Derived.ProofKit
import Derived.OpenShut
import Derived.ChangeOld
import Derived.Below
import Derived.Test.YtfeeaipbmpmpgaaBBest1
namespace Go.Proofs.Ytfeeaipbmpmpgaa.PX
open Go.RowKit Go.Proofs.YtfeeaipbmpmpgaaW.PrintWords Go.Proofs.YtfeeaipbmpmpgaaW.PrintLast Go.Proofs.YtfeeaipbmpmpgaaW.PrintMore
attribute [local go_sem] max2_int min2_int max_two min_two max_three min_three max_four min_four   -- for this text's walks alone
set_option linter.unusedVariables false
set_option linter.unusedSimpArgs false
/-! ### curve_JoinP: function 14 -/
def curve_JoinP.j0 : Nat → Bool → Int → Int → List Int → Int → Int → List Int → Option (Int × Int × List Int × Int)
 | 0, _, _, _, _, _, _, _ => none
 | k + 1, x14, x208000, x208001, x208002, x209000, x209001, x209002 => if x14 = true then (some (0, 0, ([] : List Int), 2)) else ((slices_Concat_int_int.f (([x208002, x209002] : List (List Int)))).bind fun t215 => ((slices_Sort_int_int.f t215).bind fun t218 => ((curve_made.f (wrap64 (x208000 + x209000)) (wrap64 (x208001 + x209001)) t218).bind fun bt219 => (some (bt219.1, bt219.2.1, bt219.2.2.1, bt219.2.2.2)))))
def curve_JoinP.f (k : Nat) (a0_0 : Int) (a0_1 : Int) (l0_2 : List Int) (a1_0 : Int) (a1_1 : Int) (l1_2 : List Int) : Option (Int × Int × List Int × Int) := (curve_Valid.f a0_0 a0_1 l0_2).bind fun t210 => (if t210 = true then ((curve_Valid.f a1_0 a1_1 l1_2).bind fun t211 => (curve_JoinP.j0 k (!t211) a0_0 a0_1 l0_2 a1_0 a1_1 l1_2)) else (curve_JoinP.j0 k true a0_0 a0_1 l0_2 a1_0 a1_1 l1_2))
theorem curve_JoinP.mono_l : ∀ k, (∀ y0 y1 y2 y3 y4 y5 y6, LeO (curve_JoinP.j0 k y0 y1 y2 y3 y4 y5 y6) (curve_JoinP.j0 (k + 1) y0 y1 y2 y3 y4 y5 y6))
 | 0 => fun _ _ _ _ _ _ _ r h => by simp [curve_JoinP.j0] at h
 | k + 1 => by
  have ih0 := curve_JoinP.mono_l k
  ·
   intro y0 y1 y2 y3 y4 y5 y6
   unfold curve_JoinP.j0
   repeat' first
   | (with_reducible exact ih0 _ _ _ _ _ _ _)
   | (with_reducible exact LeO.refl _)
   | (with_reducible exact LeO.none _)
   | (with_reducible refine LeO.ite ?_ ?_)
   | (with_reducible refine LeO.bind ?_ (fun _ => ?_))
   | exact ih0 _ _ _ _ _ _ _
   | exact LeO.none _
   | refine LeO.ite ?_ ?_
   | refine LeO.bind ?_ (fun _ => ?_)
theorem curve_JoinP.mono : ∀ a0 a1 a2 a3 a4 a5 k, LeO (curve_JoinP.f k a0 a1 a2 a3 a4 a5) (curve_JoinP.f (k + 1) a0 a1 a2 a3 a4 a5) := by
 intro a0 a1 a2 a3 a4 a5 k
 have ih0 := curve_JoinP.mono_l k
 unfold curve_JoinP.f
 repeat' first
   | (with_reducible exact ih0 _ _ _ _ _ _ _)
   | (with_reducible exact LeO.refl _)
   | (with_reducible exact LeO.none _)
   | (with_reducible refine LeO.ite ?_ ?_)
   | (with_reducible refine LeO.bind ?_ (fun _ => ?_))
   | exact ih0 _ _ _ _ _ _ _
   | exact LeO.none _
   | refine LeO.ite ?_ ?_
   | refine LeO.bind ?_ (fun _ => ?_)
set_option maxHeartbeats 8000000 in
set_option maxRecDepth 100000 in
theorem curve_JoinP.calls (k : Nat) (a0_0 : Int) (a0_1 : Int) (P0_2_ : Nat → Prop) (A0_2 : Option Addr) (c0_2 : Nat) (l0_2 : List Int) (a1_0 : Int) (a1_1 : Int) (P1_2_ : Nat → Prop) (A1_2 : Option Addr) (c1_2 : Nat) (l1_2 : List Int) (r1 : Int) (r2 : Int) (r3 : List Int) (r4 : Int) (w : World) (hs0_2 : Kd.V (Kd.int .i64) 3 w w.heap.size (fun k_ => P0_2_ k_) (.slice A0_2 l0_2.length c0_2) l0_2) (hs1_2 : Kd.V (Kd.int .i64) 3 w w.heap.size (fun k_ => P1_2_ k_) (.slice A1_2 l1_2.length c1_2) l1_2) (h : curve_JoinP.f k a0_0 a0_1 l0_2 a1_0 a1_1 l1_2 = some (r1, r2, r3, r4)) :
  Calls Try.prog 14 #[.agg #[.int .i64 a0_0, .int .i64 a0_1, .slice A0_2 l0_2.length c0_2], .agg #[.int .i64 a1_0, .int .i64 a1_1, .slice A1_2 l1_2.length c1_2]] w fun e w' => ∃ v2_ : Value, e = .returned (.tuple #[.agg #[.int .i64 r1, .int .i64 r2, v2_], .int .i64 r4]) ∧ Kd.R (Kd.int .i64) 3 w' w.heap.size (fun k_ => (w.heap.size ≤ k_)) v2_ r3 ∧ Below w.heap.size w w' := by
 have hu24 := Try.underlying24
 have HO0_2 := Aside0.mk (show Kd.V (Kd.int .i64) 3 w w.heap.size (fun k_ => ((P0_2_ k_ ∨ P1_2_ k_) ∨ w.heap.size ≤ k_)) (.slice A0_2 l0_2.length c0_2) l0_2 from Kd.V_mono hs0_2 (fun k_ hk => .inl (.inl hk)))
 have HO1_2 := Aside0.mk (show Kd.V (Kd.int .i64) 3 w w.heap.size (fun k_ => ((P0_2_ k_ ∨ P1_2_ k_) ∨ w.heap.size ≤ k_)) (.slice A1_2 l1_2.length c1_2) l1_2 from Kd.V_mono hs1_2 (fun k_ hk => .inl (.inr hk)))
 have HB := Aside0.mk (Below.refl w.heap.size w)
 have H : ((curve_Valid.f a0_0 a0_1 l0_2).bind fun t210 => (if t210 = true then ((curve_Valid.f a1_0 a1_1 l1_2).bind fun t211 => (curve_JoinP.j0 k (!t211) a0_0 a0_1 l0_2 a1_0 a1_1 l1_2)) else (curve_JoinP.j0 k true a0_0 a0_1 l0_2 a1_0 a1_1 l1_2))) = some (r1, r2, r3, r4) := h
 clear h
 have HC3 := Aside0.mk H
 clear H
 go_enter Try.func14, Try.ntmps14
 go_upto_region 1 with (first | ((with_reducible refine gate_dst (N := 2) rfl ?_); refine box_event ?hg (N := 2) ?hd (cs := #[.int .i64 a0_0, .int .i64 a0_1, .slice A0_2 l0_2.length c0_2]) (t := 24) ?hr ?_; (case hd => rfl); (case hg => rfl); (case hr => first | (go_simp; done) | (go_simp; rfl)); intro gb207 hg w4 hbox hb; have n0_ := Aside0.mk (Kd.V_below (Kd.V_elderB (by (with_reducible repeat (first | apply Kd.V_alloc | apply Kd.V_drewN | apply Kd.V_drew)); exact HO0_2.out) gb207 (Nat.le_of_eq hg.symm)) hb); have n1_ := Aside0.mk (Kd.V_below (Kd.V_elderB (by (with_reducible repeat (first | apply Kd.V_alloc | apply Kd.V_drewN | apply Kd.V_drew)); exact HO1_2.out) gb207 (Nat.le_of_eq hg.symm)) hb); have n2_ := Aside0.mk (below_step (by repeat (first | (with_reducible first | exact HB.out | apply below_alloc | apply pw_below_drewN | apply below_drew1) | exact HB.out)) hb); have n3_ := Aside0.mk (hbox); have n4_ := Aside0.mk ((by rw [hg]; exact (below_size (by repeat (first | (with_reducible first | exact HB.out | apply below_alloc | apply pw_below_drewN | apply below_drew1) | exact HB.out))) : w.heap.size ≤ gb207)); have n5_ := Aside0.mk ((by rw [hg]; exact (below_size (by repeat (first | (with_reducible first | exact HB.out | apply below_alloc | apply pw_below_drewN | apply below_drew1) | exact HB.out))) : w.heap.size ≤ gb207)); clear HO0_2; clear HO1_2; clear HB; have HO0_2 := n0_; have HO1_2 := n1_; have HB := n2_; have BK207 := n3_; have GW207 := n4_; have GE207 := n5_; clear n0_ n1_ n2_ n3_ n4_ n5_; clear hb hbox hg) | ((with_reducible refine gate_dst (N := 3) rfl ?_); refine box_event ?hg (N := 3) ?hd (cs := #[.int .i64 a1_0, .int .i64 a1_1, .slice A1_2 l1_2.length c1_2]) (t := 24) ?hr ?_; (case hd => rfl); (case hg => rfl); (case hr => first | (go_simp; done) | (go_simp; rfl)); intro gb208 hg w5 hbox hb; have n0_ := Aside0.mk (Kd.V_below (Kd.V_elderB (by (with_reducible repeat (first | apply Kd.V_alloc | apply Kd.V_drewN | apply Kd.V_drew)); exact HO0_2.out) gb208 (Nat.le_of_eq hg.symm)) hb); have n1_ := Aside0.mk (Kd.V_below (Kd.V_elderB (by (with_reducible repeat (first | apply Kd.V_alloc | apply Kd.V_drewN | apply Kd.V_drew)); exact HO1_2.out) gb208 (Nat.le_of_eq hg.symm)) hb); have n2_ := Aside0.mk (blk_below (g := gb207) (o := .cells #[.int .i64 a0_0, .int .i64 a0_1, .slice A0_2 l0_2.length c0_2] 24 (0, 0)) (by (with_reducible repeat (first | refine blk_drewN ?_ _ | refine blk_drew ?_ | refine blk_alloc ?_ _)); exact BK207.out) hb); have n3_ := Aside0.mk (below_step (by repeat (first | (with_reducible first | exact HB.out | apply below_alloc | apply pw_below_drewN | apply below_drew1 | refine below_set ?_ GE207.out) | exact HB.out)) hb); have n4_ := Aside0.mk (hbox); have n5_ := Aside0.mk ((by rw [hg]; exact (below_size (by repeat (first | (with_reducible first | exact HB.out | apply below_alloc | apply pw_below_drewN | apply below_drew1 | refine below_set ?_ GE207.out) | exact HB.out))) : w.heap.size ≤ gb208)); have n6_ := Aside0.mk ((by rw [hg]; exact (below_size (by repeat (first | (with_reducible first | exact HB.out | apply below_alloc | apply pw_below_drewN | apply below_drew1 | refine below_set ?_ GE207.out) | exact HB.out))) : w.heap.size ≤ gb208)); have n7_ := Aside0.mk ((by rw [hg]; exact Nat.ne_of_lt (blk_lt (g := gb207) (o := .cells #[.int .i64 a0_0, .int .i64 a0_1, .slice A0_2 l0_2.length c0_2] 24 (0, 0)) (by (with_reducible repeat (first | refine blk_drewN ?_ _ | refine blk_drew ?_ | refine blk_alloc ?_ _)); exact BK207.out)) : gb207 ≠ gb208)); have n8_ := Aside0.mk ((by rw [hg]; exact Nat.ne_of_gt (blk_lt (g := gb207) (o := .cells #[.int .i64 a0_0, .int .i64 a0_1, .slice A0_2 l0_2.length c0_2] 24 (0, 0)) (by (with_reducible repeat (first | refine blk_drewN ?_ _ | refine blk_drew ?_ | refine blk_alloc ?_ _)); exact BK207.out)) : gb208 ≠ gb207)); clear HO0_2; clear HO1_2; clear BK207; clear HB; have HO0_2 := n0_; have HO1_2 := n1_; have BK207 := n2_; have HB := n3_; have BK208 := n4_; have GW208 := n5_; have GE208 := n6_; have NB207_208 := n7_; have NB208_207 := n8_; clear n0_ n1_ n2_ n3_ n4_ n5_ n6_ n7_ n8_; clear hb hbox hg) | ((with_reducible refine gate_dst (N := 4) rfl ?_); refine box_event ?hg (N := 4) ?hd (cs := #[.int .i64 0, .int .i64 0, .slice none 0 0]) (t := 24) ?hr ?_; (case hd => rfl); (case hg => rfl); (case hr => first | (go_simp; done) | (go_simp; rfl)); intro gb209 hg w6 hbox hb; have n0_ := Aside0.mk (Kd.V_below (Kd.V_elderB (by (with_reducible repeat (first | apply Kd.V_alloc | apply Kd.V_drewN | apply Kd.V_drew)); exact HO0_2.out) gb209 (Nat.le_of_eq hg.symm)) hb); have n1_ := Aside0.mk (Kd.V_below (Kd.V_elderB (by (with_reducible repeat (first | apply Kd.V_alloc | apply Kd.V_drewN | apply Kd.V_drew)); exact HO1_2.out) gb209 (Nat.le_of_eq hg.symm)) hb); have n2_ := Aside0.mk (blk_below (g := gb207) (o := .cells #[.int .i64 a0_0, .int .i64 a0_1, .slice A0_2 l0_2.length c0_2] 24 (0, 0)) (by (with_reducible repeat (first | refine blk_drewN ?_ _ | refine blk_drew ?_ | refine blk_alloc ?_ _)); exact BK207.out) hb); have n3_ := Aside0.mk (blk_below (g := gb208) (o := .cells #[.int .i64 a1_0, .int .i64 a1_1, .slice A1_2 l1_2.length c1_2] 24 (0, 0)) (by (with_reducible repeat (first | refine blk_drewN ?_ _ | refine blk_drew ?_ | refine blk_alloc ?_ _)); exact BK208.out) hb); have n4_ := Aside0.mk (below_step (by repeat (first | (with_reducible first | exact HB.out | apply below_alloc | apply pw_below_drewN | apply below_drew1 | refine below_set ?_ GE207.out | refine below_set ?_ GE208.out) | exact HB.out)) hb); have n5_ := Aside0.mk (hbox); have n6_ := Aside0.mk ((by rw [hg]; exact (below_size (by repeat (first | (with_reducible first | exact HB.out | apply below_alloc | apply pw_below_drewN | apply below_drew1 | refine below_set ?_ GE207.out | refine below_set ?_ GE208.out) | exact HB.out))) : w.heap.size ≤ gb209)); have n7_ := Aside0.mk ((by rw [hg]; exact (below_size (by repeat (first | (with_reducible first | exact HB.out | apply below_alloc | apply pw_below_drewN | apply below_drew1 | refine below_set ?_ GE207.out | refine below_set ?_ GE208.out) | exact HB.out))) : w.heap.size ≤ gb209)); have n8_ := Aside0.mk ((by rw [hg]; exact Nat.ne_of_lt (blk_lt (g := gb207) (o := .cells #[.int .i64 a0_0, .int .i64 a0_1, .slice A0_2 l0_2.length c0_2] 24 (0, 0)) (by (with_reducible repeat (first | refine blk_drewN ?_ _ | refine blk_drew ?_ | refine blk_alloc ?_ _)); exact BK207.out)) : gb207 ≠ gb209)); have n9_ := Aside0.mk ((by rw [hg]; exact Nat.ne_of_gt (blk_lt (g := gb207) (o := .cells #[.int .i64 a0_0, .int .i64 a0_1, .slice A0_2 l0_2.length c0_2] 24 (0, 0)) (by (with_reducible repeat (first | refine blk_drewN ?_ _ | refine blk_drew ?_ | refine blk_alloc ?_ _)); exact BK207.out)) : gb209 ≠ gb207)); have n10_ := Aside0.mk ((by rw [hg]; exact Nat.ne_of_lt (blk_lt (g := gb208) (o := .cells #[.int .i64 a1_0, .int .i64 a1_1, .slice A1_2 l1_2.length c1_2] 24 (0, 0)) (by (with_reducible repeat (first | refine blk_drewN ?_ _ | refine blk_drew ?_ | refine blk_alloc ?_ _)); exact BK208.out)) : gb208 ≠ gb209)); have n11_ := Aside0.mk ((by rw [hg]; exact Nat.ne_of_gt (blk_lt (g := gb208) (o := .cells #[.int .i64 a1_0, .int .i64 a1_1, .slice A1_2 l1_2.length c1_2] 24 (0, 0)) (by (with_reducible repeat (first | refine blk_drewN ?_ _ | refine blk_drew ?_ | refine blk_alloc ?_ _)); exact BK208.out)) : gb209 ≠ gb208)); clear HO0_2; clear HO1_2; clear BK207; clear BK208; clear HB; have HO0_2 := n0_; have HO1_2 := n1_; have BK207 := n2_; have BK208 := n3_; have HB := n4_; have BK209 := n5_; have GW209 := n6_; have GE209 := n7_; have NB207_209 := n8_; have NB209_207 := n9_; have NB208_209 := n10_; have NB209_208 := n11_; clear n0_ n1_ n2_ n3_ n4_ n5_ n6_ n7_ n8_ n9_ n10_ n11_; clear hb hbox hg))
 (try simp only [Act.put, List.setIfInBounds_toArray, List.set_cons_zero, List.set_cons_succ])
 go_cut [14] (fun v14 wc => ∃ (kq : Nat) (x14_2 : Bool), v14 = .bool x14_2 ∧ Aside0 (curve_JoinP.j0 kq x14_2 a0_0 a0_1 l0_2 a1_0 a1_1 l1_2 = some (r1, r2, r3, r4)) ∧ Aside0 (kq ≤ k) ∧ Aside0 (Kd.V (Kd.int .i64) 3 wc w.heap.size (fun k_ => ((P0_2_ k_ ∨ P1_2_ k_) ∨ w.heap.size ≤ k_) ∧ k_ ≠ gb207 ∧ k_ ≠ gb208 ∧ k_ ≠ gb209) (.slice A0_2 l0_2.length c0_2) l0_2) ∧ Aside0 (Kd.V (Kd.int .i64) 3 wc w.heap.size (fun k_ => ((P0_2_ k_ ∨ P1_2_ k_) ∨ w.heap.size ≤ k_) ∧ k_ ≠ gb207 ∧ k_ ≠ gb208 ∧ k_ ≠ gb209) (.slice A1_2 l1_2.length c1_2) l1_2) ∧ Aside0 (wc.heap[gb207]? = some (.cells #[.int .i64 a0_0, .int .i64 a0_1, (.slice A0_2 l0_2.length c0_2)] 24 (0, 0))) ∧ Aside0 (wc.heap[gb208]? = some (.cells #[.int .i64 a1_0, .int .i64 a1_1, (.slice A1_2 l1_2.length c1_2)] 24 (0, 0))) ∧ Aside0 (wc.heap[gb209]? = some (.cells #[.int .i64 0, .int .i64 0, (.slice none 0 0)] 24 (0, 0))) ∧ Aside0 (Below w.heap.size w wc))
 case first =>
  have H := HC3.out
  clear HC3
  replace H := Option.bind_eq_some_iff.mp H
  obtain ⟨t210, A70, H⟩ := H
  replace H : (if t210 = true then ((curve_Valid.f a1_0 a1_1 l1_2).bind fun t211 => (curve_JoinP.j0 k (!t211) a0_0 a0_1 l0_2 a1_0 a1_1 l1_2)) else (curve_JoinP.j0 k true a0_0 a0_1 l0_2 a1_0 a1_1 l1_2)) = some (r1, r2, r3, r4) := H
  have A7 := Aside0.mk A70
  clear A70
  by_cases c8 : t210 = true
  ·
   subst c8
   have H1 : ((curve_Valid.f a1_0 a1_1 l1_2).bind fun t211 => (curve_JoinP.j0 k (!t211) a0_0 a0_1 l0_2 a1_0 a1_1 l1_2)) = some (r1, r2, r3, r4) := by rw [if_pos rfl] at H; exact H
   clear H
   have H := H1
   clear H1
   replace H := Option.bind_eq_some_iff.mp H
   obtain ⟨t211, A90, H⟩ := H
   replace H : (curve_JoinP.j0 k (!t211) a0_0 a0_1 l0_2 a1_0 a1_1 l1_2) = some (r1, r2, r3, r4) := H
   have A9 := Aside0.mk A90
   clear A90
   have H' := Aside0.mk H
   clear H
   have hnb10 := NB207_208.out
   have hnc10 := NB208_207.out
   have hnb11 := NB207_209.out
   have hnc11 := NB209_207.out
   have hcz12_0 : w6.cell? ⟨gb207, 0, none⟩ = some (.int .i64 a0_0) := (blk_cell BK207.out 0).trans rfl
   have hcz12_1 : w6.cell? ⟨gb207, 1, none⟩ = some (.int .i64 a0_1) := (blk_cell BK207.out 1).trans rfl
   have hcz12_2 : w6.cell? ⟨gb207, 2, none⟩ = some (.slice A0_2 l0_2.length c0_2) := (blk_cell BK207.out 2).trans rfl
   have hfz12_0 := blk_frozen BK207.out 0
   have hfz12_1 := blk_frozen BK207.out 1
   have hfz12_2 := blk_frozen BK207.out 2
   go_wp2_with (first | ((with_reducible refine gate_callee (f := 16) rfl ?_); refine goesL_ (some 8) rfl rfl Try.func16 (by kernel_rfl) rfl #[.agg #[.int .i64 a0_0, .int .i64 a0_1, .slice A0_2 l0_2.length c0_2]] rfl (by (try simp only [List.map_toArray, List.map_cons, List.map_nil]); first | done | rfl | (simp only [List.length_drop, List.length_take]; rfl)) ?_; (with_reducible refine (curve_Valid.calls a0_0 a0_1 _ _ l0_2 true _ ?side1 ?side2 A7.out).mono ?_); (case side1 => repeat (first | exact (Kd.V_reads' HO0_2.out).2.2 | (with_reducible refine Kd.C_alloc ?_ _) | (with_reducible refine Kd.C_drewN ?_ _) | (with_reducible refine Kd.C_drew ?_))); (case side2 => exact (Kd.V_reads' HO0_2.out).2.1); rintro e w13 ⟨rfl, hb⟩; refine ⟨_, rfl, ?_⟩; have n0_ := Aside0.mk (Kd.V_below (by (with_reducible repeat (first | apply Kd.V_alloc | apply Kd.V_drewN | apply Kd.V_drew)); exact HO0_2.out) hb); have n1_ := Aside0.mk (Kd.V_below (by (with_reducible repeat (first | apply Kd.V_alloc | apply Kd.V_drewN | apply Kd.V_drew)); exact HO1_2.out) hb); have n2_ := Aside0.mk (blk_below (g := gb207) (o := .cells #[.int .i64 a0_0, .int .i64 a0_1, .slice A0_2 l0_2.length c0_2] 24 (0, 0)) (by (with_reducible repeat (first | refine blk_drewN ?_ _ | refine blk_drew ?_ | refine blk_alloc ?_ _)); exact BK207.out) hb); have n3_ := Aside0.mk (blk_below (g := gb208) (o := .cells #[.int .i64 a1_0, .int .i64 a1_1, .slice A1_2 l1_2.length c1_2] 24 (0, 0)) (by (with_reducible repeat (first | refine blk_drewN ?_ _ | refine blk_drew ?_ | refine blk_alloc ?_ _)); exact BK208.out) hb); have n4_ := Aside0.mk (blk_below (g := gb209) (o := .cells #[.int .i64 0, .int .i64 0, .slice none 0 0] 24 (0, 0)) (by (with_reducible repeat (first | refine blk_drewN ?_ _ | refine blk_drew ?_ | refine blk_alloc ?_ _)); exact BK209.out) hb); have n5_ := Aside0.mk (below_step (by repeat (first | (with_reducible first | exact HB.out | apply below_alloc | apply pw_below_drewN | apply below_drew1 | refine below_set ?_ GE207.out | refine below_set ?_ GE208.out | refine below_set ?_ GE209.out) | exact HB.out)) hb); clear HO0_2; clear HO1_2; clear BK207; clear BK208; clear BK209; clear HB; have HO0_2 := n0_; have HO1_2 := n1_; have BK207 := n2_; have BK208 := n3_; have BK209 := n4_; have HB := n5_; clear n0_ n1_ n2_ n3_ n4_ n5_; (try clear hb); (try clear hb2); (try clear hk); (try clear hi); have hnb14 := NB208_209.out; have hnc14 := NB209_208.out; have hcz15_0 : w13.cell? ⟨gb208, 0, none⟩ = some (.int .i64 a1_0) := (blk_cell BK208.out 0).trans rfl; have hcz15_1 : w13.cell? ⟨gb208, 1, none⟩ = some (.int .i64 a1_1) := (blk_cell BK208.out 1).trans rfl; have hcz15_2 : w13.cell? ⟨gb208, 2, none⟩ = some (.slice A1_2 l1_2.length c1_2) := (blk_cell BK208.out 2).trans rfl; have hfz15_0 := blk_frozen BK208.out 0; have hfz15_1 := blk_frozen BK208.out 1; have hfz15_2 := blk_frozen BK208.out 2) | (go_at_call 16; (with_reducible refine (curve_Valid.calls a1_0 a1_1 _ _ l1_2 t211 _ ?side1 ?side2 A9.out).mono ?_); (case side1 => repeat (first | exact (Kd.V_reads' HO1_2.out).2.2 | (with_reducible refine Kd.C_alloc ?_ _) | (with_reducible refine Kd.C_drewN ?_ _) | (with_reducible refine Kd.C_drew ?_))); (case side2 => exact (Kd.V_reads' HO1_2.out).2.1); rintro e w16 ⟨rfl, hb⟩; have n0_ := Aside0.mk (Kd.V_below (by (with_reducible repeat (first | apply Kd.V_alloc | apply Kd.V_drewN | apply Kd.V_drew)); exact HO0_2.out) hb); have n1_ := Aside0.mk (Kd.V_below (by (with_reducible repeat (first | apply Kd.V_alloc | apply Kd.V_drewN | apply Kd.V_drew)); exact HO1_2.out) hb); have n2_ := Aside0.mk (blk_below (g := gb207) (o := .cells #[.int .i64 a0_0, .int .i64 a0_1, .slice A0_2 l0_2.length c0_2] 24 (0, 0)) (by (with_reducible repeat (first | refine blk_drewN ?_ _ | refine blk_drew ?_ | refine blk_alloc ?_ _)); exact BK207.out) hb); have n3_ := Aside0.mk (blk_below (g := gb208) (o := .cells #[.int .i64 a1_0, .int .i64 a1_1, .slice A1_2 l1_2.length c1_2] 24 (0, 0)) (by (with_reducible repeat (first | refine blk_drewN ?_ _ | refine blk_drew ?_ | refine blk_alloc ?_ _)); exact BK208.out) hb); have n4_ := Aside0.mk (blk_below (g := gb209) (o := .cells #[.int .i64 0, .int .i64 0, .slice none 0 0] 24 (0, 0)) (by (with_reducible repeat (first | refine blk_drewN ?_ _ | refine blk_drew ?_ | refine blk_alloc ?_ _)); exact BK209.out) hb); have n5_ := Aside0.mk (below_step (by repeat (first | (with_reducible first | exact HB.out | apply below_alloc | apply pw_below_drewN | apply below_drew1 | refine below_set ?_ GE207.out | refine below_set ?_ GE208.out | refine below_set ?_ GE209.out) | exact HB.out)) hb); clear HO0_2; clear HO1_2; clear BK207; clear BK208; clear BK209; clear HB; have HO0_2 := n0_; have HO1_2 := n1_; have BK207 := n2_; have BK208 := n3_; have BK209 := n4_; have HB := n5_; clear n0_ n1_ n2_ n3_ n4_ n5_; (try clear hb); (try clear hb2); (try clear hk); (try clear hi)))
   go_meet
   case rel => exact ⟨_, (!t211), (by first | rfl | (simp; done) | (simp [*]; done)), H', ⟨by first | omega | exact Nat.le_refl _⟩, ⟨by (with_reducible repeat (first | apply Kd.V_alloc | apply Kd.V_drewN | apply Kd.V_drew)); exact Kd.V_mono HO0_2.out (fun _ hk => ⟨hk.1.1.1, ⟨hk.1.1.2, ⟨hk.1.2, hk.2⟩⟩⟩)⟩, ⟨by (with_reducible repeat (first | apply Kd.V_alloc | apply Kd.V_drewN | apply Kd.V_drew)); exact Kd.V_mono HO1_2.out (fun _ hk => ⟨hk.1.1.1, ⟨hk.1.1.2, ⟨hk.1.2, hk.2⟩⟩⟩)⟩, ⟨by (with_reducible repeat (first | refine blk_drewN ?_ _ | refine blk_drew ?_ | refine blk_alloc ?_ _)); exact BK207.out⟩, ⟨by (with_reducible repeat (first | refine blk_drewN ?_ _ | refine blk_drew ?_ | refine blk_alloc ?_ _)); exact BK208.out⟩, ⟨by (with_reducible repeat (first | refine blk_drewN ?_ _ | refine blk_drew ?_ | refine blk_alloc ?_ _)); exact BK209.out⟩, ⟨by repeat (first | (with_reducible first | exact HB.out | apply below_alloc | apply pw_below_drewN | apply below_drew1 | refine below_set ?_ GE207.out | refine below_set ?_ GE208.out | refine below_set ?_ GE209.out) | exact HB.out)⟩⟩
  ·
   replace c8 := Bool.eq_false_iff.mpr c8
   subst c8
   have H1 : (curve_JoinP.j0 k true a0_0 a0_1 l0_2 a1_0 a1_1 l1_2) = some (r1, r2, r3, r4) := by rw [if_neg (show ¬ (false = true) by decide)] at H; exact H
   clear H
   have H := H1
   clear H1
   have H' := Aside0.mk H
   clear H
   have hnb17 := NB207_208.out
   have hnc17 := NB208_207.out
   have hnb18 := NB207_209.out
   have hnc18 := NB209_207.out
   have hcz19_0 : w6.cell? ⟨gb207, 0, none⟩ = some (.int .i64 a0_0) := (blk_cell BK207.out 0).trans rfl
   have hcz19_1 : w6.cell? ⟨gb207, 1, none⟩ = some (.int .i64 a0_1) := (blk_cell BK207.out 1).trans rfl
   have hcz19_2 : w6.cell? ⟨gb207, 2, none⟩ = some (.slice A0_2 l0_2.length c0_2) := (blk_cell BK207.out 2).trans rfl
   have hfz19_0 := blk_frozen BK207.out 0
   have hfz19_1 := blk_frozen BK207.out 1
   have hfz19_2 := blk_frozen BK207.out 2
   go_wp2_with (first | ((with_reducible refine gate_callee (f := 16) rfl ?_); refine goesL_ (some 8) rfl rfl Try.func16 (by kernel_rfl) rfl #[.agg #[.int .i64 a0_0, .int .i64 a0_1, .slice A0_2 l0_2.length c0_2]] rfl (by (try simp only [List.map_toArray, List.map_cons, List.map_nil]); first | done | rfl | (simp only [List.length_drop, List.length_take]; rfl)) ?_; (with_reducible refine (curve_Valid.calls a0_0 a0_1 _ _ l0_2 false _ ?side1 ?side2 A7.out).mono ?_); (case side1 => repeat (first | exact (Kd.V_reads' HO0_2.out).2.2 | (with_reducible refine Kd.C_alloc ?_ _) | (with_reducible refine Kd.C_drewN ?_ _) | (with_reducible refine Kd.C_drew ?_))); (case side2 => exact (Kd.V_reads' HO0_2.out).2.1); rintro e w20 ⟨rfl, hb⟩; refine ⟨_, rfl, ?_⟩; have n0_ := Aside0.mk (Kd.V_below (by (with_reducible repeat (first | apply Kd.V_alloc | apply Kd.V_drewN | apply Kd.V_drew)); exact HO0_2.out) hb); have n1_ := Aside0.mk (Kd.V_below (by (with_reducible repeat (first | apply Kd.V_alloc | apply Kd.V_drewN | apply Kd.V_drew)); exact HO1_2.out) hb); have n2_ := Aside0.mk (blk_below (g := gb207) (o := .cells #[.int .i64 a0_0, .int .i64 a0_1, .slice A0_2 l0_2.length c0_2] 24 (0, 0)) (by (with_reducible repeat (first | refine blk_drewN ?_ _ | refine blk_drew ?_ | refine blk_alloc ?_ _)); exact BK207.out) hb); have n3_ := Aside0.mk (blk_below (g := gb208) (o := .cells #[.int .i64 a1_0, .int .i64 a1_1, .slice A1_2 l1_2.length c1_2] 24 (0, 0)) (by (with_reducible repeat (first | refine blk_drewN ?_ _ | refine blk_drew ?_ | refine blk_alloc ?_ _)); exact BK208.out) hb); have n4_ := Aside0.mk (blk_below (g := gb209) (o := .cells #[.int .i64 0, .int .i64 0, .slice none 0 0] 24 (0, 0)) (by (with_reducible repeat (first | refine blk_drewN ?_ _ | refine blk_drew ?_ | refine blk_alloc ?_ _)); exact BK209.out) hb); have n5_ := Aside0.mk (below_step (by repeat (first | (with_reducible first | exact HB.out | apply below_alloc | apply pw_below_drewN | apply below_drew1 | refine below_set ?_ GE207.out | refine below_set ?_ GE208.out | refine below_set ?_ GE209.out) | exact HB.out)) hb); clear HO0_2; clear HO1_2; clear BK207; clear BK208; clear BK209; clear HB; have HO0_2 := n0_; have HO1_2 := n1_; have BK207 := n2_; have BK208 := n3_; have BK209 := n4_; have HB := n5_; clear n0_ n1_ n2_ n3_ n4_ n5_; (try clear hb); (try clear hb2); (try clear hk); (try clear hi)))
   go_meet
   case rel => exact ⟨_, (true), (by first | rfl | (simp; done) | (simp [*]; done)), H', ⟨by first | omega | exact Nat.le_refl _⟩, ⟨by (with_reducible repeat (first | apply Kd.V_alloc | apply Kd.V_drewN | apply Kd.V_drew)); exact Kd.V_mono HO0_2.out (fun _ hk => ⟨hk.1.1.1, ⟨hk.1.1.2, ⟨hk.1.2, hk.2⟩⟩⟩)⟩, ⟨by (with_reducible repeat (first | apply Kd.V_alloc | apply Kd.V_drewN | apply Kd.V_drew)); exact Kd.V_mono HO1_2.out (fun _ hk => ⟨hk.1.1.1, ⟨hk.1.1.2, ⟨hk.1.2, hk.2⟩⟩⟩)⟩, ⟨by (with_reducible repeat (first | refine blk_drewN ?_ _ | refine blk_drew ?_ | refine blk_alloc ?_ _)); exact BK207.out⟩, ⟨by (with_reducible repeat (first | refine blk_drewN ?_ _ | refine blk_drew ?_ | refine blk_alloc ?_ _)); exact BK208.out⟩, ⟨by (with_reducible repeat (first | refine blk_drewN ?_ _ | refine blk_drew ?_ | refine blk_alloc ?_ _)); exact BK209.out⟩, ⟨by repeat (first | (with_reducible first | exact HB.out | apply below_alloc | apply pw_below_drewN | apply below_drew1 | refine below_set ?_ GE207.out | refine below_set ?_ GE208.out | refine below_set ?_ GE209.out) | exact HB.out)⟩⟩
 case rest =>
  clear HC3
  try clear c1
  try clear p2
  try clear c8
  try clear c10
  try clear c11
  try clear c14
  try clear c16
  try clear c17
  try clear c18
  try clear hcz12_0
  try clear hcz12_1
  try clear hcz12_2
  try clear hcz15_0
  try clear hcz15_1
  try clear hcz15_2
  try clear hcz19_0
  try clear hcz19_1
  try clear hcz19_2
  try clear hfz12_0
  try clear hfz12_1
  try clear hfz12_2
  try clear hfz15_0
  try clear hfz15_1
  try clear hfz15_2
  try clear hfz19_0
  try clear hfz19_1
  try clear hfz19_2
  obtain ⟨kq, x14_2, rfl, HA, HJ2, HO_208002, HO_209002, BK207, BK208, BK209, HB⟩ := hcut
  cases kq with
  | zero => exact absurd HA.out (by simp [curve_JoinP.j0])
  | succ kj2 =>
   have H := HA.out
   clear HA
   simp only [curve_JoinP.j0] at H
   by_cases c21 : x14_2 = true
   ·
    subst c21
    have H1 : (some (0, 0, ([] : List Int), 2)) = some (r1, r2, r3, r4) := by rw [if_pos rfl] at H; exact H
    clear H
    have H := H1
    clear H1
    simp only [Option.some.injEq, Prod.mk.injEq] at H
    obtain ⟨rfl, rfl, rfl, rfl⟩ := H
    have hnb22 := NB209_207.out
    have hnc22 := NB207_209.out
    have hnb23 := NB209_208.out
    have hnc23 := NB208_209.out
    have hcz24_0 : wc.cell? ⟨gb209, 0, none⟩ = some (.int .i64 0) := (blk_cell BK209.out 0).trans rfl
    have hcz24_1 : wc.cell? ⟨gb209, 1, none⟩ = some (.int .i64 0) := (blk_cell BK209.out 1).trans rfl
    have hcz24_2 : wc.cell? ⟨gb209, 2, none⟩ = some (.slice none 0 0) := (blk_cell BK209.out 2).trans rfl
    have hfz24_0 := blk_frozen BK209.out 0
    have hfz24_1 := blk_frozen BK209.out 1
    have hfz24_2 := blk_frozen BK209.out 2
    go_wp2
    refine bodyPost_ret (results_ct rfl _ _ gb209 24 #[.int .i64 0, .int .i64 0, .slice none 0 0] (0, 0) _ rfl (by (with_reducible repeat (first | refine blk_drewN ?_ _ | refine blk_drew ?_ | refine blk_alloc ?_ _)); refine blk_put (cs := #[.int .i64 0, .int .i64 0, .slice none 0 0]) ?_ 2 _ rfl; (with_reducible repeat (first | refine blk_drewN ?_ _ | refine blk_drew ?_ | refine blk_alloc ?_ _)); refine blk_put (cs := #[.int .i64 0, .int .i64 0, .slice none 0 0]) ?_ 1 _ rfl; (with_reducible repeat (first | refine blk_drewN ?_ _ | refine blk_drew ?_ | refine blk_alloc ?_ _)); refine blk_put (cs := #[.int .i64 0, .int .i64 0, .slice none 0 0]) ?_ 0 _ rfl; (with_reducible repeat (first | refine blk_drewN ?_ _ | refine blk_drew ?_ | refine blk_alloc ?_ _)); exact BK209.out) Try.underlying24 rfl (by kernel_rfl)) rfl ?_
    exact ⟨_, by first | rfl | (simp [errW_none, errW_some] <;> rfl) | (simp [*, errW_none, errW_some] <;> rfl), by first | exact Kd.R_nil _ _ _ _ _ | exact Kd.N_nil _ _ _ _ _ | exact Kd.V_nil _ _ _ _ _ | exact Kd.Q_nil _ _ _ _ _ | exact Kd.S_nil _ _ _ _ _, by repeat (first | (with_reducible first | exact HB.out | apply below_alloc | apply pw_below_drewN | apply below_drew1 | refine below_set ?_ GE207.out | refine below_set ?_ GE208.out | refine below_set ?_ GE209.out) | exact HB.out)⟩
   ·
    replace c21 := Bool.eq_false_iff.mpr c21
    subst c21
    have H1 : ((slices_Concat_int_int.f (([l0_2, l1_2] : List (List Int)))).bind fun t215 => ((slices_Sort_int_int.f t215).bind fun t218 => ((curve_made.f (wrap64 (a0_0 + a1_0)) (wrap64 (a0_1 + a1_1)) t218).bind fun bt219 => (some (bt219.1, bt219.2.1, bt219.2.2.1, bt219.2.2.2))))) = some (r1, r2, r3, r4) := by rw [if_neg (show ¬ (false = true) by decide)] at H; exact H
    clear H
    have H := H1
    clear H1
    obtain ⟨y212, hy212⟩ : ∃ y_ : List (List Int), y_ = (([l0_2, l1_2] : List (List Int))) := ⟨_, rfl⟩
    replace H : ((slices_Concat_int_int.f y212).bind fun t215 => ((slices_Sort_int_int.f t215).bind fun t218 => ((curve_made.f (wrap64 (a0_0 + a1_0)) (wrap64 (a0_1 + a1_1)) t218).bind fun bt219 => (some (bt219.1, bt219.2.1, bt219.2.2.1, bt219.2.2.2))))) = some (r1, r2, r3, r4) := by first | (rw [hy212]; with_reducible exact H) | (have H2_ := (Option.bind_some _ _).symm.trans H; rw [hy212]; with_reducible exact H2_) | (have H2_ := (Option.bind_some _ _).symm.trans H; with_reducible exact H2_) | with_reducible exact H | (rw [hy212]; exact H) | exact H
    have Ny212 := Aside0.mk hy212
    clear hy212
    replace H := Option.bind_eq_some_iff.mp H
    obtain ⟨t215, A250, H⟩ := H
    replace H : ((slices_Sort_int_int.f t215).bind fun t218 => ((curve_made.f (wrap64 (a0_0 + a1_0)) (wrap64 (a0_1 + a1_1)) t218).bind fun bt219 => (some (bt219.1, bt219.2.1, bt219.2.2.1, bt219.2.2.2)))) = some (r1, r2, r3, r4) := H
    have A25 := Aside0.mk A250
    clear A250
    replace H := Option.bind_eq_some_iff.mp H
    obtain ⟨t218, A260, H⟩ := H
    replace H : ((curve_made.f (wrap64 (a0_0 + a1_0)) (wrap64 (a0_1 + a1_1)) t218).bind fun bt219 => (some (bt219.1, bt219.2.1, bt219.2.2.1, bt219.2.2.2))) = some (r1, r2, r3, r4) := H
    have A26 := Aside0.mk A260
    clear A260
    replace H := Option.bind_eq_some_iff.mp H
    obtain ⟨⟨t219, t220, t221, t224⟩, A270, H⟩ := H
    replace H : (some (t219, t220, t221, t224)) = some (r1, r2, r3, r4) := H
    have A27 := Aside0.mk A270
    clear A270
    simp only [Option.some.injEq, Prod.mk.injEq] at H
    obtain ⟨rfl, rfl, rfl, rfl⟩ := H
    have hnb28 := NB207_208.out
    have hnc28 := NB208_207.out
    have hnb29 := NB207_209.out
    have hnc29 := NB209_207.out
    have hcz30_0 : wc.cell? ⟨gb207, 0, none⟩ = some (.int .i64 a0_0) := (blk_cell BK207.out 0).trans rfl
    have hcz30_1 : wc.cell? ⟨gb207, 1, none⟩ = some (.int .i64 a0_1) := (blk_cell BK207.out 1).trans rfl
    have hcz30_2 : wc.cell? ⟨gb207, 2, none⟩ = some (.slice A0_2 l0_2.length c0_2) := (blk_cell BK207.out 2).trans rfl
    have hfz30_0 := blk_frozen BK207.out 0
    have hfz30_1 := blk_frozen BK207.out 1
    have hfz30_2 := blk_frozen BK207.out 2
    have hnb31 := NB208_209.out
    have hnc31 := NB209_208.out
    have hcz32_0 : wc.cell? ⟨gb208, 0, none⟩ = some (.int .i64 a1_0) := (blk_cell BK208.out 0).trans rfl
    have hcz32_1 : wc.cell? ⟨gb208, 1, none⟩ = some (.int .i64 a1_1) := (blk_cell BK208.out 1).trans rfl
    have hcz32_2 : wc.cell? ⟨gb208, 2, none⟩ = some (.slice A1_2 l1_2.length c1_2) := (blk_cell BK208.out 2).trans rfl
    have hfz32_0 := blk_frozen BK208.out 0
    have hfz32_1 := blk_frozen BK208.out 1
    have hfz32_2 := blk_frozen BK208.out 2
    go_wp2_with (first | ((with_reducible refine gate_dst (N := 20) rfl ?_); refine Kd.N_lit (Kd.slice 3 (Kd.int .i64)) _ 22 ?hg (N' := 20) ?hd (xs := ([l0_2, l1_2] : List (List Int))) (inner := [.slice A0_2 l0_2.length c0_2, .slice A1_2 l1_2.length c1_2]) (ok := (fun k_ => ((P0_2_ k_ ∨ P1_2_ k_) ∨ w.heap.size ≤ k_) ∧ k_ ≠ gb207 ∧ k_ ≠ gb208 ∧ k_ ≠ gb209)) (okp := (fun k_ => ((P0_2_ k_ ∨ P1_2_ k_) ∨ w.heap.size ≤ k_) ∧ k_ ≠ gb207 ∧ k_ ≠ gb208 ∧ k_ ≠ gb209)) ?hr ?hp (fun _ hk => hk) ((show ∀ k_, wc.heap.size ≤ k_ → (fun k_ => ((P0_2_ k_ ∨ P1_2_ k_) ∨ w.heap.size ≤ k_) ∧ k_ ≠ gb207 ∧ k_ ≠ gb208 ∧ k_ ≠ gb209) k_ from fun k_ hk => ⟨(.inr (Nat.le_trans (below_size (by repeat (first | (with_reducible first | exact HB.out | apply below_alloc | apply pw_below_drewN | apply below_drew1 | refine below_set ?_ GE207.out | refine below_set ?_ GE208.out | refine below_set ?_ GE209.out) | exact HB.out))) hk)), Kd.freshB (g := gb207) (o := .cells #[.int .i64 a0_0, .int .i64 a0_1, .slice A0_2 l0_2.length c0_2] 24 (0, 0)) (by (with_reducible repeat (first | refine blk_drewN ?_ _ | refine blk_drew ?_ | refine blk_alloc ?_ _)); exact BK207.out) k_ hk, Kd.freshB (g := gb208) (o := .cells #[.int .i64 a1_0, .int .i64 a1_1, .slice A1_2 l1_2.length c1_2] 24 (0, 0)) (by (with_reducible repeat (first | refine blk_drewN ?_ _ | refine blk_drew ?_ | refine blk_alloc ?_ _)); exact BK208.out) k_ hk, Kd.freshB (g := gb209) (o := .cells #[.int .i64 0, .int .i64 0, .slice none 0 0] 24 (0, 0)) (by (with_reducible repeat (first | refine blk_drewN ?_ _ | refine blk_drew ?_ | refine blk_alloc ?_ _)); exact BK209.out) k_ hk⟩) _ (Nat.le_refl _)) (Below.refl _ _) (Nat.le_refl _) (by simp) ?_; (case hd => rfl); (case hg => rfl); (case hr => first | (go_simp; done) | (go_simp; rfl)); (case hp => exact (Reps.one (show Kd.FK (Kd.slice 3 (Kd.int .i64)) _ _ l0_2 [.slice A0_2 l0_2.length c0_2] from (Kd.FK_slice_mk (Kd.V_reads' (Kd.V_mono (ok' := (fun k_ => ((P0_2_ k_ ∨ P1_2_ k_) ∨ w.heap.size ≤ k_) ∧ k_ ≠ gb207 ∧ k_ ≠ gb208 ∧ k_ ≠ gb209)) (HO_208002.out) (fun k_ hk => ⟨hk.1, ⟨hk.2.1, ⟨hk.2.2.1, hk.2.2.2⟩⟩⟩))).2.1 (Kd.V_F (Kd.V_mono (ok' := (fun k_ => ((P0_2_ k_ ∨ P1_2_ k_) ∨ w.heap.size ≤ k_) ∧ k_ ≠ gb207 ∧ k_ ≠ gb208 ∧ k_ ≠ gb209)) (HO_208002.out) (fun k_ hk => ⟨hk.1, ⟨hk.2.1, ⟨hk.2.2.1, hk.2.2.2⟩⟩⟩))))) (Reps.one (show Kd.FK (Kd.slice 3 (Kd.int .i64)) _ _ l1_2 [.slice A1_2 l1_2.length c1_2] from (Kd.FK_slice_mk (Kd.V_reads' (Kd.V_mono (ok' := (fun k_ => ((P0_2_ k_ ∨ P1_2_ k_) ∨ w.heap.size ≤ k_) ∧ k_ ≠ gb207 ∧ k_ ≠ gb208 ∧ k_ ≠ gb209)) (HO_209002.out) (fun k_ hk => ⟨hk.1, ⟨hk.2.1, ⟨hk.2.2.1, hk.2.2.2⟩⟩⟩))).2.1 (Kd.V_F (Kd.V_mono (ok' := (fun k_ => ((P0_2_ k_ ∨ P1_2_ k_) ∨ w.heap.size ≤ k_) ∧ k_ ≠ gb207 ∧ k_ ≠ gb208 ∧ k_ ≠ gb209)) (HO_209002.out) (fun k_ hk => ⟨hk.1, ⟨hk.2.1, ⟨hk.2.2.1, hk.2.2.2⟩⟩⟩))))) (Reps.none _ _)))); intro v213 w33 ho34 hb hg_ hnew_; clear hg_ hnew_; (first | rw [← Ny212.out] at ho34 | (simp only [Int.reduceToNat] at ho34; rw [← Ny212.out] at ho34)); have n0_ := Aside0.mk (Kd.V_elder' (by (with_reducible repeat (first | apply Kd.V_alloc | apply Kd.V_drewN | apply Kd.V_drew)); exact HO_208002.out) (Kd.N_base ho34) hb); have n1_ := Aside0.mk (Kd.V_elder' (by (with_reducible repeat (first | apply Kd.V_alloc | apply Kd.V_drewN | apply Kd.V_drew)); exact HO_209002.out) (Kd.N_base ho34) hb); have n2_ := Aside0.mk (Kd.N_lower ho34 (below_size (by repeat (first | (with_reducible first | exact HB.out | apply below_alloc | apply pw_below_drewN | apply below_drew1 | refine below_set ?_ GE207.out | refine below_set ?_ GE208.out | refine below_set ?_ GE209.out) | exact HB.out)))); have n3_ := Aside0.mk (blk_below (g := gb207) (o := .cells #[.int .i64 a0_0, .int .i64 a0_1, .slice A0_2 l0_2.length c0_2] 24 (0, 0)) (by (with_reducible repeat (first | refine blk_drewN ?_ _ | refine blk_drew ?_ | refine blk_alloc ?_ _)); exact BK207.out) hb); have n4_ := Aside0.mk (blk_below (g := gb208) (o := .cells #[.int .i64 a1_0, .int .i64 a1_1, .slice A1_2 l1_2.length c1_2] 24 (0, 0)) (by (with_reducible repeat (first | refine blk_drewN ?_ _ | refine blk_drew ?_ | refine blk_alloc ?_ _)); exact BK208.out) hb); have n5_ := Aside0.mk (blk_below (g := gb209) (o := .cells #[.int .i64 0, .int .i64 0, .slice none 0 0] 24 (0, 0)) (by (with_reducible repeat (first | refine blk_drewN ?_ _ | refine blk_drew ?_ | refine blk_alloc ?_ _)); exact BK209.out) hb); have n6_ := Aside0.mk (below_step (by repeat (first | (with_reducible first | exact HB.out | apply below_alloc | apply pw_below_drewN | apply below_drew1 | refine below_set ?_ GE207.out | refine below_set ?_ GE208.out | refine below_set ?_ GE209.out) | exact HB.out)) hb); clear HO_208002; clear HO_209002; clear BK207; clear BK208; clear BK209; clear HB; have HO_208002 := n0_; have HO_209002 := n1_; have HO214 := n2_; have BK207 := n3_; have BK208 := n4_; have BK209 := n5_; have HB := n6_; clear n0_ n1_ n2_ n3_ n4_ n5_ n6_; clear hb ho34; obtain ⟨Ao35, co35, eo35⟩ := Kd.N_slice HO214.out; subst eo35) | ((with_reducible refine gate_callee (f := 49) rfl ?_); refine goesL_ (some 21) rfl rfl Try.func49 (by kernel_rfl) rfl #[.slice Ao35 y212.length co35] rfl (by (try simp only [List.map_toArray, List.map_cons, List.map_nil]); first | done | rfl | (simp only [List.length_drop, List.length_take]; rfl)) ?_; (with_reducible refine (slices_Concat_int_int.calls _ _ y212 t215 _ ?side1 ?side2 A25.out).mono ?_); (case side1 => repeat (first | exact (Kd.N_reads' HO214.out).2.2 | (with_reducible refine Kd.C_alloc ?_ _) | (with_reducible refine Kd.C_drewN ?_ _) | (with_reducible refine Kd.C_drew ?_))); (case side2 => exact (Kd.N_reads' HO214.out).2.1); rintro e w36 ⟨v216, rfl, ho0, hb⟩; refine ⟨_, rfl, ?_⟩; have n0_ := Aside0.mk (Kd.V_elder' (by (with_reducible repeat (first | apply Kd.V_alloc | apply Kd.V_drewN | apply Kd.V_drew)); exact HO_208002.out) (Kd.R_base ho0) hb); have n1_ := Aside0.mk (Kd.V_elder' (by (with_reducible repeat (first | apply Kd.V_alloc | apply Kd.V_drewN | apply Kd.V_drew)); exact HO_209002.out) (Kd.R_base ho0) hb); have n2_ := Aside0.mk (Kd.N_elder' (by (with_reducible repeat (first | apply Kd.N_alloc | apply Kd.N_drewN | apply Kd.N_drew)); exact HO214.out) (Kd.R_base ho0) hb); have n3_ := Aside0.mk (Kd.R_lower (Kd.R_newM (M := fun k_ => (w.heap.size ≤ k_)) ho0 (below_size (by repeat (first | (with_reducible first | exact HB.out | apply below_alloc | apply pw_below_drewN | apply below_drew1 | refine below_set ?_ GE207.out | refine below_set ?_ GE208.out | refine below_set ?_ GE209.out) | exact HB.out))) (fun k_ h_ => h_)) (below_size (by repeat (first | (with_reducible first | exact HB.out | apply below_alloc | apply pw_below_drewN | apply below_drew1 | refine below_set ?_ GE207.out | refine below_set ?_ GE208.out | refine below_set ?_ GE209.out) | exact HB.out)))); have n4_ := Aside0.mk (blk_below (g := gb207) (o := .cells #[.int .i64 a0_0, .int .i64 a0_1, .slice A0_2 l0_2.length c0_2] 24 (0, 0)) (by (with_reducible repeat (first | refine blk_drewN ?_ _ | refine blk_drew ?_ | refine blk_alloc ?_ _)); exact BK207.out) hb); have n5_ := Aside0.mk (blk_below (g := gb208) (o := .cells #[.int .i64 a1_0, .int .i64 a1_1, .slice A1_2 l1_2.length c1_2] 24 (0, 0)) (by (with_reducible repeat (first | refine blk_drewN ?_ _ | refine blk_drew ?_ | refine blk_alloc ?_ _)); exact BK208.out) hb); have n6_ := Aside0.mk (blk_below (g := gb209) (o := .cells #[.int .i64 0, .int .i64 0, .slice none 0 0] 24 (0, 0)) (by (with_reducible repeat (first | refine blk_drewN ?_ _ | refine blk_drew ?_ | refine blk_alloc ?_ _)); exact BK209.out) hb); have n7_ := Aside0.mk (below_step (by repeat (first | (with_reducible first | exact HB.out | apply below_alloc | apply pw_below_drewN | apply below_drew1 | refine below_set ?_ GE207.out | refine below_set ?_ GE208.out | refine below_set ?_ GE209.out) | exact HB.out)) hb); clear HO_208002; clear HO_209002; clear HO214; clear BK207; clear BK208; clear BK209; clear HB; have HO_208002 := n0_; have HO_209002 := n1_; have HO214 := n2_; have HO217 := n3_; have BK207 := n4_; have BK208 := n5_; have BK209 := n6_; have HB := n7_; clear n0_ n1_ n2_ n3_ n4_ n5_ n6_ n7_; (try clear hb); (try clear hb2); (try clear hk); (try clear hi); (try clear ho0); obtain ⟨Ao37, co37, eo37⟩ := Kd.R_slice HO217.out; subst eo37) | ((with_reducible refine gate_callee (f := 50) rfl ?_); refine goesL_ (some 23) rfl rfl Try.func50 (by kernel_rfl) rfl #[.slice Ao37 t215.length co37] rfl (by (try simp only [List.map_toArray, List.map_cons, List.map_nil]); first | done | rfl | (simp only [List.length_drop, List.length_take]; rfl)) ?_; (with_reducible refine (slices_Sort_int_int.calls (fun k_ => some k_ = (.slice Ao37 t215.length co37 : Value).ownBlock) (.slice Ao37 t215.length co37) t215 t218 w _ ?side1 ?side2 A26.out).mono ?_); (case side1 => repeat (first | (with_reducible first | exact HB.out | apply below_alloc | apply pw_below_drewN | apply below_drew1 | refine below_set ?_ GE207.out | refine below_set ?_ GE208.out | refine below_set ?_ GE209.out) | exact HB.out)); (case side2 => exact Kd.R_tight rfl HO217.out); rintro e w38 ⟨rfl, hy0, hb, hkp⟩; refine ⟨_, rfl, ?_⟩; have n0_ := Aside0.mk (Kd.V_mono (ok' := fun k_ => ((P0_2_ k_ ∨ P1_2_ k_) ∨ w.heap.size ≤ k_) ∧ some k_ ≠ (.slice Ao35 y212.length co35 : Value).ownBlock ∧ some k_ ≠ (.slice Ao37 t215.length co37 : Value).ownBlock ∧ k_ ≠ gb207 ∧ k_ ≠ gb208 ∧ k_ ≠ gb209) (Kd.V_keptB (HO_208002.out) hkp (fun k_ hk_ hs_ => (hk_.2) hs_)) (fun k_ hk_ => ⟨hk_.1.1.1.1, hk_.1.1.2, hk_.1.2, hk_.1.1.1.2.1, hk_.1.1.1.2.2.1, hk_.1.1.1.2.2.2⟩)); have n1_ := Aside0.mk (Kd.V_mono (ok' := fun k_ => ((P0_2_ k_ ∨ P1_2_ k_) ∨ w.heap.size ≤ k_) ∧ some k_ ≠ (.slice Ao35 y212.length co35 : Value).ownBlock ∧ some k_ ≠ (.slice Ao37 t215.length co37 : Value).ownBlock ∧ k_ ≠ gb207 ∧ k_ ≠ gb208 ∧ k_ ≠ gb209) (Kd.V_keptB (HO_209002.out) hkp (fun k_ hk_ hs_ => (hk_.2) hs_)) (fun k_ hk_ => ⟨hk_.1.1.1.1, hk_.1.1.2, hk_.1.2, hk_.1.1.1.2.1, hk_.1.1.1.2.2.1, hk_.1.1.1.2.2.2⟩)); have n2_ := Aside0.mk (blk_kept (by (with_reducible repeat (first | refine blk_drewN ?_ _ | refine blk_drew ?_ | refine blk_alloc ?_ _)); exact BK207.out) hkp (fun hs_ => (fun e_ => (Kd.R_ne HO217.out BK207.out (by decide)) e_) hs_)); have n3_ := Aside0.mk (blk_kept (by (with_reducible repeat (first | refine blk_drewN ?_ _ | refine blk_drew ?_ | refine blk_alloc ?_ _)); exact BK208.out) hkp (fun hs_ => (fun e_ => (Kd.R_ne HO217.out BK208.out (by decide)) e_) hs_)); have n4_ := Aside0.mk (blk_kept (by (with_reducible repeat (first | refine blk_drewN ?_ _ | refine blk_drew ?_ | refine blk_alloc ?_ _)); exact BK209.out) hkp (fun hs_ => (fun e_ => (Kd.R_ne HO217.out BK209.out (by decide)) e_) hs_)); have n5_ := Aside0.mk (Kd.N_mono (ok' := fun k_ => ((P0_2_ k_ ∨ P1_2_ k_) ∨ w.heap.size ≤ k_) ∧ some k_ ≠ (.slice Ao37 t215.length co37 : Value).ownBlock ∧ k_ ≠ gb207 ∧ k_ ≠ gb208 ∧ k_ ≠ gb209) (Kd.N_keptB (HO214.out) hkp (fun k_ hk_ hs_ => (hk_.2) hs_)) (fun k_ hk_ => ⟨hk_.1.1.1, hk_.1.2, hk_.1.1.2.1, hk_.1.1.2.2.1, hk_.1.1.2.2.2⟩)); have n6_ := Aside0.mk (Kd.R_reok rfl hy0 (fun k_ e_ => HO217.out.1 k_ e_)); have n7_ := Aside0.mk (hb); clear HO_208002; clear HO_209002; clear BK207; clear BK208; clear BK209; clear HO214; clear HO217; clear HB; have HO_208002 := n0_; have HO_209002 := n1_; have BK207 := n2_; have BK208 := n3_; have BK209 := n4_; have HO214 := n5_; have HO217 := n6_; have HB := n7_; clear n0_ n1_ n2_ n3_ n4_ n5_ n6_ n7_; (try clear hb); (try clear hkp); (try clear hy0); have hcz39_0 : w38.cell? ⟨gb207, 0, none⟩ = some (.int .i64 a0_0) := (blk_cell BK207.out 0).trans rfl; have hcz39_1 : w38.cell? ⟨gb207, 1, none⟩ = some (.int .i64 a0_1) := (blk_cell BK207.out 1).trans rfl; have hcz39_2 : w38.cell? ⟨gb207, 2, none⟩ = some (.slice A0_2 l0_2.length c0_2) := (blk_cell BK207.out 2).trans rfl; have hfz39_0 := blk_frozen BK207.out 0; have hfz39_1 := blk_frozen BK207.out 1; have hfz39_2 := blk_frozen BK207.out 2; have hcz40_0 : w38.cell? ⟨gb208, 0, none⟩ = some (.int .i64 a1_0) := (blk_cell BK208.out 0).trans rfl; have hcz40_1 : w38.cell? ⟨gb208, 1, none⟩ = some (.int .i64 a1_1) := (blk_cell BK208.out 1).trans rfl; have hcz40_2 : w38.cell? ⟨gb208, 2, none⟩ = some (.slice A1_2 l1_2.length c1_2) := (blk_cell BK208.out 2).trans rfl; have hfz40_0 := blk_frozen BK208.out 0; have hfz40_1 := blk_frozen BK208.out 1; have hfz40_2 := blk_frozen BK208.out 2) | ((with_reducible refine gate_callee (f := 51) rfl ?_); refine goesL_ (some 36) rfl rfl Try.func51 (by kernel_rfl) rfl #[.agg #[.int .i64 (wrap64 (a0_0 + a1_0)), .int .i64 (wrap64 (a0_1 + a1_1)), .slice Ao37 t215.length co37]] rfl (by (try simp only [List.map_toArray, List.map_cons, List.map_nil]); first | done | rfl | (simp only [List.length_drop, List.length_take]; rfl)) ?_; (with_reducible refine (curve_made.calls (wrap64 (a0_0 + a1_0)) (wrap64 (a0_1 + a1_1)) (fun k_ => some k_ = (.slice Ao37 t215.length co37 : Value).ownBlock) (.slice Ao37 t215.length co37) t218 t219 t220 t221 t224 w _ ?side1 ?side2 A27.out).mono ?_); (case side1 => repeat (first | (with_reducible first | exact HB.out | apply below_alloc | apply pw_below_drewN | apply below_drew1 | refine below_set ?_ GE207.out | refine below_set ?_ GE208.out | refine below_set ?_ GE209.out) | exact HB.out)); (case side2 => exact Kd.R_tight rfl HO217.out); rintro e w41 ⟨v222, rfl, ho0, hb, hkp⟩; refine ⟨_, rfl, ?_⟩; have n0_ := Aside0.mk (Kd.V_mono (ok' := fun k_ => ((P0_2_ k_ ∨ P1_2_ k_) ∨ w.heap.size ≤ k_) ∧ some k_ ≠ (.slice Ao35 y212.length co35 : Value).ownBlock ∧ k_ ≠ gb207 ∧ k_ ≠ gb208 ∧ k_ ≠ gb209 ∧ some k_ ≠ (v222 : Value).ownBlock) (Kd.V_keptB (HO_208002.out) hkp (fun k_ hk_ hs_ => (hk_.2.2.1) hs_)) (fun k_ hk_ => ⟨hk_.1.1, hk_.1.2.1, hk_.1.2.2.2.1, hk_.1.2.2.2.2.1, hk_.1.2.2.2.2.2, fun e_ => Or.elim (ho0.1 k_ e_.symm) (fun hs_ => hk_.2.1 hs_) (fun hn_ => Nat.not_le.2 hk_.2.2 hn_)⟩)); have n1_ := Aside0.mk (Kd.V_mono (ok' := fun k_ => ((P0_2_ k_ ∨ P1_2_ k_) ∨ w.heap.size ≤ k_) ∧ some k_ ≠ (.slice Ao35 y212.length co35 : Value).ownBlock ∧ k_ ≠ gb207 ∧ k_ ≠ gb208 ∧ k_ ≠ gb209 ∧ some k_ ≠ (v222 : Value).ownBlock) (Kd.V_keptB (HO_209002.out) hkp (fun k_ hk_ hs_ => (hk_.2.2.1) hs_)) (fun k_ hk_ => ⟨hk_.1.1, hk_.1.2.1, hk_.1.2.2.2.1, hk_.1.2.2.2.2.1, hk_.1.2.2.2.2.2, fun e_ => Or.elim (ho0.1 k_ e_.symm) (fun hs_ => hk_.2.1 hs_) (fun hn_ => Nat.not_le.2 hk_.2.2 hn_)⟩)); have n2_ := Aside0.mk (blk_kept (by (with_reducible repeat (first | refine blk_drewN ?_ _ | refine blk_drew ?_ | refine blk_alloc ?_ _)); exact BK207.out) hkp (fun hs_ => (fun e_ => (Kd.R_ne HO217.out BK207.out (by decide)) e_) hs_)); have n3_ := Aside0.mk (blk_kept (by (with_reducible repeat (first | refine blk_drewN ?_ _ | refine blk_drew ?_ | refine blk_alloc ?_ _)); exact BK208.out) hkp (fun hs_ => (fun e_ => (Kd.R_ne HO217.out BK208.out (by decide)) e_) hs_)); have n4_ := Aside0.mk (blk_kept (by (with_reducible repeat (first | refine blk_drewN ?_ _ | refine blk_drew ?_ | refine blk_alloc ?_ _)); exact BK209.out) hkp (fun hs_ => (fun e_ => (Kd.R_ne HO217.out BK209.out (by decide)) e_) hs_)); have n5_ := Aside0.mk (Kd.N_mono (ok' := fun k_ => ((P0_2_ k_ ∨ P1_2_ k_) ∨ w.heap.size ≤ k_) ∧ k_ ≠ gb207 ∧ k_ ≠ gb208 ∧ k_ ≠ gb209 ∧ some k_ ≠ (v222 : Value).ownBlock) (Kd.N_keptB (HO214.out) hkp (fun k_ hk_ hs_ => (hk_.2.1) hs_)) (fun k_ hk_ => ⟨hk_.1.1, hk_.1.2.2.1, hk_.1.2.2.2.1, hk_.1.2.2.2.2, fun e_ => Or.elim (ho0.1 k_ e_.symm) (fun hs_ => hk_.2.1 hs_) (fun hn_ => Nat.not_le.2 hk_.2.2 hn_)⟩)); have n6_ := Aside0.mk (Kd.R_mono (ok' := fun k_ => (w.heap.size ≤ k_)) ho0 (fun k_ hk_ => Or.elim hk_ (fun hs_ => (HO217.out.1 k_ (hs_).symm).1) (fun hn_ => (Nat.le_trans (below_size (by repeat (first | (with_reducible first | exact HB.out | apply below_alloc | apply pw_below_drewN | apply below_drew1 | refine below_set ?_ GE207.out | refine below_set ?_ GE208.out | refine below_set ?_ GE209.out) | exact HB.out))) hn_)))); have n7_ := Aside0.mk (hb); clear HO_208002; clear HO_209002; clear BK207; clear BK208; clear BK209; clear HO214; clear HB; clear HO217; have HO_208002 := n0_; have HO_209002 := n1_; have BK207 := n2_; have BK208 := n3_; have BK209 := n4_; have HO214 := n5_; have HO223 := n6_; have HB := n7_; clear n0_ n1_ n2_ n3_ n4_ n5_ n6_ n7_; (try clear hb); (try clear hkp); (try clear ho0); have hcz42_0 : w41.cell? ⟨gb209, 0, none⟩ = some (.int .i64 0) := (blk_cell BK209.out 0).trans rfl; have hcz42_1 : w41.cell? ⟨gb209, 1, none⟩ = some (.int .i64 0) := (blk_cell BK209.out 1).trans rfl; have hcz42_2 : w41.cell? ⟨gb209, 2, none⟩ = some (.slice none 0 0) := (blk_cell BK209.out 2).trans rfl; have hfz42_0 := blk_frozen BK209.out 0; have hfz42_1 := blk_frozen BK209.out 1; have hfz42_2 := blk_frozen BK209.out 2; obtain ⟨Ao43, co43, eo43⟩ := Kd.R_slice HO223.out; subst eo43))
    refine bodyPost_ret (results_ct rfl _ _ gb209 24 #[.int .i64 t219, .int .i64 t220, .slice Ao43 t221.length co43] (0, 0) _ rfl (by (with_reducible repeat (first | refine blk_drewN ?_ _ | refine blk_drew ?_ | refine blk_alloc ?_ _)); refine blk_put (cs := #[.int .i64 t219, .int .i64 t220, .slice none 0 0]) ?_ 2 _ rfl; (with_reducible repeat (first | refine blk_drewN ?_ _ | refine blk_drew ?_ | refine blk_alloc ?_ _)); refine blk_put (cs := #[.int .i64 t219, .int .i64 0, .slice none 0 0]) ?_ 1 _ rfl; (with_reducible repeat (first | refine blk_drewN ?_ _ | refine blk_drew ?_ | refine blk_alloc ?_ _)); refine blk_put (cs := #[.int .i64 0, .int .i64 0, .slice none 0 0]) ?_ 0 _ rfl; (with_reducible repeat (first | refine blk_drewN ?_ _ | refine blk_drew ?_ | refine blk_alloc ?_ _)); exact BK209.out) Try.underlying24 rfl (by kernel_rfl)) rfl ?_
    exact ⟨_, by first | rfl | (simp [errW_none, errW_some] <;> rfl) | (simp [*, errW_none, errW_some] <;> rfl), by (with_reducible repeat (first | apply Kd.R_alloc | apply Kd.R_drewN | apply Kd.R_drew)); exact Kd.R_mono (Kd.R_far (p := ⟨gb209, 2, none⟩) (Kd.R_far (p := ⟨gb209, 1, none⟩) (Kd.R_far (p := ⟨gb209, 0, none⟩) (Kd.R_types HO223.out BK209.out (by decide)) (fun _ hk => hk.2) (.int .i64 t219)) (fun _ hk => hk.2) (.int .i64 t220)) (fun _ hk => hk.2) (.slice Ao43 t221.length co43)) (fun _ hk => hk.1), by repeat (first | (with_reducible first | exact HB.out | apply below_alloc | apply pw_below_drewN | apply below_drew1 | refine below_set ?_ GE207.out | refine below_set ?_ GE208.out | refine below_set ?_ GE209.out) | exact HB.out)⟩
end Go.Proofs.Ytfeeaipbmpmpgaa.PX

namespace Go.Proofs.Ytfeeaipbmpmpgaa.PX
open Go.RowKit Go.Proofs.YtfeeaipbmpmpgaaW.PrintWords Go.Proofs.YtfeeaipbmpmpgaaW.PrintLast Go.Proofs.YtfeeaipbmpmpgaaW.PrintMore
set_option linter.unusedVariables false
set_option linter.unusedSimpArgs false

/-- What a row of whole numbers reads as lies in memory alone. -/
theorem F_int {w : World} {A : Option Addr} {n : Nat} {xs : List Int} (h : Kd.C (Kd.int .i64) w A n xs) : Kd.F (Kd.int .i64) w (fun _ => True) A n xs := fun W' hW =>
  ⟨h.1, h.2.1, fun hn => by
    obtain ⟨ad, e, hc⟩ := h.2.2 hn
    refine ⟨ad, e, fun j p hj => ?_⟩
    obtain ⟨c, hs, hr, hcell⟩ := hc j p hj
    refine ⟨c, hs, hr, fun i u hu => ?_⟩
    have h1 := hcell i u hu
    have h2 := hW _ trivial (World.block_lt_of_cell? w _ h1)
    rw [← h1]
    unfold World.cell?
    rw [h2]⟩
def madeR (x y : Int) (l : List Int) : Int × Int × List Int × Int := if valB x y l = true then (x, y, l, 0) else (0, 0, [], 4)
def joinR (a0 a1 : Int) (la : List Int) (b0 b1 : Int) (lb : List Int) : Int × Int × List Int × Int :=
  if valB a0 a1 la = true then if valB b0 b1 lb = true then madeR (a0 + b0) (a1 + b1) (sortI (la ++ lb)) else (0, 0, [], 2) else (0, 0, [], 2)
def curve_Join.f (a0_0 : Int) (a0_1 : Int) (l0_2 : List Int) (a1_0 : Int) (a1_1 : Int) (l1_2 : List Int) : Option (Int × Int × List Int × Int) := some (joinR a0_0 a0_1 l0_2 a1_0 a1_1 l1_2)
theorem wi_iff {n m : Int} : wi n m = true ↔ -m ≤ n ∧ n ≤ m := by unfold wi; simp
theorem val_from {a b : Int} {l : List Int} (h : valB a b l = true) : -1048576 ≤ a ∧ a ≤ 1048576 ∧ -1099511627776 ≤ b ∧ b ≤ 1099511627776 ∧ l.length ≤ 64 := by
  unfold valB at h
  simp only [Bool.and_eq_true, decide_eq_true_eq, wi_iff] at h
  omega
theorem w64 {x : Int} (h0 : -9223372036854775808 ≤ x) (h1 : x ≤ 9223372036854775807) : wrap64 x = x := by unfold wrap64; omega
theorem made_some (x y : Int) (l : List Int) : curve_made.f x y l = some (madeR x y l) := by
  unfold curve_made.f curve_Valid.f madeR
  simp only [Option.bind_some]
  split <;> rfl
theorem joinP_some (a0_0 : Int) (a0_1 : Int) (l0_2 : List Int) (a1_0 : Int) (a1_1 : Int) (l1_2 : List Int) : curve_JoinP.f 1 a0_0 a0_1 l0_2 a1_0 a1_1 l1_2 = some (joinR a0_0 a0_1 l0_2 a1_0 a1_1 l1_2) := by
  unfold curve_JoinP.f joinR curve_Valid.f
  simp only [Option.bind_some]
  by_cases h1 : valB a0_0 a0_1 l0_2 = true
  · rw [if_pos h1, if_pos h1]
    by_cases h2 : valB a1_0 a1_1 l1_2 = true
    · obtain ⟨p1, p2, p3, p4, p5⟩ := val_from h1
      obtain ⟨q1, q2, q3, q4, q5⟩ := val_from h2
      have hlen : (l0_2 ++ l1_2).length ≤ 128 := by rw [List.length_append]; omega
      rw [if_pos h2, h2]
      simp only [curve_JoinP.j0, slices_Concat_int_int.f, slices_Sort_int_int.f]
      simp [show l0_2.length ≤ 1000 from by omega, show l1_2.length ≤ 1000 from by omega, show l0_2.length + l1_2.length < 4611686018427387904 from by omega, w64 (x := a0_0 + a1_0) (by omega) (by omega), w64 (x := a0_1 + a1_1) (by omega) (by omega), made_some]
    · rw [if_neg h2, Bool.eq_false_iff.2 h2]
      simp [curve_JoinP.j0]
  · rw [if_neg h1, if_neg h1]
    simp [curve_JoinP.j0]
theorem curve_Join.calls (a0_0 : Int) (a0_1 : Int) (A0_2 : Option Addr) (c0_2 : Nat) (l0_2 : List Int) (a1_0 : Int) (a1_1 : Int) (A1_2 : Option Addr) (c1_2 : Nat) (l1_2 : List Int) (r1 : Int) (r2 : Int) (r3 : List Int) (r4 : Int) (w : World) (hr0_2 : Kd.C (Kd.int .i64) w A0_2 l0_2.length l0_2) (hc0_2 : l0_2.length ≤ c0_2) (hr1_2 : Kd.C (Kd.int .i64) w A1_2 l1_2.length l1_2) (hc1_2 : l1_2.length ≤ c1_2) (h : curve_Join.f a0_0 a0_1 l0_2 a1_0 a1_1 l1_2 = some (r1, r2, r3, r4)) :
    Calls Try.prog 14 #[.agg #[.int .i64 a0_0, .int .i64 a0_1, .slice A0_2 l0_2.length c0_2], .agg #[.int .i64 a1_0, .int .i64 a1_1, .slice A1_2 l1_2.length c1_2]] w fun e w' => ∃ v2_ : Value, e = .returned (.tuple #[.agg #[.int .i64 r1, .int .i64 r2, v2_], .int .i64 r4]) ∧ Kd.R (Kd.int .i64) 3 w' w.heap.size (fun _ => True) v2_ r3 ∧ Below w.heap.size w w' := by
  refine (curve_JoinP.calls 1 a0_0 a0_1 (fun _ => True) A0_2 c0_2 l0_2 a1_0 a1_1 (fun _ => True) A1_2 c1_2 l1_2 r1 r2 r3 r4 w (Kd.V_mk hc0_2 (F_int hr0_2)) (Kd.V_mk hc1_2 (F_int hr1_2)) ((joinP_some _ _ _ _ _ _).trans h)).mono ?_
  rintro e w' ⟨v, rfl, hR, hB⟩
  exact ⟨v, rfl, Kd.R_mono hR (fun _ _ => trivial), hB⟩
end Go.Proofs.Ytfeeaipbmpmpgaa.PX

namespace Go.Proofs.Ytfeeaipbmpmpgaa.PX
open Go.RowKit Go.Proofs.YtfeeaipbmpmpgaaW.PrintWords Go.Proofs.YtfeeaipbmpmpgaaW.PrintLast Go.Proofs.YtfeeaipbmpmpgaaW.PrintMore
set_option linter.unusedVariables false
set_option linter.unusedSimpArgs false

theorem info67 : (Try.prog.info? 67).map (fun i => (i.zero, i.size, i.bytes)) = some (some (.pointer none), 1, 8) := by kernel_rfl
theorem startP_take_succ (cs : List S24) (k : Nat) (h : k < cs.length) : startP (cs.take (k + 1)) = startP (cs.take k) ++ [(cs[k], cs[k].f0)] := by
  unfold startP
  rw [List.take_succ_eq_append_getElem h, List.map_append]
  rfl
theorem leastP_take_succ (cs : List S24) (k : Nat) (h : k < cs.length) : leastP (cs.take (k + 1)) = leastP (cs.take k) + cs[k].f0 := by
  unfold leastP
  rw [List.take_succ_eq_append_getElem h, List.map_append, List.sum_append]
  simp
theorem mostP_take_succ (cs : List S24) (k : Nat) (h : k < cs.length) : mostP (cs.take (k + 1)) = mostP (cs.take k) + toP cs[k] := by
  unfold mostP
  rw [List.take_succ_eq_append_getElem h, List.map_append, List.sum_append]
  simp
theorem rd_T24_getElem (l : List S24) (n : Nat) (h : n < l.length) : rd_T24 l (n : Int) = l[n] := by
  simp [rd_T24, List.getD_eq_getElem?_getD, List.getElem?_eq_getElem h]

/-- What the good way of Split tells. -/
def SplitTold (w : World) (r : List Int × Int × Int) (e : Ending) (w' : World) : Prop :=
  ∃ v, e = .returned (.tuple #[v, .int .i64 r.2.1, .int .i64 r.2.2, .int .i64 0]) ∧ Kd.R (Kd.int .i64) 3 w' w.heap.size (fun _ => True) v r.1 ∧ Below w.heap.size w w'
/-- What the ways with an error tell. -/
def SplitErr (w : World) (q : Int) (e : Ending) (w' : World) : Prop :=
  e = .returned (.tuple #[.slice none 0 0, .int .i64 0, .int .i64 0, .int .i64 q]) ∧ Below w.heap.size w w'

set_option maxHeartbeats 8000000 in
set_option maxRecDepth 100000 in
theorem split_many (A : Option Addr) (c : Nat) (cs : List S24) (total : Int) (w : World) (hn : 8 < cs.length) (hm : cs.length ≤ 9223372036854775807) :
    Calls Try.prog 19 #[.slice A cs.length c, .int .i64 total] w (SplitErr w 3) := by
  have hn' : decide (8 < cs.length) = true := decide_eq_true hn
  go_enter Try.func19, Try.ntmps19
  go_wp2
  refine bodyPost_ret (v := .tuple #[.slice none 0 0, .int .i64 0, .int .i64 0, .int .i64 3]) (by simp [results, Try.results19, go_sem]) rfl ⟨rfl, Below.refl _ _⟩
set_option maxHeartbeats 8000000 in
set_option maxRecDepth 100000 in
theorem split_none (A : Option Addr) (c : Nat) (total : Int) (w : World) :
    Calls Try.prog 19 #[.slice A 0 c, .int .i64 total] w (SplitErr w 2) := by
  go_enter Try.func19, Try.ntmps19
  go_wp2
  refine bodyPost_ret (v := .tuple #[.slice none 0 0, .int .i64 0, .int .i64 0, .int .i64 2]) (by simp [results, Try.results19, go_sem]) rfl ⟨rfl, Below.refl _ _⟩
set_option maxHeartbeats 8000000 in
set_option maxRecDepth 100000 in
theorem split_invalid (A : Option Addr) (c : Nat) (cs : List S24) (total : Int) (w : World) (hr : Kd.C k24 w A cs.length cs) (hc : cs.length ≤ c) (hn : cs.length ≤ 8) (h0 : 0 < cs.length) (hv : cs.any notVal = true) :
    Calls Try.prog 19 #[.slice A cs.length c, .int .i64 total] w (SplitErr w 2) := by
  have hn' : decide (8 < cs.length) = false := decide_eq_false (by omega)
  have h0' : (cs.length == 0) = false := beq_eq_false_iff_ne.2 (by omega)
  have h0'' : ((cs.length : Int) == 0) = false := beq_eq_false_iff_ne.2 (by omega)
  have h1 : ¬ (cs = []) := fun e => by simp [e] at h0
  have HC := containsFuncC_calls A c cs w hr hc
  rw [hv] at HC
  have HA := Aside0.mk HC
  clear HC hv hr hc
  go_enter Try.func19, Try.ntmps19
  go_wp2_with (go_at_call 56; (with_reducible refine (HA.out).mono ?_); rintro e w' ⟨rfl, hb⟩; have HB := Aside0.mk hb; clear hb)
  refine bodyPost_ret (v := .tuple #[.slice none 0 0, .int .i64 0, .int .i64 0, .int .i64 2]) (by simp [results, Try.results19, go_sem]) rfl ⟨rfl, HB.out⟩
end Go.Proofs.Ytfeeaipbmpmpgaa.PX

namespace Go.Proofs.Ytfeeaipbmpmpgaa.PX
open Go.RowKit Go.Proofs.YtfeeaipbmpmpgaaW.PrintWords Go.Proofs.YtfeeaipbmpmpgaaW.PrintLast Go.Proofs.YtfeeaipbmpmpgaaW.PrintMore
set_option linter.unusedVariables false
set_option linter.unusedSimpArgs false

theorem snoc_induction {α : Type} {P : List α → Prop} (h0 : P []) (h1 : ∀ l x, P l → P (l ++ [x])) (l : List α) : P l := by
  have h : ∀ l : List α, P l.reverse := fun l => by
    induction l with
    | nil => exact h0
    | cons x l ih => rw [List.reverse_cons]; exact h1 _ _ ih
  have := h l.reverse
  rwa [List.reverse_reverse] at this
theorem bestS_spec (ks : List (Option Int)) : ((bestS ks).1 = -1 ∧ ∀ o ∈ ks, o = none) ∨
    (∃ i : Nat, ∃ hi : i < ks.length, (bestS ks).1 = (i : Int) ∧ ks[i] = some (bestS ks).2 ∧ (∀ (j : Nat) (hj : j < ks.length) k, ks[j] = some k → (bestS ks).2 ≤ k ∧ (i < j → (bestS ks).2 < k))) := by
  induction ks using snoc_induction with
  | h0 => exact .inl ⟨rfl, by simp⟩
  | h1 ks o ih =>
    rw [bestS_snoc]
    cases o with
    | none =>
      simp only [bestStep]
      rcases ih with ⟨h1, h2⟩ | ⟨i, hi, h1, h2, h3⟩
      · refine .inl ⟨h1, fun o ho => ?_⟩
        rcases List.mem_append.1 ho with ho | ho
        · exact h2 o ho
        · simpa using ho
      · refine .inr ⟨i, by simp; omega, h1, by rw [List.getElem_append_left hi]; exact h2, fun j hj k hk => ?_⟩
        by_cases e : j < ks.length
        · rw [List.getElem_append_left e] at hk
          exact h3 j e k hk
        · have : j = ks.length := by simp at hj; omega
          subst this
          simp at hk
    | some x =>
      simp only [bestStep]
      rcases ih with ⟨h1, h2⟩ | ⟨i, hi, h1, h2, h3⟩
      · rw [if_pos (.inl (by omega))]
        refine .inr ⟨ks.length, by simp, rfl, by simp, fun j hj k hk => ?_⟩
        by_cases e : j < ks.length
        · rw [List.getElem_append_left e] at hk
          have := h2 _ (List.getElem_mem e)
          rw [this] at hk
          cases hk
        · have : j = ks.length := by simp at hj; omega
          subst this
          simp at hk
          omega
      · by_cases c : x ≤ (bestS ks).2
        · rw [if_pos (.inr c)]
          refine .inr ⟨ks.length, by simp, rfl, by simp, fun j hj k hk => ?_⟩
          by_cases e : j < ks.length
          · rw [List.getElem_append_left e] at hk
            have := (h3 j e k hk).1
            simp only
            omega
          · have : j = ks.length := by simp at hj; omega
            subst this
            simp at hk
            simp only
            omega
        · rw [if_neg (by omega)]
          refine .inr ⟨i, by simp; omega, h1, by rw [List.getElem_append_left hi]; exact h2, fun j hj k hk => ?_⟩
          by_cases e : j < ks.length
          · rw [List.getElem_append_left e] at hk
            exact h3 j e k hk
          · have : j = ks.length := by simp at hj; omega
            subst this
            simp at hk
            omega

theorem runP_succ (n : Nat) (ps : List (S24 × Int)) : runP (n + 1) ps = stepP (runP n ps) := by
  induction n generalizing ps with
  | zero => rfl
  | succ n ih => exact ih (stepP ps)

/-- The pairs are the curves, each at a number of its domain, together at m. -/
structure OkP (cs : List S24) (ps : List (S24 × Int)) (m : Int) : Prop where
  fst : ps.map (·.1) = cs
  dom : ∀ p ∈ ps, p.1.f0 ≤ p.2 ∧ p.2 ≤ toP p.1
  sum : (ps.map (·.2)).sum = m
theorem OkP.start (cs : List S24) : OkP cs (startP cs) (leastP cs) := by
  refine ⟨by simp [startP, List.map_map, Function.comp_def], fun p hp => ?_, by simp [startP, leastP, List.map_map, Function.comp_def]⟩
  obtain ⟨c, _, rfl⟩ := List.mem_map.1 hp
  simp only [toP]
  omega
theorem sum_to (ps : List (S24 × Int)) (hd : ∀ p ∈ ps, p.1.f0 ≤ p.2 ∧ p.2 ≤ toP p.1) (hn : ∀ p ∈ ps, keyP p = none) : (ps.map (·.2)).sum = mostP (ps.map (·.1)) := by
  induction ps with
  | nil => simp [mostP]
  | cons p ps ih =>
    have h1 := ih (fun q hq => hd q (List.mem_cons_of_mem _ hq)) (fun q hq => hn q (List.mem_cons_of_mem _ hq))
    have h2 := hd p List.mem_cons_self
    have h3 := hn p List.mem_cons_self
    unfold keyP nextK at h3
    by_cases c : p.2 - p.1.f0 < (p.1.f2.length : Int)
    · rw [if_pos c] at h3; cases h3
    · simp only [mostP, List.map_cons, List.sum_cons, List.map_map] at h1 ⊢
      rw [h1]
      unfold toP at *
      omega
theorem sum_modify (ps : List (S24 × Int)) (i : Nat) (hi : i < ps.length) : ((ps.modify i bump).map (·.2)).sum = (ps.map (·.2)).sum + 1 := by
  induction ps generalizing i with
  | nil => simp at hi
  | cons p ps ih =>
    cases i with
    | zero => simp [bump]; omega
    | succ i =>
      simp only [List.modify_succ_cons, List.map_cons, List.sum_cons]
      rw [ih i (by simpa using hi)]
      omega
theorem fst_modify (ps : List (S24 × Int)) (i : Nat) : (ps.modify i bump).map (·.1) = ps.map (·.1) := by
  apply List.ext_getElem (by simp)
  intro j h1 h2
  simp only [List.getElem_map, List.getElem_modify]
  split <;> rfl
theorem OkP.best {cs : List S24} {ps : List (S24 × Int)} {m : Int} (h : OkP cs ps m) (hm : m < mostP cs) :
    ∃ i : Nat, ∃ hi : i < ps.length, bestP ps = (i : Int) ∧ ps[i].2 < toP ps[i].1 := by
  rcases bestS_spec (ps.map keyP) with ⟨h1, h2⟩ | ⟨i, hi, h1, h2, h3⟩
  · exfalso
    have := sum_to ps h.dom (fun p hp => h2 _ (List.mem_map_of_mem hp))
    rw [h.sum, h.fst] at this
    omega
  · have hi' : i < ps.length := by simpa using hi
    refine ⟨i, hi', h1, ?_⟩
    rw [List.getElem_map] at h2
    unfold keyP nextK at h2
    by_cases c : ps[i].2 - ps[i].1.f0 < (ps[i].1.f2.length : Int)
    · unfold toP; omega
    · rw [if_neg c] at h2; cases h2
theorem OkP.step {cs : List S24} {ps : List (S24 × Int)} {m : Int} (h : OkP cs ps m) (hm : m < mostP cs) : OkP cs (stepP ps) (m + 1) := by
  obtain ⟨i, hi, h1, h2⟩ := h.best hm
  unfold stepP
  rw [h1, Int.toNat_natCast]
  refine ⟨(fst_modify ps i).trans h.fst, fun p hp => ?_, by rw [sum_modify ps i hi, h.sum]⟩
  obtain ⟨j, hj, rfl⟩ := List.getElem_of_mem hp
  have hj' : j < ps.length := by simpa using hj
  have h3 := h.dom _ (List.getElem_mem hj')
  rw [List.getElem_modify]
  by_cases e : i = j
  · subst e
    rw [if_pos rfl]
    simp only [bump]
    omega
  · rw [if_neg e]
    exact h3
theorem OkP.run {cs : List S24} (n : Nat) (hn : leastP cs + (n : Int) ≤ mostP cs) : OkP cs (runP n (startP cs)) (leastP cs + n) := by
  induction n with
  | zero => simpa [runP] using OkP.start cs
  | succ n ih =>
    rw [runP_succ]
    have := (ih (by omega)).step (by omega)
    rw [show leastP cs + ((n + 1 : Nat) : Int) = leastP cs + (n : Int) + 1 from by omega]
    exact this
end Go.Proofs.Ytfeeaipbmpmpgaa.PX

namespace Go.Proofs.Ytfeeaipbmpmpgaa.PX
open Go.RowKit Go.Proofs.YtfeeaipbmpmpgaaW.PrintWords Go.Proofs.YtfeeaipbmpmpgaaW.PrintLast Go.Proofs.YtfeeaipbmpmpgaaW.PrintMore
set_option linter.unusedVariables false
set_option linter.unusedSimpArgs false

def loI (a : Int) (l : List Int) (x : Int) : Int := if 0 < x - a then rd l (x - a - 1) else -1048576
def hiI (a : Int) (l : List Int) (x : Int) : Int := if x - a < (l.length : Int) then rd l (x - a) else 1048576
theorem prices_some (a b : Int) (l : List Int) (x : Int) (h0 : 0 ≤ x - a) (h1 : x - a ≤ (l.length : Int)) (h2 : l.length ≤ 64) : curve_prices.f 1 a b l x = some (loI a l x, hiI a l x) := by
  have hw : wrap64 (x - a) = x - a := w64 (by omega) (by omega)
  have hw1 : 0 < x - a → wrap64 (x - a - 1) = x - a - 1 := fun _ => w64 (by omega) (by omega)
  have hj : ∀ lo : Int, curve_prices.j0 1 x lo 1048576 a b l = some (lo, hiI a l x) := fun lo => by
    simp only [curve_prices.j0, hw]
    unfold hiI
    by_cases c : x - a < (l.length : Int)
    · rw [if_pos c, if_pos c]
      simp [h0, c]
      omega
    · rw [if_neg c, if_neg c]
  unfold curve_prices.f loI
  rw [hw]
  by_cases c : x - a > 0
  · rw [if_pos c, if_pos c, hw1 c, if_pos (by omega), if_pos (by omega), hj]
  · rw [if_neg c, if_neg c, hj]
theorem prices_calls (a b : Int) (A : Option Addr) (c : Nat) (l : List Int) (x : Int) (w : World) (hr : Kd.C (Kd.int .i64) w A l.length l) (hc : l.length ≤ c) (h0 : 0 ≤ x - a) (h1 : x - a ≤ (l.length : Int)) (h2 : l.length ≤ 64) :
    Calls Try.prog 62 #[.agg #[.int .i64 a, .int .i64 b, .slice A l.length c], .int .i64 x] w fun e w' => e = .returned (.tuple #[.int .i64 (loI a l x), .int .i64 (hiI a l x)]) ∧ Below w.heap.size w w' :=
  curve_prices.calls 1 a b A c l x _ _ w hr hc (prices_some a b l x h0 h1 h2)
theorem at_calls (a b : Int) (A : Option Addr) (c : Nat) (l : List Int) (x : Int) (w : World) (hr : Kd.C (Kd.int .i64) w A l.length l) (hc : l.length ≤ c) (h0 : 0 ≤ x - a) (h1 : x - a ≤ (l.length : Int)) (h2 : l.length ≤ 64) :
    Calls Try.prog 61 #[.agg #[.int .i64 a, .int .i64 b, .slice A l.length c], .int .i64 x] w fun e w' => e = .returned (.int .i64 (addup b (l.take (x - a).toNat))) ∧ Below w.heap.size w w' :=
  curve_at.calls a b A c l x _ w hr hc (by unfold curve_at.f; rw [w64 (x := x - a) (by omega) (by omega), if_pos h0, if_pos h1])
theorem ShRow.grown {w wr w1 : World} {v : Value} {L : List Sh} (h : ShRow w wr v L) {u : Value} {xs : List Int} {ok : Nat → Prop} (hu : Kd.R (Kd.int .i64) 3 wr w.heap.size ok u xs) (hg : wr.grownBy w1 u.ownBlock) (hB : Below w.heap.size w w1) : ShRow w w1 v L := by
  obtain ⟨inner, ho⟩ := Kd.R_own hu
  refine ⟨?_, fun s hs => ?_, h.new, h.reads, h.nodup, hB⟩
  · cases hk : u.ownBlock with
    | none => exact Kd.R_grown h.row hg (fun k _ => by rw [hk]; simp)
    | some g =>
      obtain ⟨cells, hc⟩ := own_typed ho g hk
      refine Kd.R_mono (Kd.R_grown (Kd.R_types h.row hc (by decide)) hg (fun k hk2 => ?_)) (fun _ _ => trivial)
      rw [hk]
      simpa using hk2.2
  · have h1 := h.blk s hs
    refine (hg.block s.g (blk_lt h1) ?_).trans h1
    exact Kd.R_ne hu h1 (by decide)
end Go.Proofs.Ytfeeaipbmpmpgaa.PX

namespace Go.Proofs.Ytfeeaipbmpmpgaa.PX
open Go.RowKit Go.Proofs.YtfeeaipbmpmpgaaW.PrintWords Go.Proofs.YtfeeaipbmpmpgaaW.PrintLast Go.Proofs.YtfeeaipbmpmpgaaW.PrintMore
attribute [local go_sem] max2_int min2_int max_two min_two max_three min_three max_four min_four
set_option linter.unusedVariables false
set_option linter.unusedSimpArgs false

def splitPs (cs : List S24) (total : Int) : List (S24 × Int) := runP (total - leastP cs).toNat (startP cs)
def SplitPost (w : World) (cs : List S24) (total : Int) (e : Ending) (w' : World) : Prop :=
  (total < leastP cs ∨ mostP cs < total → SplitErr w 10 e w') ∧
  (leastP cs ≤ total → total ≤ mostP cs → SplitTold w ((splitPs cs total).map (·.2), sumP (splitPs cs total), priceP (splitPs cs total)) e w')
theorem least_bound (cs : List S24) (hv : ∀ c ∈ cs, valB c.f0 c.f1 c.f2 = true) : -1048576 * (cs.length : Int) ≤ leastP cs ∧ leastP cs ≤ 1048576 * (cs.length : Int) ∧ leastP cs ≤ mostP cs ∧ mostP cs ≤ leastP cs + 64 * (cs.length : Int) := by
  induction cs with
  | nil => simp [leastP, mostP]
  | cons c cs ih =>
    have h1 := ih (fun x hx => hv x (List.mem_cons_of_mem _ hx))
    have h2 := val_from (hv c List.mem_cons_self)
    simp only [leastP, mostP, List.map_cons, List.sum_cons, List.length_cons, toP] at h1 ⊢
    omega

theorem R_lit0 (w wr : World) (h : w.heap.size ≤ wr.heap.size) : Kd.R (Kd.int .i64) 3 (wr.alloc (.cells #[] 3)) w.heap.size (fun _ => True) (.slice (some ⟨wr.heap.size, 0, none⟩) 0 0) ([] : List Int) :=
  Kd.R_of_own ⟨rfl, .inr ⟨wr.heap.size, 0, #[], rfl, h, blk_new _ _, by simp, by unfold maxLen; omega, rfl, rfl⟩⟩ (fun _ _ => trivial)
theorem keys_eq (L : List Sh) : (bestS (L.map Sh.key)).1 = bestP (L.map Sh.p) := by
  unfold bestP
  rw [List.map_map]
  rfl
theorem turn_p (L : List Sh) (i : Nat) (hi : i < L.length) : (L.modify i fun s => { s with x := L[i].x + 1 }).map Sh.p = (L.map Sh.p).modify i bump := by
  apply List.ext_getElem (by simp)
  intro j h1 h2
  simp only [List.getElem_map, List.getElem_modify]
  by_cases e : i = j
  · subst e
    rw [if_pos rfl, if_pos rfl]
    rfl
  · rw [if_neg e, if_neg e]
theorem fits_of {cs : List S24} {L : List Sh} {m : Int} (hv : ∀ c ∈ cs, valB c.f0 c.f1 c.f2 = true) (h : OkP cs (L.map Sh.p) m) (s : Sh) (hs : s ∈ L) : s.fits := by
  have h1 := h.dom s.p (List.mem_map_of_mem hs)
  have h2 : s.p.1 ∈ cs := by rw [← h.fst]; exact List.mem_map_of_mem (List.mem_map_of_mem hs)
  have h3 := val_from (hv _ h2)
  simp only [Sh.p, toP] at h1 h3
  unfold Sh.fits
  omega

set_option maxHeartbeats 8000000 in
set_option maxRecDepth 100000 in
theorem split_walk (A : Option Addr) (c : Nat) (cs : List S24) (total : Int) (w : World) (hr : Kd.C k24 w A cs.length cs) (hc : cs.length ≤ c) (hn : cs.length ≤ 8) (h0 : 0 < cs.length) (hv : ∀ c ∈ cs, valB c.f0 c.f1 c.f2 = true) (hany : cs.any notVal = false) :
    Calls Try.prog 19 #[.slice A cs.length c, .int .i64 total] w (SplitPost w cs total) := by
  have hn' : decide (8 < cs.length) = false := decide_eq_false (by omega)
  have h0' : (cs.length == 0) = false := beq_eq_false_iff_ne.2 (by omega)
  have h0'' : ((cs.length : Int) == 0) = false := beq_eq_false_iff_ne.2 (by omega)
  have hn'' : decide ((8 : Int) < (cs.length : Int)) = false := decide_eq_false (by omega)
  have h1 : ¬ (cs = []) := fun e => by simp [e] at h0
  have HC := containsFuncC_calls A c cs w hr hc
  rw [hany] at HC
  have HA := Aside0.mk HC
  have HR := Aside0.mk hr
  have HV := Aside0.mk hv
  have hu24 := Try.underlying24
  have hu69 := Try.underlying69
  clear HC hv hr hc hany
  go_enter Try.func19, Try.ntmps19
  go_wp2_with (go_at_call 56; (with_reducible refine (HA.out).mono ?_); rintro e w' ⟨rfl, hb⟩; have HB := Aside0.mk hb; clear hb)
  go_loopw [8, 9, 10, 32] (fun v l m i wr => ∃ (k : Nat) (L : List Sh), k ≤ cs.length ∧ i = .int .i64 (k : Int) ∧ l = .int .i64 (leastP (cs.take k)) ∧ m = .int .i64 (mostP (cs.take k)) ∧ Aside0 (L.map Sh.p = startP (cs.take k)) ∧ Aside0 (ShRow w wr v L)) (fun _ _ _ i _ => cs.length - (intOf i).toNat)
  case atStart => exact ⟨0, [], by omega, rfl, rfl, rfl, ⟨rfl⟩, ⟨(ShRow.nil w).move HB.out⟩⟩
  case round =>
    clear HB
    obtain ⟨k, L, hk, rfl, rfl, rfl, HP, HS⟩ := hrel
    by_cases hlt : k < cs.length
    · obtain ⟨ad, A1, c1, rfl, e0, e1, e2, hl1, hr1⟩ := at_T24 HR.out (k : Int) (by omega) (by omega)
      rw [Int.toNat_natCast] at e0 e1 e2
      have e0' := (HS.out.below.cell (World.block_lt_of_cell? w _ e0)).trans e0
      have e1' := (HS.out.below.cell (World.block_lt_of_cell? w _ e1)).trans e1
      have e2' := (HS.out.below.cell (World.block_lt_of_cell? w _ e2)).trans e2
      have hP1 := startP_take_succ cs k hlt
      have hL1 := leastP_take_succ cs k hlt
      have hM1 := mostP_take_succ cs k hlt
      have hb1 := least_bound (cs.take k) (fun x hx => HV.out x (List.mem_of_mem_take hx))
      have hlk : (cs.take k).length = k := by simp; omega
      rw [hlk] at hb1
      have hvs := val_from (HV.out cs[k] (List.getElem_mem hlt))
      rw [rd_T24_getElem cs k hlt] at e0' e1' e2' hr1 hl1
      clear hlk e0 e1 e2
      obtain ⟨b1, b2, b3, b4⟩ := hb1
      obtain ⟨v1, v2, v3, v4, v5⟩ := hvs
      have HP1 := Aside0.mk hP1
      have HL1 := Aside0.mk hL1
      have HM1 := Aside0.mk hM1
      have HC1 := Aside0.mk (And.intro hr1 hl1)
      clear hP1 hL1 hM1 hr1 hl1
      generalize cs[k] = s0 at *
      generalize leastP (cs.take k) = lk at *
      generalize mostP (cs.take k) = mk at *
      obtain ⟨sa, sb, sl⟩ := s0
      simp only at e0' e1' e2' v1 v2 v3 v4 v5
      have hT := fun w1 h1 => curve_to.calls sa sb A1 c1 sl (sa + (sl.length : Int)) w1 h1 HC1.out.2 (by unfold curve_to.f; rw [w64 (by omega) (by omega)])
      have HT := Aside0.mk hT
      have hLn : L.length ≤ 8 := by
        have := congrArg List.length HP.out
        simp [startP] at this
        omega
      have HLn := Aside0.mk hLn
      clear hT hLn
      go_wp2_with (first | ((with_reducible refine gate_dst (N := 12) rfl ?_); refine box_event ?hg (N := 12) ?hd (cs := #[.int .i64 0, .int .i64 0, .slice none 0 0]) (t := 24) ?hr ?_; (case hd => rfl); (case hg => rfl); (case hr => first | (go_simp; done) | (go_simp; rfl)); intro g12 hg w1 hbox hb; have BK1 := Aside0.mk hbox; have HB1 := Aside0.mk hb; have GE1 := Aside0.mk (Nat.le_of_eq hg.symm); clear hbox hb hg; have hz0 : w1.cell? ⟨g12, 0, none⟩ = some (.int .i64 0) := (blk_cell BK1.out 0).trans rfl; have hz1 : w1.cell? ⟨g12, 1, none⟩ = some (.int .i64 0) := (blk_cell BK1.out 1).trans rfl; have hz2 : w1.cell? ⟨g12, 2, none⟩ = some (.slice none 0 0) := (blk_cell BK1.out 2).trans rfl; have hf0 := blk_frozen BK1.out 0; have hf1 := blk_frozen BK1.out 1; have hf2 := blk_frozen BK1.out 2) | ((with_reducible refine gate_dst (N := 41) rfl ?_); refine box_event ?hg (N := 41) ?hd (cs := #[.int .i64 sa, .int .i64 sb, .slice A1 sl.length c1, .int .i64 sa]) (t := 69) ?hr ?_; (case hd => rfl); (case hg => rfl); (case hr => first | (go_simp; done) | (go_simp; rfl)); intro g41 hg w2 hbox hb; have HW := Aside0.mk (below_set (j := 2) (v := .slice A1 sl.length c1) (below_set (j := 1) (v := .int .i64 sb) (below_set (j := 0) (v := .int .i64 sa) HB1.out GE1.out) GE1.out) GE1.out); have BK12 := Aside0.mk (blk_below (blk_put (cs' := #[.int .i64 sa, .int .i64 sb, .slice A1 sl.length c1]) (blk_put (cs' := #[.int .i64 sa, .int .i64 sb, .slice none 0 0]) (blk_put (cs' := #[.int .i64 sa, .int .i64 0, .slice none 0 0]) BK1.out 0 _ rfl) 1 _ rfl) 2 _ rfl) hb); have BK41 := Aside0.mk hbox; have GE41 := Aside0.mk (Nat.le_trans HW.out.size (Nat.le_of_eq hg.symm)); have HB2 := Aside0.mk (below_then HW.out HW.out.size hb); clear hbox hb hg hz0 hz1 hz2 hf0 hf1 hf2) | ((with_reducible refine gate_builtin (b := .append) rfl ?_); have HM := Aside0.mk (HS.out.move HB2.out); refine Kd.R_append ptrK (w0 := w) w.heap.size rfl (.tmp 36) (.tmp 42) 66 67 (.pointer none) 8 rfl Try.underlying66 info67 rfl (by decide) (by decide) _ (L.map Sh.g) g41 [.pointer (some ⟨g41, 0, none⟩)] (fun _ => True) (fun _ => False) rfl rfl rfl (fun _ hk => hk.elim) (fun _ _ => trivial) HM.out.row HM.out.below HM.out.below.size (by have := HLn.out; rw [List.length_map]; omega) ?_; intro v1 w3 hr hb hg _; have HS3 := Aside0.mk (HM.out.add (s := ⟨g41, sa, sb, sl, A1, c1, sa⟩) BK41.out (Nat.le_trans HS.out.below.size GE41.out) HC1.out (fun hmem => by obtain ⟨s, hs, he⟩ := List.mem_map.1 hmem; have h1 := blk_lt (HS.out.blk s hs); have h2 := GE41.out; simp only at he; omega) hr hb hg); have BK3 := Aside0.mk ((hg.block g12 (blk_lt BK12.out) (Kd.R_ne HM.out.row BK12.out (by decide))).trans BK12.out); clear hr hb hg; have hz0 : w3.cell? ⟨g12, 0, none⟩ = some (.int .i64 sa) := (blk_cell BK3.out 0).trans rfl; have hz1 : w3.cell? ⟨g12, 1, none⟩ = some (.int .i64 sb) := (blk_cell BK3.out 1).trans rfl; have hz2 : w3.cell? ⟨g12, 2, none⟩ = some (.slice A1 sl.length c1) := (blk_cell BK3.out 2).trans rfl) | (go_at_call 58; (with_reducible refine (HT.out _ (Kd.C_below HC1.out.1 HS3.out.below)).mono ?_); rintro e w4 ⟨rfl, hb⟩; have HB4 := Aside0.mk hb; clear hb))
      go_roundw
      case rel => exact ⟨k + 1, L ++ [⟨g41, sa, sb, sl, A1, c1, sa⟩], by omega, by go_num, by rw [HL1.out], by rw [HM1.out]; rfl, ⟨by rw [List.map_append, HP.out, HP1.out]; rfl⟩, ⟨HS3.out.move HB4.out⟩⟩
      case measure => simp [intOf]; omega
    · obtain rfl : k = cs.length := by omega
      rw [List.take_length] at *
      obtain ⟨Av, cv, rfl, hcv, _⟩ := Kd.R_reads HS.out.row
      have hb := least_bound cs HV.out
      obtain ⟨b1, b2, b3, b4⟩ := hb
      have hLl : (L.map Sh.g).length = cs.length := by
        have := congrArg List.length HP.out
        simpa [startP] using this
      rw [hLl] at hcv
      rw [hLl] at HS
      rw [hLl]
      clear hLl
      generalize hlk : leastP cs = lk at *
      generalize hmk : mostP cs = mk at *
      have HLK := Aside0.mk hlk
      have HMK := Aside0.mk hmk
      clear hlk hmk
      by_cases ht1 : total < lk
      · have ht1' : decide (total < lk) = true := decide_eq_true ht1
        have HT := Aside0.mk ht1
        clear ht1
        go_wp2
        refine bodyPost_ret (v := .tuple #[.slice none 0 0, .int .i64 0, .int .i64 0, .int .i64 10]) (by simp [results, Try.results19, go_sem]) rfl ⟨fun _ => ⟨rfl, HS.out.below⟩, fun h => ?_⟩
        exact absurd h (by rw [HLK.out]; have := HT.out; omega)
      · have ht1' : decide (total < lk) = false := decide_eq_false ht1
        by_cases ht2 : mk < total
        · have ht2' : decide (mk < total) = true := decide_eq_true ht2
          have HT := Aside0.mk ht2
          clear ht1 ht2
          go_wp2
          refine bodyPost_ret (v := .tuple #[.slice none 0 0, .int .i64 0, .int .i64 0, .int .i64 10]) (by simp [results, Try.results19, go_sem]) rfl ⟨fun _ => ⟨rfl, HS.out.below⟩, fun _ h => ?_⟩
          exact absurd h (by rw [HMK.out]; have := HT.out; omega)
        · have ht2' : decide (mk < total) = false := decide_eq_false ht2
          have HT := Aside0.mk (And.intro (show lk ≤ total from by omega) (show total ≤ mk from by omega))
          have htb : -9000000 ≤ total := by omega
          have htc : total ≤ 9000000 := by omega
          clear ht1 ht2
          have HL0 := Aside0.mk HP.out
          clear HP
          go_wp2
          go_loopw [9] (fun l wr => ∃ (n : Nat) (L : List Sh), l = .int .i64 (lk + (n : Int)) ∧ lk + (n : Int) ≤ total ∧ Aside0 (L.map Sh.p = runP n (startP cs)) ∧ Aside0 (ShRow w wr (.slice Av cs.length cv) L)) (fun l _ => (total - intOf l).toNat)
          case atStart => exact ⟨0, L, by simp, by have := HT.out.1; simp; omega, ⟨HL0.out⟩, HS⟩
          case round =>
            clear HS HL0
            obtain ⟨n, L, rfl, hnt, HP, HS⟩ := hrel
            have hok := OkP.run (cs := cs) n (by rw [HLK.out, HMK.out]; have := HT.out.2; omega)
            rw [← HP.out, HLK.out] at hok
            have hLl : L.length = cs.length := by
              have := congrArg List.length hok.fst
              simpa using this
            have HOK := Aside0.mk hok
            clear hok
            by_cases hlt : lk + (n : Int) < total
            · obtain ⟨i, hi, hb1, hb2⟩ := HOK.out.best (by rw [HMK.out]; have := HT.out.2; omega)
              have hi' : i < L.length := by simpa using hi
              have hmem : L[i] ∈ L := List.getElem_mem hi'
              have hfit := fits_of HV.out HOK.out L[i] hmem
              obtain ⟨Aq, cq, eq, _, hC⟩ := Kd.R_reads HS.out.row
              injection eq with ea en ec
              subst ea ec
              rw [List.length_map] at hC
              have hBC := best_calls Av cv L _ hC (by omega) (by omega) (fun s hs => ⟨HS.out.lies s hs, fits_of HV.out HOK.out s hs⟩)
              obtain ⟨ad, rfl, hx⟩ := at_ptr hC i hi'
              rw [keys_eq, hb1, hLl] at hBC
              rw [show (L.map Sh.g).getD i 0 = L[i].g from by simp [List.getD_eq_getElem?_getD, hi']] at hx
              have hblk := HS.out.blk _ hmem
              have hc3 := (blk_cell hblk 3).trans rfl
              have hf3 := blk_frozen hblk 3
              have HTURN := Aside0.mk (fun m => (HS.out.move (pw_below_drewN (Below.refl _ _) m)).turn i hi' (L[i].x + 1))
              have HTP := Aside0.mk (turn_p L i hi')
              have HB1 := Aside0.mk hb1
              have HBC := Aside0.mk hBC
              have hil : i < cs.length := by omega
              have hxb : -9000000 ≤ L[i].x ∧ L[i].x ≤ 9000000 := by unfold Sh.fits at hfit; omega
              obtain ⟨x1, x2⟩ := hxb
              clear hBC hb1 hb2 hC en hblk hmem hfit
              generalize L[i] = s at *
              obtain ⟨sg, sa, sb, sl, sA, sc, sx⟩ := s
              simp only at hx hc3 hf3 x1 x2
              go_wp2_with (go_at_call 59; (with_reducible refine (HBC.out).mono ?_); rintro e w4 ⟨rfl, ⟨nd, rfl⟩⟩)
              go_roundw
              case rel => exact ⟨n + 1, _, congrArg (Value.int .i64) (by omega), by omega, ⟨by rw [HTP.out, runP_succ, ← HP.out]; unfold stepP; rw [HB1.out, Int.toNat_natCast]⟩, ⟨HTURN.out nd⟩⟩
              case measure => simp [intOf]; omega
            · have hps : L.map Sh.p = splitPs cs total := by
                unfold splitPs
                rw [HP.out, HLK.out]
                congr 1
                omega
              have HPS := Aside0.mk hps
              clear hps
              have HOP : ∀ s ∈ L, s.fits := fun s hs => fits_of HV.out HOK.out s hs
              have HF := Aside0.mk HOP
              clear HOP HOK HP HV
              go_wp2
              go_loopw [13, 14, 15, 80] (fun v s p i wr => ∃ (k : Nat) (S P : Int), k ≤ cs.length ∧ i = .int .i64 (k : Int) ∧ s = .int .i64 S ∧ p = .int .i64 P ∧ Aside0 (S = sumP ((L.map Sh.p).take k)) ∧ Aside0 (P = priceP ((L.map Sh.p).take k)) ∧ Aside0 (Kd.R (Kd.int .i64) 3 wr w.heap.size (fun _ => True) v (((L.map Sh.p).take k).map (·.2))) ∧ Aside0 (ShRow w wr (.slice Av cs.length cv) L)) (fun _ _ _ i _ => cs.length - (intOf i).toNat)
              case atStart => exact ⟨0, 0, -1048576, by omega, rfl, rfl, rfl, ⟨rfl⟩, ⟨rfl⟩, ⟨R_lit0 _ _ HS.out.below.size⟩, ⟨HS.out.move (below_alloc (Below.refl _ _) _)⟩⟩
              case round =>
                clear HS
                obtain ⟨k, S, P, hk, rfl, rfl, rfl, HSu, HPr, HX, HS⟩ := hrel
                by_cases hlt2 : k < cs.length
                · have hkl : k < L.length := by omega
                  have hmem : L[k] ∈ L := List.getElem_mem hkl
                  have hfit := HF.out _ hmem
                  obtain ⟨Aq, cq, eq, _, hC⟩ := Kd.R_reads HS.out.row
                  injection eq with ea en ec
                  subst ea ec
                  rw [List.length_map] at hC
                  obtain ⟨ad, rfl, hx⟩ := at_ptr hC k hkl
                  rw [show (L.map Sh.g).getD k 0 = L[k].g from by simp [List.getD_eq_getElem?_getD, hkl]] at hx
                  have hrd := HS.out.reads _ hmem
                  have htk : (L.map Sh.p).take (k + 1) = (L.map Sh.p).take k ++ [L[k].p] := by
                    rw [List.take_succ_eq_append_getElem (by simpa using hkl)]
                    simp
                  have hsu : sumP ((L.map Sh.p).take (k + 1)) = wrap64 (S + valP L[k].p) := by rw [htk, HSu.out]; unfold sumP; rw [List.foldl_append]; rfl
                  have hpr : priceP ((L.map Sh.p).take (k + 1)) = mx P (loP L[k].p) := by rw [htk, HPr.out]; unfold priceP; rw [List.foldl_append]; rfl
                  have hxs : ((L.map Sh.p).take (k + 1)).map (·.2) = ((L.map Sh.p).take k).map (·.2) ++ [L[k].x] := by rw [htk, List.map_append]; rfl
                  have HSU := Aside0.mk hsu
                  have HPR := Aside0.mk hpr
                  have HXS := Aside0.mk hxs
                  have HAT := Aside0.mk (fun (w1 : World) (q1 : Kd.C (Kd.int .i64) w1 L[k].A L[k].l.length L[k].l) => at_calls L[k].a L[k].b L[k].A L[k].c L[k].l L[k].x w1 q1 hrd.2 hfit.1 hfit.2.1 hfit.2.2.1)
                  have HPC := Aside0.mk (fun (w1 : World) (q1 : Kd.C (Kd.int .i64) w1 L[k].A L[k].l.length L[k].l) => prices_calls L[k].a L[k].b L[k].A L[k].c L[k].l L[k].x w1 q1 hrd.2 hfit.1 hfit.2.1 hfit.2.2.1)
                  have HRD := Aside0.mk hrd.1
                  have HLn := Aside0.mk (show (((L.map Sh.p).take k).map (·.2)).length ≤ 8 from by simp; omega)
                  have HBK := Aside0.mk (fun (W : World) (h : ShRow w W (.slice (some ad) cs.length cv) L) => h.blk _ hmem)
                  have hb0 := HBK.out _ HS.out
                  have hc0 := (blk_cell hb0 0).trans rfl
                  have hc1 := (blk_cell hb0 1).trans rfl
                  have hc2 := (blk_cell hb0 2).trans rfl
                  have hc3 := (blk_cell hb0 3).trans rfl
                  clear htk hsu hpr hxs hrd hfit hb0 hC en hmem
                  generalize L[k] = s at *
                  obtain ⟨sg, sa, sb, sl, sA, sc, sx⟩ := s
                  simp only at hx hc0 hc1 hc2 hc3
                  generalize ((L.map Sh.p).take k).map (·.2) = xs at *
                  go_wp2_with ((with_reducible refine gate_builtin (b := .append) rfl ?_); refine Kd.R_append (Kd.int .i64) (w0 := w) w.heap.size rfl (.tmp 84) (.tmp 89) 22 3 (.int .i64 0) 8 rfl Try.underlying22 info3 rfl (by decide) (by decide) _ xs sx [.int .i64 sx] (fun _ => True) (fun _ => False) rfl rfl rfl (fun _ hk => hk.elim) (fun _ _ => trivial) HX.out HS.out.below HS.out.below.size (by have := HLn.out; omega) ?_; intro v1 w2 hr hb hg _; have HX2 := Aside0.mk hr; have HS2 := Aside0.mk (HS.out.grown HX.out hg hb); clear hr hb hg hc0 hc1 hc2 hc3; have hb0 := HBK.out _ HS2.out; have hc0 := (blk_cell hb0 0).trans rfl; have hc1 := (blk_cell hb0 1).trans rfl; have hc2 := (blk_cell hb0 2).trans rfl; have hc3 := (blk_cell hb0 3).trans rfl; clear hb0; simp only at hc0 hc1 hc2 hc3)
                  have HS2d := Aside0.mk (HS2.out.move (below_drew (Below.refl _ w2)))
                  go_region_held3 (fun W => W.cell? ⟨sg, 0, none⟩ = some (.int .i64 sa) ∧ W.cell? ⟨sg, 1, none⟩ = some (.int .i64 sb) ∧ W.cell? ⟨sg, 2, none⟩ = some (.slice sA sl.length sc) ∧ W.cell? ⟨sg, 3, none⟩ = some (.int .i64 sx)) (first | exact ⟨hc0, hc1, hc2, hc3⟩ | exact ⟨(HB3.out.cell (World.block_lt_of_cell? _ _ hc0)).trans hc0, (HB3.out.cell (World.block_lt_of_cell? _ _ hc1)).trans hc1, (HB3.out.cell (World.block_lt_of_cell? _ _ hc2)).trans hc2, (HB3.out.cell (World.block_lt_of_cell? _ _ hc3)).trans hc3⟩) (first | (go_at_call 61; (with_reducible refine (HAT.out _ ?_).mono ?_); (exact Kd.C_below HRD.out HS2d.out.below); rintro e w3 ⟨rfl, hb⟩; have HB3 := Aside0.mk hb; clear hb))
                  have HS3 := Aside0.mk (HS2d.out.move HB3.out)
                  have HX3 := Aside0.mk (Kd.R_below (Kd.R_drew HX2.out) HB3.out)
                  have hb0 := HBK.out _ HS3.out
                  have hd0 := (blk_cell hb0 0).trans rfl
                  have hd1 := (blk_cell hb0 1).trans rfl
                  have hd2 := (blk_cell hb0 2).trans rfl
                  have hd3 := (blk_cell hb0 3).trans rfl
                  clear hb0 hc0 hc1 hc2 hc3
                  simp only at hd0 hd1 hd2 hd3
                  simp only [i64_w]
                  rw [show addup sb (List.take (sx - sa).toNat sl) = valP (⟨sa, sb, sl⟩, sx) from rfl]
                  go_wp2
                  have HS3d := Aside0.mk (HS3.out.move (below_drew (Below.refl _ w3)))
                  go_region_held3 (fun W => W.cell? ⟨sg, 0, none⟩ = some (.int .i64 sa) ∧ W.cell? ⟨sg, 1, none⟩ = some (.int .i64 sb) ∧ W.cell? ⟨sg, 2, none⟩ = some (.slice sA sl.length sc) ∧ W.cell? ⟨sg, 3, none⟩ = some (.int .i64 sx)) (first | exact ⟨hd0, hd1, hd2, hd3⟩ | exact ⟨(HB4.out.cell (World.block_lt_of_cell? _ _ hd0)).trans hd0, (HB4.out.cell (World.block_lt_of_cell? _ _ hd1)).trans hd1, (HB4.out.cell (World.block_lt_of_cell? _ _ hd2)).trans hd2, (HB4.out.cell (World.block_lt_of_cell? _ _ hd3)).trans hd3⟩) (first | (go_at_call 62; (with_reducible refine (HPC.out _ ?_).mono ?_); (exact Kd.C_below HRD.out HS3d.out.below); rintro e w4 ⟨rfl, hb⟩; have HB4 := Aside0.mk hb; clear hb))
                  go_wp2
                  go_roundw
                  case rel => exact ⟨k + 1, _, _, by omega, by go_num, rfl, rfl, ⟨HSU.out.symm⟩, ⟨HPR.out.symm⟩, ⟨by rw [HXS.out]; exact Kd.R_below (Kd.R_drew HX3.out) HB4.out⟩, ⟨HS3d.out.move HB4.out⟩⟩
                  case measure => simp [intOf]; omega
                · obtain rfl : k = cs.length := by omega
                  have htk : (L.map Sh.p).take cs.length = L.map Sh.p := List.take_of_length_le (by simp; omega)
                  rw [htk, HPS.out] at HSu HPr HX
                  clear htk
                  obtain ⟨Ax, cx, rfl, _, _⟩ := Kd.R_reads HX.out
                  go_wp2
                  refine bodyPost_ret (v := .tuple #[.slice Ax ((splitPs cs total).map (·.2)).length cx, .int .i64 S, .int .i64 P, .int .i64 0]) (by simp [results, Try.results19, go_sem]) rfl ⟨fun h => ?_, fun _ _ => ⟨_, by rw [HSu.out, HPr.out], HX.out, HS.out.below⟩⟩
                  exfalso
                  rw [HLK.out, HMK.out] at h
                  have := HT.out
                  omega
end Go.Proofs.Ytfeeaipbmpmpgaa.PX

namespace Go.Proofs.Ytfeeaipbmpmpgaa.PX
open Go.RowKit Go.Proofs.YtfeeaipbmpmpgaaW.PrintWords Go.Proofs.YtfeeaipbmpmpgaaW.PrintLast Go.Proofs.YtfeeaipbmpmpgaaW.PrintMore
set_option linter.unusedVariables false
set_option linter.unusedSimpArgs false

def splitR (cs : List S24) (total : Int) : List Int × Int × Int × Int :=
  if 8 < cs.length then ([], 0, 0, 3) else if cs.length = 0 then ([], 0, 0, 2) else if cs.any notVal = true then ([], 0, 0, 2)
  else if total < leastP cs ∨ mostP cs < total then ([], 0, 0, 10) else ((splitPs cs total).map (·.2), sumP (splitPs cs total), priceP (splitPs cs total), 0)
def curve_Split.f (l0 : List S24) (a1 : Int) : Option (List Int × Int × Int × Int) := some (splitR l0 a1)
theorem curve_Split.calls (A0 : Option Addr) (c0 : Nat) (l0 : List S24) (a1 : Int) (r1 : List Int) (r2 : Int) (r3 : Int) (r4 : Int) (w : World) (hr0 : Kd.C k24 w A0 l0.length l0) (hc0 : l0.length ≤ c0) (h : curve_Split.f l0 a1 = some (r1, r2, r3, r4)) :
    Calls Try.prog 19 #[.slice A0 l0.length c0, .int .i64 a1] w fun e w' => ∃ v1_ : Value, e = .returned (.tuple #[v1_, .int .i64 r2, .int .i64 r3, .int .i64 r4]) ∧ Kd.R (Kd.int .i64) 3 w' w.heap.size (fun _ => True) v1_ r1 ∧ Below w.heap.size w w' := by
  have h := Option.some.inj h
  unfold splitR at h
  have err : ∀ q : Int, (([], 0, 0, q) : List Int × Int × Int × Int) = (r1, r2, r3, r4) → ∀ e w', SplitErr w q e w' → ∃ v1_ : Value, e = .returned (.tuple #[v1_, .int .i64 r2, .int .i64 r3, .int .i64 r4]) ∧ Kd.R (Kd.int .i64) 3 w' w.heap.size (fun _ => True) v1_ r1 ∧ Below w.heap.size w w' := by
    intro q hq e w' ⟨he, hb⟩
    simp only [Prod.mk.injEq] at hq
    obtain ⟨rfl, rfl, rfl, rfl⟩ := hq
    exact ⟨_, he, Kd.R_nil _ _ _ _ _, hb⟩
  by_cases h1 : 8 < l0.length
  · rw [if_pos h1] at h
    exact (split_many A0 c0 l0 a1 w h1 hr0.2.1).mono (err 3 h)
  · rw [if_neg h1] at h
    by_cases h2 : l0.length = 0
    · rw [if_pos h2] at h
      rw [h2]
      exact (split_none A0 c0 a1 w).mono (err 2 h)
    · rw [if_neg h2] at h
      by_cases h3 : l0.any notVal = true
      · rw [if_pos h3] at h
        exact (split_invalid A0 c0 l0 a1 w hr0 hc0 (by omega) (by omega) h3).mono (err 2 h)
      · rw [if_neg h3] at h
        have hany : l0.any notVal = false := Bool.eq_false_iff.2 h3
        have hv : ∀ c ∈ l0, valB c.f0 c.f1 c.f2 = true := fun c hc => by
          have := (List.any_eq_false.1 hany) c hc
          unfold notVal at this
          simpa using this
        refine (split_walk A0 c0 l0 a1 w hr0 hc0 (by omega) (by omega) hv hany).mono ?_
        intro e w' hp
        by_cases h4 : a1 < leastP l0 ∨ mostP l0 < a1
        · rw [if_pos h4] at h
          exact err 10 h e w' (hp.1 h4)
        · rw [if_neg h4] at h
          obtain ⟨v, he, hR, hB⟩ := hp.2 (by omega) (by omega)
          simp only [Prod.mk.injEq] at h
          obtain ⟨rfl, rfl, rfl, rfl⟩ := h
          exact ⟨v, he, hR, hB⟩
end Go.Proofs.Ytfeeaipbmpmpgaa.PX

namespace Go.Proofs.Ytfeeaipbmpmpgaa.PX
open Go.RowKit Go.Proofs.YtfeeaipbmpmpgaaW.PrintWords Go.Proofs.YtfeeaipbmpmpgaaW.PrintLast Go.Proofs.YtfeeaipbmpmpgaaW.PrintMore
attribute [local go_sem] max2_int min2_int max_two min_two max_three min_three max_four min_four   -- for this text's walks alone
set_option linter.unusedVariables false
set_option linter.unusedSimpArgs false
/-! ### kimberlitelaw03_same: function 24 -/
def kimberlitelaw03_same.l0 : Nat → List Int → List Int → Int → Option (Bool)
 | 0, _, _, _ => none
 | k + 1, x0, x1, x5 => if x5 < (x0.length : Int) then (if 0 ≤ x5 then (if x5 < (x1.length : Int) then (if (rd x0 x5) = (rd x1 x5) then (kimberlitelaw03_same.l0 k x0 x1 (wrap64 (x5 + 1))) else (some false)) else (none)) else (none)) else (some true)
def kimberlitelaw03_same.f (k : Nat) (l0 : List Int) (l1 : List Int) : Option (Bool) := if (l0.length : Int) = (l1.length : Int) then (kimberlitelaw03_same.l0 k l0 l1 0) else (some false)
theorem kimberlitelaw03_same.mono_l : ∀ k, (∀ y0 y1 y2, LeO (kimberlitelaw03_same.l0 k y0 y1 y2) (kimberlitelaw03_same.l0 (k + 1) y0 y1 y2))
 | 0 => fun _ _ _ r h => by simp [kimberlitelaw03_same.l0] at h
 | k + 1 => by
  have ih0 := kimberlitelaw03_same.mono_l k
  ·
   intro y0 y1 y2
   unfold kimberlitelaw03_same.l0
   repeat' first
   | (with_reducible exact ih0 _ _ _)
   | (with_reducible exact LeO.refl _)
   | (with_reducible exact LeO.none _)
   | (with_reducible refine LeO.ite ?_ ?_)
   | (with_reducible refine LeO.bind ?_ (fun _ => ?_))
   | exact ih0 _ _ _
   | exact LeO.none _
   | refine LeO.ite ?_ ?_
   | refine LeO.bind ?_ (fun _ => ?_)
theorem kimberlitelaw03_same.mono : ∀ a0 a1 k, LeO (kimberlitelaw03_same.f k a0 a1) (kimberlitelaw03_same.f (k + 1) a0 a1) := by
 intro a0 a1 k
 have ih0 := kimberlitelaw03_same.mono_l k
 unfold kimberlitelaw03_same.f
 repeat' first
   | (with_reducible exact ih0 _ _ _)
   | (with_reducible exact LeO.refl _)
   | (with_reducible exact LeO.none _)
   | (with_reducible refine LeO.ite ?_ ?_)
   | (with_reducible refine LeO.bind ?_ (fun _ => ?_))
   | exact ih0 _ _ _
   | exact LeO.none _
   | refine LeO.ite ?_ ?_
   | refine LeO.bind ?_ (fun _ => ?_)
set_option maxHeartbeats 8000000 in
set_option maxRecDepth 100000 in
theorem kimberlitelaw03_same.calls (k : Nat) (A0 : Option Addr) (c0 : Nat) (l0 : List Int) (A1 : Option Addr) (c1 : Nat) (l1 : List Int) (r : Bool) (w : World) (hr0 : Kd.C (Kd.int .i64) w A0 l0.length l0) (hc0 : l0.length ≤ c0) (hr1 : Kd.C (Kd.int .i64) w A1 l1.length l1) (hc1 : l1.length ≤ c1) (h : kimberlitelaw03_same.f k l0 l1 = some r) :
  Calls Try.prog 24 #[.slice A0 l0.length c0, .slice A1 l1.length c1] w fun e w' => e = .returned (.bool r) ∧ Drawn0 w w' := by
 have HR0 := zA hr0
 have HC0 := zA hc0
 clear hr0 hc0
 have HR1 := zA hr1
 have HC1 := zA hc1
 clear hr1 hc1
 have H : (if (l0.length : Int) = (l1.length : Int) then (kimberlitelaw03_same.l0 k l0 l1 0) else (some false)) = some r := h
 clear h
 by_cases c3 : (l0.length : Int) = (l1.length : Int)
 ·
  rw [if_pos c3] at H
  have c3b0 : ((l0.length : Int) == (l1.length : Int)) = true := beq_iff_eq.mpr c3
  have c3b1 : ((l0.length : Int) != (l1.length : Int)) = false := bne_eq_false_iff_eq.mpr c3
  have c3b2 : (l0.length == l1.length) = true := by first | simpa using c3 | (simp at c3 ⊢; omega)
  clear c3
  have H' := zA H
  clear H
  go_enter Try.func24, Try.ntmps24
  go_wp2
  repeat (go_quiet (fail); try go_wp2)
  go_loopg [5] k (fun kq v5 w' => ∃ (x5_1 : Int), v5 = .int .i64 x5_1 ∧ Aside0 (kimberlitelaw03_same.l0 kq l0 l1 x5_1 = some r) ∧ Aside0 (kq ≤ k) ∧ Drawn0 w w')
  case atStart => exact ⟨(0), (by first | rfl | (simp; done) | (simp [*]; done)), H', ⟨Nat.le_refl _⟩, by repeat (first | exact Drawn0.refl _ | apply Drawn0.step)⟩
  case round =>
   clear H'
   try clear c1
   try clear c2
   try clear p2
   try clear c3
   try clear c3b0
   try clear c3b1
   try clear c3b2
   obtain ⟨x5_1, rfl, HA, HK1, ⟨m1, rfl⟩⟩ := hrel
   cases gk with
   | zero => exact absurd HA.out (by simp [kimberlitelaw03_same.l0])
   | succ k1 =>
    have H := HA.out
    clear HA
    simp only [kimberlitelaw03_same.l0] at H
    by_cases c4 : x5_1 < (l0.length : Int)
    ·
     rw [if_pos c4] at H
     have c4b0 : decide (x5_1 < (l0.length : Int)) = true := decide_eq_true c4
     clear c4
     by_cases c5 : 0 ≤ x5_1
     ·
      rw [if_pos c5] at H
      have c5b0 : decide (0 ≤ x5_1) = true := decide_eq_true c5
      clear c5
      by_cases c6 : x5_1 < (l1.length : Int)
      ·
       rw [if_pos c6] at H
       have c6b0 : decide (x5_1 < (l1.length : Int)) = true := decide_eq_true c6
       clear c6
       by_cases c7 : (rd l0 x5_1) = (rd l1 x5_1)
       ·
        rw [if_pos c7] at H
        have c7b0 : ((rd l0 x5_1) == (rd l1 x5_1)) = true := beq_iff_eq.mpr c7
        have c7b1 : ((rd l0 x5_1) != (rd l1 x5_1)) = false := bne_eq_false_iff_eq.mpr c7
        clear c7
        have H' := zA H
        clear H
        have p207 : 0 ≤ (x5_1 : Int) := of_decide_eq_true (by first | (with_reducible assumption) | assumption)
        have q207 : x5_1 < (l0.length : Int) := of_decide_eq_true (by first | (with_reducible assumption) | assumption)
        obtain ⟨ad207, e207, hx207_0⟩ := Kd.at_int HR0.out x5_1 p207 q207
        cases e207
        replace p207 := eq_true p207
        replace q207 := eq_true q207
        have p208 : 0 ≤ (x5_1 : Int) := of_decide_eq_true (by first | (with_reducible assumption) | assumption)
        have q208 : x5_1 < (l1.length : Int) := of_decide_eq_true (by first | (with_reducible assumption) | assumption)
        obtain ⟨ad208, e208, hx208_0⟩ := Kd.at_int HR1.out x5_1 p208 q208
        cases e208
        replace p208 := eq_true p208
        replace q208 := eq_true q208
        go_wp2
        repeat (go_quiet (fail); try go_wp2)
        go_roundg k1
        case measure => have := HK1.out; omega
        case rel => exact ⟨(wrap64 (x5_1 + 1)), (by first | rfl | (simp; done) | (simp [*]; done)), H', ⟨by have := HK1.out; omega⟩, by repeat (first | exact Drawn0.refl _ | apply Drawn0.step)⟩
       ·
        rw [if_neg c7] at H
        have c7b0 : ((rd l0 x5_1) == (rd l1 x5_1)) = false := beq_eq_false_iff_ne.mpr c7
        have c7b1 : ((rd l0 x5_1) != (rd l1 x5_1)) = true := bne_iff_ne.mpr c7
        obtain rfl := Option.some.inj H
        have p207 : 0 ≤ (x5_1 : Int) := of_decide_eq_true (by first | (with_reducible assumption) | assumption)
        have q207 : x5_1 < (l0.length : Int) := of_decide_eq_true (by first | (with_reducible assumption) | assumption)
        obtain ⟨ad207, e207, hx207_0⟩ := Kd.at_int HR0.out x5_1 p207 q207
        cases e207
        replace p207 := eq_true p207
        replace q207 := eq_true q207
        have p208 : 0 ≤ (x5_1 : Int) := of_decide_eq_true (by first | (with_reducible assumption) | assumption)
        have q208 : x5_1 < (l1.length : Int) := of_decide_eq_true (by first | (with_reducible assumption) | assumption)
        obtain ⟨ad208, e208, hx208_0⟩ := Kd.at_int HR1.out x5_1 p208 q208
        cases e208
        replace p208 := eq_true p208
        replace q208 := eq_true q208
        go_wp2
        repeat (go_quiet (fail); try go_wp2)
        go_ret
        exact ⟨by first | rfl | (simp; done) | (simp [*]; done), by repeat (first | exact Drawn0.refl _ | apply Drawn0.step)⟩
      ·
       rw [if_neg c6] at H
       exact absurd H (by simp)
     ·
      rw [if_neg c5] at H
      exact absurd H (by simp)
    ·
     rw [if_neg c4] at H
     have c4b0 : decide (x5_1 < (l0.length : Int)) = false := decide_eq_false c4
     clear c4
     obtain rfl := Option.some.inj H
     go_wp2
     repeat (go_quiet (fail); try go_wp2)
     go_ret
     exact ⟨by first | rfl | (simp; done) | (simp [*]; done), by repeat (first | exact Drawn0.refl _ | apply Drawn0.step)⟩
 ·
  rw [if_neg c3] at H
  have c3b0 : ((l0.length : Int) == (l1.length : Int)) = false := beq_eq_false_iff_ne.mpr c3
  have c3b1 : ((l0.length : Int) != (l1.length : Int)) = true := bne_iff_ne.mpr c3
  have c3b2 : (l0.length == l1.length) = false := by first | simpa using c3 | (simp at c3 ⊢; omega)
  obtain rfl := Option.some.inj H
  go_enter Try.func24, Try.ntmps24
  go_wp2
  repeat (go_quiet (fail); try go_wp2)
  go_ret
  exact ⟨by first | rfl | (simp; done) | (simp [*]; done), by repeat (first | exact Drawn0.refl _ | apply Drawn0.step)⟩
end Go.Proofs.Ytfeeaipbmpmpgaa.PX

namespace Go.Proofs.Ytfeeaipbmpmpgaa.PX
open Go.RowKit Go.Proofs.YtfeeaipbmpmpgaaW.PrintWords Go.Proofs.YtfeeaipbmpmpgaaW.PrintLast Go.Proofs.YtfeeaipbmpmpgaaW.PrintMore
set_option linter.unusedVariables false
set_option linter.unusedSimpArgs false

theorem alive_join : joinR 0 0 [1, 3] 0 0 [2, 2] = (0, 0, [1, 2, 2, 3], 0) := by
  have hs : sortI ([1, 3] ++ [2, 2]) = [1, 2, 2, 3] := by simp [sortI, List.mergeSort, List.MergeSort.Internal.splitInTwo]
  unfold joinR madeR
  rw [hs]
  decide +kernel
theorem alive_split : splitR [⟨0, 0, [1, 3]⟩, ⟨0, 0, [2, 2]⟩] 3 = ([1, 2], 5, 2, 0) := by
  decide +kernel
theorem C_blk {w : World} {g : Nat} {e : Nat} {cs : Array Value} (xs : List Int) (h : w.heap[g]? = some (.cells cs e (0, 0))) (hc : cs = (xs.map (Value.int .i64)).toArray) (hm : xs.length ≤ 1000) : Kd.C (Kd.int .i64) w (some ⟨g, 0, none⟩) xs.length xs := by
  subst hc
  refine ⟨rfl, by omega, fun _ => ⟨_, rfl, fun j p hj => ⟨[.int .i64 p], rfl, rfl, fun i u hu => ?_⟩⟩⟩
  have hs : (Kd.int .i64).sz = 1 := rfl
  rw [hs, Nat.mul_one]
  cases i with
  | succ i => simp at hu
  | zero =>
    have hu' : Value.int .i64 p = u := by simpa using hu
    subst hu'
    rw [Nat.add_zero, add_plain, blk_cell h]
    simp [hj]
theorem alive_join_calls (g0 g1 : Nat) (W : World) (h0 : W.heap[g0]? = some (.cells #[.int .i64 1, .int .i64 3] 3 (0, 0))) (h1 : W.heap[g1]? = some (.cells #[.int .i64 2, .int .i64 2] 3 (0, 0))) :
    Calls Try.prog 14 #[.agg #[.int .i64 0, .int .i64 0, .slice (some ⟨g0, 0, none⟩) 2 2], .agg #[.int .i64 0, .int .i64 0, .slice (some ⟨g1, 0, none⟩) 2 2]] W fun e w' => ∃ v, e = .returned (.tuple #[.agg #[.int .i64 0, .int .i64 0, v], .int .i64 0]) ∧ Kd.R (Kd.int .i64) 3 w' W.heap.size (fun _ => True) v [1, 2, 2, 3] ∧ Below W.heap.size W w' :=
  curve_Join.calls 0 0 _ 2 [1, 3] 0 0 _ 2 [2, 2] _ _ _ _ W (C_blk [1, 3] h0 rfl (by decide)) (by decide) (C_blk [2, 2] h1 rfl (by decide)) (by decide) (congrArg some alive_join)
theorem C_curves {W : World} {g g0 g1 : Nat} (hb : W.heap[g]? = some (.cells #[.int .i64 0, .int .i64 0, .slice (some ⟨g0, 0, none⟩) 2 2, .int .i64 0, .int .i64 0, .slice (some ⟨g1, 0, none⟩) 2 2] 24 (0, 0)))
    (h0 : W.heap[g0]? = some (.cells #[.int .i64 1, .int .i64 3] 3 (0, 0))) (h1 : W.heap[g1]? = some (.cells #[.int .i64 2, .int .i64 2] 3 (0, 0))) :
    Kd.C k24 W (some ⟨g, 0, none⟩) 2 [⟨0, 0, [1, 3]⟩, ⟨0, 0, [2, 2]⟩] := by
  have hsz : k24.sz = 3 := rfl
  refine ⟨rfl, by omega, fun _ => ⟨_, rfl, fun j p hj => ?_⟩⟩
  match j with
  | 0 =>
    have : p = ⟨0, 0, [1, 3]⟩ := by simpa using hj.symm
    subst this
    refine ⟨_, rfl, k24_mk W ⟨0, 0, [1, 3]⟩ (c2 := 2) (by decide) (C_blk [1, 3] h0 rfl (by decide)), fun i u hu => ?_⟩
    rw [add_plain, blk_cell hb, hsz, Nat.zero_mul, Nat.zero_add]
    match i with
    | 0 => simpa using hu
    | 1 => simpa using hu
    | 2 => simpa using hu
    | i + 3 => simp at hu
  | 1 =>
    have : p = ⟨0, 0, [2, 2]⟩ := by simpa using hj.symm
    subst this
    refine ⟨_, rfl, k24_mk W ⟨0, 0, [2, 2]⟩ (c2 := 2) (by decide) (C_blk [2, 2] h1 rfl (by decide)), fun i u hu => ?_⟩
    rw [add_plain, blk_cell hb, hsz, Nat.one_mul]
    match i with
    | 0 => simpa using hu
    | 1 => simpa using hu
    | 2 => simpa using hu
    | i + 3 => simp at hu
  | j + 2 => simp at hj
theorem alive_split_calls (g g0 g1 : Nat) (W : World) (hb : W.heap[g]? = some (.cells #[.int .i64 0, .int .i64 0, .slice (some ⟨g0, 0, none⟩) 2 2, .int .i64 0, .int .i64 0, .slice (some ⟨g1, 0, none⟩) 2 2] 24 (0, 0)))
    (h0 : W.heap[g0]? = some (.cells #[.int .i64 1, .int .i64 3] 3 (0, 0))) (h1 : W.heap[g1]? = some (.cells #[.int .i64 2, .int .i64 2] 3 (0, 0))) :
    Calls Try.prog 19 #[.slice (some ⟨g, 0, none⟩) 2 2, .int .i64 3] W fun e w' => ∃ v, e = .returned (.tuple #[v, .int .i64 5, .int .i64 2, .int .i64 0]) ∧ Kd.R (Kd.int .i64) 3 w' W.heap.size (fun _ => True) v [1, 2] ∧ Below W.heap.size W w' :=
  curve_Split.calls _ 2 [⟨0, 0, [1, 3]⟩, ⟨0, 0, [2, 2]⟩] 3 _ _ _ _ W (C_curves hb h0 h1) (by decide) (congrArg some alive_split)
def aliveW (w : World) : World :=
  (((w.alloc (.cells #[.int .i64 1, .int .i64 3] 3)).alloc (.cells #[.int .i64 2, .int .i64 2] 3)).alloc (.cells #[.int .i64 0, .int .i64 0, .slice (some ⟨w.heap.size, 0, none⟩) 2 2] 24)).alloc (.cells #[.int .i64 0, .int .i64 0, .slice (some ⟨w.heap.size + 1, 0, none⟩) 2 2] 24)
theorem size1 (w : World) (o : Obj) : (w.alloc o).heap.size = w.heap.size + 1 := by simp
theorem aliveW_facts (w : World) : (aliveW w).heap[w.heap.size]? = some (.cells #[.int .i64 1, .int .i64 3] 3 (0, 0)) ∧ (aliveW w).heap[w.heap.size + 1]? = some (.cells #[.int .i64 2, .int .i64 2] 3 (0, 0)) ∧
    (aliveW w).heap[w.heap.size + 1 + 1]? = some (.cells #[.int .i64 0, .int .i64 0, .slice (some ⟨w.heap.size, 0, none⟩) 2 2] 24 (0, 0)) ∧ (aliveW w).heap[w.heap.size + 1 + 1 + 1]? = some (.cells #[.int .i64 0, .int .i64 0, .slice (some ⟨w.heap.size + 1, 0, none⟩) 2 2] 24 (0, 0)) ∧ Below w.heap.size w (aliveW w) := by
  refine ⟨blk_alloc (blk_alloc (blk_alloc (blk_new _ _) _) _) _, ?_, ?_, ?_, below_alloc (below_alloc (below_alloc (below_alloc (Below.refl _ _) _) _) _) _⟩
  · rw [← size1 w (.cells #[.int .i64 1, .int .i64 3] 3)]
    exact blk_alloc (blk_alloc (blk_new _ _) _) _
  · rw [← size1 w (.cells #[.int .i64 1, .int .i64 3] 3), ← size1 (w.alloc (.cells #[.int .i64 1, .int .i64 3] 3)) (.cells #[.int .i64 2, .int .i64 2] 3)]
    exact blk_alloc (blk_new _ _) _
  · have h := blk_new (((w.alloc (.cells #[.int .i64 1, .int .i64 3] 3)).alloc (.cells #[.int .i64 2, .int .i64 2] 3)).alloc (.cells #[.int .i64 0, .int .i64 0, .slice (some ⟨w.heap.size, 0, none⟩) 2 2] 24)) (.cells #[.int .i64 0, .int .i64 0, .slice (some ⟨w.heap.size + 1, 0, none⟩) 2 2] 24)
    rw [size1, size1, size1] at h
    exact h
theorem same_lit {w : World} (A : Option Addr) (c : Nat) (l : List Int) (n : Nat) (hn : n = l.length) (cs : Array Value) (hcs : cs = (l.map (Value.int .i64)).toArray) (hc : l.length ≤ c) (hr : Kd.C (Kd.int .i64) w A l.length l) (hm : l.length ≤ 1000 := by decide) (hs : kimberlitelaw03_same.f 1000 l l = some true := by decide +kernel) :
    Calls Try.prog 24 #[.slice A n c, .slice (some ⟨w.heap.size, 0, none⟩) n n] (w.alloc (.cells cs 3)) fun e w' => e = .returned (.bool true) ∧ Below w.heap.size w w' := by
  subst hn
  refine (kimberlitelaw03_same.calls 1000 A c l _ l.length l true _ (Kd.C_alloc hr _) hc (C_blk l (blk_new _ _) hcs hm) (Nat.le_refl _) hs).mono ?_
  rintro e w' ⟨rfl, hd⟩
  exact ⟨rfl, below_then (below_alloc (Below.refl _ _) _) (by simp) hd.below⟩
def aliveV (w1 : World) (Av : Option Addr) (cv : Nat) (g0 g1 : Nat) : World :=
  (w1.alloc (.cells #[.int .i64 0, .int .i64 0, .slice Av 4 cv] 24)).alloc (.cells #[.int .i64 0, .int .i64 0, .slice (some ⟨g0, 0, none⟩) 2 2, .int .i64 0, .int .i64 0, .slice (some ⟨g1, 0, none⟩) 2 2] 24)
theorem aliveV_facts (w1 : World) (Av : Option Addr) (cv : Nat) (g0 g1 : Nat) : (aliveV w1 Av cv g0 g1).heap[w1.heap.size]? = some (.cells #[.int .i64 0, .int .i64 0, .slice Av 4 cv] 24 (0, 0)) ∧
    (aliveV w1 Av cv g0 g1).heap[w1.heap.size + 1]? = some (.cells #[.int .i64 0, .int .i64 0, .slice (some ⟨g0, 0, none⟩) 2 2, .int .i64 0, .int .i64 0, .slice (some ⟨g1, 0, none⟩) 2 2] 24 (0, 0)) ∧ Below w1.heap.size w1 (aliveV w1 Av cv g0 g1) := by
  refine ⟨blk_alloc (blk_new _ _) _, ?_, below_alloc (below_alloc (Below.refl _ _) _) _⟩
  rw [← size1 w1 (.cells #[.int .i64 0, .int .i64 0, .slice Av 4 cv] 24)]
  exact blk_new _ _
def kimberlitelaw03_alive.f : Option Bool := some true
set_option maxHeartbeats 8000000 in
set_option maxRecDepth 100000 in
theorem kimberlitelaw03_alive.calls (r : Bool) (w : World) (h : kimberlitelaw03_alive.f = some r) :
    Calls Try.prog 17 #[] w fun e w' => e = .returned (.bool r) ∧ Below w.heap.size w w' := by
  obtain rfl := Option.some.inj h
  clear h
  have hu24 := Try.underlying24
  obtain ⟨B0, B1, B2, B3, HBW⟩ := aliveW_facts w
  have A0 := Aside0.mk B0
  have A1 := Aside0.mk B1
  have A2 := Aside0.mk B2
  have A3 := Aside0.mk B3
  have AW := Aside0.mk HBW
  clear B0 B1 B2 B3 HBW
  go_enter Try.func17, Try.ntmps17
  go_wp2_with fail
  change Calls _ _ _ (aliveW w) _
  generalize aliveW w = W at A0 A1 A2 A3 AW ⊢
  generalize hg0 : w.heap.size = g0 at A0 A1 A2 A3 ⊢
  generalize hg1 : g0 + 1 = g1 at A0 A1 A2 A3 ⊢
  generalize hg2 : g1 + 1 = g2 at A0 A1 A2 A3 ⊢
  generalize hg3 : g2 + 1 = g3 at A0 A1 A2 A3 ⊢
  clear hg0 hg1 hg2 hg3
  refine (alive_join_calls g0 g1 W A0.out A1.out).mono ?_
  rintro e w1 ⟨v, rfl, hR, hB⟩
  obtain ⟨Av, cv, rfl, hcv, hCv⟩ := Kd.R_reads hR
  have HR := Aside0.mk hCv
  have HV := Aside0.mk hcv
  have HB := Aside0.mk hB
  have hc20 : w1.cell? ⟨g2, 0, none⟩ = some (.int .i64 0) := (blk_cell (blk_below A2.out hB) 0).trans rfl
  have hc21 : w1.cell? ⟨g2, 1, none⟩ = some (.int .i64 0) := (blk_cell (blk_below A2.out hB) 1).trans rfl
  have hc22 : w1.cell? ⟨g2, 2, none⟩ = some (.slice (some ⟨g0, 0, none⟩) 2 2) := (blk_cell (blk_below A2.out hB) 2).trans rfl
  have hc30 : w1.cell? ⟨g3, 0, none⟩ = some (.int .i64 0) := (blk_cell (blk_below A3.out hB) 0).trans rfl
  have hc31 : w1.cell? ⟨g3, 1, none⟩ = some (.int .i64 0) := (blk_cell (blk_below A3.out hB) 1).trans rfl
  have hc32 : w1.cell? ⟨g3, 2, none⟩ = some (.slice (some ⟨g1, 0, none⟩) 2 2) := (blk_cell (blk_below A3.out hB) 2).trans rfl
  have hl2 : g2 < w1.heap.size := blk_lt (blk_below A2.out hB)
  have hl3 : g3 < w1.heap.size := blk_lt (blk_below A3.out hB)
  clear hR hB hcv hCv
  go_wp2_with fail
  change Calls _ _ _ (aliveV w1 Av cv g0 g1) _
  obtain ⟨D0, D1, D2⟩ := aliveV_facts w1 Av cv g0 g1
  have E0 := blk_below (blk_below A0.out HB.out) D2
  have E1 := blk_below (blk_below A1.out HB.out) D2
  have HRv := Aside0.mk (Kd.C_below HR.out D2)
  have HB2 := Aside0.mk (below_then AW.out AW.out.size (below_then HB.out HB.out.size D2))
  generalize aliveV w1 Av cv g0 g1 = V at D0 D1 E0 E1 HRv HB2 ⊢
  generalize w1.heap.size = n0 at D0 D1 E0 E1 ⊢
  clear hc20 hc21 hc22 hc30 hc31 hc32 hl2 hl3 D2
  refine (alive_split_calls (n0 + 1) g0 g1 V D1 E0 E1).mono ?_
  rintro e w2 ⟨v2, rfl, hR2, hB3⟩
  obtain ⟨Au, cu, rfl, hcu, hCu⟩ := Kd.R_reads hR2
  have HU := Aside0.mk hCu
  have HUc := Aside0.mk hcu
  have hn0 : w2.cell? ⟨n0, 2, none⟩ = some (.slice Av 4 cv) := (blk_cell (blk_below D0 hB3) 2).trans rfl
  have HV2 := Aside0.mk (Kd.C_below HRv.out hB3)
  have HB4 := Aside0.mk (below_then HB2.out HB2.out.size hB3)
  clear D0 D1 E0 E1 hR2 hB3 hCu hcu
  go_wp2_with fail
  refine (same_lit (w := w2) Av cv [1, 2, 2, 3] 4 rfl _ rfl HV.out HV2.out).mono ?_
  rintro e w3 ⟨rfl, hb5⟩
  have HB5 := Aside0.mk (below_then HB4.out HB4.out.size hb5)
  have HU2 := Aside0.mk (Kd.C_below HU.out hb5)
  clear hb5
  go_wp2_with fail
  refine (same_lit (w := w3) Au cu [1, 2] 2 rfl _ rfl HUc.out HU2.out).mono ?_
  rintro e w4 ⟨rfl, hb6⟩
  have HB6 := Aside0.mk (below_then HB5.out HB5.out.size hb6)
  clear hb6
  go_wp2
  go_ret
  exact ⟨rfl, HB6.out⟩
end Go.Proofs.Ytfeeaipbmpmpgaa.PX

namespace Go.Proofs.Ytfeeaipbmpmpgaa.PX
open Go.RowKit Go.Proofs.YtfeeaipbmpmpgaaW.PrintWords Go.Proofs.YtfeeaipbmpmpgaaW.PrintLast Go.Proofs.YtfeeaipbmpmpgaaW.PrintMore
attribute [local go_sem] max2_int min2_int max_two min_two max_three min_three max_four min_four   -- for this text's walks alone
set_option linter.unusedVariables false
set_option linter.unusedSimpArgs false
/-! ### kimberlitelaw03_CurveBest: function 4 -/
mutual
def kimberlitelaw03_CurveBest.j0 : Nat → List (S24) → Int → List Int → List Int → Int → Int → Bool → Option (Bool)
 | 0, _, _, _, _, _, _, _ => none
 | k + 1, x0, x1, x2, x7, x8, x9, x65 => if x65 = true then (none) else (kimberlitelaw03_CurveBest.l0 k x0 x1 x2 x7 x8 x9 (wrap64 (x9 * x1)) 0)
def kimberlitelaw03_CurveBest.l0 : Nat → List (S24) → Int → List Int → List Int → Int → Int → Int → Int → Option (Bool)
 | 0, _, _, _, _, _, _, _, _ => none
 | k + 1, x0, x1, x2, x7, x8, x9, x13, x14 => if x14 < (x0.length : Int) then (if 0 ≤ x14 then ((kimberlitelaw03_greatest.f k ((rd_T24 x0 x14).f0) ((rd_T24 x0 x14).f1) ((rd_T24 x0 x14).f2) x9).bind fun t321 => (if x14 < (x7.length : Int) then ((kimberlitelaw03_at.f ((rd_T24 x0 x14).f0) ((rd_T24 x0 x14).f1) ((rd_T24 x0 x14).f2) (rd x7 x14)).bind fun bt324 => ((kimberlitelaw03_greatest.f k ((rd_T24 x0 x14).f0) ((rd_T24 x0 x14).f1) ((rd_T24 x0 x14).f2) x9).bind fun t328 => (if (wrap64 ((wrap64 (x9 * (rd x7 x14))) - bt324.1)) = t328 then (kimberlitelaw03_CurveBest.l0 k x0 x1 x2 x7 x8 x9 (wrap64 (x13 - t321)) (wrap64 (x14 + 1))) else (none)))) else (none))) else (none)) else ((kimberlitelaw03_spent.f k x0 x2 x1).bind fun bt329 => (if x13 = x8 then (if bt329.2 = true then (kimberlitelaw03_CurveBest.j2 k x0 x2 x7 x8 bt329.1 bt329.2 (decide (bt329.1 < x8))) else (kimberlitelaw03_CurveBest.j2 k x0 x2 x7 x8 bt329.1 bt329.2 false)) else (kimberlitelaw03_CurveBest.j2 k x0 x2 x7 x8 bt329.1 bt329.2 true)))
def kimberlitelaw03_CurveBest.j2 : Nat → List (S24) → List Int → List Int → Int → Int → Bool → Bool → Option (Bool)
 | 0, _, _, _, _, _, _, _ => none
 | k + 1, x0, x2, x7, x8, x17, x18, x127 => if x127 = true then (none) else (kimberlitelaw03_CurveBest.l1 k x0 x2 x7 x8 x17 x18 0)
def kimberlitelaw03_CurveBest.l1 : Nat → List (S24) → List Int → List Int → Int → Int → Bool → Int → Option (Bool)
 | 0, _, _, _, _, _, _, _ => none
 | k + 1, x0, x2, x7, x8, x17, x18, x19 => if x18 = true then (if x17 = x8 then (kimberlitelaw03_CurveBest.j4 k x0 x2 x7 x8 x17 x18 x19 (decide (x19 < (x0.length : Int)))) else (kimberlitelaw03_CurveBest.j4 k x0 x2 x7 x8 x17 x18 x19 false)) else (kimberlitelaw03_CurveBest.j4 k x0 x2 x7 x8 x17 x18 x19 false)
def kimberlitelaw03_CurveBest.j4 : Nat → List (S24) → List Int → List Int → Int → Int → Bool → Int → Bool → Option (Bool)
 | 0, _, _, _, _, _, _, _, _ => none
 | k + 1, x0, x2, x7, x8, x17, x18, x19, x139 => if x139 = true then (if 0 ≤ x19 then (if x19 < (x7.length : Int) then (if x19 < (x2.length : Int) then (if (rd x7 x19) = (rd x2 x19) then (kimberlitelaw03_CurveBest.l1 k x0 x2 x7 x8 x17 x18 (wrap64 (x19 + 1))) else (if (rd x7 x19) < (rd x2 x19) then ((kimberlitelaw03_alive.f).bind fun t335 => (some t335)) else (none))) else (none)) else (none)) else (none)) else ((kimberlitelaw03_alive.f).bind fun t336 => (some t336))
end
def kimberlitelaw03_CurveBest.f (k : Nat) (l0 : List (S24)) (a1 : Int) (l2 : List Int) : Option (Bool) := (curve_Split.f l0 a1).bind fun bt311 => (if bt311.2.2.2 = 0 then ((kimberlitelaw03_spent.f k l0 bt311.1 a1).bind fun bt318 => (if bt318.2 = true then (if bt318.1 = bt311.2.1 then (if bt311.2.2.1 < (-1048576) then (kimberlitelaw03_CurveBest.j0 k l0 a1 l2 bt311.1 bt311.2.1 bt311.2.2.1 true) else (kimberlitelaw03_CurveBest.j0 k l0 a1 l2 bt311.1 bt311.2.1 bt311.2.2.1 (decide (bt311.2.2.1 > 1048576)))) else (kimberlitelaw03_CurveBest.j0 k l0 a1 l2 bt311.1 bt311.2.1 bt311.2.2.1 true)) else (kimberlitelaw03_CurveBest.j0 k l0 a1 l2 bt311.1 bt311.2.1 bt311.2.2.1 true))) else (if (bt311.1.length : Int) = 0 then (if bt311.2.1 = 0 then (if bt311.2.2.1 = 0 then ((kimberlitelaw03_alive.f).bind fun t317 => (some t317)) else (none)) else (none)) else (none)))
theorem kimberlitelaw03_CurveBest.mono_l : ∀ k, (∀ y0 y1 y2 y3 y4 y5 y6, LeO (kimberlitelaw03_CurveBest.j0 k y0 y1 y2 y3 y4 y5 y6) (kimberlitelaw03_CurveBest.j0 (k + 1) y0 y1 y2 y3 y4 y5 y6)) ∧ (∀ y0 y1 y2 y3 y4 y5 y6 y7, LeO (kimberlitelaw03_CurveBest.l0 k y0 y1 y2 y3 y4 y5 y6 y7) (kimberlitelaw03_CurveBest.l0 (k + 1) y0 y1 y2 y3 y4 y5 y6 y7)) ∧ (∀ y0 y1 y2 y3 y4 y5 y6, LeO (kimberlitelaw03_CurveBest.j2 k y0 y1 y2 y3 y4 y5 y6) (kimberlitelaw03_CurveBest.j2 (k + 1) y0 y1 y2 y3 y4 y5 y6)) ∧ (∀ y0 y1 y2 y3 y4 y5 y6, LeO (kimberlitelaw03_CurveBest.l1 k y0 y1 y2 y3 y4 y5 y6) (kimberlitelaw03_CurveBest.l1 (k + 1) y0 y1 y2 y3 y4 y5 y6)) ∧ (∀ y0 y1 y2 y3 y4 y5 y6 y7, LeO (kimberlitelaw03_CurveBest.j4 k y0 y1 y2 y3 y4 y5 y6 y7) (kimberlitelaw03_CurveBest.j4 (k + 1) y0 y1 y2 y3 y4 y5 y6 y7))
 | 0 => ⟨fun _ _ _ _ _ _ _ r h => by simp [kimberlitelaw03_CurveBest.j0] at h, fun _ _ _ _ _ _ _ _ r h => by simp [kimberlitelaw03_CurveBest.l0] at h, fun _ _ _ _ _ _ _ r h => by simp [kimberlitelaw03_CurveBest.j2] at h, fun _ _ _ _ _ _ _ r h => by simp [kimberlitelaw03_CurveBest.l1] at h, fun _ _ _ _ _ _ _ _ r h => by simp [kimberlitelaw03_CurveBest.j4] at h⟩
 | k + 1 => by
  obtain ⟨ih0, ih1, ih2, ih3, ih4⟩ := kimberlitelaw03_CurveBest.mono_l k
  refine ⟨?_, ?_, ?_, ?_, ?_⟩
  ·
   intro y0 y1 y2 y3 y4 y5 y6
   unfold kimberlitelaw03_CurveBest.j0
   repeat' first
   | (with_reducible exact ih0 _ _ _ _ _ _ _)
   | (with_reducible exact ih1 _ _ _ _ _ _ _ _)
   | (with_reducible exact ih2 _ _ _ _ _ _ _)
   | (with_reducible exact ih3 _ _ _ _ _ _ _)
   | (with_reducible exact ih4 _ _ _ _ _ _ _ _)
   | (with_reducible exact kimberlitelaw03_greatest.mono _ _ _ _ _)
   | (with_reducible exact kimberlitelaw03_spent.mono _ _ _ _)
   | (with_reducible exact LeO.refl _)
   | (with_reducible exact LeO.none _)
   | (with_reducible refine LeO.ite ?_ ?_)
   | (with_reducible refine LeO.bind ?_ (fun _ => ?_))
   | exact ih0 _ _ _ _ _ _ _
   | exact ih1 _ _ _ _ _ _ _ _
   | exact ih2 _ _ _ _ _ _ _
   | exact ih3 _ _ _ _ _ _ _
   | exact ih4 _ _ _ _ _ _ _ _
   | exact kimberlitelaw03_greatest.mono _ _ _ _ _
   | exact kimberlitelaw03_spent.mono _ _ _ _
   | exact LeO.none _
   | refine LeO.ite ?_ ?_
   | refine LeO.bind ?_ (fun _ => ?_)
  ·
   intro y0 y1 y2 y3 y4 y5 y6 y7
   unfold kimberlitelaw03_CurveBest.l0
   repeat' first
   | (with_reducible exact ih0 _ _ _ _ _ _ _)
   | (with_reducible exact ih1 _ _ _ _ _ _ _ _)
   | (with_reducible exact ih2 _ _ _ _ _ _ _)
   | (with_reducible exact ih3 _ _ _ _ _ _ _)
   | (with_reducible exact ih4 _ _ _ _ _ _ _ _)
   | (with_reducible exact kimberlitelaw03_greatest.mono _ _ _ _ _)
   | (with_reducible exact kimberlitelaw03_spent.mono _ _ _ _)
   | (with_reducible exact LeO.refl _)
   | (with_reducible exact LeO.none _)
   | (with_reducible refine LeO.ite ?_ ?_)
   | (with_reducible refine LeO.bind ?_ (fun _ => ?_))
   | exact ih0 _ _ _ _ _ _ _
   | exact ih1 _ _ _ _ _ _ _ _
   | exact ih2 _ _ _ _ _ _ _
   | exact ih3 _ _ _ _ _ _ _
   | exact ih4 _ _ _ _ _ _ _ _
   | exact kimberlitelaw03_greatest.mono _ _ _ _ _
   | exact kimberlitelaw03_spent.mono _ _ _ _
   | exact LeO.none _
   | refine LeO.ite ?_ ?_
   | refine LeO.bind ?_ (fun _ => ?_)
  ·
   intro y0 y1 y2 y3 y4 y5 y6
   unfold kimberlitelaw03_CurveBest.j2
   repeat' first
   | (with_reducible exact ih0 _ _ _ _ _ _ _)
   | (with_reducible exact ih1 _ _ _ _ _ _ _ _)
   | (with_reducible exact ih2 _ _ _ _ _ _ _)
   | (with_reducible exact ih3 _ _ _ _ _ _ _)
   | (with_reducible exact ih4 _ _ _ _ _ _ _ _)
   | (with_reducible exact kimberlitelaw03_greatest.mono _ _ _ _ _)
   | (with_reducible exact kimberlitelaw03_spent.mono _ _ _ _)
   | (with_reducible exact LeO.refl _)
   | (with_reducible exact LeO.none _)
   | (with_reducible refine LeO.ite ?_ ?_)
   | (with_reducible refine LeO.bind ?_ (fun _ => ?_))
   | exact ih0 _ _ _ _ _ _ _
   | exact ih1 _ _ _ _ _ _ _ _
   | exact ih2 _ _ _ _ _ _ _
   | exact ih3 _ _ _ _ _ _ _
   | exact ih4 _ _ _ _ _ _ _ _
   | exact kimberlitelaw03_greatest.mono _ _ _ _ _
   | exact kimberlitelaw03_spent.mono _ _ _ _
   | exact LeO.none _
   | refine LeO.ite ?_ ?_
   | refine LeO.bind ?_ (fun _ => ?_)
  ·
   intro y0 y1 y2 y3 y4 y5 y6
   unfold kimberlitelaw03_CurveBest.l1
   repeat' first
   | (with_reducible exact ih0 _ _ _ _ _ _ _)
   | (with_reducible exact ih1 _ _ _ _ _ _ _ _)
   | (with_reducible exact ih2 _ _ _ _ _ _ _)
   | (with_reducible exact ih3 _ _ _ _ _ _ _)
   | (with_reducible exact ih4 _ _ _ _ _ _ _ _)
   | (with_reducible exact kimberlitelaw03_greatest.mono _ _ _ _ _)
   | (with_reducible exact kimberlitelaw03_spent.mono _ _ _ _)
   | (with_reducible exact LeO.refl _)
   | (with_reducible exact LeO.none _)
   | (with_reducible refine LeO.ite ?_ ?_)
   | (with_reducible refine LeO.bind ?_ (fun _ => ?_))
   | exact ih0 _ _ _ _ _ _ _
   | exact ih1 _ _ _ _ _ _ _ _
   | exact ih2 _ _ _ _ _ _ _
   | exact ih3 _ _ _ _ _ _ _
   | exact ih4 _ _ _ _ _ _ _ _
   | exact kimberlitelaw03_greatest.mono _ _ _ _ _
   | exact kimberlitelaw03_spent.mono _ _ _ _
   | exact LeO.none _
   | refine LeO.ite ?_ ?_
   | refine LeO.bind ?_ (fun _ => ?_)
  ·
   intro y0 y1 y2 y3 y4 y5 y6 y7
   unfold kimberlitelaw03_CurveBest.j4
   repeat' first
   | (with_reducible exact ih0 _ _ _ _ _ _ _)
   | (with_reducible exact ih1 _ _ _ _ _ _ _ _)
   | (with_reducible exact ih2 _ _ _ _ _ _ _)
   | (with_reducible exact ih3 _ _ _ _ _ _ _)
   | (with_reducible exact ih4 _ _ _ _ _ _ _ _)
   | (with_reducible exact kimberlitelaw03_greatest.mono _ _ _ _ _)
   | (with_reducible exact kimberlitelaw03_spent.mono _ _ _ _)
   | (with_reducible exact LeO.refl _)
   | (with_reducible exact LeO.none _)
   | (with_reducible refine LeO.ite ?_ ?_)
   | (with_reducible refine LeO.bind ?_ (fun _ => ?_))
   | exact ih0 _ _ _ _ _ _ _
   | exact ih1 _ _ _ _ _ _ _ _
   | exact ih2 _ _ _ _ _ _ _
   | exact ih3 _ _ _ _ _ _ _
   | exact ih4 _ _ _ _ _ _ _ _
   | exact kimberlitelaw03_greatest.mono _ _ _ _ _
   | exact kimberlitelaw03_spent.mono _ _ _ _
   | exact LeO.none _
   | refine LeO.ite ?_ ?_
   | refine LeO.bind ?_ (fun _ => ?_)
theorem kimberlitelaw03_CurveBest.mono : ∀ a0 a1 a2 k, LeO (kimberlitelaw03_CurveBest.f k a0 a1 a2) (kimberlitelaw03_CurveBest.f (k + 1) a0 a1 a2) := by
 intro a0 a1 a2 k
 obtain ⟨ih0, ih1, ih2, ih3, ih4⟩ := kimberlitelaw03_CurveBest.mono_l k
 unfold kimberlitelaw03_CurveBest.f
 repeat' first
   | (with_reducible exact ih0 _ _ _ _ _ _ _)
   | (with_reducible exact ih1 _ _ _ _ _ _ _ _)
   | (with_reducible exact ih2 _ _ _ _ _ _ _)
   | (with_reducible exact ih3 _ _ _ _ _ _ _)
   | (with_reducible exact ih4 _ _ _ _ _ _ _ _)
   | (with_reducible exact kimberlitelaw03_greatest.mono _ _ _ _ _)
   | (with_reducible exact kimberlitelaw03_spent.mono _ _ _ _)
   | (with_reducible exact LeO.refl _)
   | (with_reducible exact LeO.none _)
   | (with_reducible refine LeO.ite ?_ ?_)
   | (with_reducible refine LeO.bind ?_ (fun _ => ?_))
   | exact ih0 _ _ _ _ _ _ _
   | exact ih1 _ _ _ _ _ _ _ _
   | exact ih2 _ _ _ _ _ _ _
   | exact ih3 _ _ _ _ _ _ _
   | exact ih4 _ _ _ _ _ _ _ _
   | exact kimberlitelaw03_greatest.mono _ _ _ _ _
   | exact kimberlitelaw03_spent.mono _ _ _ _
   | exact LeO.none _
   | refine LeO.ite ?_ ?_
   | refine LeO.bind ?_ (fun _ => ?_)
def kimberlitelaw03_CurveBest.T12 : Bool × List (List Nat × List Nat) := (true, [([], []), ([], []), ([0, 1], [0, 1]), ([2], [2]), ([], []), ([], []), ([4, 5], [4, 5]), ([6], [6]), ([3, 7], [3, 7]), ([8], [8]), ([9], [9]), ([9], [9]), ([10, 8, 0, 1, 2, 3, 4, 5, 6, 7, 8, 9, 10], [10]), ([11, 12, 0, 1, 2, 3, 4, 5, 6, 7, 8, 9, 10, 11, 12], [11])])
def kimberlitelaw03_CurveBest.B12 : List Nat := [0, 0, 3, 7, 0, 0, 48, 112, 255, 511, 1023, 1023, 2047, 8191]
theorem kimberlitelaw03_CurveBest.tab12 : rtab .any (opsOf Try.f4 12) = kimberlitelaw03_CurveBest.T12 := by kernel_rfl
theorem kimberlitelaw03_CurveBest.bits12 : waitsOk kimberlitelaw03_CurveBest.T12.2 kimberlitelaw03_CurveBest.B12 = true := by kernel_rfl
def kimberlitelaw03_CurveBest.T13 : Bool × List (List Nat × List Nat) := (true, [([], []), ([], []), ([], []), ([1, 2], [1, 2]), ([3], [3]), ([0, 4], [0, 4]), ([], []), ([5, 6], [5, 6]), ([], []), ([], []), ([8, 9], [8, 9]), ([10], [10]), ([], []), ([11, 12], [11, 12]), ([7, 13], [7, 13])])
def kimberlitelaw03_CurveBest.B13 : List Nat := [0, 0, 0, 6, 14, 31, 0, 127, 0, 0, 768, 1792, 0, 7936, 16383]
theorem kimberlitelaw03_CurveBest.tab13 : rtab .any (opsOf Try.f4 13) = kimberlitelaw03_CurveBest.T13 := by kernel_rfl
theorem kimberlitelaw03_CurveBest.bits13 : waitsOk kimberlitelaw03_CurveBest.T13.2 kimberlitelaw03_CurveBest.B13 = true := by kernel_rfl
def kimberlitelaw03_CurveBest.T21 : Bool × List (List Nat × List Nat) := (true, [([], []), ([], []), ([0, 1], [0, 1]), ([2], [2]), ([], []), ([], []), ([4, 5], [4, 5]), ([6], [6]), ([3, 7], [3, 7])])
def kimberlitelaw03_CurveBest.B21 : List Nat := [0, 0, 3, 7, 0, 0, 48, 112, 255]
theorem kimberlitelaw03_CurveBest.tab21 : rtab .any (opsOf Try.f4 21) = kimberlitelaw03_CurveBest.T21 := by kernel_rfl
theorem kimberlitelaw03_CurveBest.bits21 : waitsOk kimberlitelaw03_CurveBest.T21.2 kimberlitelaw03_CurveBest.B21 = true := by kernel_rfl
def kimberlitelaw03_CurveBest.T22 : Bool × List (List Nat × List Nat) := (true, [([], []), ([], []), ([0, 1], [0, 1]), ([2], [2]), ([], []), ([], []), ([4, 5], [4, 5]), ([6], [6]), ([3, 7], [3, 7]), ([8], [8]), ([9, 9], [9]), ([9, 10], [9, 10]), ([11, 10, 0, 1, 2, 3, 4, 5, 6, 7, 8, 9, 10, 11], [11])])
def kimberlitelaw03_CurveBest.B22 : List Nat := [0, 0, 3, 7, 0, 0, 48, 112, 255, 511, 1023, 2047, 4095]
theorem kimberlitelaw03_CurveBest.tab22 : rtab .any (opsOf Try.f4 22) = kimberlitelaw03_CurveBest.T22 := by kernel_rfl
theorem kimberlitelaw03_CurveBest.bits22 : waitsOk kimberlitelaw03_CurveBest.T22.2 kimberlitelaw03_CurveBest.B22 = true := by kernel_rfl
set_option maxHeartbeats 8000000 in
set_option maxRecDepth 100000 in
theorem kimberlitelaw03_CurveBest.calls (k : Nat) (A0 : Option Addr) (c0 : Nat) (l0 : List (S24)) (a1 : Int) (A2 : Option Addr) (c2 : Nat) (l2 : List Int) (r : Bool) (w : World) (hr0 : Kd.C k24 w A0 l0.length l0) (hc0 : l0.length ≤ c0) (hr2 : Kd.C (Kd.int .i64) w A2 l2.length l2) (hc2 : l2.length ≤ c2) (h : kimberlitelaw03_CurveBest.f k l0 a1 l2 = some r) :
  Calls Try.prog 4 #[.slice A0 l0.length c0, .int .i64 a1, .slice A2 l2.length c2] w fun e w' => e = .returned (.bool r) ∧ Below w.heap.size w w' := by
 have hu24 := Try.underlying24
 have HR0 := zA hr0
 have HC0 := zA hc0
 clear hr0 hc0
 have HR2 := zA hr2
 have HC2 := zA hc2
 clear hr2 hc2
 have HB := zA (Below.refl w.heap.size w)
 have H : ((curve_Split.f l0 a1).bind fun bt311 => (if bt311.2.2.2 = 0 then ((kimberlitelaw03_spent.f k l0 bt311.1 a1).bind fun bt318 => (if bt318.2 = true then (if bt318.1 = bt311.2.1 then (if bt311.2.2.1 < (-1048576) then (kimberlitelaw03_CurveBest.j0 k l0 a1 l2 bt311.1 bt311.2.1 bt311.2.2.1 true) else (kimberlitelaw03_CurveBest.j0 k l0 a1 l2 bt311.1 bt311.2.1 bt311.2.2.1 (decide (bt311.2.2.1 > 1048576)))) else (kimberlitelaw03_CurveBest.j0 k l0 a1 l2 bt311.1 bt311.2.1 bt311.2.2.1 true)) else (kimberlitelaw03_CurveBest.j0 k l0 a1 l2 bt311.1 bt311.2.1 bt311.2.2.1 true))) else (if (bt311.1.length : Int) = 0 then (if bt311.2.1 = 0 then (if bt311.2.2.1 = 0 then ((kimberlitelaw03_alive.f).bind fun t317 => (some t317)) else (none)) else (none)) else (none)))) = some r := h
 clear h
 replace H := Option.bind_eq_some_iff.mp H
 obtain ⟨⟨t311, t312, t313, t314⟩, A40, H⟩ := H
 replace H : (if t314 = 0 then ((kimberlitelaw03_spent.f k l0 t311 a1).bind fun bt318 => (if bt318.2 = true then (if bt318.1 = t312 then (if t313 < (-1048576) then (kimberlitelaw03_CurveBest.j0 k l0 a1 l2 t311 t312 t313 true) else (kimberlitelaw03_CurveBest.j0 k l0 a1 l2 t311 t312 t313 (decide (t313 > 1048576)))) else (kimberlitelaw03_CurveBest.j0 k l0 a1 l2 t311 t312 t313 true)) else (kimberlitelaw03_CurveBest.j0 k l0 a1 l2 t311 t312 t313 true))) else (if (t311.length : Int) = 0 then (if t312 = 0 then (if t313 = 0 then ((kimberlitelaw03_alive.f).bind fun t317 => (some t317)) else (none)) else (none)) else (none))) = some r := H
 have A4 := zA A40
 clear A40
 by_cases c5 : t314 = 0
 ·
  rw [if_pos c5] at H
  have c5b0 : (t314 == 0) = true := beq_iff_eq.mpr c5
  have c5b1 : (t314 != 0) = false := bne_eq_false_iff_eq.mpr c5
  clear c5
  replace H := Option.bind_eq_some_iff.mp H
  obtain ⟨⟨t318, t319⟩, A60, H⟩ := H
  replace H : (if t319 = true then (if t318 = t312 then (if t313 < (-1048576) then (kimberlitelaw03_CurveBest.j0 k l0 a1 l2 t311 t312 t313 true) else (kimberlitelaw03_CurveBest.j0 k l0 a1 l2 t311 t312 t313 (decide (t313 > 1048576)))) else (kimberlitelaw03_CurveBest.j0 k l0 a1 l2 t311 t312 t313 true)) else (kimberlitelaw03_CurveBest.j0 k l0 a1 l2 t311 t312 t313 true)) = some r := H
  have A6 := zA A60
  clear A60
  have HC7 := zA H
  clear H
  go_enter Try.func4, Try.ntmps4
  go_upto_region 5 with (first | ((with_reducible refine gate_callee (f := 19) rfl ?_); refine goesL_ (some 23) rfl rfl Try.func19 (by kernel_rfl) rfl #[.slice A0 l0.length c0, .int .i64 a1] rfl (by (try simp only [List.map_toArray, List.map_cons, List.map_nil]); first | done | rfl | (simp only [List.length_drop, List.length_take]; rfl)) ?_; (with_reducible refine (curve_Split.calls _ _ l0 a1 t311 t312 t313 t314 _ ?side1 ?side2 A4.out).mono ?_); (case side1 => repeat (first | exact HR0.out | (with_reducible refine Kd.C_alloc ?_ _) | (with_reducible refine Kd.C_drewN ?_ _) | (with_reducible refine Kd.C_drew ?_))); (case side2 => exact HC0.out); rintro e w8 ⟨v315, rfl, ho0, hb⟩; refine ⟨_, rfl, ?_⟩; have n0_ := zA (Kd.R_lower ho0 (below_size (by repeat (first | (with_reducible first | exact HB.out | apply zW | apply zX | apply zY) | exact HB.out)))); have n1_ := zA (below_step (by repeat (first | (with_reducible first | exact HB.out | apply zW | apply zX | apply zY) | exact HB.out)) hb); clear HB; have HO56 := n0_; have HB := n1_; clear n0_ n1_; (try clear hb); (try clear hb2); (try clear hk); (try clear hi); (try clear ho0); obtain ⟨Ao9, co9, eo9⟩ := Kd.R_slice HO56.out; subst eo9) | ((with_reducible refine gate_callee (f := 20) rfl ?_); refine goesL_ (some 48) rfl rfl Try.func20 (by kernel_rfl) rfl #[.slice A0 l0.length c0, .slice Ao9 t311.length co9, .int .i64 a1] rfl (by (try simp only [List.map_toArray, List.map_cons, List.map_nil]); first | done | rfl | (simp only [List.length_drop, List.length_take]; rfl)) ?_; (with_reducible refine (kimberlitelaw03_spent.calls k _ _ l0 _ _ t311 a1 t318 t319 _ ?side1 ?side2 ?side3 ?side4 A6.out).mono ?_); (case side1 => repeat (first | exact (Kd.C_below HR0.out HB.out) | (with_reducible refine Kd.C_alloc ?_ _) | (with_reducible refine Kd.C_drewN ?_ _) | (with_reducible refine Kd.C_drew ?_))); (case side2 => exact HC0.out); (case side3 => repeat (first | exact (Kd.R_reads' HO56.out).2.2 | (with_reducible refine Kd.C_alloc ?_ _) | (with_reducible refine Kd.C_drewN ?_ _) | (with_reducible refine Kd.C_drew ?_))); (case side4 => exact (Kd.R_reads' HO56.out).2.1); rintro e w10 ⟨rfl, hb⟩; refine ⟨_, rfl, ?_⟩; have n0_ := zA (Kd.R_below (by (with_reducible repeat (first | apply Kd.R_alloc | apply Kd.R_drewN | apply Kd.R_drew)); exact HO56.out) hb); have n1_ := zA (below_step (by repeat (first | (with_reducible first | exact HB.out | apply zW | apply zX | apply zY) | exact HB.out)) hb); clear HO56; clear HB; have HO56 := n0_; have HB := n1_; clear n0_ n1_; (try clear hb); (try clear hb2); (try clear hk); (try clear hi)))
  (try simp only [Act.put, List.setIfInBounds_toArray, List.set_cons_zero, List.set_cons_succ])
  go_cut [65] (fun v65 wc => ∃ (kq : Nat) (x65_6 : Bool), v65 = .bool x65_6 ∧ Aside0 (kimberlitelaw03_CurveBest.j0 kq l0 a1 l2 t311 t312 t313 x65_6 = some r) ∧ Aside0 (kq ≤ k) ∧ Aside0 (Kd.R (Kd.int .i64) 3 wc w.heap.size (fun _ => True) (.slice Ao9 t311.length co9) t311) ∧ Aside0 (Below w.heap.size w wc))
  case first =>
   have H := HC7.out
   clear HC7
   by_cases c11 : t319 = true
   ·
    subst c11
    have H1 : (if t318 = t312 then (if t313 < (-1048576) then (kimberlitelaw03_CurveBest.j0 k l0 a1 l2 t311 t312 t313 true) else (kimberlitelaw03_CurveBest.j0 k l0 a1 l2 t311 t312 t313 (decide (t313 > 1048576)))) else (kimberlitelaw03_CurveBest.j0 k l0 a1 l2 t311 t312 t313 true)) = some r := by rw [if_pos rfl] at H; exact H
    clear H
    have H := H1
    clear H1
    by_cases c12 : t318 = t312
    ·
     rw [if_pos c12] at H
     have c12b0 : (t318 == t312) = true := beq_iff_eq.mpr c12
     have c12b1 : (t318 != t312) = false := bne_eq_false_iff_eq.mpr c12
     clear c12
     (first | rw [c12b0] | (simp only [i64_w, i32_w]; rw [c12b0]) | skip)
     by_cases c13 : t313 < (-1048576)
     ·
      rw [if_pos c13] at H
      have c13b0 : decide (t313 < (-1048576)) = true := decide_eq_true c13
      clear c13
      have H' := zA H
      clear H
      go_wp2
      go_meet
      case rel => exact ⟨_, (true), (by first | rfl | (simp; done) | (simp [*]; done)), H', ⟨by first | omega | exact Nat.le_refl _⟩, ⟨by (with_reducible repeat (first | apply Kd.R_alloc | apply Kd.R_drewN | apply Kd.R_drew)); exact HO56.out⟩, ⟨by repeat (first | (with_reducible first | exact HB.out | apply zW | apply zX | apply zY) | exact HB.out)⟩⟩
     ·
      rw [if_neg c13] at H
      have c13b0 : decide (t313 < (-1048576)) = false := decide_eq_false c13
      clear c13
      have H' := zA H
      clear H
      go_wp2
      go_meet
      case rel => exact ⟨_, (decide (t313 > 1048576)), (by first | rfl | (simp; done) | (simp [*]; done)), H', ⟨by first | omega | exact Nat.le_refl _⟩, ⟨by (with_reducible repeat (first | apply Kd.R_alloc | apply Kd.R_drewN | apply Kd.R_drew)); exact HO56.out⟩, ⟨by repeat (first | (with_reducible first | exact HB.out | apply zW | apply zX | apply zY) | exact HB.out)⟩⟩
    ·
     rw [if_neg c12] at H
     have c12b0 : (t318 == t312) = false := beq_eq_false_iff_ne.mpr c12
     have c12b1 : (t318 != t312) = true := bne_iff_ne.mpr c12
     (first | rw [c12b0] | (simp only [i64_w, i32_w]; rw [c12b0]) | skip)
     have H' := zA H
     clear H
     go_wp2
     go_meet
     case rel => exact ⟨_, (true), (by first | rfl | (simp; done) | (simp [*]; done)), H', ⟨by first | omega | exact Nat.le_refl _⟩, ⟨by (with_reducible repeat (first | apply Kd.R_alloc | apply Kd.R_drewN | apply Kd.R_drew)); exact HO56.out⟩, ⟨by repeat (first | (with_reducible first | exact HB.out | apply zW | apply zX | apply zY) | exact HB.out)⟩⟩
   ·
    replace c11 := Bool.eq_false_iff.mpr c11
    subst c11
    have H1 : (kimberlitelaw03_CurveBest.j0 k l0 a1 l2 t311 t312 t313 true) = some r := by rw [if_neg (show ¬ (false = true) by decide)] at H; exact H
    clear H
    have H := H1
    clear H1
    have H' := zA H
    clear H
    go_wp2
    go_meet
    case rel => exact ⟨_, (true), (by first | rfl | (simp; done) | (simp [*]; done)), H', ⟨by first | omega | exact Nat.le_refl _⟩, ⟨by (with_reducible repeat (first | apply Kd.R_alloc | apply Kd.R_drewN | apply Kd.R_drew)); exact HO56.out⟩, ⟨by repeat (first | (with_reducible first | exact HB.out | apply zW | apply zX | apply zY) | exact HB.out)⟩⟩
  case rest =>
   clear HC7
   try clear c1
   try clear c2
   try clear p2
   try clear c4
   try clear c5
   try clear c5b0
   try clear c5b1
   try clear c11
   try clear c12
   try clear c12b0
   try clear c12b1
   try clear c13
   try clear c13b0
   obtain ⟨kq, x65_6, rfl, HA, HJ6, HO_7, HB⟩ := hcut
   cases kq with
   | zero => exact absurd HA.out (by simp [kimberlitelaw03_CurveBest.j0])
   | succ kj6 =>
    have H := HA.out
    clear HA
    simp only [kimberlitelaw03_CurveBest.j0] at H
    by_cases c14 : x65_6 = true
    ·
     subst c14
     have H1 : (none) = some r := by rw [if_pos rfl] at H; exact H
     clear H
     have H := H1
     clear H1
     exact absurd H (by simp)
    ·
     replace c14 := Bool.eq_false_iff.mpr c14
     subst c14
     have H1 : (kimberlitelaw03_CurveBest.l0 kj6 l0 a1 l2 t311 t312 t313 (wrap64 (t313 * a1)) 0) = some r := by rw [if_neg (show ¬ (false = true) by decide)] at H; exact H
     clear H
     have H := H1
     clear H1
     have H' := zA H
     clear H
     go_wp2
     go_loopg [13, 14] kj6 (fun kq v13 v14 w' => ∃ (x13_2 : Int) (x14_2 : Int), v13 = .int .i64 x13_2 ∧ v14 = .int .i64 x14_2 ∧ Aside0 (kimberlitelaw03_CurveBest.l0 kq l0 a1 l2 t311 t312 t313 x13_2 x14_2 = some r) ∧ Aside0 (kq ≤ kj6) ∧ Aside0 (Kd.R (Kd.int .i64) 3 w' w.heap.size (fun _ => True) (.slice Ao9 t311.length co9) t311) ∧ Aside0 (Below w.heap.size w w'))
     case atStart => exact ⟨(wrap64 (t313 * a1)), (0), (by first | rfl | (simp; done) | (simp [*]; done)), (by first | rfl | (simp; done) | (simp [*]; done)), H', ⟨Nat.le_refl _⟩, ⟨by (with_reducible repeat (first | apply Kd.R_alloc | apply Kd.R_drewN | apply Kd.R_drew)); exact HO_7.out⟩, ⟨by repeat (first | (with_reducible first | exact HB.out | apply zW | apply zX | apply zY) | exact HB.out)⟩⟩
     case round =>
      clear H'
      try clear c1
      try clear c2
      try clear p2
      try clear c4
      try clear c5
      try clear c5b0
      try clear c5b1
      try clear p6
      try clear c11
      try clear c12
      try clear c12b0
      try clear c12b1
      try clear c13
      try clear c13b0
      try clear c14
      try clear p2
      obtain ⟨x13_2, x14_2, rfl, rfl, HA, HK2, HO_7, HB⟩ := hrel
      cases gk with
      | zero => exact absurd HA.out (by simp [kimberlitelaw03_CurveBest.l0])
      | succ k2 =>
       have H := HA.out
       clear HA
       simp only [kimberlitelaw03_CurveBest.l0] at H
       by_cases c15 : x14_2 < (l0.length : Int)
       ·
        rw [if_pos c15] at H
        have c15b0 : decide (x14_2 < (l0.length : Int)) = true := decide_eq_true c15
        clear c15
        by_cases c16 : 0 ≤ x14_2
        ·
         rw [if_pos c16] at H
         have c16b0 : decide (0 ≤ x14_2) = true := decide_eq_true c16
         clear c16
         replace H := Option.bind_eq_some_iff.mp H
         obtain ⟨t321, A170, H⟩ := H
         replace H : (if x14_2 < (t311.length : Int) then ((kimberlitelaw03_at.f ((rd_T24 l0 x14_2).f0) ((rd_T24 l0 x14_2).f1) ((rd_T24 l0 x14_2).f2) (rd t311 x14_2)).bind fun bt324 => ((kimberlitelaw03_greatest.f k2 ((rd_T24 l0 x14_2).f0) ((rd_T24 l0 x14_2).f1) ((rd_T24 l0 x14_2).f2) t313).bind fun t328 => (if (wrap64 ((wrap64 (t313 * (rd t311 x14_2))) - bt324.1)) = t328 then (kimberlitelaw03_CurveBest.l0 k2 l0 a1 l2 t311 t312 t313 (wrap64 (x13_2 - t321)) (wrap64 (x14_2 + 1))) else (none)))) else (none)) = some r := H
         have A17 := zA A170
         clear A170
         by_cases c18 : x14_2 < (t311.length : Int)
         ·
          rw [if_pos c18] at H
          have c18b0 : decide (x14_2 < (t311.length : Int)) = true := decide_eq_true c18
          clear c18
          replace H := Option.bind_eq_some_iff.mp H
          obtain ⟨⟨t324, t325⟩, A190, H⟩ := H
          replace H : ((kimberlitelaw03_greatest.f k2 ((rd_T24 l0 x14_2).f0) ((rd_T24 l0 x14_2).f1) ((rd_T24 l0 x14_2).f2) t313).bind fun t328 => (if (wrap64 ((wrap64 (t313 * (rd t311 x14_2))) - t324)) = t328 then (kimberlitelaw03_CurveBest.l0 k2 l0 a1 l2 t311 t312 t313 (wrap64 (x13_2 - t321)) (wrap64 (x14_2 + 1))) else (none))) = some r := H
          have A19 := zA A190
          clear A190
          replace H := Option.bind_eq_some_iff.mp H
          obtain ⟨t328, A200, H⟩ := H
          replace H : (if (wrap64 ((wrap64 (t313 * (rd t311 x14_2))) - t324)) = t328 then (kimberlitelaw03_CurveBest.l0 k2 l0 a1 l2 t311 t312 t313 (wrap64 (x13_2 - t321)) (wrap64 (x14_2 + 1))) else (none)) = some r := H
          have A20 := zA A200
          clear A200
          by_cases c21 : (wrap64 ((wrap64 (t313 * (rd t311 x14_2))) - t324)) = t328
          ·
           rw [if_pos c21] at H
           have c21b0 : ((wrap64 ((wrap64 (t313 * (rd t311 x14_2))) - t324)) == t328) = true := beq_iff_eq.mpr c21
           have c21b1 : ((wrap64 ((wrap64 (t313 * (rd t311 x14_2))) - t324)) != t328) = false := bne_eq_false_iff_eq.mpr c21
           clear c21
           have H' := zA H
           clear H
           have p320 : 0 ≤ (x14_2 : Int) := of_decide_eq_true (by first | (with_reducible assumption) | assumption)
           have q320 : x14_2 < (l0.length : Int) := of_decide_eq_true (by first | (with_reducible assumption) | assumption)
           obtain ⟨ad320, A320_2, c320_2, e320, hx320_0, hx320_1, hx320_2, hl320_2, hi320_2⟩ := at_T24 HR0.out x14_2 p320 q320
           cases e320
           replace hx320_0 := (HB.out.cell (World.block_lt_of_cell? w _ hx320_0)).trans hx320_0
           replace hx320_1 := (HB.out.cell (World.block_lt_of_cell? w _ hx320_1)).trans hx320_1
           replace hx320_2 := (HB.out.cell (World.block_lt_of_cell? w _ hx320_2)).trans hx320_2
           have HR320_2 := zA hi320_2
           have HC320_2 := zA hl320_2
           clear hi320_2 hl320_2
           replace p320 := eq_true p320
           replace q320 := eq_true q320
           try go_wp2_with (first | ((with_reducible refine gate_callee (f := 21) rfl ?_); refine goesL_ (some 81) rfl rfl Try.func21 (by kernel_rfl) rfl #[.agg #[.int .i64 ((rd_T24 l0 x14_2).f0), .int .i64 ((rd_T24 l0 x14_2).f1), .slice A320_2 ((rd_T24 l0 x14_2).f2).length c320_2], .int .i64 t313] rfl (by (try simp only [List.map_toArray, List.map_cons, List.map_nil]); first | done | rfl | (simp only [List.length_drop, List.length_take]; rfl)) ?_; (with_reducible refine (kimberlitelaw03_greatest.calls k2 ((rd_T24 l0 x14_2).f0) ((rd_T24 l0 x14_2).f1) _ _ ((rd_T24 l0 x14_2).f2) t313 t321 _ ?side1 ?side2 A17.out).mono ?_); (case side1 => repeat (first | exact (Kd.C_below HR320_2.out HB.out) | (with_reducible refine Kd.C_alloc ?_ _) | (with_reducible refine Kd.C_drewN ?_ _) | (with_reducible refine Kd.C_drew ?_))); (case side2 => exact HC320_2.out); rintro e w22 ⟨rfl, hb⟩; refine ⟨_, rfl, ?_⟩; have n0_ := zA (Kd.R_below (by (with_reducible repeat (first | apply Kd.R_alloc | apply Kd.R_drewN | apply Kd.R_drew)); exact HO_7.out) hb); have n1_ := zA (below_step (by repeat (first | (with_reducible first | exact HB.out | apply zW | apply zX | apply zY) | exact HB.out)) hb); clear HO_7; clear HB; have HO_7 := n0_; have HB := n1_; clear n0_ n1_; (try clear hb); (try clear hb2); (try clear hk); (try clear hi)))
           have n0_ := zA (Kd.R_drew HO_7.out)
           have n1_ := zA (zY HB.out)
           clear HO_7
           clear HB
           have HO_7 := n0_
           have HB := n1_
           clear n0_ n1_
           have p322 : 0 ≤ (x14_2 : Int) := of_decide_eq_true (by first | (with_reducible assumption) | assumption)
           have q322 : x14_2 < (l0.length : Int) := of_decide_eq_true (by first | (with_reducible assumption) | assumption)
           obtain ⟨ad322, A322_2, c322_2, e322, hx322_0, hx322_1, hx322_2, hl322_2, hi322_2⟩ := at_T24 HR0.out x14_2 p322 q322
           have hw322_2 := hx322_2
           have hw322_1 := hx322_1
           have hw322_0 := hx322_0
           obtain rfl : ad320 = ad322 := (by injection e322)
           replace hx322_0 := (HB.out.cell (World.block_lt_of_cell? w _ hx322_0)).trans hx322_0
           replace hx322_1 := (HB.out.cell (World.block_lt_of_cell? w _ hx322_1)).trans hx322_1
           replace hx322_2 := (HB.out.cell (World.block_lt_of_cell? w _ hx322_2)).trans hx322_2
           have HR322_2 := zA hi322_2
           have HC322_2 := zA hl322_2
           clear hi322_2 hl322_2
           replace p322 := eq_true p322
           replace q322 := eq_true q322
           have p323 : 0 ≤ (x14_2 : Int) := of_decide_eq_true (by first | (with_reducible assumption) | assumption)
           have q323 : x14_2 < (t311.length : Int) := of_decide_eq_true (by first | (with_reducible assumption) | assumption)
           obtain ⟨ad323, e323, hx323_0⟩ := Kd.at_int (Kd.R_reads' HO_7.out).2.2 x14_2 p323 q323
           cases e323
           replace p323 := eq_true p323
           replace q323 := eq_true q323
           refine start_ (n := 14) (S := fun w' => w'.cell? (ad320.add ((x14_2).toNat * 3)) = some (.int .i64 ((rd_T24 l0 x14_2).f0)) ∧ w'.cell? ⟨(ad320.add ((x14_2).toNat * 3)).block, (ad320.add ((x14_2).toNat * 3)).off + 1, none⟩ = some (.int .i64 ((rd_T24 l0 x14_2).f1)) ∧ w'.cell? ⟨(ad320.add ((x14_2).toNat * 3)).block, (ad320.add ((x14_2).toNat * 3)).off + 2, none⟩ = some (.slice A322_2 ((rd_T24 l0 x14_2).f2).length c322_2) ∧ w'.cell? (ad323.add (x14_2).toNat) = some (.int .i64 (rd t311 x14_2))) (ds := []) #[false, false, false, false, false, false, false, false, false, false, false, false, false, false] (by kernel_rfl) rfl rfl ⟨((HB.out.cell (World.block_lt_of_cell? w _ hw322_0)).trans hw322_0), ((HB.out.cell (World.block_lt_of_cell? w _ hw322_1)).trans hw322_1), ((HB.out.cell (World.block_lt_of_cell? w _ hw322_2)).trans hw322_2), hx323_0⟩ (fun hHeld => ?_); refine with_tabW kimberlitelaw03_CurveBest.tab12 kimberlitelaw03_CurveBest.bits12 (fun HT_ HW_ => ?_)
           generalize w22.drew = w23 at HO_7 HB HR322_2 hx322_0 hx322_1 hx322_2 hx323_0 hHeld ⊢
           refine pure_ (i := 0) (N := some 84) (v := ?_) (a' := ?_) #[true, false, false, false, false, false, false, false, false, false, false, false, false, false] rfl rfl (any_of HT_.out (by kernel_rfl)) (fun _ _ _ h => h) (Or.inl ⟨by rfl, ?_⟩) ?_ ?_
           rotate_left
           ·
            intro w'
            go_simp
            with_reducible rfl
           rotate_left
           ·
            simp only [Act.put, List.setIfInBounds_toArray, List.set_cons_zero, List.set_cons_succ, i64_w, i32_w]
            rfl
           refine pure_ (i := 1) (N := some 85) (v := ?_) (a' := ?_) #[true, true, false, false, false, false, false, false, false, false, false, false, false, false] rfl rfl (any_of HT_.out (by kernel_rfl)) (fun _ _ _ h => h) (Or.inl ⟨by rfl, ?_⟩) ?_ ?_
           rotate_left
           ·
            intro w'
            go_simp
            with_reducible rfl
           rotate_left
           ·
            simp only [Act.put, List.setIfInBounds_toArray, List.set_cons_zero, List.set_cons_succ, i64_w, i32_w]
            rfl
           refine pure_ (i := 2) (N := some 86) (v := ?_) (a' := ?_) #[true, true, true, false, false, false, false, false, false, false, false, false, false, false] rfl rfl (any_of HT_.out (by kernel_rfl)) (fun _ _ _ h => h) (Or.inl ⟨by rfl, ?_⟩) ?_ ?_
           rotate_left
           ·
            intro w'
            go_simp
            with_reducible rfl
           rotate_left
           ·
            simp only [Act.put, List.setIfInBounds_toArray, List.set_cons_zero, List.set_cons_succ, i64_w, i32_w]
            rfl
           refine pure_ (i := 4) (N := some 88) (v := ?_) (a' := ?_) #[true, true, true, false, true, false, false, false, false, false, false, false, false, false] rfl rfl (any_of HT_.out (by kernel_rfl)) (fun _ _ _ h => h) (Or.inl ⟨by rfl, ?_⟩) ?_ ?_
           rotate_left
           ·
            intro w'
            go_simp
            with_reducible rfl
           rotate_left
           ·
            simp only [Act.put, List.setIfInBounds_toArray, List.set_cons_zero, List.set_cons_succ, i64_w, i32_w]
            rfl
           refine pure_ (i := 5) (N := some 89) (v := ?_) (a' := ?_) #[true, true, true, false, true, true, false, false, false, false, false, false, false, false] rfl rfl (any_of HT_.out (by kernel_rfl)) (fun _ _ _ h => h) (Or.inl ⟨by rfl, ?_⟩) ?_ ?_
           rotate_left
           ·
            intro w'
            go_simp
            with_reducible rfl
           rotate_left
           ·
            simp only [Act.put, List.setIfInBounds_toArray, List.set_cons_zero, List.set_cons_succ, i64_w, i32_w]
            rfl
           refine pure_ (i := 6) (N := some 90) (v := ?_) (a' := ?_) #[true, true, true, false, true, true, true, false, false, false, false, false, false, false] rfl rfl (any_of HT_.out (by kernel_rfl)) (fun _ _ _ h => h) (Or.inl ⟨by rfl, ?_⟩) ?_ ?_
           rotate_left
           ·
            intro w'
            go_simp
            with_reducible rfl
           rotate_left
           ·
            simp only [Act.put, List.setIfInBounds_toArray, List.set_cons_zero, List.set_cons_succ, i64_w, i32_w]
            rfl
           refine take_ (i := 3) (N := some 87) (v := ?_) (a' := ?_) #[true, true, true, true, true, true, true, false, false, false, false, false, false, false] rfl rfl (take_ofW HT_.out HW_.out (by kernel_rfl)) (fun _ _ _ h => h) (Or.inl ⟨by rfl, ?_⟩) hHeld ?_ ?_
           rotate_left
           ·
            rintro w' ⟨s0, s1, s2, s3⟩
            go_simp
            with_reducible rfl
           rotate_left
           ·
            simp only [Act.put, List.setIfInBounds_toArray, List.set_cons_zero, List.set_cons_succ, i64_w, i32_w]
            rfl
           refine take_ (i := 7) (N := some 91) (v := ?_) (a' := ?_) #[true, true, true, true, true, true, true, true, false, false, false, false, false, false] rfl rfl (take_ofW HT_.out HW_.out (by kernel_rfl)) (fun _ _ _ h => h) (Or.inl ⟨by rfl, ?_⟩) hHeld ?_ ?_
           rotate_left
           ·
            rintro w' ⟨s0, s1, s2, s3⟩
            go_simp
            with_reducible rfl
           rotate_left
           ·
            simp only [Act.put, List.setIfInBounds_toArray, List.set_cons_zero, List.set_cons_succ, i64_w, i32_w]
            rfl
           refine one_ (i := 8) (N := some 92) #[true, true, true, true, true, true, true, true, true, false, false, false, false, false] rfl rfl (one_of HT_.out (by kernel_rfl)) (by decide) (fun K hK => ?_)
           refine goes_ Try.func18 (by kernel_rfl) rfl #[.agg #[.int .i64 ((rd_T24 l0 x14_2).f0), .int .i64 ((rd_T24 l0 x14_2).f1), .slice A322_2 ((rd_T24 l0 x14_2).f2).length c322_2], .int .i64 (rd t311 x14_2)] (by rfl) rfl rfl (by (try simp only [List.map_toArray, List.map_cons, List.map_nil]); first | done | rfl | (simp only [List.length_drop, List.length_take]; rfl)) ?_
           with_reducible refine (kimberlitelaw03_at.calls ((rd_T24 l0 x14_2).f0) ((rd_T24 l0 x14_2).f1) _ _ ((rd_T24 l0 x14_2).f2) (rd t311 x14_2) t324 t325 _ ?side1 ?side2 A19.out).mono ?_
           (case side1 => repeat (first | exact (Kd.C_below HR322_2.out HB.out) | (with_reducible refine Kd.C_alloc ?_ _) | (with_reducible refine Kd.C_drewN ?_ _) | (with_reducible refine Kd.C_drew ?_)))
           (case side2 => exact HC322_2.out)
           rintro e w24 ⟨rfl, hb⟩
           have HS3_ := (hb.cell (World.block_lt_of_cell? _ _ (hHeld.2.2.2))).trans (hHeld.2.2.2)
           refine ⟨_, rfl, ?_⟩
           have n0_ := zA (Kd.R_below (by (with_reducible repeat (first | apply Kd.R_alloc | apply Kd.R_drewN | apply Kd.R_drew)); exact HO_7.out) hb)
           have n1_ := zA (below_step (by repeat (first | (with_reducible first | exact HB.out | apply zW | apply zX | apply zY) | exact HB.out)) hb)
           clear HO_7
           clear HB
           have HO_7 := n0_
           have HB := n1_
           clear n0_ n1_
           (try clear hb)
           (try clear hb2)
           (try clear hk)
           (try clear hi)
           refine hK.out _ _ ⟨((HB.out.cell (World.block_lt_of_cell? w _ hw322_0)).trans hw322_0), ((HB.out.cell (World.block_lt_of_cell? w _ hw322_1)).trans hw322_1), ((HB.out.cell (World.block_lt_of_cell? w _ hw322_2)).trans hw322_2), HS3_⟩ (fun hHeld => ?_)
           clear hK K
           refine norm_ (a' := ?_) ?_ ?_
           rotate_left
           ·
            show Act.put _ (some 92) _ = _
            simp only [Act.put, List.setIfInBounds_toArray, List.set_cons_zero, List.set_cons_succ, i64_w, i32_w]
            rfl
           refine pure_ (i := 9) (N := some 83) (v := ?_) (a' := ?_) #[true, true, true, true, true, true, true, true, true, true, false, false, false, false] rfl rfl (any_of HT_.out (by kernel_rfl)) (fun _ _ _ h => h) (Or.inl ⟨by rfl, ?_⟩) ?_ ?_
           rotate_left
           ·
            intro w'
            go_simp
            with_reducible rfl
           rotate_left
           ·
            simp only [Act.put, List.setIfInBounds_toArray, List.set_cons_zero, List.set_cons_succ, i64_w, i32_w]
            rfl
           refine pure_ (i := 10) (N := some 93) (v := ?_) (a' := ?_) #[true, true, true, true, true, true, true, true, true, true, true, false, false, false] rfl rfl (any_of HT_.out (by kernel_rfl)) (fun _ _ _ h => h) (Or.inl ⟨by rfl, ?_⟩) ?_ ?_
           rotate_left
           ·
            intro w'
            go_simp
            with_reducible rfl
           rotate_left
           ·
            simp only [Act.put, List.setIfInBounds_toArray, List.set_cons_zero, List.set_cons_succ, i64_w, i32_w]
            rfl
           refine pure_ (i := 11) (N := some 94) (v := ?_) (a' := ?_) #[true, true, true, true, true, true, true, true, true, true, true, true, false, false] rfl rfl (any_of HT_.out (by kernel_rfl)) (fun _ _ _ h => h) (Or.inl ⟨by rfl, ?_⟩) ?_ ?_
           rotate_left
           ·
            intro w'
            go_simp
            with_reducible rfl
           rotate_left
           ·
            simp only [Act.put, List.setIfInBounds_toArray, List.set_cons_zero, List.set_cons_succ, i64_w, i32_w]
            rfl
           refine pure_ (i := 12) (N := some 15) (v := ?_) (a' := ?_) #[true, true, true, true, true, true, true, true, true, true, true, true, true, false] rfl rfl (any_of HT_.out (by kernel_rfl)) (fun _ _ _ h => h) (Or.inl ⟨by rfl, ?_⟩) ?_ ?_
           rotate_left
           ·
            intro w'
            go_simp
            with_reducible rfl
           rotate_left
           ·
            simp only [Act.put, List.setIfInBounds_toArray, List.set_cons_zero, List.set_cons_succ, i64_w, i32_w]
            rfl
           refine pure_ (i := 13) (N := some 16) (v := ?_) (a' := ?_) #[true, true, true, true, true, true, true, true, true, true, true, true, true, true] rfl rfl (any_of HT_.out (by kernel_rfl)) (fun _ _ _ h => h) (Or.inl ⟨by rfl, ?_⟩) ?_ ?_
           rotate_left
           ·
            intro w'
            go_simp
            with_reducible rfl
           rotate_left
           ·
            simp only [Act.put, List.setIfInBounds_toArray, List.set_cons_zero, List.set_cons_succ, i64_w, i32_w]
            rfl
           refine done_ (done_of HT_.out (by kernel_rfl)) ?_
           try go_wp2
           have n0_ := zA (Kd.R_drew HO_7.out)
           have n1_ := zA (zY HB.out)
           clear HO_7
           clear HB
           have HO_7 := n0_
           have HB := n1_
           clear n0_ n1_
           have p326 : 0 ≤ (x14_2 : Int) := of_decide_eq_true (by first | (with_reducible assumption) | assumption)
           have q326 : x14_2 < (t311.length : Int) := of_decide_eq_true (by first | (with_reducible assumption) | assumption)
           obtain ⟨ad326, e326, hx326_0⟩ := Kd.at_int (Kd.R_reads' HO_7.out).2.2 x14_2 p326 q326
           obtain rfl : ad323 = ad326 := (by injection e326)
           replace p326 := eq_true p326
           replace q326 := eq_true q326
           have p327 : 0 ≤ (x14_2 : Int) := of_decide_eq_true (by first | (with_reducible assumption) | assumption)
           have q327 : x14_2 < (l0.length : Int) := of_decide_eq_true (by first | (with_reducible assumption) | assumption)
           obtain ⟨ad327, A327_2, c327_2, e327, hx327_0, hx327_1, hx327_2, hl327_2, hi327_2⟩ := at_T24 HR0.out x14_2 p327 q327
           have hw327_2 := hx327_2
           have hw327_1 := hx327_1
           have hw327_0 := hx327_0
           obtain rfl : ad320 = ad327 := (by injection e327)
           replace hx327_0 := (HB.out.cell (World.block_lt_of_cell? w _ hx327_0)).trans hx327_0
           replace hx327_1 := (HB.out.cell (World.block_lt_of_cell? w _ hx327_1)).trans hx327_1
           replace hx327_2 := (HB.out.cell (World.block_lt_of_cell? w _ hx327_2)).trans hx327_2
           have HR327_2 := zA hi327_2
           have HC327_2 := zA hl327_2
           clear hi327_2 hl327_2
           replace p327 := eq_true p327
           replace q327 := eq_true q327
           refine start_ (n := 15) (S := fun w' => w'.cell? (ad323.add (x14_2).toNat) = some (.int .i64 (rd t311 x14_2)) ∧ w'.cell? (ad320.add ((x14_2).toNat * 3)) = some (.int .i64 ((rd_T24 l0 x14_2).f0)) ∧ w'.cell? ⟨(ad320.add ((x14_2).toNat * 3)).block, (ad320.add ((x14_2).toNat * 3)).off + 1, none⟩ = some (.int .i64 ((rd_T24 l0 x14_2).f1)) ∧ w'.cell? ⟨(ad320.add ((x14_2).toNat * 3)).block, (ad320.add ((x14_2).toNat * 3)).off + 2, none⟩ = some (.slice A327_2 ((rd_T24 l0 x14_2).f2).length c327_2)) (ds := []) #[false, false, false, false, false, false, false, false, false, false, false, false, false, false, false] (by kernel_rfl) rfl rfl ⟨hx326_0, ((HB.out.cell (World.block_lt_of_cell? w _ hw327_0)).trans hw327_0), ((HB.out.cell (World.block_lt_of_cell? w _ hw327_1)).trans hw327_1), ((HB.out.cell (World.block_lt_of_cell? w _ hw327_2)).trans hw327_2)⟩ (fun hHeld => ?_); refine with_tabW kimberlitelaw03_CurveBest.tab13 kimberlitelaw03_CurveBest.bits13 (fun HT_ HW_ => ?_)
           generalize w24.drew = w25 at HO_7 HB HR327_2 hx326_0 hx327_0 hx327_1 hx327_2 hHeld ⊢
           refine pure_ (i := 0) (N := some 95) (v := ?_) (a' := ?_) #[true, false, false, false, false, false, false, false, false, false, false, false, false, false, false] rfl rfl (any_of HT_.out (by kernel_rfl)) (fun _ _ _ h => h) (Or.inl ⟨by rfl, ?_⟩) ?_ ?_
           rotate_left
           ·
            intro w'
            go_simp
            with_reducible rfl
           rotate_left
           ·
            simp only [Act.put, List.setIfInBounds_toArray, List.set_cons_zero, List.set_cons_succ, i64_w, i32_w]
            rfl
           refine pure_ (i := 1) (N := some 96) (v := ?_) (a' := ?_) #[true, true, false, false, false, false, false, false, false, false, false, false, false, false, false] rfl rfl (any_of HT_.out (by kernel_rfl)) (fun _ _ _ h => h) (Or.inl ⟨by rfl, ?_⟩) ?_ ?_
           rotate_left
           ·
            intro w'
            go_simp
            with_reducible rfl
           rotate_left
           ·
            simp only [Act.put, List.setIfInBounds_toArray, List.set_cons_zero, List.set_cons_succ, i64_w, i32_w]
            rfl
           refine pure_ (i := 2) (N := some 97) (v := ?_) (a' := ?_) #[true, true, true, false, false, false, false, false, false, false, false, false, false, false, false] rfl rfl (any_of HT_.out (by kernel_rfl)) (fun _ _ _ h => h) (Or.inl ⟨by rfl, ?_⟩) ?_ ?_
           rotate_left
           ·
            intro w'
            go_simp
            with_reducible rfl
           rotate_left
           ·
            simp only [Act.put, List.setIfInBounds_toArray, List.set_cons_zero, List.set_cons_succ, i64_w, i32_w]
            rfl
           refine pure_ (i := 3) (N := some 98) (v := ?_) (a' := ?_) #[true, true, true, true, false, false, false, false, false, false, false, false, false, false, false] rfl rfl (any_of HT_.out (by kernel_rfl)) (fun _ _ _ h => h) (Or.inl ⟨by rfl, ?_⟩) ?_ ?_
           rotate_left
           ·
            intro w'
            go_simp
            with_reducible rfl
           rotate_left
           ·
            simp only [Act.put, List.setIfInBounds_toArray, List.set_cons_zero, List.set_cons_succ, i64_w, i32_w]
            rfl
           refine pure_ (i := 6) (N := some 101) (v := ?_) (a' := ?_) #[true, true, true, true, false, false, true, false, false, false, false, false, false, false, false] rfl rfl (any_of HT_.out (by kernel_rfl)) (fun _ _ _ h => h) (Or.inl ⟨by rfl, ?_⟩) ?_ ?_
           rotate_left
           ·
            intro w'
            go_simp
            with_reducible rfl
           rotate_left
           ·
            simp only [Act.put, List.setIfInBounds_toArray, List.set_cons_zero, List.set_cons_succ, i64_w, i32_w]
            rfl
           refine pure_ (i := 8) (N := some 103) (v := ?_) (a' := ?_) #[true, true, true, true, false, false, true, false, true, false, false, false, false, false, false] rfl rfl (any_of HT_.out (by kernel_rfl)) (fun _ _ _ h => h) (Or.inl ⟨by rfl, ?_⟩) ?_ ?_
           rotate_left
           ·
            intro w'
            go_simp
            with_reducible rfl
           rotate_left
           ·
            simp only [Act.put, List.setIfInBounds_toArray, List.set_cons_zero, List.set_cons_succ, i64_w, i32_w]
            rfl
           refine pure_ (i := 9) (N := some 104) (v := ?_) (a' := ?_) #[true, true, true, true, false, false, true, false, true, true, false, false, false, false, false] rfl rfl (any_of HT_.out (by kernel_rfl)) (fun _ _ _ h => h) (Or.inl ⟨by rfl, ?_⟩) ?_ ?_
           rotate_left
           ·
            intro w'
            go_simp
            with_reducible rfl
           rotate_left
           ·
            simp only [Act.put, List.setIfInBounds_toArray, List.set_cons_zero, List.set_cons_succ, i64_w, i32_w]
            rfl
           refine pure_ (i := 10) (N := some 105) (v := ?_) (a' := ?_) #[true, true, true, true, false, false, true, false, true, true, true, false, false, false, false] rfl rfl (any_of HT_.out (by kernel_rfl)) (fun _ _ _ h => h) (Or.inl ⟨by rfl, ?_⟩) ?_ ?_
           rotate_left
           ·
            intro w'
            go_simp
            with_reducible rfl
           rotate_left
           ·
            simp only [Act.put, List.setIfInBounds_toArray, List.set_cons_zero, List.set_cons_succ, i64_w, i32_w]
            rfl
           refine pure_ (i := 12) (N := some 107) (v := ?_) (a' := ?_) #[true, true, true, true, false, false, true, false, true, true, true, false, true, false, false] rfl rfl (any_of HT_.out (by kernel_rfl)) (fun _ _ _ h => h) (Or.inl ⟨by rfl, ?_⟩) ?_ ?_
           rotate_left
           ·
            intro w'
            go_simp
            with_reducible rfl
           rotate_left
           ·
            simp only [Act.put, List.setIfInBounds_toArray, List.set_cons_zero, List.set_cons_succ, i64_w, i32_w]
            rfl
           refine take_ (i := 4) (N := some 99) (v := ?_) (a' := ?_) #[true, true, true, true, true, false, true, false, true, true, true, false, true, false, false] rfl rfl (take_ofW HT_.out HW_.out (by kernel_rfl)) (fun _ _ _ h => h) (Or.inl ⟨by rfl, ?_⟩) hHeld ?_ ?_
           rotate_left
           ·
            rintro w' ⟨s0, s1, s2, s3⟩
            go_simp
            with_reducible rfl
           rotate_left
           ·
            simp only [Act.put, List.setIfInBounds_toArray, List.set_cons_zero, List.set_cons_succ, i64_w, i32_w]
            rfl
           refine pure_ (i := 5) (N := some 100) (v := ?_) (a' := ?_) #[true, true, true, true, true, true, true, false, true, true, true, false, true, false, false] rfl rfl (any_of HT_.out (by kernel_rfl)) (fun _ _ _ h => h) (Or.inl ⟨by rfl, ?_⟩) ?_ ?_
           rotate_left
           ·
            intro w'
            go_simp
            with_reducible rfl
           rotate_left
           ·
            simp only [Act.put, List.setIfInBounds_toArray, List.set_cons_zero, List.set_cons_succ, i64_w, i32_w]
            rfl
           refine pure_ (i := 7) (N := some 102) (v := ?_) (a' := ?_) #[true, true, true, true, true, true, true, true, true, true, true, false, true, false, false] rfl rfl (any_of HT_.out (by kernel_rfl)) (fun _ _ _ h => h) (Or.inl ⟨by rfl, ?_⟩) ?_ ?_
           rotate_left
           ·
            intro w'
            go_simp
            with_reducible rfl
           rotate_left
           ·
            simp only [Act.put, List.setIfInBounds_toArray, List.set_cons_zero, List.set_cons_succ, i64_w, i32_w]
            rfl
           refine take_ (i := 11) (N := some 106) (v := ?_) (a' := ?_) #[true, true, true, true, true, true, true, true, true, true, true, true, true, false, false] rfl rfl (take_ofW HT_.out HW_.out (by kernel_rfl)) (fun _ _ _ h => h) (Or.inl ⟨by rfl, ?_⟩) hHeld ?_ ?_
           rotate_left
           ·
            rintro w' ⟨s0, s1, s2, s3⟩
            go_simp
            with_reducible rfl
           rotate_left
           ·
            simp only [Act.put, List.setIfInBounds_toArray, List.set_cons_zero, List.set_cons_succ, i64_w, i32_w]
            rfl
           refine one_ (i := 13) (N := some 108) #[true, true, true, true, true, true, true, true, true, true, true, true, true, true, false] rfl rfl (one_of HT_.out (by kernel_rfl)) (by decide) (fun K hK => ?_)
           refine goes_ Try.func21 (by kernel_rfl) rfl #[.agg #[.int .i64 ((rd_T24 l0 x14_2).f0), .int .i64 ((rd_T24 l0 x14_2).f1), .slice A327_2 ((rd_T24 l0 x14_2).f2).length c327_2], .int .i64 t313] (by rfl) rfl rfl (by (try simp only [List.map_toArray, List.map_cons, List.map_nil]); first | done | rfl | (simp only [List.length_drop, List.length_take]; rfl)) ?_
           with_reducible refine (kimberlitelaw03_greatest.calls k2 ((rd_T24 l0 x14_2).f0) ((rd_T24 l0 x14_2).f1) _ _ ((rd_T24 l0 x14_2).f2) t313 t328 _ ?side1 ?side2 A20.out).mono ?_
           (case side1 => repeat (first | exact (Kd.C_below HR327_2.out HB.out) | (with_reducible refine Kd.C_alloc ?_ _) | (with_reducible refine Kd.C_drewN ?_ _) | (with_reducible refine Kd.C_drew ?_)))
           (case side2 => exact HC327_2.out)
           rintro e w26 ⟨rfl, hb⟩
           have HS0_ := (hb.cell (World.block_lt_of_cell? _ _ (hHeld.1))).trans (hHeld.1)
           refine ⟨_, rfl, ?_⟩
           have n0_ := zA (Kd.R_below (by (with_reducible repeat (first | apply Kd.R_alloc | apply Kd.R_drewN | apply Kd.R_drew)); exact HO_7.out) hb)
           have n1_ := zA (below_step (by repeat (first | (with_reducible first | exact HB.out | apply zW | apply zX | apply zY) | exact HB.out)) hb)
           clear HO_7
           clear HB
           have HO_7 := n0_
           have HB := n1_
           clear n0_ n1_
           (try clear hb)
           (try clear hb2)
           (try clear hk)
           (try clear hi)
           refine hK.out _ _ ⟨HS0_, ((HB.out.cell (World.block_lt_of_cell? w _ hw327_0)).trans hw327_0), ((HB.out.cell (World.block_lt_of_cell? w _ hw327_1)).trans hw327_1), ((HB.out.cell (World.block_lt_of_cell? w _ hw327_2)).trans hw327_2)⟩ (fun hHeld => ?_)
           clear hK K
           refine norm_ (a' := ?_) ?_ ?_
           rotate_left
           ·
            show Act.put _ (some 108) _ = _
            simp only [Act.put, List.setIfInBounds_toArray, List.set_cons_zero, List.set_cons_succ, i64_w, i32_w]
            rfl
           refine pure_ (i := 14) (N := some 109) (v := ?_) (a' := ?_) #[true, true, true, true, true, true, true, true, true, true, true, true, true, true, true] rfl rfl (any_of HT_.out (by kernel_rfl)) (fun _ _ _ h => h) (Or.inl ⟨by rfl, ?_⟩) ?_ ?_
           rotate_left
           ·
            intro w'
            go_simp
            with_reducible rfl
           rotate_left
           ·
            simp only [Act.put, List.setIfInBounds_toArray, List.set_cons_zero, List.set_cons_succ, i64_w, i32_w]
            rfl
           refine done_ (done_of HT_.out (by kernel_rfl)) ?_
           try go_wp2
           go_roundg k2
           case measure => have := HJ6.out; have := HK2.out; omega
           case rel => exact ⟨(wrap64 (x13_2 - t321)), (wrap64 (x14_2 + 1)), (by first | rfl | (simp; done) | (simp [*]; done)), (by first | rfl | (simp; done) | (simp [*]; done)), H', ⟨by have := HJ6.out; have := HK2.out; omega⟩, ⟨by (with_reducible repeat (first | apply Kd.R_alloc | apply Kd.R_drewN | apply Kd.R_drew)); exact HO_7.out⟩, ⟨by repeat (first | (with_reducible first | exact HB.out | apply zW | apply zX | apply zY) | exact HB.out)⟩⟩
          ·
           rw [if_neg c21] at H
           exact absurd H (by simp)
         ·
          rw [if_neg c18] at H
          exact absurd H (by simp)
        ·
         rw [if_neg c16] at H
         exact absurd H (by simp)
       ·
        rw [if_neg c15] at H
        have c15b0 : decide (x14_2 < (l0.length : Int)) = false := decide_eq_false c15
        clear c15
        replace H := Option.bind_eq_some_iff.mp H
        obtain ⟨⟨t329, t330⟩, A270, H⟩ := H
        replace H : (if x13_2 = t312 then (if t330 = true then (kimberlitelaw03_CurveBest.j2 k2 l0 l2 t311 t312 t329 t330 (decide (t329 < t312))) else (kimberlitelaw03_CurveBest.j2 k2 l0 l2 t311 t312 t329 t330 false)) else (kimberlitelaw03_CurveBest.j2 k2 l0 l2 t311 t312 t329 t330 true)) = some r := H
        have A27 := zA A270
        clear A270
        have HC28 := zA H
        clear H
        go_upto_region 16 with (first | ((with_reducible refine gate_callee (f := 20) rfl ?_); refine goesL_ (some 114) rfl rfl Try.func20 (by kernel_rfl) rfl #[.slice A0 l0.length c0, .slice A2 l2.length c2, .int .i64 a1] rfl (by (try simp only [List.map_toArray, List.map_cons, List.map_nil]); first | done | rfl | (simp only [List.length_drop, List.length_take]; rfl)) ?_; (with_reducible refine (kimberlitelaw03_spent.calls k2 _ _ l0 _ _ l2 a1 t329 t330 _ ?side1 ?side2 ?side3 ?side4 A27.out).mono ?_); (case side1 => repeat (first | exact (Kd.C_below HR0.out HB.out) | (with_reducible refine Kd.C_alloc ?_ _) | (with_reducible refine Kd.C_drewN ?_ _) | (with_reducible refine Kd.C_drew ?_))); (case side2 => exact HC0.out); (case side3 => repeat (first | exact (Kd.C_below HR2.out HB.out) | (with_reducible refine Kd.C_alloc ?_ _) | (with_reducible refine Kd.C_drewN ?_ _) | (with_reducible refine Kd.C_drew ?_))); (case side4 => exact HC2.out); rintro e w29 ⟨rfl, hb⟩; refine ⟨_, rfl, ?_⟩; have n0_ := zA (Kd.R_below (by (with_reducible repeat (first | apply Kd.R_alloc | apply Kd.R_drewN | apply Kd.R_drew)); exact HO_7.out) hb); have n1_ := zA (below_step (by repeat (first | (with_reducible first | exact HB.out | apply zW | apply zX | apply zY) | exact HB.out)) hb); clear HO_7; clear HB; have HO_7 := n0_; have HB := n1_; clear n0_ n1_; (try clear hb); (try clear hb2); (try clear hk); (try clear hi)))
        (try simp only [Act.put, List.setIfInBounds_toArray, List.set_cons_zero, List.set_cons_succ])
        go_cut [127] (fun v127 wc => ∃ (kq : Nat) (x127_27 : Bool), v127 = .bool x127_27 ∧ Aside0 (kimberlitelaw03_CurveBest.j2 kq l0 l2 t311 t312 t329 t330 x127_27 = some r) ∧ Aside0 (kq ≤ k2) ∧ Aside0 (Kd.R (Kd.int .i64) 3 wc w.heap.size (fun _ => True) (.slice Ao9 t311.length co9) t311) ∧ Aside0 (Below w.heap.size w wc))
        case first =>
         have H := HC28.out
         clear HC28
         by_cases c30 : x13_2 = t312
         ·
          rw [if_pos c30] at H
          have c30b0 : (x13_2 == t312) = true := beq_iff_eq.mpr c30
          have c30b1 : (x13_2 != t312) = false := bne_eq_false_iff_eq.mpr c30
          clear c30
          (first | rw [c30b0] | (simp only [i64_w, i32_w]; rw [c30b0]) | skip)
          by_cases c31 : t330 = true
          ·
           subst c31
           have H1 : (kimberlitelaw03_CurveBest.j2 k2 l0 l2 t311 t312 t329 true (decide (t329 < t312))) = some r := by rw [if_pos rfl] at H; exact H
           clear H
           have H := H1
           clear H1
           have H' := zA H
           clear H
           go_wp2
           go_meet
           case rel => exact ⟨_, (decide (t329 < t312)), (by first | rfl | (simp; done) | (simp [*]; done)), H', ⟨by have := HJ6.out; have := HK2.out; first | omega | exact Nat.le_refl _⟩, ⟨by (with_reducible repeat (first | apply Kd.R_alloc | apply Kd.R_drewN | apply Kd.R_drew)); exact HO_7.out⟩, ⟨by repeat (first | (with_reducible first | exact HB.out | apply zW | apply zX | apply zY) | exact HB.out)⟩⟩
          ·
           replace c31 := Bool.eq_false_iff.mpr c31
           subst c31
           have H1 : (kimberlitelaw03_CurveBest.j2 k2 l0 l2 t311 t312 t329 false false) = some r := by rw [if_neg (show ¬ (false = true) by decide)] at H; exact H
           clear H
           have H := H1
           clear H1
           have H' := zA H
           clear H
           go_wp2
           go_meet
           case rel => exact ⟨_, (false), (by first | rfl | (simp; done) | (simp [*]; done)), H', ⟨by have := HJ6.out; have := HK2.out; first | omega | exact Nat.le_refl _⟩, ⟨by (with_reducible repeat (first | apply Kd.R_alloc | apply Kd.R_drewN | apply Kd.R_drew)); exact HO_7.out⟩, ⟨by repeat (first | (with_reducible first | exact HB.out | apply zW | apply zX | apply zY) | exact HB.out)⟩⟩
         ·
          rw [if_neg c30] at H
          have c30b0 : (x13_2 == t312) = false := beq_eq_false_iff_ne.mpr c30
          have c30b1 : (x13_2 != t312) = true := bne_iff_ne.mpr c30
          (first | rw [c30b0] | (simp only [i64_w, i32_w]; rw [c30b0]) | skip)
          have H' := zA H
          clear H
          go_wp2
          go_meet
          case rel => exact ⟨_, (true), (by first | rfl | (simp; done) | (simp [*]; done)), H', ⟨by have := HJ6.out; have := HK2.out; first | omega | exact Nat.le_refl _⟩, ⟨by (with_reducible repeat (first | apply Kd.R_alloc | apply Kd.R_drewN | apply Kd.R_drew)); exact HO_7.out⟩, ⟨by repeat (first | (with_reducible first | exact HB.out | apply zW | apply zX | apply zY) | exact HB.out)⟩⟩
        case rest =>
         clear HC28
         try clear c1
         try clear c2
         try clear p2
         try clear c3
         try clear p3
         try clear q3
         try clear hx3
         try clear c4
         try clear c5
         try clear c5b0
         try clear c5b1
         try clear p6
         try clear c11
         try clear c12
         try clear c12b0
         try clear c12b1
         try clear c13
         try clear c13b0
         try clear c14
         try clear c15
         try clear c15b0
         try clear c16
         try clear c16b0
         try clear c18
         try clear c18b0
         try clear c19
         try clear c20
         try clear c21
         try clear c21b0
         try clear c21b1
         try clear c30
         try clear c30b0
         try clear c30b1
         try clear c31
         try clear hx320_0
         try clear hx320_1
         try clear hx320_2
         try clear hx322_0
         try clear hx322_1
         try clear hx322_2
         try clear hx323_0
         try clear hx326_0
         try clear hx327_0
         try clear hx327_1
         try clear hx327_2
         try clear p2
         try clear p320
         try clear p322
         try clear p323
         try clear p326
         try clear p327
         try clear p6
         try clear q320
         try clear q322
         try clear q323
         try clear q326
         try clear q327
         obtain ⟨kq, x127_27, rfl, HA, HJ27, HO_7, HB⟩ := hcut
         cases kq with
         | zero => exact absurd HA.out (by simp [kimberlitelaw03_CurveBest.j2])
         | succ kj27 =>
          have H := HA.out
          clear HA
          simp only [kimberlitelaw03_CurveBest.j2] at H
          by_cases c32 : x127_27 = true
          ·
           subst c32
           have H1 : (none) = some r := by rw [if_pos rfl] at H; exact H
           clear H
           have H := H1
           clear H1
           exact absurd H (by simp)
          ·
           replace c32 := Bool.eq_false_iff.mpr c32
           subst c32
           have H1 : (kimberlitelaw03_CurveBest.l1 kj27 l0 l2 t311 t312 t329 t330 0) = some r := by rw [if_neg (show ¬ (false = true) by decide)] at H; exact H
           clear H
           have H := H1
           clear H1
           have H' := zA H
           clear H
           go_wp2
           go_loopg [19] kj27 (fun kq v19 w' => ∃ (x19_4 : Int), v19 = .int .i64 x19_4 ∧ Aside0 (kimberlitelaw03_CurveBest.l1 kq l0 l2 t311 t312 t329 t330 x19_4 = some r) ∧ Aside0 (kq ≤ kj27) ∧ Aside0 (Kd.R (Kd.int .i64) 3 w' w.heap.size (fun _ => True) (.slice Ao9 t311.length co9) t311) ∧ Aside0 (Below w.heap.size w w'))
           case atStart => exact ⟨(0), (by first | rfl | (simp; done) | (simp [*]; done)), H', ⟨Nat.le_refl _⟩, ⟨by (with_reducible repeat (first | apply Kd.R_alloc | apply Kd.R_drewN | apply Kd.R_drew)); exact HO_7.out⟩, ⟨by repeat (first | (with_reducible first | exact HB.out | apply zW | apply zX | apply zY) | exact HB.out)⟩⟩
           case round =>
            clear H'
            try clear c1
            try clear c2
            try clear p2
            try clear c3
            try clear p3
            try clear q3
            try clear hx3
            try clear c4
            try clear c5
            try clear c5b0
            try clear c5b1
            try clear p6
            try clear c11
            try clear c12
            try clear c12b0
            try clear c12b1
            try clear c13
            try clear c13b0
            try clear c14
            try clear c15
            try clear c15b0
            try clear c16
            try clear c16b0
            try clear c18
            try clear c18b0
            try clear c19
            try clear c20
            try clear c21
            try clear c21b0
            try clear c21b1
            try clear c30
            try clear c30b0
            try clear c30b1
            try clear c31
            try clear c32
            try clear p32
            try clear q32
            try clear hx32
            try clear hx320_0
            try clear hx320_1
            try clear hx320_2
            try clear hx322_0
            try clear hx322_1
            try clear hx322_2
            try clear hx323_0
            try clear hx326_0
            try clear hx327_0
            try clear hx327_1
            try clear hx327_2
            try clear p2
            try clear p3
            try clear p320
            try clear p322
            try clear p323
            try clear p326
            try clear p327
            try clear p6
            try clear q3
            try clear q320
            try clear q322
            try clear q323
            try clear q326
            try clear q327
            obtain ⟨x19_4, rfl, HA, HK4, HO_7, HB⟩ := hrel
            cases gk with
            | zero => exact absurd HA.out (by simp [kimberlitelaw03_CurveBest.l1])
            | succ k4 =>
             have H := HA.out
             clear HA
             simp only [kimberlitelaw03_CurveBest.l1] at H
             have HC33 := zA H
             clear H
             go_upto_region 19 with (fail)
             go_cut [139] (fun v139 wc => ∃ (kq : Nat) (x139_32 : Bool), v139 = .bool x139_32 ∧ Aside0 (kimberlitelaw03_CurveBest.j4 kq l0 l2 t311 t312 t329 t330 x19_4 x139_32 = some r) ∧ Aside0 (kq ≤ k4) ∧ Aside0 (Kd.R (Kd.int .i64) 3 wc w.heap.size (fun _ => True) (.slice Ao9 t311.length co9) t311) ∧ Aside0 (Below w.heap.size w wc))
             case first =>
              have H := HC33.out
              clear HC33
              by_cases c34 : t330 = true
              ·
               subst c34
               have H1 : (if t329 = t312 then (kimberlitelaw03_CurveBest.j4 k4 l0 l2 t311 t312 t329 true x19_4 (decide (x19_4 < (l0.length : Int)))) else (kimberlitelaw03_CurveBest.j4 k4 l0 l2 t311 t312 t329 true x19_4 false)) = some r := by rw [if_pos rfl] at H; exact H
               clear H
               have H := H1
               clear H1
               by_cases c35 : t329 = t312
               ·
                rw [if_pos c35] at H
                have c35b0 : (t329 == t312) = true := beq_iff_eq.mpr c35
                have c35b1 : (t329 != t312) = false := bne_eq_false_iff_eq.mpr c35
                clear c35
                (first | rw [c35b0] | (simp only [i64_w, i32_w]; rw [c35b0]) | skip)
                have H' := zA H
                clear H
                go_wp2
                go_meet
                case rel => exact ⟨_, (decide (x19_4 < (l0.length : Int))), (by first | rfl | (simp; done) | (simp [*]; done)), H', ⟨by have := HJ6.out; have := HK2.out; have := HJ27.out; have := HK4.out; first | omega | exact Nat.le_refl _⟩, ⟨by (with_reducible repeat (first | apply Kd.R_alloc | apply Kd.R_drewN | apply Kd.R_drew)); exact HO_7.out⟩, ⟨by repeat (first | (with_reducible first | exact HB.out | apply zW | apply zX | apply zY) | exact HB.out)⟩⟩
               ·
                rw [if_neg c35] at H
                have c35b0 : (t329 == t312) = false := beq_eq_false_iff_ne.mpr c35
                have c35b1 : (t329 != t312) = true := bne_iff_ne.mpr c35
                (first | rw [c35b0] | (simp only [i64_w, i32_w]; rw [c35b0]) | skip)
                have H' := zA H
                clear H
                go_wp2
                go_meet
                case rel => exact ⟨_, (false), (by first | rfl | (simp; done) | (simp [*]; done)), H', ⟨by have := HJ6.out; have := HK2.out; have := HJ27.out; have := HK4.out; first | omega | exact Nat.le_refl _⟩, ⟨by (with_reducible repeat (first | apply Kd.R_alloc | apply Kd.R_drewN | apply Kd.R_drew)); exact HO_7.out⟩, ⟨by repeat (first | (with_reducible first | exact HB.out | apply zW | apply zX | apply zY) | exact HB.out)⟩⟩
              ·
               replace c34 := Bool.eq_false_iff.mpr c34
               subst c34
               have H1 : (kimberlitelaw03_CurveBest.j4 k4 l0 l2 t311 t312 t329 false x19_4 false) = some r := by rw [if_neg (show ¬ (false = true) by decide)] at H; exact H
               clear H
               have H := H1
               clear H1
               have H' := zA H
               clear H
               go_wp2
               go_meet
               case rel => exact ⟨_, (false), (by first | rfl | (simp; done) | (simp [*]; done)), H', ⟨by have := HJ6.out; have := HK2.out; have := HJ27.out; have := HK4.out; first | omega | exact Nat.le_refl _⟩, ⟨by (with_reducible repeat (first | apply Kd.R_alloc | apply Kd.R_drewN | apply Kd.R_drew)); exact HO_7.out⟩, ⟨by repeat (first | (with_reducible first | exact HB.out | apply zW | apply zX | apply zY) | exact HB.out)⟩⟩
             case rest =>
              clear HC33
              try clear c1
              try clear c2
              try clear p2
              try clear c3
              try clear p3
              try clear q3
              try clear hx3
              try clear c4
              try clear c5
              try clear c5b0
              try clear c5b1
              try clear p6
              try clear c11
              try clear c12
              try clear c12b0
              try clear c12b1
              try clear c13
              try clear c13b0
              try clear c14
              try clear c15
              try clear c15b0
              try clear c16
              try clear c16b0
              try clear c18
              try clear c18b0
              try clear c19
              try clear c20
              try clear c21
              try clear c21b0
              try clear c21b1
              try clear c30
              try clear c30b0
              try clear c30b1
              try clear c31
              try clear c32
              try clear p32
              try clear q32
              try clear hx32
              try clear c34
              try clear c35
              try clear c35b0
              try clear c35b1
              try clear hx320_0
              try clear hx320_1
              try clear hx320_2
              try clear hx322_0
              try clear hx322_1
              try clear hx322_2
              try clear hx323_0
              try clear hx326_0
              try clear hx327_0
              try clear hx327_1
              try clear hx327_2
              try clear p2
              try clear p3
              try clear p32
              try clear p320
              try clear p322
              try clear p323
              try clear p326
              try clear p327
              try clear p6
              try clear q3
              try clear q32
              try clear q320
              try clear q322
              try clear q323
              try clear q326
              try clear q327
              obtain ⟨kq, x139_32, rfl, HA, HJ32, HO_7, HB⟩ := hcut
              cases kq with
              | zero => exact absurd HA.out (by simp [kimberlitelaw03_CurveBest.j4])
              | succ kj32 =>
               have H := HA.out
               clear HA
               simp only [kimberlitelaw03_CurveBest.j4] at H
               by_cases c36 : x139_32 = true
               ·
                subst c36
                have H1 : (if 0 ≤ x19_4 then (if x19_4 < (t311.length : Int) then (if x19_4 < (l2.length : Int) then (if (rd t311 x19_4) = (rd l2 x19_4) then (kimberlitelaw03_CurveBest.l1 kj32 l0 l2 t311 t312 t329 t330 (wrap64 (x19_4 + 1))) else (if (rd t311 x19_4) < (rd l2 x19_4) then ((kimberlitelaw03_alive.f).bind fun t335 => (some t335)) else (none))) else (none)) else (none)) else (none)) = some r := by rw [if_pos rfl] at H; exact H
                clear H
                have H := H1
                clear H1
                by_cases c37 : 0 ≤ x19_4
                ·
                 rw [if_pos c37] at H
                 have c37b0 : decide (0 ≤ x19_4) = true := decide_eq_true c37
                 clear c37
                 by_cases c38 : x19_4 < (t311.length : Int)
                 ·
                  rw [if_pos c38] at H
                  have c38b0 : decide (x19_4 < (t311.length : Int)) = true := decide_eq_true c38
                  clear c38
                  by_cases c39 : x19_4 < (l2.length : Int)
                  ·
                   rw [if_pos c39] at H
                   have c39b0 : decide (x19_4 < (l2.length : Int)) = true := decide_eq_true c39
                   clear c39
                   by_cases c40 : (rd t311 x19_4) = (rd l2 x19_4)
                   ·
                    rw [if_pos c40] at H
                    have c40b0 : ((rd t311 x19_4) == (rd l2 x19_4)) = true := beq_iff_eq.mpr c40
                    have c40b1 : ((rd t311 x19_4) != (rd l2 x19_4)) = false := bne_eq_false_iff_eq.mpr c40
                    clear c40
                    have H' := zA H
                    clear H
                    try go_wp2
                    have n0_ := zA (Kd.R_drew HO_7.out)
                    have n1_ := zA (zY HB.out)
                    clear HO_7
                    clear HB
                    have HO_7 := n0_
                    have HB := n1_
                    clear n0_ n1_
                    have p331 : 0 ≤ (x19_4 : Int) := of_decide_eq_true (by first | (with_reducible assumption) | assumption)
                    have q331 : x19_4 < (t311.length : Int) := of_decide_eq_true (by first | (with_reducible assumption) | assumption)
                    obtain ⟨ad331, e331, hx331_0⟩ := Kd.at_int (Kd.R_reads' HO_7.out).2.2 x19_4 p331 q331
                    cases e331
                    replace p331 := eq_true p331
                    replace q331 := eq_true q331
                    have p332 : 0 ≤ (x19_4 : Int) := of_decide_eq_true (by first | (with_reducible assumption) | assumption)
                    have q332 : x19_4 < (l2.length : Int) := of_decide_eq_true (by first | (with_reducible assumption) | assumption)
                    obtain ⟨ad332, e332, hx332_0⟩ := Kd.at_int HR2.out x19_4 p332 q332
                    have hw332_0 := hx332_0
                    cases e332
                    replace hx332_0 := (HB.out.cell (World.block_lt_of_cell? w _ hx332_0)).trans hx332_0
                    replace p332 := eq_true p332
                    replace q332 := eq_true q332
                    refine start_ (n := 9) (S := fun w' => w'.cell? (ad331.add (x19_4).toNat) = some (.int .i64 (rd t311 x19_4)) ∧ w'.cell? (ad332.add (x19_4).toNat) = some (.int .i64 (rd l2 x19_4))) (ds := []) #[false, false, false, false, false, false, false, false, false] (by kernel_rfl) rfl rfl ⟨hx331_0, ((HB.out.cell (World.block_lt_of_cell? w _ hw332_0)).trans hw332_0)⟩ (fun hHeld => ?_); refine with_tabW kimberlitelaw03_CurveBest.tab21 kimberlitelaw03_CurveBest.bits21 (fun HT_ HW_ => ?_)
                    generalize wc.drew = w41 at HO_7 HB hx331_0 hx332_0 hHeld ⊢
                    refine pure_ (i := 0) (N := some 142) (v := ?_) (a' := ?_) #[true, false, false, false, false, false, false, false, false] rfl rfl (any_of HT_.out (by kernel_rfl)) (fun _ _ _ h => h) (Or.inl ⟨by rfl, ?_⟩) ?_ ?_
                    rotate_left
                    ·
                     intro w'
                     go_simp
                     with_reducible rfl
                    rotate_left
                    ·
                     simp only [Act.put, List.setIfInBounds_toArray, List.set_cons_zero, List.set_cons_succ, i64_w, i32_w]
                     rfl
                    refine pure_ (i := 1) (N := some 143) (v := ?_) (a' := ?_) #[true, true, false, false, false, false, false, false, false] rfl rfl (any_of HT_.out (by kernel_rfl)) (fun _ _ _ h => h) (Or.inl ⟨by rfl, ?_⟩) ?_ ?_
                    rotate_left
                    ·
                     intro w'
                     go_simp
                     with_reducible rfl
                    rotate_left
                    ·
                     simp only [Act.put, List.setIfInBounds_toArray, List.set_cons_zero, List.set_cons_succ, i64_w, i32_w]
                     rfl
                    refine pure_ (i := 2) (N := some 144) (v := ?_) (a' := ?_) #[true, true, true, false, false, false, false, false, false] rfl rfl (any_of HT_.out (by kernel_rfl)) (fun _ _ _ h => h) (Or.inl ⟨by rfl, ?_⟩) ?_ ?_
                    rotate_left
                    ·
                     intro w'
                     go_simp
                     with_reducible rfl
                    rotate_left
                    ·
                     simp only [Act.put, List.setIfInBounds_toArray, List.set_cons_zero, List.set_cons_succ, i64_w, i32_w]
                     rfl
                    refine pure_ (i := 4) (N := some 146) (v := ?_) (a' := ?_) #[true, true, true, false, true, false, false, false, false] rfl rfl (any_of HT_.out (by kernel_rfl)) (fun _ _ _ h => h) (Or.inl ⟨by rfl, ?_⟩) ?_ ?_
                    rotate_left
                    ·
                     intro w'
                     go_simp
                     with_reducible rfl
                    rotate_left
                    ·
                     simp only [Act.put, List.setIfInBounds_toArray, List.set_cons_zero, List.set_cons_succ, i64_w, i32_w]
                     rfl
                    refine pure_ (i := 5) (N := some 147) (v := ?_) (a' := ?_) #[true, true, true, false, true, true, false, false, false] rfl rfl (any_of HT_.out (by kernel_rfl)) (fun _ _ _ h => h) (Or.inl ⟨by rfl, ?_⟩) ?_ ?_
                    rotate_left
                    ·
                     intro w'
                     go_simp
                     with_reducible rfl
                    rotate_left
                    ·
                     simp only [Act.put, List.setIfInBounds_toArray, List.set_cons_zero, List.set_cons_succ, i64_w, i32_w]
                     rfl
                    refine pure_ (i := 6) (N := some 148) (v := ?_) (a' := ?_) #[true, true, true, false, true, true, true, false, false] rfl rfl (any_of HT_.out (by kernel_rfl)) (fun _ _ _ h => h) (Or.inl ⟨by rfl, ?_⟩) ?_ ?_
                    rotate_left
                    ·
                     intro w'
                     go_simp
                     with_reducible rfl
                    rotate_left
                    ·
                     simp only [Act.put, List.setIfInBounds_toArray, List.set_cons_zero, List.set_cons_succ, i64_w, i32_w]
                     rfl
                    refine take_ (i := 3) (N := some 145) (v := ?_) (a' := ?_) #[true, true, true, true, true, true, true, false, false] rfl rfl (take_ofW HT_.out HW_.out (by kernel_rfl)) (fun _ _ _ h => h) (Or.inl ⟨by rfl, ?_⟩) hHeld ?_ ?_
                    rotate_left
                    ·
                     rintro w' ⟨s0, s1⟩
                     go_simp
                     with_reducible rfl
                    rotate_left
                    ·
                     simp only [Act.put, List.setIfInBounds_toArray, List.set_cons_zero, List.set_cons_succ, i64_w, i32_w]
                     rfl
                    refine take_ (i := 7) (N := some 149) (v := ?_) (a' := ?_) #[true, true, true, true, true, true, true, true, false] rfl rfl (take_ofW HT_.out HW_.out (by kernel_rfl)) (fun _ _ _ h => h) (Or.inl ⟨by rfl, ?_⟩) hHeld ?_ ?_
                    rotate_left
                    ·
                     rintro w' ⟨s0, s1⟩
                     go_simp
                     with_reducible rfl
                    rotate_left
                    ·
                     simp only [Act.put, List.setIfInBounds_toArray, List.set_cons_zero, List.set_cons_succ, i64_w, i32_w]
                     rfl
                    refine pure_ (i := 8) (N := some 150) (v := ?_) (a' := ?_) #[true, true, true, true, true, true, true, true, true] rfl rfl (any_of HT_.out (by kernel_rfl)) (fun _ _ _ h => h) (Or.inl ⟨by rfl, ?_⟩) ?_ ?_
                    rotate_left
                    ·
                     intro w'
                     go_simp
                     with_reducible rfl
                    rotate_left
                    ·
                     simp only [Act.put, List.setIfInBounds_toArray, List.set_cons_zero, List.set_cons_succ, i64_w, i32_w]
                     rfl
                    refine done_ (done_of HT_.out (by kernel_rfl)) ?_
                    try go_wp2
                    go_roundg kj32
                    case measure => have := HJ6.out; have := HK2.out; have := HJ27.out; have := HK4.out; have := HJ32.out; omega
                    case rel => exact ⟨(wrap64 (x19_4 + 1)), (by first | rfl | (simp; done) | (simp [*]; done)), H', ⟨by have := HJ6.out; have := HK2.out; have := HJ27.out; have := HK4.out; have := HJ32.out; omega⟩, ⟨by (with_reducible repeat (first | apply Kd.R_alloc | apply Kd.R_drewN | apply Kd.R_drew)); exact HO_7.out⟩, ⟨by repeat (first | (with_reducible first | exact HB.out | apply zW | apply zX | apply zY) | exact HB.out)⟩⟩
                   ·
                    rw [if_neg c40] at H
                    have c40b0 : ((rd t311 x19_4) == (rd l2 x19_4)) = false := beq_eq_false_iff_ne.mpr c40
                    have c40b1 : ((rd t311 x19_4) != (rd l2 x19_4)) = true := bne_iff_ne.mpr c40
                    by_cases c42 : (rd t311 x19_4) < (rd l2 x19_4)
                    ·
                     rw [if_pos c42] at H
                     have c42b0 : decide ((rd t311 x19_4) < (rd l2 x19_4)) = true := decide_eq_true c42
                     clear c42
                     replace H := Option.bind_eq_some_iff.mp H
                     obtain ⟨t335, A430, H⟩ := H
                     replace H : (some t335) = some r := H
                     have A43 := zA A430
                     clear A430
                     obtain rfl := Option.some.inj H
                     try go_wp2
                     have n0_ := zA (Kd.R_drew HO_7.out)
                     have n1_ := zA (zY HB.out)
                     clear HO_7
                     clear HB
                     have HO_7 := n0_
                     have HB := n1_
                     clear n0_ n1_
                     have p331 : 0 ≤ (x19_4 : Int) := of_decide_eq_true (by first | (with_reducible assumption) | assumption)
                     have q331 : x19_4 < (t311.length : Int) := of_decide_eq_true (by first | (with_reducible assumption) | assumption)
                     obtain ⟨ad331, e331, hx331_0⟩ := Kd.at_int (Kd.R_reads' HO_7.out).2.2 x19_4 p331 q331
                     cases e331
                     replace p331 := eq_true p331
                     replace q331 := eq_true q331
                     have p332 : 0 ≤ (x19_4 : Int) := of_decide_eq_true (by first | (with_reducible assumption) | assumption)
                     have q332 : x19_4 < (l2.length : Int) := of_decide_eq_true (by first | (with_reducible assumption) | assumption)
                     obtain ⟨ad332, e332, hx332_0⟩ := Kd.at_int HR2.out x19_4 p332 q332
                     have hw332_0 := hx332_0
                     cases e332
                     replace hx332_0 := (HB.out.cell (World.block_lt_of_cell? w _ hx332_0)).trans hx332_0
                     replace p332 := eq_true p332
                     replace q332 := eq_true q332
                     refine start_ (n := 9) (S := fun w' => w'.cell? (ad331.add (x19_4).toNat) = some (.int .i64 (rd t311 x19_4)) ∧ w'.cell? (ad332.add (x19_4).toNat) = some (.int .i64 (rd l2 x19_4))) (ds := []) #[false, false, false, false, false, false, false, false, false] (by kernel_rfl) rfl rfl ⟨hx331_0, ((HB.out.cell (World.block_lt_of_cell? w _ hw332_0)).trans hw332_0)⟩ (fun hHeld => ?_); refine with_tabW kimberlitelaw03_CurveBest.tab21 kimberlitelaw03_CurveBest.bits21 (fun HT_ HW_ => ?_)
                     generalize wc.drew = w44 at HO_7 HB hx331_0 hx332_0 hHeld ⊢
                     refine pure_ (i := 0) (N := some 142) (v := ?_) (a' := ?_) #[true, false, false, false, false, false, false, false, false] rfl rfl (any_of HT_.out (by kernel_rfl)) (fun _ _ _ h => h) (Or.inl ⟨by rfl, ?_⟩) ?_ ?_
                     rotate_left
                     ·
                      intro w'
                      go_simp
                      with_reducible rfl
                     rotate_left
                     ·
                      simp only [Act.put, List.setIfInBounds_toArray, List.set_cons_zero, List.set_cons_succ, i64_w, i32_w]
                      rfl
                     refine pure_ (i := 1) (N := some 143) (v := ?_) (a' := ?_) #[true, true, false, false, false, false, false, false, false] rfl rfl (any_of HT_.out (by kernel_rfl)) (fun _ _ _ h => h) (Or.inl ⟨by rfl, ?_⟩) ?_ ?_
                     rotate_left
                     ·
                      intro w'
                      go_simp
                      with_reducible rfl
                     rotate_left
                     ·
                      simp only [Act.put, List.setIfInBounds_toArray, List.set_cons_zero, List.set_cons_succ, i64_w, i32_w]
                      rfl
                     refine pure_ (i := 2) (N := some 144) (v := ?_) (a' := ?_) #[true, true, true, false, false, false, false, false, false] rfl rfl (any_of HT_.out (by kernel_rfl)) (fun _ _ _ h => h) (Or.inl ⟨by rfl, ?_⟩) ?_ ?_
                     rotate_left
                     ·
                      intro w'
                      go_simp
                      with_reducible rfl
                     rotate_left
                     ·
                      simp only [Act.put, List.setIfInBounds_toArray, List.set_cons_zero, List.set_cons_succ, i64_w, i32_w]
                      rfl
                     refine pure_ (i := 4) (N := some 146) (v := ?_) (a' := ?_) #[true, true, true, false, true, false, false, false, false] rfl rfl (any_of HT_.out (by kernel_rfl)) (fun _ _ _ h => h) (Or.inl ⟨by rfl, ?_⟩) ?_ ?_
                     rotate_left
                     ·
                      intro w'
                      go_simp
                      with_reducible rfl
                     rotate_left
                     ·
                      simp only [Act.put, List.setIfInBounds_toArray, List.set_cons_zero, List.set_cons_succ, i64_w, i32_w]
                      rfl
                     refine pure_ (i := 5) (N := some 147) (v := ?_) (a' := ?_) #[true, true, true, false, true, true, false, false, false] rfl rfl (any_of HT_.out (by kernel_rfl)) (fun _ _ _ h => h) (Or.inl ⟨by rfl, ?_⟩) ?_ ?_
                     rotate_left
                     ·
                      intro w'
                      go_simp
                      with_reducible rfl
                     rotate_left
                     ·
                      simp only [Act.put, List.setIfInBounds_toArray, List.set_cons_zero, List.set_cons_succ, i64_w, i32_w]
                      rfl
                     refine pure_ (i := 6) (N := some 148) (v := ?_) (a' := ?_) #[true, true, true, false, true, true, true, false, false] rfl rfl (any_of HT_.out (by kernel_rfl)) (fun _ _ _ h => h) (Or.inl ⟨by rfl, ?_⟩) ?_ ?_
                     rotate_left
                     ·
                      intro w'
                      go_simp
                      with_reducible rfl
                     rotate_left
                     ·
                      simp only [Act.put, List.setIfInBounds_toArray, List.set_cons_zero, List.set_cons_succ, i64_w, i32_w]
                      rfl
                     refine take_ (i := 3) (N := some 145) (v := ?_) (a' := ?_) #[true, true, true, true, true, true, true, false, false] rfl rfl (take_ofW HT_.out HW_.out (by kernel_rfl)) (fun _ _ _ h => h) (Or.inl ⟨by rfl, ?_⟩) hHeld ?_ ?_
                     rotate_left
                     ·
                      rintro w' ⟨s0, s1⟩
                      go_simp
                      with_reducible rfl
                     rotate_left
                     ·
                      simp only [Act.put, List.setIfInBounds_toArray, List.set_cons_zero, List.set_cons_succ, i64_w, i32_w]
                      rfl
                     refine take_ (i := 7) (N := some 149) (v := ?_) (a' := ?_) #[true, true, true, true, true, true, true, true, false] rfl rfl (take_ofW HT_.out HW_.out (by kernel_rfl)) (fun _ _ _ h => h) (Or.inl ⟨by rfl, ?_⟩) hHeld ?_ ?_
                     rotate_left
                     ·
                      rintro w' ⟨s0, s1⟩
                      go_simp
                      with_reducible rfl
                     rotate_left
                     ·
                      simp only [Act.put, List.setIfInBounds_toArray, List.set_cons_zero, List.set_cons_succ, i64_w, i32_w]
                      rfl
                     refine pure_ (i := 8) (N := some 150) (v := ?_) (a' := ?_) #[true, true, true, true, true, true, true, true, true] rfl rfl (any_of HT_.out (by kernel_rfl)) (fun _ _ _ h => h) (Or.inl ⟨by rfl, ?_⟩) ?_ ?_
                     rotate_left
                     ·
                      intro w'
                      go_simp
                      with_reducible rfl
                     rotate_left
                     ·
                      simp only [Act.put, List.setIfInBounds_toArray, List.set_cons_zero, List.set_cons_succ, i64_w, i32_w]
                      rfl
                     refine done_ (done_of HT_.out (by kernel_rfl)) ?_
                     try go_wp2
                     have n0_ := zA (Kd.R_drew HO_7.out)
                     have n1_ := zA (zY HB.out)
                     clear HO_7
                     clear HB
                     have HO_7 := n0_
                     have HB := n1_
                     clear n0_ n1_
                     have p333 : 0 ≤ (x19_4 : Int) := of_decide_eq_true (by first | (with_reducible assumption) | assumption)
                     have q333 : x19_4 < (t311.length : Int) := of_decide_eq_true (by first | (with_reducible assumption) | assumption)
                     obtain ⟨ad333, e333, hx333_0⟩ := Kd.at_int (Kd.R_reads' HO_7.out).2.2 x19_4 p333 q333
                     obtain rfl : ad331 = ad333 := (by injection e333)
                     replace p333 := eq_true p333
                     replace q333 := eq_true q333
                     have p334 : 0 ≤ (x19_4 : Int) := of_decide_eq_true (by first | (with_reducible assumption) | assumption)
                     have q334 : x19_4 < (l2.length : Int) := of_decide_eq_true (by first | (with_reducible assumption) | assumption)
                     obtain ⟨ad334, e334, hx334_0⟩ := Kd.at_int HR2.out x19_4 p334 q334
                     have hw334_0 := hx334_0
                     obtain rfl : ad332 = ad334 := (by injection e334)
                     replace hx334_0 := (HB.out.cell (World.block_lt_of_cell? w _ hx334_0)).trans hx334_0
                     replace p334 := eq_true p334
                     replace q334 := eq_true q334
                     refine start_ (n := 13) (S := fun w' => w'.cell? (ad331.add (x19_4).toNat) = some (.int .i64 (rd t311 x19_4)) ∧ w'.cell? (ad332.add (x19_4).toNat) = some (.int .i64 (rd l2 x19_4))) (ds := []) #[false, false, false, false, false, false, false, false, false, false, false, false, false] (by kernel_rfl) rfl rfl ⟨hx333_0, ((HB.out.cell (World.block_lt_of_cell? w _ hw334_0)).trans hw334_0)⟩ (fun hHeld => ?_); refine with_tabW kimberlitelaw03_CurveBest.tab22 kimberlitelaw03_CurveBest.bits22 (fun HT_ HW_ => ?_)
                     generalize w44.drew = w45 at HO_7 HB hx333_0 hx334_0 hHeld ⊢
                     refine pure_ (i := 0) (N := some 151) (v := ?_) (a' := ?_) #[true, false, false, false, false, false, false, false, false, false, false, false, false] rfl rfl (any_of HT_.out (by kernel_rfl)) (fun _ _ _ h => h) (Or.inl ⟨by rfl, ?_⟩) ?_ ?_
                     rotate_left
                     ·
                      intro w'
                      go_simp
                      with_reducible rfl
                     rotate_left
                     ·
                      simp only [Act.put, List.setIfInBounds_toArray, List.set_cons_zero, List.set_cons_succ, i64_w, i32_w]
                      rfl
                     refine pure_ (i := 1) (N := some 152) (v := ?_) (a' := ?_) #[true, true, false, false, false, false, false, false, false, false, false, false, false] rfl rfl (any_of HT_.out (by kernel_rfl)) (fun _ _ _ h => h) (Or.inl ⟨by rfl, ?_⟩) ?_ ?_
                     rotate_left
                     ·
                      intro w'
                      go_simp
                      with_reducible rfl
                     rotate_left
                     ·
                      simp only [Act.put, List.setIfInBounds_toArray, List.set_cons_zero, List.set_cons_succ, i64_w, i32_w]
                      rfl
                     refine pure_ (i := 2) (N := some 153) (v := ?_) (a' := ?_) #[true, true, true, false, false, false, false, false, false, false, false, false, false] rfl rfl (any_of HT_.out (by kernel_rfl)) (fun _ _ _ h => h) (Or.inl ⟨by rfl, ?_⟩) ?_ ?_
                     rotate_left
                     ·
                      intro w'
                      go_simp
                      with_reducible rfl
                     rotate_left
                     ·
                      simp only [Act.put, List.setIfInBounds_toArray, List.set_cons_zero, List.set_cons_succ, i64_w, i32_w]
                      rfl
                     refine pure_ (i := 4) (N := some 155) (v := ?_) (a' := ?_) #[true, true, true, false, true, false, false, false, false, false, false, false, false] rfl rfl (any_of HT_.out (by kernel_rfl)) (fun _ _ _ h => h) (Or.inl ⟨by rfl, ?_⟩) ?_ ?_
                     rotate_left
                     ·
                      intro w'
                      go_simp
                      with_reducible rfl
                     rotate_left
                     ·
                      simp only [Act.put, List.setIfInBounds_toArray, List.set_cons_zero, List.set_cons_succ, i64_w, i32_w]
                      rfl
                     refine pure_ (i := 5) (N := some 156) (v := ?_) (a' := ?_) #[true, true, true, false, true, true, false, false, false, false, false, false, false] rfl rfl (any_of HT_.out (by kernel_rfl)) (fun _ _ _ h => h) (Or.inl ⟨by rfl, ?_⟩) ?_ ?_
                     rotate_left
                     ·
                      intro w'
                      go_simp
                      with_reducible rfl
                     rotate_left
                     ·
                      simp only [Act.put, List.setIfInBounds_toArray, List.set_cons_zero, List.set_cons_succ, i64_w, i32_w]
                      rfl
                     refine pure_ (i := 6) (N := some 157) (v := ?_) (a' := ?_) #[true, true, true, false, true, true, true, false, false, false, false, false, false] rfl rfl (any_of HT_.out (by kernel_rfl)) (fun _ _ _ h => h) (Or.inl ⟨by rfl, ?_⟩) ?_ ?_
                     rotate_left
                     ·
                      intro w'
                      go_simp
                      with_reducible rfl
                     rotate_left
                     ·
                      simp only [Act.put, List.setIfInBounds_toArray, List.set_cons_zero, List.set_cons_succ, i64_w, i32_w]
                      rfl
                     refine take_ (i := 3) (N := some 154) (v := ?_) (a' := ?_) #[true, true, true, true, true, true, true, false, false, false, false, false, false] rfl rfl (take_ofW HT_.out HW_.out (by kernel_rfl)) (fun _ _ _ h => h) (Or.inl ⟨by rfl, ?_⟩) hHeld ?_ ?_
                     rotate_left
                     ·
                      rintro w' ⟨s0, s1⟩
                      go_simp
                      with_reducible rfl
                     rotate_left
                     ·
                      simp only [Act.put, List.setIfInBounds_toArray, List.set_cons_zero, List.set_cons_succ, i64_w, i32_w]
                      rfl
                     refine take_ (i := 7) (N := some 158) (v := ?_) (a' := ?_) #[true, true, true, true, true, true, true, true, false, false, false, false, false] rfl rfl (take_ofW HT_.out HW_.out (by kernel_rfl)) (fun _ _ _ h => h) (Or.inl ⟨by rfl, ?_⟩) hHeld ?_ ?_
                     rotate_left
                     ·
                      rintro w' ⟨s0, s1⟩
                      go_simp
                      with_reducible rfl
                     rotate_left
                     ·
                      simp only [Act.put, List.setIfInBounds_toArray, List.set_cons_zero, List.set_cons_succ, i64_w, i32_w]
                      rfl
                     refine pure_ (i := 8) (N := some 159) (v := ?_) (a' := ?_) #[true, true, true, true, true, true, true, true, true, false, false, false, false] rfl rfl (any_of HT_.out (by kernel_rfl)) (fun _ _ _ h => h) (Or.inl ⟨by rfl, ?_⟩) ?_ ?_
                     rotate_left
                     ·
                      intro w'
                      go_simp
                      with_reducible rfl
                     rotate_left
                     ·
                      simp only [Act.put, List.setIfInBounds_toArray, List.set_cons_zero, List.set_cons_succ, i64_w, i32_w]
                      rfl
                     refine pure_ (i := 9) (N := some 160) (v := ?_) (a' := ?_) #[true, true, true, true, true, true, true, true, true, true, false, false, false] rfl rfl (any_of HT_.out (by kernel_rfl)) (fun _ _ _ h => h) (Or.inl ⟨by rfl, ?_⟩) ?_ ?_
                     rotate_left
                     ·
                      intro w'
                      go_simp
                      with_reducible rfl
                     rotate_left
                     ·
                      simp only [Act.put, List.setIfInBounds_toArray, List.set_cons_zero, List.set_cons_succ, i64_w, i32_w]
                      rfl
                     refine one_ (i := 10) (N := some 161) #[true, true, true, true, true, true, true, true, true, true, true, false, false] rfl rfl (one_of HT_.out (by kernel_rfl)) (by decide) (fun K hK => ?_)
                     refine goes_ Try.func17 (by kernel_rfl) rfl #[] (by rfl) rfl rfl (by (try simp only [List.map_toArray, List.map_cons, List.map_nil]); first | done | rfl | (simp only [List.length_drop, List.length_take]; rfl)) ?_
                     with_reducible refine (kimberlitelaw03_alive.calls  t335 _ A43.out).mono ?_
                     rintro e w46 ⟨rfl, hb⟩
                     have HS0_ := (hb.cell (World.block_lt_of_cell? _ _ (hHeld.1))).trans (hHeld.1)
                     refine ⟨_, rfl, ?_⟩
                     have n0_ := zA (Kd.R_below (by (with_reducible repeat (first | apply Kd.R_alloc | apply Kd.R_drewN | apply Kd.R_drew)); exact HO_7.out) hb)
                     have n1_ := zA (below_step (by repeat (first | (with_reducible first | exact HB.out | apply zW | apply zX | apply zY) | exact HB.out)) hb)
                     clear HO_7
                     clear HB
                     have HO_7 := n0_
                     have HB := n1_
                     clear n0_ n1_
                     (try clear hb)
                     (try clear hb2)
                     (try clear hk)
                     (try clear hi)
                     refine hK.out _ _ ⟨HS0_, ((HB.out.cell (World.block_lt_of_cell? w _ hw334_0)).trans hw334_0)⟩ (fun hHeld => ?_)
                     clear hK K
                     refine norm_ (a' := ?_) ?_ ?_
                     rotate_left
                     ·
                      show Act.put _ (some 161) _ = _
                      simp only [Act.put, List.setIfInBounds_toArray, List.set_cons_zero, List.set_cons_succ, i64_w, i32_w]
                      rfl
                     refine pure_ (i := 11) (N := some 162) (v := ?_) (a' := ?_) #[true, true, true, true, true, true, true, true, true, true, true, true, false] rfl rfl (any_of HT_.out (by kernel_rfl)) (fun _ _ _ h => h) (Or.inl ⟨by rfl, ?_⟩) ?_ ?_
                     rotate_left
                     ·
                      intro w'
                      go_simp
                      with_reducible rfl
                     rotate_left
                     ·
                      simp only [Act.put, List.setIfInBounds_toArray, List.set_cons_zero, List.set_cons_succ, i64_w, i32_w]
                      rfl
                     refine pure_ (i := 12) (N := some 6) (v := ?_) (a' := ?_) #[true, true, true, true, true, true, true, true, true, true, true, true, true] rfl rfl (any_of HT_.out (by kernel_rfl)) (fun _ _ _ h => h) (Or.inl ⟨by rfl, ?_⟩) ?_ ?_
                     rotate_left
                     ·
                      intro w'
                      go_simp
                      with_reducible rfl
                     rotate_left
                     ·
                      simp only [Act.put, List.setIfInBounds_toArray, List.set_cons_zero, List.set_cons_succ, i64_w, i32_w]
                      rfl
                     refine done_ (done_of HT_.out (by kernel_rfl)) ?_
                     try go_wp2
                     go_ret
                     exact ⟨by first | rfl | (simp [errW_none, errW_some] <;> rfl) | (simp [*, errW_none, errW_some] <;> rfl), by repeat (first | (with_reducible first | exact HB.out | apply zW | apply zX | apply zY) | exact HB.out)⟩
                    ·
                     rw [if_neg c42] at H
                     have c42b0 : decide ((rd t311 x19_4) < (rd l2 x19_4)) = false := decide_eq_false c42
                     clear c42
                     exact absurd H (by simp)
                  ·
                   rw [if_neg c39] at H
                   exact absurd H (by simp)
                 ·
                  rw [if_neg c38] at H
                  exact absurd H (by simp)
                ·
                 rw [if_neg c37] at H
                 exact absurd H (by simp)
               ·
                replace c36 := Bool.eq_false_iff.mpr c36
                subst c36
                have H1 : ((kimberlitelaw03_alive.f).bind fun t336 => (some t336)) = some r := by rw [if_neg (show ¬ (false = true) by decide)] at H; exact H
                clear H
                have H := H1
                clear H1
                replace H := Option.bind_eq_some_iff.mp H
                obtain ⟨t336, A470, H⟩ := H
                replace H : (some t336) = some r := H
                have A47 := zA A470
                clear A470
                obtain rfl := Option.some.inj H
                go_wp2_with (first | ((with_reducible refine gate_callee (f := 17) rfl ?_); refine goesL_ (some 163) rfl rfl Try.func17 (by kernel_rfl) rfl #[] rfl (by (try simp only [List.map_toArray, List.map_cons, List.map_nil]); first | done | rfl | (simp only [List.length_drop, List.length_take]; rfl)) ?_; (with_reducible refine (kimberlitelaw03_alive.calls  t336 _ A47.out).mono ?_); rintro e w48 ⟨rfl, hb⟩; refine ⟨_, rfl, ?_⟩; have n0_ := zA (Kd.R_below (by (with_reducible repeat (first | apply Kd.R_alloc | apply Kd.R_drewN | apply Kd.R_drew)); exact HO_7.out) hb); have n1_ := zA (below_step (by repeat (first | (with_reducible first | exact HB.out | apply zW | apply zX | apply zY) | exact HB.out)) hb); clear HO_7; clear HB; have HO_7 := n0_; have HB := n1_; clear n0_ n1_; (try clear hb); (try clear hb2); (try clear hk); (try clear hi)))
                go_ret
                exact ⟨by first | rfl | (simp [errW_none, errW_some] <;> rfl) | (simp [*, errW_none, errW_some] <;> rfl), by repeat (first | (with_reducible first | exact HB.out | apply zW | apply zX | apply zY) | exact HB.out)⟩
 ·
  rw [if_neg c5] at H
  have c5b0 : (t314 == 0) = false := beq_eq_false_iff_ne.mpr c5
  have c5b1 : (t314 != 0) = true := bne_iff_ne.mpr c5
  by_cases c49 : (t311.length : Int) = 0
  ·
   rw [if_pos c49] at H
   have c49b0 : ((t311.length : Int) == 0) = true := beq_iff_eq.mpr c49
   have c49b1 : ((t311.length : Int) != 0) = false := bne_eq_false_iff_eq.mpr c49
   clear c49
   by_cases c50 : t312 = 0
   ·
    rw [if_pos c50] at H
    have c50b0 : (t312 == 0) = true := beq_iff_eq.mpr c50
    have c50b1 : (t312 != 0) = false := bne_eq_false_iff_eq.mpr c50
    clear c50
    by_cases c51 : t313 = 0
    ·
     rw [if_pos c51] at H
     have c51b0 : (t313 == 0) = true := beq_iff_eq.mpr c51
     have c51b1 : (t313 != 0) = false := bne_eq_false_iff_eq.mpr c51
     clear c51
     replace H := Option.bind_eq_some_iff.mp H
     obtain ⟨t317, A520, H⟩ := H
     replace H : (some t317) = some r := H
     have A52 := zA A520
     clear A520
     obtain rfl := Option.some.inj H
     go_enter Try.func4, Try.ntmps4
     go_wp2_with (first | ((with_reducible refine gate_callee (f := 19) rfl ?_); refine goesL_ (some 23) rfl rfl Try.func19 (by kernel_rfl) rfl #[.slice A0 l0.length c0, .int .i64 a1] rfl (by (try simp only [List.map_toArray, List.map_cons, List.map_nil]); first | done | rfl | (simp only [List.length_drop, List.length_take]; rfl)) ?_; (with_reducible refine (curve_Split.calls _ _ l0 a1 t311 t312 t313 t314 _ ?side1 ?side2 A4.out).mono ?_); (case side1 => repeat (first | exact HR0.out | (with_reducible refine Kd.C_alloc ?_ _) | (with_reducible refine Kd.C_drewN ?_ _) | (with_reducible refine Kd.C_drew ?_))); (case side2 => exact HC0.out); rintro e w53 ⟨v315, rfl, ho0, hb⟩; refine ⟨_, rfl, ?_⟩; have n0_ := zA (Kd.R_lower ho0 (below_size (by repeat (first | (with_reducible first | exact HB.out | apply zW | apply zX | apply zY) | exact HB.out)))); have n1_ := zA (below_step (by repeat (first | (with_reducible first | exact HB.out | apply zW | apply zX | apply zY) | exact HB.out)) hb); clear HB; have HO56 := n0_; have HB := n1_; clear n0_ n1_; (try clear hb); (try clear hb2); (try clear hk); (try clear hi); (try clear ho0); obtain ⟨Ao54, co54, eo54⟩ := Kd.R_slice HO56.out; subst eo54) | (go_at_call 17; (with_reducible refine (kimberlitelaw03_alive.calls  t317 _ A52.out).mono ?_); rintro e w55 ⟨rfl, hb⟩; have n0_ := zA (Kd.R_below (by (with_reducible repeat (first | apply Kd.R_alloc | apply Kd.R_drewN | apply Kd.R_drew)); exact HO56.out) hb); have n1_ := zA (below_step (by repeat (first | (with_reducible first | exact HB.out | apply zW | apply zX | apply zY) | exact HB.out)) hb); clear HO56; clear HB; have HO56 := n0_; have HB := n1_; clear n0_ n1_; (try clear hb); (try clear hb2); (try clear hk); (try clear hi)))
     go_ret
     exact ⟨by first | rfl | (simp [errW_none, errW_some] <;> rfl) | (simp [*, errW_none, errW_some] <;> rfl), by repeat (first | (with_reducible first | exact HB.out | apply zW | apply zX | apply zY) | exact HB.out)⟩
    ·
     rw [if_neg c51] at H
     exact absurd H (by simp)
   ·
    rw [if_neg c50] at H
    exact absurd H (by simp)
  ·
   rw [if_neg c49] at H
   exact absurd H (by simp)
end Go.Proofs.Ytfeeaipbmpmpgaa.PX

namespace Go.Proofs.Ytfeeaipbmpmpgaa.PX
open Go.RowKit Go.Proofs.YtfeeaipbmpmpgaaW.PrintWords Go.Proofs.YtfeeaipbmpmpgaaW.PrintLast Go.Proofs.YtfeeaipbmpmpgaaW.PrintMore
open Go.ChangeShapes Go.WideShapes Go.Deep Go.Joins
set_option linter.unusedVariables false
set_option linter.unusedSimpArgs false

section
variable {H : Type} {enc : TypeId × Value → H} {P : Program} {w : World} {base : Nat} {spare : Nat → Bool} {held : Bool}
/-- A slice of structs of one-cell fields, opened to its cells. -/
theorem open_slice_fields {t e : TypeId} {fs : Array Field} {fuel : Nat} {cs : List Value} {x : DataW H × List MemPlace} (ht : P.underlying t = some (.slice e)) (he : P.underlying e = some (.struct fs))
    (hone : oneCellFields P fs = true) (hC : P.cellsOf e = fs.size) (h : DataW.trod enc P w base spare held fuel t cs = some x) :
    (cs = [.slice none 0 0] ∧ x = (.nil, [])) ∨
    ∃ (a : Addr) (len cap m : Nat) (D : Nat → DataW H) (Pl : Nat → List MemPlace), cs = [.slice (some a) len cap] ∧ base ≤ a.block ∧ len ≤ cap ∧ cap ≤ maxLen ∧ m = (if spare a.block then cap else len) ∧
      x = (.slice ((List.range len).map D) ((List.range (m - len)).map fun j => D (len + j)), MemPlace.row a (m * fs.size) ++ (List.range m).flatMap Pl) ∧
      ∀ i, i < m → ∃ (ys : List (DataW H × List MemPlace)) (n : Nat), D i = .agg (ys.map (·.1)) ∧ Pl i = ys.flatMap (·.2) ∧ ys.length = fs.size ∧
        ∀ (j : Nat) (f : Field), fs[j]? = some f → ∃ (v : Value) (y : DataW H × List MemPlace), w.cell? (a.add (i * fs.size + j)) = some v ∧ ys[j]? = some y ∧ DataW.trod enc P w base spare held n f.type [v] = some y := by
  rcases open_slice ht h with h0 | ⟨a, len, cap, m, n, D, Pl, hcs, hb, hl, hm, hmm, hx, hi⟩
  · exact .inl h0
  · refine .inr ⟨a, len, cap, m, D, Pl, hcs, hb, hl, hm, hmm, by rw [hC] at hx; exact hx, fun i him => ?_⟩
    obtain ⟨cs', hc, ht'⟩ := hi i him
    rw [hC] at hc
    obtain ⟨ys, n', hn', hy, hlen, hyl, hf⟩ := DataW.trod_struct he ht'
    obtain ⟨_, hcl, hat⟩ := World.cells?_some hc
    simp only [Prod.mk.injEq] at hy
    refine ⟨ys, n', hy.1, hy.2, hyl, fun j f hj => ?_⟩
    obtain ⟨ho, hk⟩ := hone_of hone j f hj
    have hjl : j < fs.size := (Array.getElem?_eq_some_iff.1 hj).1
    have hcell := hat j hjl
    have hv : cs'[j]? = some (cs'[j]'(by omega)) := List.getElem?_eq_getElem (by omega)
    have h1 := hf j f hj
    rw [ho, hk] at h1
    have hone' : (cs'.drop j).take 1 = [cs'[j]'(by omega)] := by
      rw [List.drop_eq_getElem_cons (by omega)]
      rfl
    rw [hone'] at h1
    have hys : ys[j]? = some (ys[j]'(by omega)) := List.getElem?_eq_getElem (by omega)
    refine ⟨_, _, ?_, hys, h1.trans hys⟩
    rw [← Go.Deep.add_add, hcell, hv]
end
def I64 (x : Int) : Prop := -9223372036854775808 ≤ x ∧ x ≤ 9223372036854775807
theorem i64_of_wf {x : Int} (h : (Lit.int .i64 x).wf = true) : I64 x := by
  simp [Lit.wf, IntKind.min, IntKind.max, IntKind.signed, IntKind.bits] at h
  unfold I64
  omega
section
variable {H : Type} {enc : TypeId × Value → H} {w : World} {base : Nat} {spare : Nat → Bool} {held : Bool}
/-- A slice of ints, as the walk takes it. -/
theorem open_introw {n : Nat} {v : Value} {y : DataW H × List MemPlace} (h : DataW.trod enc Try.prog w base spare held n 22 [v] = some y) :
    ∃ A c l, v = .slice A l.length c ∧ l.length ≤ c ∧ Kd.C (Kd.int .i64) w A l.length l ∧ ∀ x ∈ l, I64 x := by
  rcases open_ints Try.underlying22 Try.underlying3 (by kernel_rfl) h with ⟨hcs, _⟩ | ⟨x, l, c, zs, hcs, _, hl, hm, hz, _, hcell, hwz⟩
  · obtain rfl : v = .slice none 0 0 := by simpa using hcs
    exact ⟨none, 0, [], rfl, by simp, ⟨rfl, by simp, fun h => by simp at h⟩, by simp⟩
  · obtain rfl : v = .slice (some x) l c := by simpa using hcs
    have hzl : l ≤ zs.length := by
      rw [hz]
      split <;> omega
    have hlen : (zs.take l).length = l := by simp; omega
    unfold maxLen at hm
    refine ⟨some x, c, zs.take l, by rw [hlen], by rw [hlen]; exact hl, ?_, fun n hn => i64_of_wf (hwz n (List.mem_of_mem_take hn))⟩
    rw [hlen]
    refine ⟨hlen, by omega, fun _ => ⟨x, rfl, fun j p hj => ⟨[.int .i64 p], rfl, rfl, fun i u hu => ?_⟩⟩⟩
    have hs : (Kd.int .i64).sz = 1 := rfl
    have hjl : j < l := by
      have := (List.getElem?_eq_some_iff.1 hj).1
      omega
    cases i with
    | succ i => simp at hu
    | zero =>
      have hu' : Value.int .i64 p = u := by simpa using hu
      subst hu'
      rw [hs, Nat.mul_one, Nat.add_zero, hcell j (by omega)]
      rw [List.getElem?_take_of_lt hjl] at hj
      rw [List.getD_eq_getElem?_getD, hj]
      rfl
def CurveI (a b : Int) (l : List Int) : Prop := I64 a ∧ I64 b ∧ ∀ x ∈ l, I64 x
set_option maxRecDepth 100000 in
theorem open_curve {r : Reach} {b0 : Nat} {v : Value} {d : DataW H} {p : List MemPlace} (hv : Value.okWide Try.prog w r b0 24 v) (h : DataW.Trod enc Try.prog w base spare held 24 v d p) :
    ∃ a b l A c, v = .agg #[.int .i64 a, .int .i64 b, .slice A l.length c] ∧ l.length ≤ c ∧ Kd.C (Kd.int .i64) w A l.length l ∧ CurveI a b l := by
  obtain ⟨c0, c1, c2, y0, y1, y2, m, rfl, rfl, rfl, hy0, hy1, hy2⟩ := open_agg3 Try.underlying24 (by kernel_rfl) (by kernel_rfl) hv h
  obtain ⟨a, e0, _, wa⟩ := DataW.trod_int Try.underlying3 hy0
  obtain ⟨b, e1, _, wb⟩ := DataW.trod_int Try.underlying3 hy1
  obtain ⟨A, c, l, rfl, hl, hC, hw⟩ := open_introw hy2
  simp at e0 e1
  subst e0 e1
  exact ⟨a, b, l, A, c, rfl, hl, hC, i64_of_wf wa, i64_of_wf wb, hw⟩
set_option maxRecDepth 100000 in
theorem open_curves {r : Reach} {b0 : Nat} {v : Value} {d : DataW H} {p : List MemPlace} (hv : Value.okWide Try.prog w r b0 34 v) (h : DataW.Trod enc Try.prog w base spare held 34 v d p) :
    ∃ A c l, v = .slice A l.length c ∧ l.length ≤ c ∧ Kd.C k24 w A l.length l ∧ ∀ s ∈ l, CurveI s.f0 s.f1 s.f2 := by
  obtain ⟨A, len, cap, rfl⟩ := okWide_slice Try.underlying34 hv
  obtain ⟨fuel, hf⟩ := h
  rcases open_slice_fields Try.underlying34 Try.underlying24 (by kernel_rfl) (by kernel_rfl) hf with ⟨hcs, _⟩ | ⟨a, len', cap', m, D, Pl, hcs, _, hl, hm, hmm, _, hi⟩
  · simp [Value.cells] at hcs
    obtain ⟨rfl, rfl, rfl⟩ := hcs
    exact ⟨none, 0, [], rfl, by simp, ⟨rfl, by simp, fun h => by simp at h⟩, by simp⟩
  · simp [Value.cells] at hcs
    obtain ⟨rfl, rfl, rfl⟩ := hcs
    unfold maxLen at hm
    have hlm : len ≤ m := by rw [hmm]; split <;> omega
    have hs : k24.sz = 3 := rfl
    have key : ∀ n, n ≤ len → ∃ l : List S24, l.length = n ∧ (∀ s ∈ l, CurveI s.f0 s.f1 s.f2) ∧ ∀ j p, l[j]? = some p → ∃ c, c.length = k24.sz ∧ k24.K w p c ∧ ∀ i u, c[i]? = some u → w.cell? (a.add (j * k24.sz + i)) = some u := by
      intro n
      induction n with
      | zero => exact fun _ => ⟨[], rfl, by simp, by simp⟩
      | succ n ih =>
        intro hn
        obtain ⟨l, hll, hlI, hlc⟩ := ih (by omega)
        obtain ⟨ys, n1, _, _, _, hfs⟩ := hi n (by omega)
        obtain ⟨v0, y0, k0, _, t0⟩ := hfs 0 _ rfl
        obtain ⟨v1, y1, k1, _, t1⟩ := hfs 1 _ rfl
        obtain ⟨v2, y2, k2, _, t2⟩ := hfs 2 _ rfl
        obtain ⟨x0, e0, _, wa⟩ := DataW.trod_int Try.underlying3 t0
        obtain ⟨x1, e1, _, wb⟩ := DataW.trod_int Try.underlying3 t1
        obtain ⟨A2, c2, l2, rfl, hl2, hC2, hw2⟩ := open_introw t2
        simp at e0 e1
        subst e0 e1
        refine ⟨l ++ [⟨x0, x1, l2⟩], by simp [hll], fun s hs => ?_, fun j p hj => ?_⟩
        · rcases List.mem_append.1 hs with hs | hs
          · exact hlI s hs
          · rw [List.mem_singleton.1 hs]
            exact ⟨i64_of_wf wa, i64_of_wf wb, hw2⟩
        · by_cases hjn : j < l.length
          · rw [List.getElem?_append_left hjn] at hj
            exact hlc j p hj
          · have hjn' : j = n := by
              have := (List.getElem?_eq_some_iff.1 hj).1
              simp at this
              omega
            subst hjn'
            have hp : p = ⟨x0, x1, l2⟩ := by
              rw [← hll] at hj
              simpa using hj.symm
            subst hp
            refine ⟨_, rfl, k24_mk w ⟨x0, x1, l2⟩ hl2 hC2, fun i u hu => ?_⟩
            rw [hs]
            match i with
            | 0 => obtain rfl : Value.int .i64 x0 = u := by simpa using hu
                   exact k0
            | 1 => obtain rfl : Value.int .i64 x1 = u := by simpa using hu
                   exact k1
            | 2 => obtain rfl : Value.slice A2 l2.length c2 = u := by simpa using hu
                   exact k2
            | i + 3 => simp at hu
    obtain ⟨l, hll, hlI, hlc⟩ := key len (Nat.le_refl _)
    exact ⟨some a, cap, l, by rw [hll], by omega, ⟨rfl, by omega, fun _ => ⟨a, rfl, hlc⟩⟩, hlI⟩
set_option maxRecDepth 100000 in
theorem open_ints22 {r : Reach} {b0 : Nat} {v : Value} {d : DataW H} {p : List MemPlace} (hv : Value.okWide Try.prog w r b0 22 v) (h : DataW.Trod enc Try.prog w base spare held 22 v d p) :
    ∃ A c l, v = .slice A l.length c ∧ l.length ≤ c ∧ Kd.C (Kd.int .i64) w A l.length l ∧ ∀ x ∈ l, I64 x := by
  obtain ⟨A, len, cap, rfl⟩ := okWide_slice Try.underlying22 hv
  obtain ⟨fuel, hf⟩ := h
  exact open_introw (v := .slice A len cap) (by simpa [Value.cells] using hf)
end
end Go.Proofs.Ytfeeaipbmpmpgaa.PX

namespace Go.Proofs.Ytfeeaipbmpmpgaa.PX
open Go.RowKit Go.Proofs.YtfeeaipbmpmpgaaW.PrintWords Go.Proofs.YtfeeaipbmpmpgaaW.PrintLast Go.Proofs.YtfeeaipbmpmpgaaW.PrintMore
set_option linter.unusedVariables false
set_option linter.unusedSimpArgs false

/-! ### sums of the first slopes -/
def sm (l : List Int) (i : Nat) : Int := (l.take i).sum
theorem sm_zero (l : List Int) : sm l 0 = 0 := rfl
theorem sm_nil (i : Nat) : sm [] i = 0 := by simp [sm]
theorem sm_cons (x : Int) (l : List Int) (i : Nat) : sm (x :: l) (i + 1) = x + sm l i := by simp [sm]
theorem sm_succ (l : List Int) (i : Nat) (h : i < l.length) : sm l (i + 1) = sm l i + l[i] := by
  unfold sm
  rw [List.take_succ_eq_append_getElem h, List.sum_append]
  simp
theorem sm_bound (l : List Int) (B : Int) (hB : 0 ≤ B) (h : ∀ s ∈ l, -B ≤ s ∧ s ≤ B) (i : Nat) : -(B * l.length) ≤ sm l i ∧ sm l i ≤ B * l.length := by
  induction l generalizing i with
  | nil => simp [sm]
  | cons x l ih =>
    cases i with
    | zero => simp only [sm_zero]; have : 0 ≤ B * ((x :: l).length : Int) := Int.mul_nonneg hB (by omega); omega
    | succ i =>
      rw [sm_cons]
      have h1 := h x List.mem_cons_self
      have h2 := ih (fun s hs => h s (List.mem_cons_of_mem _ hs)) i
      have e : B * ((x :: l).length : Int) = B * (l.length : Int) + B := by simp [Int.mul_add]
      omega
theorem addup_eq (b : Int) (l : List Int) (hl : l.length ≤ 100) (hb : -4398046511104 ≤ b ∧ b ≤ 4398046511104) (h : ∀ s ∈ l, -2097152 ≤ s ∧ s ≤ 2097152) : addup b l = b + l.sum := by
  have key : ∀ n, n ≤ l.length → addup b (l.take n) = b + sm l n := by
    intro n
    induction n with
    | zero => intro _; simp [addup, sm]
    | succ n ih =>
      intro hn
      have h1 := ih (by omega)
      rw [addup_snoc b l n (by omega), h1, sm_succ l n (by omega), rd_getElem l n (by omega)]
      have h2 := sm_bound l 2097152 (by omega) h n
      have h3 := h _ (List.getElem_mem (by omega : n < l.length))
      rw [w64 (by omega) (by omega)]
      omega
  have := key l.length (Nat.le_refl _)
  rw [List.take_length] at this
  rw [this]
  simp [sm]
theorem addup_take (b : Int) (l : List Int) (n : Nat) (hl : l.length ≤ 100) (hb : -4398046511104 ≤ b ∧ b ≤ 4398046511104) (h : ∀ s ∈ l, -2097152 ≤ s ∧ s ≤ 2097152) : addup b (l.take n) = b + sm l n :=
  addup_eq b (l.take n) (by simp; omega) hb (fun s hs => h s (List.mem_of_mem_take hs))

/-! ### merged -/
def mrg : List Int → List Int → List Int
  | [], m => m
  | x :: l, [] => x :: l
  | x :: l, y :: m => if x ≤ y then x :: mrg l (y :: m) else y :: mrg (x :: l) m
theorem mrg_nil_right (l : List Int) : mrg l [] = l := by cases l <;> simp [mrg]
theorem mrg_perm (l m : List Int) : (mrg l m).Perm (l ++ m) := by
  induction l, m using mrg.induct with
  | case1 m => simp [mrg]
  | case2 x l => simp [mrg]
  | case3 x l y m h ih => simp only [mrg, if_pos h]; exact ih.cons x
  | case4 x l y m h ih =>
    simp only [mrg, if_neg h]
    exact (ih.cons y).trans (List.perm_middle.symm)
theorem mrg_length (l m : List Int) : (mrg l m).length = l.length + m.length := by rw [(mrg_perm l m).length_eq, List.length_append]
theorem mrg_sorted (l m : List Int) (hl : l.Pairwise (· ≤ ·)) (hm : m.Pairwise (· ≤ ·)) : (mrg l m).Pairwise (· ≤ ·) := by
  induction l, m using mrg.induct with
  | case1 m => simpa [mrg] using hm
  | case2 x l => simpa [mrg] using hl
  | case3 x l y m h ih =>
    simp only [mrg, if_pos h]
    rw [List.pairwise_cons] at hl ⊢
    refine ⟨fun z hz => ?_, ih hl.2 hm⟩
    rcases List.mem_append.1 ((mrg_perm l (y :: m)).mem_iff.1 hz) with hz | hz
    · exact hl.1 z hz
    · rcases List.mem_cons.1 hz with rfl | hz
      · exact h
      · have := (List.pairwise_cons.1 hm).1 z hz
        omega
  | case4 x l y m h ih =>
    simp only [mrg, if_neg h]
    rw [List.pairwise_cons] at hm ⊢
    refine ⟨fun z hz => ?_, ih hl hm.2⟩
    rcases List.mem_append.1 ((mrg_perm (x :: l) m).mem_iff.1 hz) with hz | hz
    · rcases List.mem_cons.1 hz with rfl | hz
      · omega
      · have := (List.pairwise_cons.1 hl).1 z hz
        omega
    · exact hm.1 z hz
theorem sortI_sorted (l : List Int) : (sortI l).Pairwise (· ≤ ·) := by
  have h := List.pairwise_mergeSort (le := fun x y : Int => decide (x ≤ y)) (fun a b c h1 h2 => by simp at *; omega) (fun a b => by simp; omega) l
  exact h.imp (fun h => by simpa using h)
theorem sortI_perm (l : List Int) : (sortI l).Perm l := List.mergeSort_perm l _
theorem sorted_eq {l m : List Int} (hl : l.Pairwise (· ≤ ·)) (hm : m.Pairwise (· ≤ ·)) (h : l.Perm m) : l = m :=
  h.eq_of_pairwise (le := (· ≤ ·)) (fun a b _ _ h1 h2 => Int.le_antisymm h1 h2) hl hm
theorem sortI_congr {l m : List Int} (h : l.Perm m) : sortI l = sortI m := sorted_eq (sortI_sorted _) (sortI_sorted _) ((sortI_perm l).trans (h.trans (sortI_perm m).symm))
theorem sortI_append (l m : List Int) (hl : l.Pairwise (· ≤ ·)) (hm : m.Pairwise (· ≤ ·)) : sortI (l ++ m) = mrg l m :=
  sorted_eq (sortI_sorted _) (mrg_sorted l m hl hm) ((sortI_perm _).trans (mrg_perm l m).symm)

/-- Every division of n has at least the first n slopes of both, in order. -/
theorem sm_shift (x : Int) (l : List Int) (h : ∀ y ∈ l, x ≤ y) (hl : l.Pairwise (· ≤ ·)) (n : Nat) (hn : n ≤ l.length) : sm (x :: l) n ≤ sm l n := by
  induction l generalizing x n with
  | nil => have : n = 0 := by simpa using hn
           subst this
           simp [sm]
  | cons y l ih =>
    cases n with
    | zero => simp [sm]
    | succ n =>
      rw [sm_cons, sm_cons y l]
      have h1 := ih y (List.pairwise_cons.1 hl).1 (List.pairwise_cons.1 hl).2 n (by simpa using hn)
      have h2 := h y List.mem_cons_self
      omega
theorem sm_mrg_le (l m : List Int) (hl : l.Pairwise (· ≤ ·)) (hm : m.Pairwise (· ≤ ·)) (i j : Nat) (hi : i ≤ l.length) (hj : j ≤ m.length) : sm (mrg l m) (i + j) ≤ sm l i + sm m j := by
  induction l, m using mrg.induct generalizing i j with
  | case1 m =>
    have : i = 0 := by simpa using hi
    subst this
    simp [mrg, sm]
  | case2 x l =>
    have : j = 0 := by simpa using hj
    subst this
    simp [mrg, sm]
  | case3 x l y m h ih =>
    simp only [mrg, if_pos h]
    have hl' := List.pairwise_cons.1 hl
    cases i with
    | succ i =>
      rw [show i + 1 + j = (i + j) + 1 from by omega, sm_cons, sm_cons]
      have := ih hl'.2 hm i j (by simpa using hi) hj
      omega
    | zero =>
      have h1 := ih hl'.2 hm 0 j (by omega) hj
      have h2 := sm_shift x (mrg l (y :: m)) (fun z hz => ?_) (mrg_sorted _ _ hl'.2 hm) (0 + j) (by rw [mrg_length]; omega)
      · have e : sm (x :: l) 0 = 0 := rfl
        have e' : sm l 0 = 0 := rfl
        omega
      · rcases List.mem_append.1 ((mrg_perm l (y :: m)).mem_iff.1 hz) with hz | hz
        · exact hl'.1 z hz
        · rcases List.mem_cons.1 hz with rfl | hz
          · exact h
          · have := (List.pairwise_cons.1 hm).1 z hz
            omega
  | case4 x l y m h ih =>
    simp only [mrg, if_neg h]
    have hm' := List.pairwise_cons.1 hm
    cases j with
    | succ j =>
      rw [show i + (j + 1) = (i + j) + 1 from by omega, sm_cons, sm_cons]
      have := ih hl hm'.2 i j hi (by simpa using hj)
      omega
    | zero =>
      have h1 := ih hl hm'.2 i 0 hi (by omega)
      have h2 := sm_shift y (mrg (x :: l) m) (fun z hz => ?_) (mrg_sorted _ _ hl hm'.2) (i + 0) (by rw [mrg_length]; omega)
      · have e : sm (y :: m) 0 = 0 := rfl
        have e' : sm m 0 = 0 := rfl
        omega
      · rcases List.mem_append.1 ((mrg_perm (x :: l) m).mem_iff.1 hz) with hz | hz
        · rcases List.mem_cons.1 hz with rfl | hz
          · omega
          · have := (List.pairwise_cons.1 hl).1 z hz
            omega
        · exact hm'.1 z hz
/-- And one division has just that. -/
theorem sm_mrg_ex (l m : List Int) (n : Nat) (hn : n ≤ l.length + m.length) : ∃ i j, i + j = n ∧ i ≤ l.length ∧ j ≤ m.length ∧ sm (mrg l m) n = sm l i + sm m j := by
  induction l, m using mrg.induct generalizing n with
  | case1 m => exact ⟨0, n, by omega, by omega, by simpa using hn, by simp [mrg, sm]⟩
  | case2 x l => exact ⟨n, 0, by omega, by simpa using hn, by omega, by simp [mrg, sm]⟩
  | case3 x l y m h ih =>
    simp only [mrg, if_pos h]
    cases n with
    | zero => exact ⟨0, 0, rfl, by omega, by omega, by simp [sm]⟩
    | succ n =>
      obtain ⟨i, j, h1, h2, h3, h4⟩ := ih n (by simp at hn ⊢; omega)
      exact ⟨i + 1, j, by omega, by simpa using h2, h3, by rw [sm_cons, sm_cons]; omega⟩
  | case4 x l y m h ih =>
    simp only [mrg, if_neg h]
    cases n with
    | zero => exact ⟨0, 0, rfl, by omega, by omega, by simp [sm]⟩
    | succ n =>
      obtain ⟨i, j, h1, h2, h3, h4⟩ := ih n (by simp at hn ⊢; omega)
      exact ⟨i, j + 1, by omega, h2, by simpa using h3, by rw [sm_cons, sm_cons]; omega⟩
end Go.Proofs.Ytfeeaipbmpmpgaa.PX

namespace Go.Proofs.Ytfeeaipbmpmpgaa.PX
open Go.RowKit Go.Proofs.YtfeeaipbmpmpgaaW.PrintWords Go.Proofs.YtfeeaipbmpmpgaaW.PrintLast Go.Proofs.YtfeeaipbmpmpgaaW.PrintMore
attribute [local go_sem] max2_int min2_int max_two min_two max_three min_three max_four min_four   -- for this text's walks alone
set_option linter.unusedVariables false
set_option linter.unusedSimpArgs false
/-! ### kimberlitelaw03_alike: function 15 -/
def kimberlitelaw03_alike.f (k : Nat) (a0_0 : Int) (a0_1 : Int) (l0_2 : List Int) (a1_0 : Int) (a1_1 : Int) (l1_2 : List Int) : Option (Bool) := if a0_0 = a1_0 then (if a0_1 = a1_1 then ((kimberlitelaw03_same.f k l0_2 l1_2).bind fun t211 => (some t211)) else (some false)) else (some false)
theorem kimberlitelaw03_alike.mono : ∀ a0 a1 a2 a3 a4 a5 k, LeO (kimberlitelaw03_alike.f k a0 a1 a2 a3 a4 a5) (kimberlitelaw03_alike.f (k + 1) a0 a1 a2 a3 a4 a5) := by
 intro a0 a1 a2 a3 a4 a5 k
 unfold kimberlitelaw03_alike.f
 repeat' first
   | (with_reducible exact kimberlitelaw03_same.mono _ _ _)
   | (with_reducible exact LeO.refl _)
   | (with_reducible exact LeO.none _)
   | (with_reducible refine LeO.ite ?_ ?_)
   | (with_reducible refine LeO.bind ?_ (fun _ => ?_))
   | exact kimberlitelaw03_same.mono _ _ _
   | exact LeO.none _
   | refine LeO.ite ?_ ?_
   | refine LeO.bind ?_ (fun _ => ?_)
set_option maxHeartbeats 8000000 in
set_option maxRecDepth 100000 in
theorem kimberlitelaw03_alike.calls (k : Nat) (a0_0 : Int) (a0_1 : Int) (A0_2 : Option Addr) (c0_2 : Nat) (l0_2 : List Int) (a1_0 : Int) (a1_1 : Int) (A1_2 : Option Addr) (c1_2 : Nat) (l1_2 : List Int) (r : Bool) (w : World) (hr0_2 : Kd.C (Kd.int .i64) w A0_2 l0_2.length l0_2) (hc0_2 : l0_2.length ≤ c0_2) (hr1_2 : Kd.C (Kd.int .i64) w A1_2 l1_2.length l1_2) (hc1_2 : l1_2.length ≤ c1_2) (h : kimberlitelaw03_alike.f k a0_0 a0_1 l0_2 a1_0 a1_1 l1_2 = some r) :
  Calls Try.prog 15 #[.agg #[.int .i64 a0_0, .int .i64 a0_1, .slice A0_2 l0_2.length c0_2], .agg #[.int .i64 a1_0, .int .i64 a1_1, .slice A1_2 l1_2.length c1_2]] w fun e w' => e = .returned (.bool r) ∧ Below w.heap.size w w' := by
 have hu24 := Try.underlying24
 have HR0_2 := zA hr0_2
 have HC0_2 := zA hc0_2
 clear hr0_2 hc0_2
 have HR1_2 := zA hr1_2
 have HC1_2 := zA hc1_2
 clear hr1_2 hc1_2
 have HB := zA (Below.refl w.heap.size w)
 have H : (if a0_0 = a1_0 then (if a0_1 = a1_1 then ((kimberlitelaw03_same.f k l0_2 l1_2).bind fun t211 => (some t211)) else (some false)) else (some false)) = some r := h
 clear h
 by_cases c3 : a0_0 = a1_0
 ·
  rw [if_pos c3] at H
  have c3b0 : (a0_0 == a1_0) = true := beq_iff_eq.mpr c3
  have c3b1 : (a0_0 != a1_0) = false := bne_eq_false_iff_eq.mpr c3
  clear c3
  by_cases c4 : a0_1 = a1_1
  ·
   rw [if_pos c4] at H
   have c4b0 : (a0_1 == a1_1) = true := beq_iff_eq.mpr c4
   have c4b1 : (a0_1 != a1_1) = false := bne_eq_false_iff_eq.mpr c4
   clear c4
   replace H := Option.bind_eq_some_iff.mp H
   obtain ⟨t211, A50, H⟩ := H
   replace H : (some t211) = some r := H
   have A5 := zA A50
   clear A50
   obtain rfl := Option.some.inj H
   go_enter Try.func15, Try.ntmps15
   go_wp2_with (first | ((with_reducible refine gate_dst (N := 2) rfl ?_); refine box_event ?hg (N := 2) ?hd (cs := #[.int .i64 a0_0, .int .i64 a0_1, .slice A0_2 l0_2.length c0_2]) (t := 24) ?hr ?_; (case hd => rfl); (case hg => rfl); (case hr => first | (go_simp; done) | (go_simp; rfl)); intro gA hg w6 hbox hb; have n0_ := zA (below_step (by repeat (first | (with_reducible first | exact HB.out | apply zW | apply zX | apply zY) | exact HB.out)) hb); have n1_ := zA (hbox); have n2_ := zA ((by rw [hg]; exact (below_size (by repeat (first | (with_reducible first | exact HB.out | apply zW | apply zX | apply zY) | exact HB.out))) : w.heap.size ≤ gA)); have n3_ := zA ((by rw [hg]; exact (below_size (by repeat (first | (with_reducible first | exact HB.out | apply zW | apply zX | apply zY) | exact HB.out))) : w.heap.size ≤ gA)); clear HB; have HB := n0_; have BK3N := n1_; have GW3N := n2_; have GE3N := n3_; clear n0_ n1_ n2_ n3_; clear hb hbox hg) | ((with_reducible refine gate_dst (N := 3) rfl ?_); refine box_event ?hg (N := 3) ?hd (cs := #[.int .i64 a1_0, .int .i64 a1_1, .slice A1_2 l1_2.length c1_2]) (t := 24) ?hr ?_; (case hd => rfl); (case hg => rfl); (case hr => first | (go_simp; done) | (go_simp; rfl)); intro gB hg w7 hbox hb; have n0_ := zA (blk_below (g := gA) (o := .cells #[.int .i64 a0_0, .int .i64 a0_1, .slice A0_2 l0_2.length c0_2] 24 (0, 0)) (by (with_reducible repeat (first | refine zN ?_ _ | refine zD ?_ | refine zB ?_ _)); exact BK3N.out) hb); have n1_ := zA (below_step (by repeat (first | (with_reducible first | exact HB.out | apply zW | apply zX | apply zY | refine zS ?_ GE3N.out) | exact HB.out)) hb); have n2_ := zA (hbox); have n3_ := zA ((by rw [hg]; exact (below_size (by repeat (first | (with_reducible first | exact HB.out | apply zW | apply zX | apply zY | refine zS ?_ GE3N.out) | exact HB.out))) : w.heap.size ≤ gB)); have n4_ := zA ((by rw [hg]; exact (below_size (by repeat (first | (with_reducible first | exact HB.out | apply zW | apply zX | apply zY | refine zS ?_ GE3N.out) | exact HB.out))) : w.heap.size ≤ gB)); have n5_ := zA ((by rw [hg]; exact Nat.ne_of_lt (blk_lt (g := gA) (o := .cells #[.int .i64 a0_0, .int .i64 a0_1, .slice A0_2 l0_2.length c0_2] 24 (0, 0)) (by (with_reducible repeat (first | refine zN ?_ _ | refine zD ?_ | refine zB ?_ _)); exact BK3N.out)) : gA ≠ gB)); have n6_ := zA ((by rw [hg]; exact Nat.ne_of_gt (blk_lt (g := gA) (o := .cells #[.int .i64 a0_0, .int .i64 a0_1, .slice A0_2 l0_2.length c0_2] 24 (0, 0)) (by (with_reducible repeat (first | refine zN ?_ _ | refine zD ?_ | refine zB ?_ _)); exact BK3N.out)) : gB ≠ gA)); clear BK3N; clear HB; have BK3N := n0_; have HB := n1_; have BK3O := n2_; have GW3O := n3_; have GE3O := n4_; have NB209_210 := n5_; have NB210_209 := n6_; clear n0_ n1_ n2_ n3_ n4_ n5_ n6_; clear hb hbox hg; have hnb8 := NB209_210.out; have hnc8 := NB210_209.out; have hcz9_0 : w7.cell? ⟨gA, 0, none⟩ = some (.int .i64 a0_0) := (blk_cell BK3N.out 0).trans rfl; have hcz9_1 : w7.cell? ⟨gA, 1, none⟩ = some (.int .i64 a0_1) := (blk_cell BK3N.out 1).trans rfl; have hcz9_2 : w7.cell? ⟨gA, 2, none⟩ = some (.slice A0_2 l0_2.length c0_2) := (blk_cell BK3N.out 2).trans rfl; have hfz9_0 := blk_frozen BK3N.out 0; have hfz9_1 := blk_frozen BK3N.out 1; have hfz9_2 := blk_frozen BK3N.out 2; have hcz10_0 : w7.cell? ⟨gB, 0, none⟩ = some (.int .i64 a1_0) := (blk_cell BK3O.out 0).trans rfl; have hcz10_1 : w7.cell? ⟨gB, 1, none⟩ = some (.int .i64 a1_1) := (blk_cell BK3O.out 1).trans rfl; have hcz10_2 : w7.cell? ⟨gB, 2, none⟩ = some (.slice A1_2 l1_2.length c1_2) := (blk_cell BK3O.out 2).trans rfl; have hfz10_0 := blk_frozen BK3O.out 0; have hfz10_1 := blk_frozen BK3O.out 1; have hfz10_2 := blk_frozen BK3O.out 2) | (go_at_call 24; (with_reducible refine (kimberlitelaw03_same.calls k _ _ l0_2 _ _ l1_2 t211 _ ?side1 ?side2 ?side3 ?side4 A5.out).mono ?_); (case side1 => repeat (first | exact (Kd.C_below HR0_2.out HB.out) | (with_reducible refine Kd.C_alloc ?_ _) | (with_reducible refine Kd.C_drewN ?_ _) | (with_reducible refine Kd.C_drew ?_))); (case side2 => exact HC0_2.out); (case side3 => repeat (first | exact (Kd.C_below HR1_2.out HB.out) | (with_reducible refine Kd.C_alloc ?_ _) | (with_reducible refine Kd.C_drewN ?_ _) | (with_reducible refine Kd.C_drew ?_))); (case side4 => exact HC1_2.out); rintro e w' ⟨rfl, ⟨nd, rfl⟩⟩))
   go_ret
   exact ⟨by first | rfl | (simp [errW_none, errW_some] <;> rfl) | (simp [*, errW_none, errW_some] <;> rfl), by repeat (first | (with_reducible first | exact HB.out | apply zW | apply zX | apply zY | refine zS ?_ GE3N.out | refine zS ?_ GE3O.out) | exact HB.out)⟩
  ·
   rw [if_neg c4] at H
   have c4b0 : (a0_1 == a1_1) = false := beq_eq_false_iff_ne.mpr c4
   have c4b1 : (a0_1 != a1_1) = true := bne_iff_ne.mpr c4
   obtain rfl := Option.some.inj H
   go_enter Try.func15, Try.ntmps15
   go_wp2_with (first | ((with_reducible refine gate_dst (N := 2) rfl ?_); refine box_event ?hg (N := 2) ?hd (cs := #[.int .i64 a0_0, .int .i64 a0_1, .slice A0_2 l0_2.length c0_2]) (t := 24) ?hr ?_; (case hd => rfl); (case hg => rfl); (case hr => first | (go_simp; done) | (go_simp; rfl)); intro gA hg w11 hbox hb; have n0_ := zA (below_step (by repeat (first | (with_reducible first | exact HB.out | apply zW | apply zX | apply zY) | exact HB.out)) hb); have n1_ := zA (hbox); have n2_ := zA ((by rw [hg]; exact (below_size (by repeat (first | (with_reducible first | exact HB.out | apply zW | apply zX | apply zY) | exact HB.out))) : w.heap.size ≤ gA)); have n3_ := zA ((by rw [hg]; exact (below_size (by repeat (first | (with_reducible first | exact HB.out | apply zW | apply zX | apply zY) | exact HB.out))) : w.heap.size ≤ gA)); clear HB; have HB := n0_; have BK3N := n1_; have GW3N := n2_; have GE3N := n3_; clear n0_ n1_ n2_ n3_; clear hb hbox hg) | ((with_reducible refine gate_dst (N := 3) rfl ?_); refine box_event ?hg (N := 3) ?hd (cs := #[.int .i64 a1_0, .int .i64 a1_1, .slice A1_2 l1_2.length c1_2]) (t := 24) ?hr ?_; (case hd => rfl); (case hg => rfl); (case hr => first | (go_simp; done) | (go_simp; rfl)); intro gB hg w12 hbox hb; have n0_ := zA (blk_below (g := gA) (o := .cells #[.int .i64 a0_0, .int .i64 a0_1, .slice A0_2 l0_2.length c0_2] 24 (0, 0)) (by (with_reducible repeat (first | refine zN ?_ _ | refine zD ?_ | refine zB ?_ _)); exact BK3N.out) hb); have n1_ := zA (below_step (by repeat (first | (with_reducible first | exact HB.out | apply zW | apply zX | apply zY | refine zS ?_ GE3N.out) | exact HB.out)) hb); have n2_ := zA (hbox); have n3_ := zA ((by rw [hg]; exact (below_size (by repeat (first | (with_reducible first | exact HB.out | apply zW | apply zX | apply zY | refine zS ?_ GE3N.out) | exact HB.out))) : w.heap.size ≤ gB)); have n4_ := zA ((by rw [hg]; exact (below_size (by repeat (first | (with_reducible first | exact HB.out | apply zW | apply zX | apply zY | refine zS ?_ GE3N.out) | exact HB.out))) : w.heap.size ≤ gB)); have n5_ := zA ((by rw [hg]; exact Nat.ne_of_lt (blk_lt (g := gA) (o := .cells #[.int .i64 a0_0, .int .i64 a0_1, .slice A0_2 l0_2.length c0_2] 24 (0, 0)) (by (with_reducible repeat (first | refine zN ?_ _ | refine zD ?_ | refine zB ?_ _)); exact BK3N.out)) : gA ≠ gB)); have n6_ := zA ((by rw [hg]; exact Nat.ne_of_gt (blk_lt (g := gA) (o := .cells #[.int .i64 a0_0, .int .i64 a0_1, .slice A0_2 l0_2.length c0_2] 24 (0, 0)) (by (with_reducible repeat (first | refine zN ?_ _ | refine zD ?_ | refine zB ?_ _)); exact BK3N.out)) : gB ≠ gA)); clear BK3N; clear HB; have BK3N := n0_; have HB := n1_; have BK3O := n2_; have GW3O := n3_; have GE3O := n4_; have NB209_210 := n5_; have NB210_209 := n6_; clear n0_ n1_ n2_ n3_ n4_ n5_ n6_; clear hb hbox hg; have hnb13 := NB209_210.out; have hnc13 := NB210_209.out; have hcz14_0 : w12.cell? ⟨gA, 0, none⟩ = some (.int .i64 a0_0) := (blk_cell BK3N.out 0).trans rfl; have hcz14_1 : w12.cell? ⟨gA, 1, none⟩ = some (.int .i64 a0_1) := (blk_cell BK3N.out 1).trans rfl; have hcz14_2 : w12.cell? ⟨gA, 2, none⟩ = some (.slice A0_2 l0_2.length c0_2) := (blk_cell BK3N.out 2).trans rfl; have hfz14_0 := blk_frozen BK3N.out 0; have hfz14_1 := blk_frozen BK3N.out 1; have hfz14_2 := blk_frozen BK3N.out 2; have hcz15_0 : w12.cell? ⟨gB, 0, none⟩ = some (.int .i64 a1_0) := (blk_cell BK3O.out 0).trans rfl; have hcz15_1 : w12.cell? ⟨gB, 1, none⟩ = some (.int .i64 a1_1) := (blk_cell BK3O.out 1).trans rfl; have hcz15_2 : w12.cell? ⟨gB, 2, none⟩ = some (.slice A1_2 l1_2.length c1_2) := (blk_cell BK3O.out 2).trans rfl; have hfz15_0 := blk_frozen BK3O.out 0; have hfz15_1 := blk_frozen BK3O.out 1; have hfz15_2 := blk_frozen BK3O.out 2))
   go_ret
   exact ⟨by first | rfl | (simp [errW_none, errW_some] <;> rfl) | (simp [*, errW_none, errW_some] <;> rfl), by repeat (first | (with_reducible first | exact HB.out | apply zW | apply zX | apply zY | refine zS ?_ GE3N.out | refine zS ?_ GE3O.out) | exact HB.out)⟩
 ·
  rw [if_neg c3] at H
  have c3b0 : (a0_0 == a1_0) = false := beq_eq_false_iff_ne.mpr c3
  have c3b1 : (a0_0 != a1_0) = true := bne_iff_ne.mpr c3
  obtain rfl := Option.some.inj H
  go_enter Try.func15, Try.ntmps15
  go_wp2_with (first | ((with_reducible refine gate_dst (N := 2) rfl ?_); refine box_event ?hg (N := 2) ?hd (cs := #[.int .i64 a0_0, .int .i64 a0_1, .slice A0_2 l0_2.length c0_2]) (t := 24) ?hr ?_; (case hd => rfl); (case hg => rfl); (case hr => first | (go_simp; done) | (go_simp; rfl)); intro gA hg w16 hbox hb; have n0_ := zA (below_step (by repeat (first | (with_reducible first | exact HB.out | apply zW | apply zX | apply zY) | exact HB.out)) hb); have n1_ := zA (hbox); have n2_ := zA ((by rw [hg]; exact (below_size (by repeat (first | (with_reducible first | exact HB.out | apply zW | apply zX | apply zY) | exact HB.out))) : w.heap.size ≤ gA)); have n3_ := zA ((by rw [hg]; exact (below_size (by repeat (first | (with_reducible first | exact HB.out | apply zW | apply zX | apply zY) | exact HB.out))) : w.heap.size ≤ gA)); clear HB; have HB := n0_; have BK3N := n1_; have GW3N := n2_; have GE3N := n3_; clear n0_ n1_ n2_ n3_; clear hb hbox hg) | ((with_reducible refine gate_dst (N := 3) rfl ?_); refine box_event ?hg (N := 3) ?hd (cs := #[.int .i64 a1_0, .int .i64 a1_1, .slice A1_2 l1_2.length c1_2]) (t := 24) ?hr ?_; (case hd => rfl); (case hg => rfl); (case hr => first | (go_simp; done) | (go_simp; rfl)); intro gB hg w17 hbox hb; have n0_ := zA (blk_below (g := gA) (o := .cells #[.int .i64 a0_0, .int .i64 a0_1, .slice A0_2 l0_2.length c0_2] 24 (0, 0)) (by (with_reducible repeat (first | refine zN ?_ _ | refine zD ?_ | refine zB ?_ _)); exact BK3N.out) hb); have n1_ := zA (below_step (by repeat (first | (with_reducible first | exact HB.out | apply zW | apply zX | apply zY | refine zS ?_ GE3N.out) | exact HB.out)) hb); have n2_ := zA (hbox); have n3_ := zA ((by rw [hg]; exact (below_size (by repeat (first | (with_reducible first | exact HB.out | apply zW | apply zX | apply zY | refine zS ?_ GE3N.out) | exact HB.out))) : w.heap.size ≤ gB)); have n4_ := zA ((by rw [hg]; exact (below_size (by repeat (first | (with_reducible first | exact HB.out | apply zW | apply zX | apply zY | refine zS ?_ GE3N.out) | exact HB.out))) : w.heap.size ≤ gB)); have n5_ := zA ((by rw [hg]; exact Nat.ne_of_lt (blk_lt (g := gA) (o := .cells #[.int .i64 a0_0, .int .i64 a0_1, .slice A0_2 l0_2.length c0_2] 24 (0, 0)) (by (with_reducible repeat (first | refine zN ?_ _ | refine zD ?_ | refine zB ?_ _)); exact BK3N.out)) : gA ≠ gB)); have n6_ := zA ((by rw [hg]; exact Nat.ne_of_gt (blk_lt (g := gA) (o := .cells #[.int .i64 a0_0, .int .i64 a0_1, .slice A0_2 l0_2.length c0_2] 24 (0, 0)) (by (with_reducible repeat (first | refine zN ?_ _ | refine zD ?_ | refine zB ?_ _)); exact BK3N.out)) : gB ≠ gA)); clear BK3N; clear HB; have BK3N := n0_; have HB := n1_; have BK3O := n2_; have GW3O := n3_; have GE3O := n4_; have NB209_210 := n5_; have NB210_209 := n6_; clear n0_ n1_ n2_ n3_ n4_ n5_ n6_; clear hb hbox hg; have hnb18 := NB209_210.out; have hnc18 := NB210_209.out; have hcz19_0 : w17.cell? ⟨gA, 0, none⟩ = some (.int .i64 a0_0) := (blk_cell BK3N.out 0).trans rfl; have hcz19_1 : w17.cell? ⟨gA, 1, none⟩ = some (.int .i64 a0_1) := (blk_cell BK3N.out 1).trans rfl; have hcz19_2 : w17.cell? ⟨gA, 2, none⟩ = some (.slice A0_2 l0_2.length c0_2) := (blk_cell BK3N.out 2).trans rfl; have hfz19_0 := blk_frozen BK3N.out 0; have hfz19_1 := blk_frozen BK3N.out 1; have hfz19_2 := blk_frozen BK3N.out 2; have hcz20_0 : w17.cell? ⟨gB, 0, none⟩ = some (.int .i64 a1_0) := (blk_cell BK3O.out 0).trans rfl; have hcz20_1 : w17.cell? ⟨gB, 1, none⟩ = some (.int .i64 a1_1) := (blk_cell BK3O.out 1).trans rfl; have hcz20_2 : w17.cell? ⟨gB, 2, none⟩ = some (.slice A1_2 l1_2.length c1_2) := (blk_cell BK3O.out 2).trans rfl; have hfz20_0 := blk_frozen BK3O.out 0; have hfz20_1 := blk_frozen BK3O.out 1; have hfz20_2 := blk_frozen BK3O.out 2))
  go_ret
  exact ⟨by first | rfl | (simp [errW_none, errW_some] <;> rfl) | (simp [*, errW_none, errW_some] <;> rfl), by repeat (first | (with_reducible first | exact HB.out | apply zW | apply zX | apply zY | refine zS ?_ GE3N.out | refine zS ?_ GE3O.out) | exact HB.out)⟩
end Go.Proofs.Ytfeeaipbmpmpgaa.PX

namespace Go.Proofs.Ytfeeaipbmpmpgaa.PX
open Go.RowKit Go.Proofs.YtfeeaipbmpmpgaaW.PrintWords Go.Proofs.YtfeeaipbmpmpgaaW.PrintLast Go.Proofs.YtfeeaipbmpmpgaaW.PrintMore
set_option linter.unusedVariables false
set_option linter.unusedSimpArgs false

/-! ### the value of a curve at a number -/
def cval (a b : Int) (l : List Int) (x : Int) : Int := b + sm l (x - a).toNat
def cdom (a : Int) (l : List Int) (x : Int) : Bool := decide (a ≤ x) && decide (x ≤ a + (l.length : Int))
def atV (a b : Int) (l : List Int) (x : Int) : Int × Bool := if valB a b l = true then if cdom a l x = true then (cval a b l x, true) else (0, false) else (0, false)
theorem cdom_iff {a : Int} {l : List Int} {x : Int} : cdom a l x = true ↔ a ≤ x ∧ x ≤ a + (l.length : Int) := by unfold cdom; simp
theorem val_all {a b : Int} {l : List Int} (h : valB a b l = true) : l.Pairwise (· ≤ ·) ∧ ∀ s ∈ l, -1048576 ≤ s ∧ s ≤ 1048576 := by
  unfold valB srt at h
  simp only [Bool.and_eq_true, decide_eq_true_eq, List.all_eq_true, wi_iff] at h
  exact ⟨h.2.2.2.1, h.2.2.2.2⟩
theorem val_mk {a b : Int} {l : List Int} (h1 : -1048576 ≤ a ∧ a ≤ 1048576) (h2 : -1099511627776 ≤ b ∧ b ≤ 1099511627776) (h3 : l.length ≤ 64) (h4 : l.Pairwise (· ≤ ·)) (h5 : ∀ s ∈ l, -1048576 ≤ s ∧ s ≤ 1048576) : valB a b l = true := by
  unfold valB srt
  simp only [Bool.and_eq_true, decide_eq_true_eq, List.all_eq_true, wi_iff]
  exact ⟨h1, h2, h3, h4, h5⟩
theorem cval_bound {a b : Int} {l : List Int} (h : valB a b l = true) (i : Nat) : -1099578736640 ≤ b + sm l i ∧ b + sm l i ≤ 1099578736640 ∧ -67108864 ≤ sm l i ∧ sm l i ≤ 67108864 := by
  have h1 := val_from h
  have h2 := sm_bound l 1048576 (by omega) (val_all h).2 i
  omega
theorem curve_at_some {a b : Int} {l : List Int} {x : Int} (h : valB a b l = true) (hx : cdom a l x = true) : curve_at.f a b l x = some (cval a b l x) := by
  have h1 := val_from h
  have h2 := cdom_iff.1 hx
  unfold curve_at.f cval
  rw [w64 (x := x - a) (by omega) (by omega), if_pos (by omega), if_pos (by omega)]
  rw [addup_take b l _ (by omega) (by omega) (fun s hs => by have := (val_all h).2 s hs; omega)]
theorem law_at (a b : Int) (l : List Int) (x : Int) : kimberlitelaw03_at.f a b l x = some (atV a b l x) := by
  unfold kimberlitelaw03_at.f curve_At.f curve_Valid.f atV
  simp only [Option.bind_some]
  by_cases h : valB a b l = true
  · rw [if_pos h, if_pos h]
    have h1 := val_from h
    have hh : curve_has.f a b l x = some (cdom a l x) := by
      unfold curve_has.f curve_to.f cdom
      rw [w64 (by omega) (by omega)]
      by_cases c : x ≥ a
      · rw [if_pos c]; simp; omega
      · rw [if_neg c]; simp; omega
    rw [hh]
    simp only [Option.bind_some]
    by_cases hx : cdom a l x = true
    · rw [if_pos hx, if_pos hx, curve_at_some h hx]
      rfl
    · rw [if_neg hx, if_neg hx]
      rfl
  · rw [if_neg h, if_neg h]
    rfl
theorem same_l0 (l m : List Int) (hl : l.length ≤ 9223372036854775807) (h : l.length = m.length) (d : Nat) : ∀ k i : Nat, i + d = l.length → d < k → kimberlitelaw03_same.l0 k l m (i : Int) = some (decide (l.drop i = m.drop i)) := by
  induction d with
  | zero =>
    intro k i hi hk
    obtain ⟨k, rfl⟩ : ∃ m, k = m + 1 := ⟨k - 1, by omega⟩
    simp only [kimberlitelaw03_same.l0]
    rw [if_neg (by omega), List.drop_eq_nil_of_le (by omega), List.drop_eq_nil_of_le (by omega)]
    simp
  | succ d ih =>
    intro k i hi hk
    obtain ⟨k, rfl⟩ : ∃ m, k = m + 1 := ⟨k - 1, by omega⟩
    have h1 : i < l.length := by omega
    have h2 : i < m.length := by omega
    simp only [kimberlitelaw03_same.l0]
    rw [if_pos (by omega), if_pos (by omega), if_pos (by omega), rd_getElem l i h1, rd_getElem m i h2, List.drop_eq_getElem_cons h1, List.drop_eq_getElem_cons h2]
    by_cases c : l[i] = m[i]
    · rw [if_pos c, w64 (by omega) (by omega), show ((i : Int) + 1) = ((i + 1 : Nat) : Int) from by omega, ih k (i + 1) (by omega) (by omega)]
      congr 1
      rw [decide_eq_decide, c]
      exact ⟨fun h => by rw [h], fun h => (List.cons.inj h).2⟩
    · rw [if_neg c]
      congr 1
      symm
      rw [decide_eq_false_iff_not]
      exact fun h => c (List.cons.inj h).1
theorem same_some (l m : List Int) (hl : l.length ≤ 9223372036854775807) (k : Nat) (hk : l.length < k) : kimberlitelaw03_same.f k l m = some (decide (l = m)) := by
  unfold kimberlitelaw03_same.f
  by_cases c : l.length = m.length
  · rw [if_pos (by omega)]
    have := same_l0 l m hl c l.length k 0 (by omega) hk
    simpa using this
  · rw [if_neg (by omega)]
    have : ¬ l = m := fun e => c (by rw [e])
    simp [this]
theorem alike_some (a b : Int) (l : List Int) (a' b' : Int) (l' : List Int) (hl : l.length ≤ 9223372036854775807) (k : Nat) (hk : l.length < k) : kimberlitelaw03_alike.f k a b l a' b' l' = some (decide (a = a' ∧ b = b' ∧ l = l')) := by
  unfold kimberlitelaw03_alike.f
  rw [same_some l l' hl k hk]
  by_cases h1 : a = a'
  · by_cases h2 : b = b'
    · simp [h1, h2]
    · simp [h1, h2]
  · simp [h1]
end Go.Proofs.Ytfeeaipbmpmpgaa.PX

namespace Go.Proofs.Ytfeeaipbmpmpgaa.PX
open Go.RowKit Go.Proofs.YtfeeaipbmpmpgaaW.PrintWords Go.Proofs.YtfeeaipbmpmpgaaW.PrintLast Go.Proofs.YtfeeaipbmpmpgaaW.PrintMore
set_option linter.unusedVariables false
set_option linter.unusedSimpArgs false

/-! ### what the greedy way keeps: a slope that was taken is at most one that wasn't, and below that of a later curve -/
def lastP (p : S24 × Int) : Option Int := if 0 < p.2 - p.1.f0 then some (rd p.1.f2 (p.2 - p.1.f0 - 1)) else none
def Greedy (ps : List (S24 × Int)) : Prop :=
  ∀ (i j : Nat) (hi : i < ps.length) (hj : j < ps.length) (a b : Int), lastP ps[i] = some a → keyP ps[j] = some b → a ≤ b ∧ (i < j → a < b)
theorem Greedy.start (cs : List S24) : Greedy (startP cs) := by
  intro i j hi hj a b h1 h2
  simp [startP, lastP] at h1
theorem key_bump {p : S24 × Int} (hs : p.1.f2.Pairwise (· ≤ ·)) (h0 : p.1.f0 ≤ p.2) {a b : Int} (h1 : keyP p = some a) (h2 : keyP (bump p) = some b) : a ≤ b := by
  unfold keyP nextK bump at *
  simp only at h2
  by_cases c : p.2 - p.1.f0 < (p.1.f2.length : Int)
  · by_cases d : p.2 + 1 - p.1.f0 < (p.1.f2.length : Int)
    · rw [if_pos c] at h1
      rw [if_pos d] at h2
      injection h1 with h1
      injection h2 with h2
      obtain ⟨n, hn⟩ := Int.eq_ofNat_of_zero_le (show 0 ≤ p.2 - p.1.f0 from by omega)
      rw [hn] at h1
      rw [show p.2 + 1 - p.1.f0 = ((n + 1 : Nat) : Int) from by omega] at h2
      rw [rd_getElem _ n (by omega)] at h1
      rw [rd_getElem _ (n + 1) (by omega)] at h2
      rw [← h1, ← h2]
      exact List.pairwise_iff_getElem.1 hs n (n + 1) (by omega) (by omega) (by omega)
    · rw [if_neg d] at h2; cases h2
  · rw [if_neg c] at h1; cases h1
theorem last_bump {p : S24 × Int} (h0 : p.1.f0 ≤ p.2) {a : Int} (h1 : keyP p = some a) : lastP (bump p) = some a := by
  unfold keyP nextK at h1
  unfold lastP bump
  by_cases c : p.2 - p.1.f0 < (p.1.f2.length : Int)
  · rw [if_pos c] at h1
    simp only
    rw [if_pos (by omega), show p.2 + 1 - p.1.f0 - 1 = p.2 - p.1.f0 from by omega]
    exact h1
  · rw [if_neg c] at h1; cases h1
theorem Greedy.step {cs : List S24} (hv : ∀ c ∈ cs, valB c.f0 c.f1 c.f2 = true) {ps : List (S24 × Int)} {m : Int} (hok : OkP cs ps m) (h : Greedy ps) : Greedy (stepP ps) := by
  rcases bestS_spec (ps.map keyP) with ⟨h1, h2⟩ | ⟨t, ht, h1, h2, h3⟩
  · intro i j hi hj a b ha hb
    exfalso
    have hj' : j < ps.length := by simpa [stepP] using hj
    have hn := h2 _ (List.mem_map_of_mem (List.getElem_mem hj'))
    have hb' := hb
    simp only [stepP, List.getElem_modify] at hb'
    split at hb'
    · have e : keyP (bump ps[j]) = none := by
        unfold keyP nextK at hn
        unfold keyP nextK bump
        simp only
        by_cases c : ps[j].2 - ps[j].1.f0 < (ps[j].1.f2.length : Int)
        · rw [if_pos c] at hn; cases hn
        · rw [if_neg (by omega)]
      rw [e] at hb'; cases hb'
    · rw [hn] at hb'; cases hb'
  · have ht' : t < ps.length := by simpa using ht
    have hb : bestP ps = (t : Int) := h1
    rw [List.getElem_map] at h2
    generalize (bestS (ps.map keyP)).2 = s at h2 h3
    have hk : ∀ (j : Nat) (hj : j < ps.length) (k : Int), keyP ps[j] = some k → s ≤ k ∧ (t < j → s < k) := fun j hj k hk => h3 j (by simpa using hj) k (by simpa using hk)
    have hmem : ps[t] ∈ ps := List.getElem_mem ht'
    have hdom := hok.dom _ hmem
    have hc : ps[t].1 ∈ cs := by rw [← hok.fst]; exact List.mem_map_of_mem hmem
    have hsort := (val_all (hv _ hc)).1
    have hlast := last_bump hdom.1 h2
    intro i j hi hj a b ha hb'
    simp only [stepP, hb, Int.toNat_natCast, List.getElem_modify] at ha hb'
    have hi' : i < ps.length := by simpa [stepP] using hi
    have hj' : j < ps.length := by simpa [stepP] using hj
    by_cases ei : t = i
    · subst ei
      rw [if_pos rfl, hlast] at ha
      injection ha with ha
      subst ha
      by_cases ej : t = j
      · subst ej
        rw [if_pos rfl] at hb'
        exact ⟨key_bump hsort hdom.1 h2 hb', fun h => by omega⟩
      · rw [if_neg ej] at hb'
        exact hk j hj' b hb'
    · rw [if_neg ei] at ha
      by_cases ej : t = j
      · subst ej
        rw [if_pos rfl] at hb'
        have g1 := h i t hi' ht' a s ha h2
        have g2 := key_bump hsort hdom.1 h2 hb'
        exact ⟨by omega, fun hlt => by have := g1.2 hlt; omega⟩
      · rw [if_neg ej] at hb'
        exact h i j hi' hj' a b ha hb'
theorem Greedy.run {cs : List S24} (hv : ∀ c ∈ cs, valB c.f0 c.f1 c.f2 = true) (n : Nat) (hn : leastP cs + (n : Int) ≤ mostP cs) : Greedy (runP n (startP cs)) := by
  induction n with
  | zero => exact Greedy.start cs
  | succ n ih =>
    rw [runP_succ]
    exact (ih (by omega)).step hv (OkP.run n (by omega))

/-! ### the price -/
theorem priceP_spec (ps : List (S24 × Int)) (B : Int) (hB : ∀ p ∈ ps, loP p ≤ B) (hB0 : -1048576 ≤ B) : -1048576 ≤ priceP ps ∧ priceP ps ≤ B ∧ ∀ p ∈ ps, loP p ≤ priceP ps := by
  induction ps using snoc_induction with
  | h0 => simp [priceP, hB0]
  | h1 ps q ih =>
    obtain ⟨h1, h2, h3⟩ := ih (fun p hp => hB p (List.mem_append_left _ hp))
    have hq := hB q (by simp)
    have e : priceP (ps ++ [q]) = mx (priceP ps) (loP q) := by simp [priceP]
    rw [e]
    unfold mx
    split
    · refine ⟨by omega, hq, fun p hp => ?_⟩
      rcases List.mem_append.1 hp with hp | hp
      · have := h3 p hp; omega
      · rw [List.mem_singleton.1 hp]; omega
    · refine ⟨h1, h2, fun p hp => ?_⟩
      rcases List.mem_append.1 hp with hp | hp
      · exact h3 p hp
      · rw [List.mem_singleton.1 hp]; omega
theorem lo_last {p : S24 × Int} : (lastP p = some (loP p)) ∨ (lastP p = none ∧ loP p = -1048576) := by
  unfold lastP loP
  split
  · exact .inl rfl
  · exact .inr ⟨rfl, rfl⟩
/-- The price is at most what the next unit costs anywhere. -/
theorem price_le_key {ps : List (S24 × Int)} (h : Greedy ps) (hv : ∀ p ∈ ps, valB p.1.f0 p.1.f1 p.1.f2 = true) (hd : ∀ p ∈ ps, p.1.f0 ≤ p.2 ∧ p.2 ≤ toP p.1) (j : Nat) (hj : j < ps.length) (b : Int) (hb : keyP ps[j] = some b) : priceP ps ≤ b := by
  have hbv : -1048576 ≤ b := by
    have hm := List.getElem_mem hj
    have h1 := hd _ hm
    have h2 := (val_all (hv _ hm)).2
    unfold keyP nextK at hb
    by_cases c : ps[j].2 - ps[j].1.f0 < (ps[j].1.f2.length : Int)
    · rw [if_pos c] at hb
      injection hb with hb
      obtain ⟨n, hn⟩ := Int.eq_ofNat_of_zero_le (show 0 ≤ ps[j].2 - ps[j].1.f0 from by omega)
      rw [hn, rd_getElem _ n (by omega)] at hb
      rw [← hb]
      exact (h2 _ (List.getElem_mem _)).1
    · rw [if_neg c] at hb; cases hb
  refine (priceP_spec ps b (fun p hp => ?_) hbv).2.1
  obtain ⟨i, hi, rfl⟩ := List.getElem_of_mem hp
  rcases lo_last (p := ps[i]) with e | ⟨_, e⟩
  · exact (h i j hi hj _ b e hb).1
  · omega
theorem lo_le {p : S24 × Int} (hv : valB p.1.f0 p.1.f1 p.1.f2 = true) (hd : p.1.f0 ≤ p.2 ∧ p.2 ≤ toP p.1) : loP p ≤ 1048576 := by
  unfold loP
  unfold toP at hd
  split
  · obtain ⟨n, hn⟩ := Int.eq_ofNat_of_zero_le (show 0 ≤ p.2 - p.1.f0 - 1 from by omega)
    rw [hn, rd_getElem _ n (by omega)]
    exact ((val_all hv).2 _ (List.getElem_mem _)).2
  · omega

/-! ### least at a price -/
theorem sm_up (l : List Int) (q : Int) (t u : Nat) (htu : t ≤ u) (hu : u ≤ l.length) (h : ∀ (k : Nat) (hk : k < l.length), t ≤ k → q ≤ l[k]) : sm l t + q * ((u - t : Nat) : Int) ≤ sm l u := by
  induction u with
  | zero => have : t = 0 := by omega
            subst this
            simp
  | succ u ih =>
    by_cases e : t = u + 1
    · subst e; simp
    · have := ih (by omega) (by omega)
      have h2 := h u (by omega) (by omega)
      rw [sm_succ l u (by omega)]
      rw [show ((u + 1 - t : Nat) : Int) = ((u - t : Nat) : Int) + 1 from by omega, Int.mul_add]
      omega
theorem sm_down (l : List Int) (q : Int) (t u : Nat) (htu : u ≤ t) (ht : t ≤ l.length) (h : ∀ (k : Nat) (hk : k < l.length), k < t → l[k] ≤ q) : sm l t ≤ sm l u + q * ((t - u : Nat) : Int) := by
  induction t with
  | zero => have : u = 0 := by omega
            subst this
            simp
  | succ t ih =>
    by_cases e : u = t + 1
    · subst e; simp
    · have := ih (by omega) (by omega) (fun k hk hkt => h k hk (by omega))
      have h2 := h t (by omega) (by omega)
      rw [sm_succ l t (by omega)]
      rw [show ((t + 1 - u : Nat) : Int) = ((t - u : Nat) : Int) + 1 from by omega, Int.mul_add]
      omega
/-- At x the curve less q times the number is least. -/
def LeastAt (c : S24) (q x : Int) : Prop := ∀ y, c.f0 ≤ y → y ≤ toP c → valP (c, x) - q * x ≤ valP (c, y) - q * y
theorem valP_eq {c : S24} (hv : valB c.f0 c.f1 c.f2 = true) (x : Int) : valP (c, x) = c.f1 + sm c.f2 (x - c.f0).toNat := by
  have h := val_from hv
  unfold valP
  exact addup_take c.f1 c.f2 (x - c.f0).toNat (by omega) (by omega) (fun s hs => by have := (val_all hv).2 s hs; omega)
theorem leastAt_of {c : S24} {q x : Int} (hv : valB c.f0 c.f1 c.f2 = true) (hd : c.f0 ≤ x ∧ x ≤ toP c) (hlo : loP (c, x) ≤ q) (hq : -1048576 ≤ q) (hhi : ∀ b, keyP (c, x) = some b → q ≤ b) : LeastAt c q x := by
  intro y hy1 hy2
  rw [valP_eq hv, valP_eq hv]
  unfold toP at hd hy2
  have hs := (val_all hv).1
  obtain ⟨t, ht⟩ := Int.eq_ofNat_of_zero_le (show 0 ≤ x - c.f0 from by omega)
  obtain ⟨u, hu⟩ := Int.eq_ofNat_of_zero_le (show 0 ≤ y - c.f0 from by omega)
  rw [ht, hu, Int.toNat_natCast, Int.toNat_natCast]
  have hx : x = c.f0 + (t : Int) := by omega
  have hy : y = c.f0 + (u : Int) := by omega
  rw [hx, hy, Int.mul_add, Int.mul_add]
  rcases Nat.le_total t u with htu | htu
  · have h1 := sm_up c.f2 q t u htu (by omega) (fun k hk hkt => by
      have hb : keyP (c, x) = some c.f2[t] := by
        unfold keyP nextK
        simp only
        rw [if_pos (by omega), ht, rd_getElem _ t (by omega)]
      have h2 := hhi _ hb
      by_cases e : t = k
      · subst e; exact h2
      · have := List.pairwise_iff_getElem.1 hs t k (by omega) hk (by omega)
        omega)
    have e : q * ((u - t : Nat) : Int) = q * (u : Int) - q * (t : Int) := by
      rw [← Int.mul_sub]
      congr 1
      omega
    omega
  · have h1 := sm_down c.f2 q t u htu (by omega) (fun k hk hkt => by
      have hl : loP (c, x) = c.f2[t - 1] := by
        unfold loP
        simp only
        rw [if_pos (by omega), show x - c.f0 - 1 = ((t - 1 : Nat) : Int) from by omega, rd_getElem _ (t - 1) (by omega)]
      rw [hl] at hlo
      by_cases e : k = t - 1
      · subst e; exact hlo
      · have := List.pairwise_iff_getElem.1 hs k (t - 1) hk (by omega) (by omega)
        omega)
    have e : q * ((t - u : Nat) : Int) = q * (t : Int) - q * (u : Int) := by
      rw [← Int.mul_sub]
      congr 1
      omega
    omega
end Go.Proofs.Ytfeeaipbmpmpgaa.PX

namespace Go.Proofs.Ytfeeaipbmpmpgaa.PX
open Go.RowKit Go.Proofs.YtfeeaipbmpmpgaaW.PrintWords Go.Proofs.YtfeeaipbmpmpgaaW.PrintLast Go.Proofs.YtfeeaipbmpmpgaaW.PrintMore
set_option linter.unusedVariables false
set_option linter.unusedSimpArgs false

/-! ### a curve written out -/
def outV (b : Int) (l : List Int) : List Int := (List.range (l.length + 1)).map fun i => b + sm l i
theorem outV_length (b : Int) (l : List Int) : (outV b l).length = l.length + 1 := by simp [outV]
theorem outV_get (b : Int) (l : List Int) (i : Nat) (h : i ≤ l.length) : rd (outV b l) (i : Int) = b + sm l i := by
  rw [rd_getElem _ i (by rw [outV_length]; omega)]
  simp [outV]
theorem outV_take (b : Int) (l : List Int) (n : Nat) (h : n < l.length) : (List.range (n + 1)).map (fun i => b + sm l i) ++ [b + sm l (n + 1)] = (List.range (n + 2)).map (fun i => b + sm l i) := by
  rw [List.range_succ (n := n + 1), List.map_append]
  rfl
theorem out_l0 {a b : Int} {l : List Int} (hv : valB a b l = true) (d : Nat) : ∀ k n : Nat, n + d = l.length → d < k →
    kimberliteref03_Out.l0 k (n : Int) a b l a ((List.range (n + 1)).map fun i => b + sm l i) = some (a, outV b l) := by
  have hl := (val_from hv).2.2.2.2
  induction d with
  | zero =>
    intro k n hn hk
    obtain ⟨k, rfl⟩ : ∃ m, k = m + 1 := ⟨k - 1, by omega⟩
    simp only [kimberliteref03_Out.l0]
    rw [if_neg (by omega)]
    have : n = l.length := by omega
    subst this
    rfl
  | succ d ih =>
    intro k n hn hk
    obtain ⟨k, rfl⟩ : ∃ m, k = m + 1 := ⟨k - 1, by omega⟩
    have hlen : ((List.range (n + 1)).map fun i => b + sm l i).length = n + 1 := by simp
    have hb := cval_bound hv (n + 1)
    have hr : rd ((List.range (n + 1)).map fun i => b + sm l i) (n : Int) = b + sm l n := by
      rw [rd_getElem _ n (by rw [hlen]; omega)]
      simp
    simp only [kimberliteref03_Out.l0]
    rw [if_pos (by omega), if_pos (by omega), hlen, if_pos (by omega), if_pos (by omega), hr, rd_getElem l n (by omega)]
    have hs := sm_succ l n (by omega)
    rw [show b + sm l n + l[n] = b + sm l (n + 1) from by omega, w64 (x := b + sm l (n + 1)) (by omega) (by omega), w64 (x := (n : Int) + 1) (by omega) (by omega), show ((n : Int) + 1) = ((n + 1 : Nat) : Int) from by omega, outV_take b l n (by omega)]
    exact ih k (n + 1) (by omega) (by omega)
theorem out_some {a b : Int} {l : List Int} (hv : valB a b l = true) (k : Nat) (hk : 100 ≤ k) : kimberliteref03_Out.f k a b l = some (a, outV b l) := by
  have hl := (val_from hv).2.2.2.2
  have := out_l0 hv l.length k 0 (by omega) (by omega)
  unfold kimberliteref03_Out.f
  simpa [sm] using this

/-! ### the greatest of p*x - c(x) -/
def grV (a b : Int) (l : List Int) (p : Int) : Nat → Int
  | 0 => p * a - b
  | n + 1 => mx (grV a b l p n) (p * (a + (n : Int) + 1) - (b + sm l (n + 1)))
def gr (a b : Int) (l : List Int) (p : Int) : Int := grV a b l p l.length
theorem grV_ge (a b : Int) (l : List Int) (p : Int) (n i : Nat) (h : i ≤ n) : p * (a + (i : Int)) - (b + sm l i) ≤ grV a b l p n := by
  induction n with
  | zero =>
    have : i = 0 := by omega
    subst this
    simp [grV, sm]
  | succ n ih =>
    simp only [grV, mx]
    by_cases e : i = n + 1
    · subst e
      rw [show a + ((n + 1 : Nat) : Int) = a + (n : Int) + 1 from by omega]
      split <;> omega
    · have := ih (by omega)
      split <;> omega
theorem grV_ex (a b : Int) (l : List Int) (p : Int) (n : Nat) : ∃ i, i ≤ n ∧ grV a b l p n = p * (a + (i : Int)) - (b + sm l i) := by
  induction n with
  | zero => exact ⟨0, by omega, by simp [grV, sm]⟩
  | succ n ih =>
    obtain ⟨i, hi, e⟩ := ih
    simp only [grV, mx]
    split
    · exact ⟨n + 1, by omega, by rw [show a + ((n + 1 : Nat) : Int) = a + (n : Int) + 1 from by omega]⟩
    · exact ⟨i, by omega, e⟩
/-- A product of two numbers within bounds is within the bounds' product. -/
theorem mul_bound {p x P X : Int} (hp : -P ≤ p ∧ p ≤ P) (hx : -X ≤ x ∧ x ≤ X) : -(P * X) ≤ p * x ∧ p * x ≤ P * X := by
  have h0 : 0 ≤ P := by omega
  have h1 : 0 ≤ X := by omega
  rcases Int.le_total 0 p with h | h <;> rcases Int.le_total 0 x with g | g
  · have a := Int.mul_le_mul hp.2 hx.2 g h0
    have b := Int.mul_nonneg h g
    have c := Int.mul_nonneg h0 h1
    omega
  · have a := Int.mul_le_mul hp.2 (show -x ≤ X from by omega) (by omega) h0
    have b := Int.mul_nonneg h (show 0 ≤ -x from by omega)
    have c := Int.mul_nonneg h0 h1
    rw [Int.mul_neg] at a b
    omega
  · have a := Int.mul_le_mul (show -p ≤ P from by omega) hx.2 g h0
    have b := Int.mul_nonneg (show 0 ≤ -p from by omega) g
    have c := Int.mul_nonneg h0 h1
    rw [Int.neg_mul] at a b
    omega
  · have a := Int.mul_le_mul (show -p ≤ P from by omega) (show -x ≤ X from by omega) (by omega) h0
    have b := Int.mul_nonneg (show 0 ≤ -p from by omega) (show 0 ≤ -x from by omega)
    have c := Int.mul_nonneg h0 h1
    rw [Int.neg_mul_neg] at a b
    omega
theorem mul_small {p x : Int} (hp : -1073741825 ≤ p ∧ p ≤ 1073741825) (hx : -2097152 ≤ x ∧ x ≤ 2097152) : -2251799815782400 ≤ p * x ∧ p * x ≤ 2251799815782400 := by
  have := mul_bound (P := 1073741825) (X := 2097152) hp hx
  omega
theorem great_l0 {a b : Int} {l : List Int} (hv : valB a b l = true) {p : Int} (hp : -1073741825 ≤ p ∧ p ≤ 1073741825) (d : Nat) : ∀ k n : Nat, n + d = l.length → d + 1 < k →
    kimberliteref03_Greatest.l0 k p (grV a b l p n) (a + ((n + 1 : Nat) : Int)) a (outV b l) = some (gr a b l p) := by
  have hvf := val_from hv
  have hl : l.length ≤ 64 := hvf.2.2.2.2
  have ha : -1048576 ≤ a ∧ a ≤ 1048576 := ⟨hvf.1, hvf.2.1⟩
  clear hvf
  have hto : kimberliteref03_Row_To.f a (outV b l) = some (a + (l.length : Int)) := by
    unfold kimberliteref03_Row_To.f
    rw [outV_length]
    rw [w64 (x := a + ((l.length + 1 : Nat) : Int)) (by omega) (by omega), w64 (by omega) (by omega)]
    congr 1
    omega
  induction d with
  | zero =>
    intro k n hn hk
    obtain ⟨k, rfl⟩ : ∃ m, k = m + 1 := ⟨k - 1, by omega⟩
    simp only [kimberliteref03_Greatest.l0]
    rw [hto]
    simp only [Option.bind_some]
    rw [if_neg (by omega)]
    have : n = l.length := by omega
    subst this
    rfl
  | succ d ih =>
    intro k n hn hk
    obtain ⟨k, rfl⟩ : ∃ m, k = m + 1 := ⟨k - 1, by omega⟩
    have hval : kimberliteref03_Row_Value.f a (outV b l) (a + ((n + 1 : Nat) : Int)) = some (b + sm l (n + 1)) := by
      unfold kimberliteref03_Row_Value.f
      rw [w64 (x := a + ((n + 1 : Nat) : Int) - a) (by omega) (by omega), show a + ((n + 1 : Nat) : Int) - a = ((n + 1 : Nat) : Int) from by omega, if_pos (by omega), outV_length, if_pos (by omega), outV_get b l (n + 1) (by omega)]
    have hb := cval_bound hv (n + 1)
    have hm := mul_small hp (x := a + ((n + 1 : Nat) : Int)) (by omega)
    simp only [kimberliteref03_Greatest.l0]
    rw [hto]
    simp only [Option.bind_some]
    rw [if_pos (by omega), hval]
    simp only [Option.bind_some]
    rw [w64 (x := p * (a + ((n + 1 : Nat) : Int))) (by omega) (by omega), w64 (x := p * (a + ((n + 1 : Nat) : Int)) - (b + sm l (n + 1))) (by omega) (by omega), w64 (x := a + ((n + 1 : Nat) : Int) + 1) (by omega) (by omega)]
    rw [show a + ((n + 1 : Nat) : Int) + 1 = a + ((n + 1 + 1 : Nat) : Int) from by omega]
    have hg : mx (grV a b l p n) (p * (a + ((n + 1 : Nat) : Int)) - (b + sm l (n + 1))) = grV a b l p (n + 1) := by
      simp only [grV]
      rw [show a + ((n + 1 : Nat) : Int) = a + (n : Int) + 1 from by omega]
    rw [hg]
    exact ih k (n + 1) (by omega) (by omega)
theorem great_some {a b : Int} {l : List Int} (hv : valB a b l = true) {p : Int} (hp : -1073741825 ≤ p ∧ p ≤ 1073741825) (k : Nat) (hk : 100 ≤ k) : kimberliteref03_Greatest.f k a (outV b l) p = some (gr a b l p) := by
  have hvf := val_from hv
  have hl : l.length ≤ 64 := hvf.2.2.2.2
  have ha : -1048576 ≤ a ∧ a ≤ 1048576 := ⟨hvf.1, hvf.2.1⟩
  have hb : -1099511627776 ≤ b ∧ b ≤ 1099511627776 := ⟨hvf.2.2.1, hvf.2.2.2.1⟩
  clear hvf
  obtain ⟨k, rfl⟩ : ∃ m, k = m + 1 := ⟨k - 1, by omega⟩
  have hm := mul_small hp (x := a) (by omega)
  have h0 : rd (outV b l) 0 = b := by
    have := outV_get b l 0 (by omega)
    simpa [sm] using this
  have hto : kimberliteref03_Row_To.f a (outV b l) = some (a + (l.length : Int)) := by
    unfold kimberliteref03_Row_To.f
    rw [outV_length]
    rw [w64 (x := a + ((l.length + 1 : Nat) : Int)) (by omega) (by omega), w64 (by omega) (by omega)]
    congr 1
    omega
  have hval : kimberliteref03_Row_Value.f a (outV b l) a = some b := by
    unfold kimberliteref03_Row_Value.f
    rw [Int.sub_self, w64 (x := 0) (by decide) (by decide), if_pos (by decide), outV_length, if_pos (by omega), h0]
  unfold kimberliteref03_Greatest.f
  rw [outV_length, if_pos (by omega), h0]
  simp only [kimberliteref03_Greatest.l0]
  rw [hto]
  simp only [Option.bind_some]
  rw [if_pos (by omega), hval]
  simp only [Option.bind_some]
  rw [w64 (x := p * a) (by omega) (by omega), w64 (x := p * a - b) (by omega) (by omega), w64 (x := a + 1) (by omega) (by omega)]
  have hg : mx (p * a - b) (p * a - b) = grV a b l p 0 := by simp [mx, grV]
  rw [hg]
  exact great_l0 hv hp l.length k 0 (by omega) (by omega)
theorem law_great {a b : Int} {l : List Int} (hv : valB a b l = true) {p : Int} (hp : -1073741825 ≤ p ∧ p ≤ 1073741825) (k : Nat) (hk : 100 ≤ k) : kimberlitelaw03_greatest.f k a b l p = some (gr a b l p) := by
  unfold kimberlitelaw03_greatest.f
  rw [out_some hv k hk]
  simp only [Option.bind_some]
  rw [great_some hv hp k hk]
  rfl
/-- Every number of the domain gives at most the greatest. -/
theorem gr_ge (a b : Int) (l : List Int) (p x : Int) (hd : cdom a l x = true) : p * x - cval a b l x ≤ gr a b l p := by
  have h := cdom_iff.1 hd
  obtain ⟨n, hn⟩ := Int.eq_ofNat_of_zero_le (show 0 ≤ x - a from by omega)
  have := grV_ge a b l p l.length n (by omega)
  unfold cval gr
  rw [hn, Int.toNat_natCast]
  rw [show a + (n : Int) = x from by omega] at this
  exact this
theorem gr_ex (a b : Int) (l : List Int) (p : Int) : ∃ x, cdom a l x = true ∧ gr a b l p = p * x - cval a b l x := by
  obtain ⟨i, hi, e⟩ := grV_ex a b l p l.length
  refine ⟨a + (i : Int), cdom_iff.2 (by omega), ?_⟩
  unfold gr cval
  rw [e, show (a + (i : Int) - a).toNat = i from by omega]
theorem gr_bound {a b : Int} {l : List Int} (hv : valB a b l = true) {p : Int} (hp : -1073741825 ≤ p ∧ p ≤ 1073741825) : -2252999815782400 ≤ gr a b l p ∧ gr a b l p ≤ 2252999815782400 := by
  obtain ⟨x, hx, e⟩ := gr_ex a b l p
  have hvf := val_from hv
  have hd := cdom_iff.1 hx
  have hm := mul_small hp (x := x) (by omega)
  have hc := cval_bound hv (x - a).toNat
  unfold cval at e
  omega
end Go.Proofs.Ytfeeaipbmpmpgaa.PX

namespace Go.Proofs.Ytfeeaipbmpmpgaa.PX
open Go.RowKit Go.Proofs.YtfeeaipbmpmpgaaW.PrintWords Go.Proofs.YtfeeaipbmpmpgaaW.PrintLast Go.Proofs.YtfeeaipbmpmpgaaW.PrintMore
set_option linter.unusedVariables false
set_option linter.unusedSimpArgs false

theorem joinR_cases (a b : Int) (l : List Int) (a' b' : Int) (l' : List Int) :
    (valB a b l = true ∧ valB a' b' l' = true ∧ valB (a + a') (b + b') (mrg l l') = true ∧ joinR a b l a' b' l' = (a + a', b + b', mrg l l', 0)) ∨
    (valB a b l = true ∧ valB a' b' l' = true ∧ valB (a + a') (b + b') (mrg l l') = false ∧ joinR a b l a' b' l' = (0, 0, [], 4)) ∨
    ((valB a b l = false ∨ valB a' b' l' = false) ∧ joinR a b l a' b' l' = (0, 0, [], 2)) := by
  unfold joinR madeR
  by_cases h1 : valB a b l = true
  · by_cases h2 : valB a' b' l' = true
    · rw [if_pos h1, if_pos h2, sortI_append l l' (val_all h1).1 (val_all h2).1]
      by_cases h3 : valB (a + a') (b + b') (mrg l l') = true
      · exact .inl ⟨h1, h2, h3, by rw [if_pos h3]⟩
      · exact .inr (.inl ⟨h1, h2, Bool.eq_false_iff.2 h3, by rw [if_neg h3]⟩)
    · rw [if_pos h1, if_neg h2]
      exact .inr (.inr ⟨.inr (Bool.eq_false_iff.2 h2), rfl⟩)
  · rw [if_neg h1]
    exact .inr (.inr ⟨.inl (Bool.eq_false_iff.2 h1), rfl⟩)
theorem joinR_comm (a b : Int) (l : List Int) (a' b' : Int) (l' : List Int) : joinR a b l a' b' l' = joinR a' b' l' a b l := by
  unfold joinR
  rw [Int.add_comm a, Int.add_comm b, sortI_congr (List.perm_append_comm : (l ++ l').Perm (l' ++ l))]
  by_cases h1 : valB a b l = true
  · by_cases h2 : valB a' b' l' = true
    · rw [if_pos h1, if_pos h2, if_pos h2, if_pos h1]
    · rw [if_pos h1, if_neg h2, if_neg h2]
  · by_cases h2 : valB a' b' l' = true
    · rw [if_neg h1, if_pos h2, if_neg h1]
    · rw [if_neg h1, if_neg h2]
theorem joinR_length (a b : Int) (l : List Int) (a' b' : Int) (l' : List Int) : (joinR a b l a' b' l').2.2.1.length ≤ 64 := by
  rcases joinR_cases a b l a' b' l' with ⟨_, _, h, e⟩ | ⟨_, _, _, e⟩ | ⟨_, e⟩
  · rw [e]; exact (val_from h).2.2.2.2
  · rw [e]; simp
  · rw [e]; simp
theorem mrg_assoc {l m n : List Int} (hl : l.Pairwise (· ≤ ·)) (hm : m.Pairwise (· ≤ ·)) (hn : n.Pairwise (· ≤ ·)) : mrg (mrg l m) n = mrg l (mrg m n) :=
  sorted_eq (mrg_sorted _ _ (mrg_sorted _ _ hl hm) hn) (mrg_sorted _ _ hl (mrg_sorted _ _ hm hn)) (by
    refine (mrg_perm _ _).trans (((mrg_perm l m).append_right n).trans ?_)
    rw [List.append_assoc]
    exact ((mrg_perm m n).append_left l).symm.trans (mrg_perm l (mrg m n)).symm)
/-- The least sum at a number: no division is smaller. -/
theorem cval_join_le {a b : Int} {l : List Int} {a' b' : Int} {l' : List Int} (h1 : valB a b l = true) (h2 : valB a' b' l' = true) (x y : Int) (hx : cdom a l x = true) (hy : cdom a' l' y = true) :
    cval (a + a') (b + b') (mrg l l') (x + y) ≤ cval a b l x + cval a' b' l' y := by
  have d1 := cdom_iff.1 hx
  have d2 := cdom_iff.1 hy
  have := sm_mrg_le l l' (val_all h1).1 (val_all h2).1 (x - a).toNat (y - a').toNat (by omega) (by omega)
  unfold cval
  rw [show (x + y - (a + a')).toNat = (x - a).toNat + (y - a').toNat from by omega]
  omega
theorem cdom_join {a : Int} {l : List Int} {a' : Int} {l' : List Int} (x y : Int) (hx : cdom a l x = true) (hy : cdom a' l' y = true) : cdom (a + a') (mrg l l') (x + y) = true := by
  have d1 := cdom_iff.1 hx
  have d2 := cdom_iff.1 hy
  rw [cdom_iff, mrg_length]
  omega
/-- .. and one is just that. -/
theorem cval_join_ex {a b : Int} {l : List Int} {a' b' : Int} {l' : List Int} (h1 : valB a b l = true) (h2 : valB a' b' l' = true) (z : Int) (hz : cdom (a + a') (mrg l l') z = true) :
    ∃ t : Nat, t ≤ l.length ∧ cdom a' l' (z - a - (t : Int)) = true ∧ cval a b l (a + (t : Int)) + cval a' b' l' (z - a - (t : Int)) = cval (a + a') (b + b') (mrg l l') z := by
  have d1 := cdom_iff.1 hz
  rw [mrg_length] at d1
  obtain ⟨i, j, e, hi, hj, hs⟩ := sm_mrg_ex l l' (z - (a + a')).toNat (by omega)
  refine ⟨i, hi, cdom_iff.2 (by omega), ?_⟩
  unfold cval
  rw [hs, show (a + (i : Int) - a).toNat = i from by omega, show (z - a - (i : Int) - a').toNat = j from by omega]
  omega
theorem cval_i64 {a b : Int} {l : List Int} (h : valB a b l = true) (x : Int) : -1099578736640 ≤ cval a b l x ∧ cval a b l x ≤ 1099578736640 := by
  have := cval_bound h (x - a).toNat
  unfold cval
  omega
end Go.Proofs.Ytfeeaipbmpmpgaa.PX
