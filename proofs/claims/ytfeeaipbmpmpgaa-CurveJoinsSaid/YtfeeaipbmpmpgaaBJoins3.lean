import Derived.Lib.SmallJoins
import Derived.Deep.Slices
import Derived.Deep.Fields
import Derived.ChangeSame
import Derived.WalkKit
import Derived.ProofKit
import Derived.OpenShut
import Derived.ChangeOld
import Derived.Below
import Derived.Test.YtfeeaipbmpmpgaaBJoins1
import Derived.Test.YtfeeaipbmpmpgaaBJoins2
namespace Go.Proofs.Ytfeeaipbmpmpgaa.PX
open Go.RowKit Go.Proofs.YtfeeaipbmpmpgaaW.PrintWords Go.Proofs.YtfeeaipbmpmpgaaW.PrintLast Go.Proofs.YtfeeaipbmpmpgaaW.PrintMore
attribute [local go_sem] max2_int min2_int max_two min_two max_three min_three max_four min_four   -- for this text's walks alone
set_option linter.unusedVariables false
set_option linter.unusedSimpArgs false
set_option maxHeartbeats 8000000 in
set_option maxRecDepth 100000 in
theorem lawJoins.calls (k : Nat) (a0_0 : Int) (a0_1 : Int) (A0_2 : Option Addr) (c0_2 : Nat) (l0_2 : List Int) (a1_0 : Int) (a1_1 : Int) (A1_2 : Option Addr) (c1_2 : Nat) (l1_2 : List Int) (a2_0 : Int) (a2_1 : Int) (A2_2 : Option Addr) (c2_2 : Nat) (l2_2 : List Int) (a3 : Int) (a4 : Int) (r : Bool) (w : World) (hr0_2 : Kd.C (Kd.int .i64) w A0_2 l0_2.length l0_2) (hc0_2 : l0_2.length ≤ c0_2) (hr1_2 : Kd.C (Kd.int .i64) w A1_2 l1_2.length l1_2) (hc1_2 : l1_2.length ≤ c1_2) (hr2_2 : Kd.C (Kd.int .i64) w A2_2 l2_2.length l2_2) (hc2_2 : l2_2.length ≤ c2_2) (h : lawJoins.f k a0_0 a0_1 l0_2 a1_0 a1_1 l1_2 a2_0 a2_1 l2_2 a3 a4 = some r) :
  Calls Try.prog 3 #[.agg #[.int .i64 a0_0, .int .i64 a0_1, .slice A0_2 l0_2.length c0_2], .agg #[.int .i64 a1_0, .int .i64 a1_1, .slice A1_2 l1_2.length c1_2], .agg #[.int .i64 a2_0, .int .i64 a2_1, .slice A2_2 l2_2.length c2_2], .int .i64 a3, .int .i64 a4] w fun e w' => e = .returned (.bool r) ∧ Below w.heap.size w w' := by
 have hu24 := Try.underlying24
 have HR0_2 := zA hr0_2
 have HC0_2 := zA hc0_2
 clear hr0_2 hc0_2
 have HR1_2 := zA hr1_2
 have HC1_2 := zA hc1_2
 clear hr1_2 hc1_2
 have HR2_2 := zA hr2_2
 have HC2_2 := zA hc2_2
 clear hr2_2 hc2_2
 have HB := zA (Below.refl w.heap.size w)
 have H : ((curve_Join.f a0_0 a0_1 l0_2 a1_0 a1_1 l1_2).bind fun bt228 => ((curve_Join.f a1_0 a1_1 l1_2 a0_0 a0_1 l0_2).bind fun bt235 => ((kimberlitelaw03_alike.f k bt228.1 bt228.2.1 bt228.2.2.1 bt235.1 bt235.2.1 bt235.2.2.1).bind fun t242 => (if t242 = true then (lawJoins.j0 k a3 a4 bt228.2.2.2 (bt228.2.2.2 != bt235.2.2.2) a0_0 a0_1 l0_2 a1_0 a1_1 l1_2 a2_0 a2_1 l2_2 bt228.1 bt228.2.1 bt228.2.2.1) else (lawJoins.j0 k a3 a4 bt228.2.2.2 true a0_0 a0_1 l0_2 a1_0 a1_1 l1_2 a2_0 a2_1 l2_2 bt228.1 bt228.2.1 bt228.2.2.1))))) = some r := h
 clear h
 replace H := Option.bind_eq_some_iff.mp H
 obtain ⟨⟨t228, t229, t230, t233⟩, A60, H⟩ := H
 replace H : ((curve_Join.f a1_0 a1_1 l1_2 a0_0 a0_1 l0_2).bind fun bt235 => ((kimberlitelaw03_alike.f k t228 t229 t230 bt235.1 bt235.2.1 bt235.2.2.1).bind fun t242 => (if t242 = true then (lawJoins.j0 k a3 a4 t233 (t233 != bt235.2.2.2) a0_0 a0_1 l0_2 a1_0 a1_1 l1_2 a2_0 a2_1 l2_2 t228 t229 t230) else (lawJoins.j0 k a3 a4 t233 true a0_0 a0_1 l0_2 a1_0 a1_1 l1_2 a2_0 a2_1 l2_2 t228 t229 t230)))) = some r := H
 have A6 := zA A60
 clear A60
 replace H := Option.bind_eq_some_iff.mp H
 obtain ⟨⟨t235, t236, t237, t240⟩, A70, H⟩ := H
 replace H : ((kimberlitelaw03_alike.f k t228 t229 t230 t235 t236 t237).bind fun t242 => (if t242 = true then (lawJoins.j0 k a3 a4 t233 (t233 != t240) a0_0 a0_1 l0_2 a1_0 a1_1 l1_2 a2_0 a2_1 l2_2 t228 t229 t230) else (lawJoins.j0 k a3 a4 t233 true a0_0 a0_1 l0_2 a1_0 a1_1 l1_2 a2_0 a2_1 l2_2 t228 t229 t230))) = some r := H
 have A7 := zA A70
 clear A70
 have HC8 := zA H
 clear H
 go_enter Try.func3, Try.ntmps3
 go_upto_region 3 with (first | ((with_reducible refine gate_dst (N := 5) rfl ?_); refine box_event ?hg (N := 5) ?hd (cs := #[.int .i64 a0_0, .int .i64 a0_1, .slice A0_2 l0_2.length c0_2]) (t := 24) ?hr ?_; (case hd => rfl); (case hg => rfl); (case hr => first | (go_simp; done) | (go_simp; rfl)); intro gA hg w9 hbox hb; have n0_ := zA (below_step (by repeat (first | (with_reducible first | exact HB.out | apply zW | apply zX | apply zY) | exact HB.out)) hb); have n1_ := zA (hbox); have n2_ := zA ((by rw [hg]; exact (below_size (by repeat (first | (with_reducible first | exact HB.out | apply zW | apply zX | apply zY) | exact HB.out))) : w.heap.size ≤ gA)); have n3_ := zA ((by rw [hg]; exact (below_size (by repeat (first | (with_reducible first | exact HB.out | apply zW | apply zX | apply zY) | exact HB.out))) : w.heap.size ≤ gA)); clear HB; have HB := n0_; have BK3d := n1_; have GW3d := n2_; have GE3d := n3_; clear n0_ n1_ n2_ n3_; clear hb hbox hg) | ((with_reducible refine gate_dst (N := 6) rfl ?_); refine box_event ?hg (N := 6) ?hd (cs := #[.int .i64 a1_0, .int .i64 a1_1, .slice A1_2 l1_2.length c1_2]) (t := 24) ?hr ?_; (case hd => rfl); (case hg => rfl); (case hr => first | (go_simp; done) | (go_simp; rfl)); intro gB hg w10 hbox hb; have n0_ := zA (blk_below (g := gA) (o := .cells #[.int .i64 a0_0, .int .i64 a0_1, .slice A0_2 l0_2.length c0_2] 24 (0, 0)) (by (with_reducible repeat (first | refine zN ?_ _ | refine zD ?_ | refine zB ?_ _)); exact BK3d.out) hb); have n1_ := zA (below_step (by repeat (first | (with_reducible first | exact HB.out | apply zW | apply zX | apply zY | refine zS ?_ GE3d.out) | exact HB.out)) hb); have n2_ := zA (hbox); have n3_ := zA ((by rw [hg]; exact (below_size (by repeat (first | (with_reducible first | exact HB.out | apply zW | apply zX | apply zY | refine zS ?_ GE3d.out) | exact HB.out))) : w.heap.size ≤ gB)); have n4_ := zA ((by rw [hg]; exact (below_size (by repeat (first | (with_reducible first | exact HB.out | apply zW | apply zX | apply zY | refine zS ?_ GE3d.out) | exact HB.out))) : w.heap.size ≤ gB)); have n5_ := zA ((by rw [hg]; exact Nat.ne_of_lt (blk_lt (g := gA) (o := .cells #[.int .i64 a0_0, .int .i64 a0_1, .slice A0_2 l0_2.length c0_2] 24 (0, 0)) (by (with_reducible repeat (first | refine zN ?_ _ | refine zD ?_ | refine zB ?_ _)); exact BK3d.out)) : gA ≠ gB)); have n6_ := zA ((by rw [hg]; exact Nat.ne_of_gt (blk_lt (g := gA) (o := .cells #[.int .i64 a0_0, .int .i64 a0_1, .slice A0_2 l0_2.length c0_2] 24 (0, 0)) (by (with_reducible repeat (first | refine zN ?_ _ | refine zD ?_ | refine zB ?_ _)); exact BK3d.out)) : gB ≠ gA)); clear BK3d; clear HB; have BK3d := n0_; have HB := n1_; have BK3e := n2_; have GW3e := n3_; have GE3e := n4_; have NB225_226 := n5_; have NB226_225 := n6_; clear n0_ n1_ n2_ n3_ n4_ n5_ n6_; clear hb hbox hg) | ((with_reducible refine gate_dst (N := 7) rfl ?_); refine box_event ?hg (N := 7) ?hd (cs := #[.int .i64 a2_0, .int .i64 a2_1, .slice A2_2 l2_2.length c2_2]) (t := 24) ?hr ?_; (case hd => rfl); (case hg => rfl); (case hr => first | (go_simp; done) | (go_simp; rfl)); intro gC hg w11 hbox hb; have n0_ := zA (blk_below (g := gA) (o := .cells #[.int .i64 a0_0, .int .i64 a0_1, .slice A0_2 l0_2.length c0_2] 24 (0, 0)) (by (with_reducible repeat (first | refine zN ?_ _ | refine zD ?_ | refine zB ?_ _)); exact BK3d.out) hb); have n1_ := zA (blk_below (g := gB) (o := .cells #[.int .i64 a1_0, .int .i64 a1_1, .slice A1_2 l1_2.length c1_2] 24 (0, 0)) (by (with_reducible repeat (first | refine zN ?_ _ | refine zD ?_ | refine zB ?_ _)); exact BK3e.out) hb); have n2_ := zA (below_step (by repeat (first | (with_reducible first | exact HB.out | apply zW | apply zX | apply zY | refine zS ?_ GE3d.out | refine zS ?_ GE3e.out) | exact HB.out)) hb); have n3_ := zA (hbox); have n4_ := zA ((by rw [hg]; exact (below_size (by repeat (first | (with_reducible first | exact HB.out | apply zW | apply zX | apply zY | refine zS ?_ GE3d.out | refine zS ?_ GE3e.out) | exact HB.out))) : w.heap.size ≤ gC)); have n5_ := zA ((by rw [hg]; exact (below_size (by repeat (first | (with_reducible first | exact HB.out | apply zW | apply zX | apply zY | refine zS ?_ GE3d.out | refine zS ?_ GE3e.out) | exact HB.out))) : w.heap.size ≤ gC)); have n6_ := zA ((by rw [hg]; exact Nat.ne_of_lt (blk_lt (g := gA) (o := .cells #[.int .i64 a0_0, .int .i64 a0_1, .slice A0_2 l0_2.length c0_2] 24 (0, 0)) (by (with_reducible repeat (first | refine zN ?_ _ | refine zD ?_ | refine zB ?_ _)); exact BK3d.out)) : gA ≠ gC)); have n7_ := zA ((by rw [hg]; exact Nat.ne_of_gt (blk_lt (g := gA) (o := .cells #[.int .i64 a0_0, .int .i64 a0_1, .slice A0_2 l0_2.length c0_2] 24 (0, 0)) (by (with_reducible repeat (first | refine zN ?_ _ | refine zD ?_ | refine zB ?_ _)); exact BK3d.out)) : gC ≠ gA)); have n8_ := zA ((by rw [hg]; exact Nat.ne_of_lt (blk_lt (g := gB) (o := .cells #[.int .i64 a1_0, .int .i64 a1_1, .slice A1_2 l1_2.length c1_2] 24 (0, 0)) (by (with_reducible repeat (first | refine zN ?_ _ | refine zD ?_ | refine zB ?_ _)); exact BK3e.out)) : gB ≠ gC)); have n9_ := zA ((by rw [hg]; exact Nat.ne_of_gt (blk_lt (g := gB) (o := .cells #[.int .i64 a1_0, .int .i64 a1_1, .slice A1_2 l1_2.length c1_2] 24 (0, 0)) (by (with_reducible repeat (first | refine zN ?_ _ | refine zD ?_ | refine zB ?_ _)); exact BK3e.out)) : gC ≠ gB)); clear BK3d; clear BK3e; clear HB; have BK3d := n0_; have BK3e := n1_; have HB := n2_; have BK3f := n3_; have GW3f := n4_; have GE3f := n5_; have NB225_227 := n6_; have NB227_225 := n7_; have NB226_227 := n8_; have NB227_226 := n9_; clear n0_ n1_ n2_ n3_ n4_ n5_ n6_ n7_ n8_ n9_; clear hb hbox hg; have hnb12 := NB225_226.out; have hnc12 := NB226_225.out; have hnb13 := NB225_227.out; have hnc13 := NB227_225.out; have hcz14_0 : w11.cell? ⟨gA, 0, none⟩ = some (.int .i64 a0_0) := (blk_cell BK3d.out 0).trans rfl; have hcz14_1 : w11.cell? ⟨gA, 1, none⟩ = some (.int .i64 a0_1) := (blk_cell BK3d.out 1).trans rfl; have hcz14_2 : w11.cell? ⟨gA, 2, none⟩ = some (.slice A0_2 l0_2.length c0_2) := (blk_cell BK3d.out 2).trans rfl; have hfz14_0 := blk_frozen BK3d.out 0; have hfz14_1 := blk_frozen BK3d.out 1; have hfz14_2 := blk_frozen BK3d.out 2; have hnb15 := NB226_227.out; have hnc15 := NB227_226.out; have hcz16_0 : w11.cell? ⟨gB, 0, none⟩ = some (.int .i64 a1_0) := (blk_cell BK3e.out 0).trans rfl; have hcz16_1 : w11.cell? ⟨gB, 1, none⟩ = some (.int .i64 a1_1) := (blk_cell BK3e.out 1).trans rfl; have hcz16_2 : w11.cell? ⟨gB, 2, none⟩ = some (.slice A1_2 l1_2.length c1_2) := (blk_cell BK3e.out 2).trans rfl; have hfz16_0 := blk_frozen BK3e.out 0; have hfz16_1 := blk_frozen BK3e.out 1; have hfz16_2 := blk_frozen BK3e.out 2) | ((with_reducible refine gate_callee (f := 14) rfl ?_); refine goesL_ (some 34) rfl rfl Try.func14 (by kernel_rfl) rfl #[.agg #[.int .i64 a0_0, .int .i64 a0_1, .slice A0_2 l0_2.length c0_2], .agg #[.int .i64 a1_0, .int .i64 a1_1, .slice A1_2 l1_2.length c1_2]] rfl (by (try simp only [List.map_toArray, List.map_cons, List.map_nil]); first | done | rfl | (simp only [List.length_drop, List.length_take]; rfl)) ?_; (with_reducible refine (curve_Join.calls a0_0 a0_1 _ _ l0_2 a1_0 a1_1 _ _ l1_2 t228 t229 t230 t233 _ ?side1 ?side2 ?side3 ?side4 A6.out).mono ?_); (case side1 => repeat (first | exact (Kd.C_below HR0_2.out HB.out) | (with_reducible refine Kd.C_alloc ?_ _) | (with_reducible refine Kd.C_drewN ?_ _) | (with_reducible refine Kd.C_drew ?_))); (case side2 => exact HC0_2.out); (case side3 => repeat (first | exact (Kd.C_below HR1_2.out HB.out) | (with_reducible refine Kd.C_alloc ?_ _) | (with_reducible refine Kd.C_drewN ?_ _) | (with_reducible refine Kd.C_drew ?_))); (case side4 => exact HC1_2.out); rintro e w17 ⟨v231, rfl, ho0, hb⟩; refine ⟨_, rfl, ?_⟩; have n0_ := zA (Kd.R_lower ho0 (below_size (by repeat (first | (with_reducible first | exact HB.out | apply zW | apply zX | apply zY | refine zS ?_ GE3d.out | refine zS ?_ GE3e.out | refine zS ?_ GE3f.out) | exact HB.out)))); have n1_ := zA (blk_below (g := gA) (o := .cells #[.int .i64 a0_0, .int .i64 a0_1, .slice A0_2 l0_2.length c0_2] 24 (0, 0)) (by (with_reducible repeat (first | refine zN ?_ _ | refine zD ?_ | refine zB ?_ _)); exact BK3d.out) hb); have n2_ := zA (blk_below (g := gB) (o := .cells #[.int .i64 a1_0, .int .i64 a1_1, .slice A1_2 l1_2.length c1_2] 24 (0, 0)) (by (with_reducible repeat (first | refine zN ?_ _ | refine zD ?_ | refine zB ?_ _)); exact BK3e.out) hb); have n3_ := zA (blk_below (g := gC) (o := .cells #[.int .i64 a2_0, .int .i64 a2_1, .slice A2_2 l2_2.length c2_2] 24 (0, 0)) (by (with_reducible repeat (first | refine zN ?_ _ | refine zD ?_ | refine zB ?_ _)); exact BK3f.out) hb); have n4_ := zA (below_step (by repeat (first | (with_reducible first | exact HB.out | apply zW | apply zX | apply zY | refine zS ?_ GE3d.out | refine zS ?_ GE3e.out | refine zS ?_ GE3f.out) | exact HB.out)) hb); clear BK3d; clear BK3e; clear BK3f; clear HB; have HO3k := n0_; have BK3d := n1_; have BK3e := n2_; have BK3f := n3_; have HB := n4_; clear n0_ n1_ n2_ n3_ n4_; (try clear hb); (try clear hb2); (try clear hk); (try clear hi); (try clear ho0)) | ((with_reducible refine gate_dst (N := 11) rfl ?_); refine box_event ?hg (N := 11) ?hd (cs := #[.int .i64 0, .int .i64 0, .slice none 0 0]) (t := 24) ?hr ?_; (case hd => rfl); (case hg => rfl); (case hr => first | (go_simp; done) | (go_simp; rfl)); intro gD hg w18 hbox hb; have n0_ := zA (Kd.R_below (by (with_reducible repeat (first | apply Kd.R_alloc | apply Kd.R_drewN | apply Kd.R_drew)); exact HO3k.out) hb); have n1_ := zA (blk_below (g := gA) (o := .cells #[.int .i64 a0_0, .int .i64 a0_1, .slice A0_2 l0_2.length c0_2] 24 (0, 0)) (by (with_reducible repeat (first | refine zN ?_ _ | refine zD ?_ | refine zB ?_ _)); exact BK3d.out) hb); have n2_ := zA (blk_below (g := gB) (o := .cells #[.int .i64 a1_0, .int .i64 a1_1, .slice A1_2 l1_2.length c1_2] 24 (0, 0)) (by (with_reducible repeat (first | refine zN ?_ _ | refine zD ?_ | refine zB ?_ _)); exact BK3e.out) hb); have n3_ := zA (blk_below (g := gC) (o := .cells #[.int .i64 a2_0, .int .i64 a2_1, .slice A2_2 l2_2.length c2_2] 24 (0, 0)) (by (with_reducible repeat (first | refine zN ?_ _ | refine zD ?_ | refine zB ?_ _)); exact BK3f.out) hb); have n4_ := zA (below_step (by repeat (first | (with_reducible first | exact HB.out | apply zW | apply zX | apply zY | refine zS ?_ GE3d.out | refine zS ?_ GE3e.out | refine zS ?_ GE3f.out) | exact HB.out)) hb); have n5_ := zA (hbox); have n6_ := zA ((by rw [hg]; exact (below_size (by repeat (first | (with_reducible first | exact HB.out | apply zW | apply zX | apply zY | refine zS ?_ GE3d.out | refine zS ?_ GE3e.out | refine zS ?_ GE3f.out) | exact HB.out))) : w.heap.size ≤ gD)); have n7_ := zA ((by rw [hg]; exact (below_size (by repeat (first | (with_reducible first | exact HB.out | apply zW | apply zX | apply zY | refine zS ?_ GE3d.out | refine zS ?_ GE3e.out | refine zS ?_ GE3f.out) | exact HB.out))) : w.heap.size ≤ gD)); have n8_ := zA ((by rw [hg]; exact Nat.ne_of_lt (blk_lt (g := gA) (o := .cells #[.int .i64 a0_0, .int .i64 a0_1, .slice A0_2 l0_2.length c0_2] 24 (0, 0)) (by (with_reducible repeat (first | refine zN ?_ _ | refine zD ?_ | refine zB ?_ _)); exact BK3d.out)) : gA ≠ gD)); have n9_ := zA ((by rw [hg]; exact Nat.ne_of_gt (blk_lt (g := gA) (o := .cells #[.int .i64 a0_0, .int .i64 a0_1, .slice A0_2 l0_2.length c0_2] 24 (0, 0)) (by (with_reducible repeat (first | refine zN ?_ _ | refine zD ?_ | refine zB ?_ _)); exact BK3d.out)) : gD ≠ gA)); have n10_ := zA ((by rw [hg]; exact Nat.ne_of_lt (blk_lt (g := gB) (o := .cells #[.int .i64 a1_0, .int .i64 a1_1, .slice A1_2 l1_2.length c1_2] 24 (0, 0)) (by (with_reducible repeat (first | refine zN ?_ _ | refine zD ?_ | refine zB ?_ _)); exact BK3e.out)) : gB ≠ gD)); have n11_ := zA ((by rw [hg]; exact Nat.ne_of_gt (blk_lt (g := gB) (o := .cells #[.int .i64 a1_0, .int .i64 a1_1, .slice A1_2 l1_2.length c1_2] 24 (0, 0)) (by (with_reducible repeat (first | refine zN ?_ _ | refine zD ?_ | refine zB ?_ _)); exact BK3e.out)) : gD ≠ gB)); have n12_ := zA ((by rw [hg]; exact Nat.ne_of_lt (blk_lt (g := gC) (o := .cells #[.int .i64 a2_0, .int .i64 a2_1, .slice A2_2 l2_2.length c2_2] 24 (0, 0)) (by (with_reducible repeat (first | refine zN ?_ _ | refine zD ?_ | refine zB ?_ _)); exact BK3f.out)) : gC ≠ gD)); have n13_ := zA ((by rw [hg]; exact Nat.ne_of_gt (blk_lt (g := gC) (o := .cells #[.int .i64 a2_0, .int .i64 a2_1, .slice A2_2 l2_2.length c2_2] 24 (0, 0)) (by (with_reducible repeat (first | refine zN ?_ _ | refine zD ?_ | refine zB ?_ _)); exact BK3f.out)) : gD ≠ gC)); clear HO3k; clear BK3d; clear BK3e; clear BK3f; clear HB; have HO3k := n0_; have BK3d := n1_; have BK3e := n2_; have BK3f := n3_; have HB := n4_; have BK3m := n5_; have GW3m := n6_; have GE3m := n7_; have NB225_234 := n8_; have NB234_225 := n9_; have NB226_234 := n10_; have NB234_226 := n11_; have NB227_234 := n12_; have NB234_227 := n13_; clear n0_ n1_ n2_ n3_ n4_ n5_ n6_ n7_ n8_ n9_ n10_ n11_ n12_ n13_; clear hb hbox hg; have hnb19 := NB234_225.out; have hnc19 := NB225_234.out; have hnb20 := NB234_226.out; have hnc20 := NB226_234.out; have hnb21 := NB234_227.out; have hnc21 := NB227_234.out; have hcz22_0 : w18.cell? ⟨gD, 0, none⟩ = some (.int .i64 0) := (blk_cell BK3m.out 0).trans rfl; have hcz22_1 : w18.cell? ⟨gD, 1, none⟩ = some (.int .i64 0) := (blk_cell BK3m.out 1).trans rfl; have hcz22_2 : w18.cell? ⟨gD, 2, none⟩ = some (.slice none 0 0) := (blk_cell BK3m.out 2).trans rfl; have hfz22_0 := blk_frozen BK3m.out 0; have hfz22_1 := blk_frozen BK3m.out 1; have hfz22_2 := blk_frozen BK3m.out 2; obtain ⟨Ao23, co23, eo23⟩ := Kd.R_slice HO3k.out; subst eo23; have hcz24_0 : w18.cell? ⟨gB, 0, none⟩ = some (.int .i64 a1_0) := (blk_cell BK3e.out 0).trans rfl; have hcz24_1 : w18.cell? ⟨gB, 1, none⟩ = some (.int .i64 a1_1) := (blk_cell BK3e.out 1).trans rfl; have hcz24_2 : w18.cell? ⟨gB, 2, none⟩ = some (.slice A1_2 l1_2.length c1_2) := (blk_cell BK3e.out 2).trans rfl; have hfz24_0 := blk_frozen BK3e.out 0; have hfz24_1 := blk_frozen BK3e.out 1; have hfz24_2 := blk_frozen BK3e.out 2; have hcz25_0 : w18.cell? ⟨gA, 0, none⟩ = some (.int .i64 a0_0) := (blk_cell BK3d.out 0).trans rfl; have hcz25_1 : w18.cell? ⟨gA, 1, none⟩ = some (.int .i64 a0_1) := (blk_cell BK3d.out 1).trans rfl; have hcz25_2 : w18.cell? ⟨gA, 2, none⟩ = some (.slice A0_2 l0_2.length c0_2) := (blk_cell BK3d.out 2).trans rfl; have hfz25_0 := blk_frozen BK3d.out 0; have hfz25_1 := blk_frozen BK3d.out 1; have hfz25_2 := blk_frozen BK3d.out 2) | ((with_reducible refine gate_callee (f := 14) rfl ?_); refine goesL_ (some 40) rfl rfl Try.func14 (by kernel_rfl) rfl #[.agg #[.int .i64 a1_0, .int .i64 a1_1, .slice A1_2 l1_2.length c1_2], .agg #[.int .i64 a0_0, .int .i64 a0_1, .slice A0_2 l0_2.length c0_2]] rfl (by (try simp only [List.map_toArray, List.map_cons, List.map_nil]); first | done | rfl | (simp only [List.length_drop, List.length_take]; rfl)) ?_; (with_reducible refine (curve_Join.calls a1_0 a1_1 _ _ l1_2 a0_0 a0_1 _ _ l0_2 t235 t236 t237 t240 _ ?side1 ?side2 ?side3 ?side4 A7.out).mono ?_); (case side1 => exact Kd.C_below HR1_2.out (by repeat (first | (with_reducible first | exact HB.out | apply zW | apply zX | apply zY | refine zS ?_ GE3d.out | refine zS ?_ GE3e.out | refine zS ?_ GE3f.out | refine zS ?_ GE3m.out) | exact HB.out))); (case side2 => exact HC1_2.out); (case side3 => exact Kd.C_below HR0_2.out (by repeat (first | (with_reducible first | exact HB.out | apply zW | apply zX | apply zY | refine zS ?_ GE3d.out | refine zS ?_ GE3e.out | refine zS ?_ GE3f.out | refine zS ?_ GE3m.out) | exact HB.out))); (case side4 => exact HC0_2.out); rintro e w26 ⟨v238, rfl, ho0, hb⟩; refine ⟨_, rfl, ?_⟩; have n0_ := zA (Kd.R_elder' (by (with_reducible repeat (first | apply Kd.R_alloc | apply Kd.R_drewN | apply Kd.R_drew)); exact (Kd.R_mono (Kd.R_far (p := ⟨gD, 2, none⟩) (Kd.R_far (p := ⟨gD, 1, none⟩) (Kd.R_far (p := ⟨gD, 0, none⟩) (Kd.R_types HO3k.out BK3m.out (by decide)) (fun _ hk => hk.2) (.int .i64 t228)) (fun _ hk => hk.2) (.int .i64 t229)) (fun _ hk => hk.2) (.slice Ao23 t230.length co23)) (fun _ h_ => h_.1))) (Kd.R_base ho0) hb); have n1_ := zA (Kd.R_lower (Kd.R_new' ho0 (Kd.R_lt (by (with_reducible repeat (first | apply Kd.R_alloc | apply Kd.R_drewN | apply Kd.R_drew)); exact (Kd.R_mono (Kd.R_far (p := ⟨gD, 2, none⟩) (Kd.R_far (p := ⟨gD, 1, none⟩) (Kd.R_far (p := ⟨gD, 0, none⟩) (Kd.R_types HO3k.out BK3m.out (by decide)) (fun _ hk => hk.2) (.int .i64 t228)) (fun _ hk => hk.2) (.int .i64 t229)) (fun _ hk => hk.2) (.slice Ao23 t230.length co23)) (fun _ h_ => h_.1))))) (below_size (by repeat (first | (with_reducible first | exact HB.out | apply zW | apply zX | apply zY | refine zS ?_ GE3d.out | refine zS ?_ GE3e.out | refine zS ?_ GE3f.out | refine zS ?_ GE3m.out) | exact HB.out)))); have n2_ := zA (blk_below (g := gA) (o := .cells #[.int .i64 a0_0, .int .i64 a0_1, .slice A0_2 l0_2.length c0_2] 24 (0, 0)) (by (with_reducible repeat (first | refine zN ?_ _ | refine zD ?_ | refine zB ?_ _)); refine blk_far ?_ NB225_234.out _; (with_reducible repeat (first | refine zN ?_ _ | refine zD ?_ | refine zB ?_ _)); refine blk_far ?_ NB225_234.out _; (with_reducible repeat (first | refine zN ?_ _ | refine zD ?_ | refine zB ?_ _)); refine blk_far ?_ NB225_234.out _; (with_reducible repeat (first | refine zN ?_ _ | refine zD ?_ | refine zB ?_ _)); exact BK3d.out) hb); have n3_ := zA (blk_below (g := gB) (o := .cells #[.int .i64 a1_0, .int .i64 a1_1, .slice A1_2 l1_2.length c1_2] 24 (0, 0)) (by (with_reducible repeat (first | refine zN ?_ _ | refine zD ?_ | refine zB ?_ _)); refine blk_far ?_ NB226_234.out _; (with_reducible repeat (first | refine zN ?_ _ | refine zD ?_ | refine zB ?_ _)); refine blk_far ?_ NB226_234.out _; (with_reducible repeat (first | refine zN ?_ _ | refine zD ?_ | refine zB ?_ _)); refine blk_far ?_ NB226_234.out _; (with_reducible repeat (first | refine zN ?_ _ | refine zD ?_ | refine zB ?_ _)); exact BK3e.out) hb); have n4_ := zA (blk_below (g := gC) (o := .cells #[.int .i64 a2_0, .int .i64 a2_1, .slice A2_2 l2_2.length c2_2] 24 (0, 0)) (by (with_reducible repeat (first | refine zN ?_ _ | refine zD ?_ | refine zB ?_ _)); refine blk_far ?_ NB227_234.out _; (with_reducible repeat (first | refine zN ?_ _ | refine zD ?_ | refine zB ?_ _)); refine blk_far ?_ NB227_234.out _; (with_reducible repeat (first | refine zN ?_ _ | refine zD ?_ | refine zB ?_ _)); refine blk_far ?_ NB227_234.out _; (with_reducible repeat (first | refine zN ?_ _ | refine zD ?_ | refine zB ?_ _)); exact BK3f.out) hb); have n5_ := zA (blk_below (g := gD) (o := .cells #[.int .i64 t228, .int .i64 t229, .slice Ao23 t230.length co23] 24 (0, 0)) (by (with_reducible repeat (first | refine zN ?_ _ | refine zD ?_ | refine zB ?_ _)); refine blk_put (cs := #[.int .i64 t228, .int .i64 t229, .slice none 0 0]) ?_ 2 _ rfl; (with_reducible repeat (first | refine zN ?_ _ | refine zD ?_ | refine zB ?_ _)); refine blk_put (cs := #[.int .i64 t228, .int .i64 0, .slice none 0 0]) ?_ 1 _ rfl; (with_reducible repeat (first | refine zN ?_ _ | refine zD ?_ | refine zB ?_ _)); refine blk_put (cs := #[.int .i64 0, .int .i64 0, .slice none 0 0]) ?_ 0 _ rfl; (with_reducible repeat (first | refine zN ?_ _ | refine zD ?_ | refine zB ?_ _)); exact BK3m.out) hb); have n6_ := zA (below_step (by repeat (first | (with_reducible first | exact HB.out | apply zW | apply zX | apply zY | refine zS ?_ GE3d.out | refine zS ?_ GE3e.out | refine zS ?_ GE3f.out | refine zS ?_ GE3m.out) | exact HB.out)) hb); clear HO3k; clear BK3d; clear BK3e; clear BK3f; clear BK3m; clear HB; have HO3k := n0_; have HO3r := n1_; have BK3d := n2_; have BK3e := n3_; have BK3f := n4_; have BK3m := n5_; have HB := n6_; clear n0_ n1_ n2_ n3_ n4_ n5_ n6_; (try clear hb); (try clear hb2); (try clear hk); (try clear hi); (try clear ho0)) | ((with_reducible refine gate_dst (N := 13) rfl ?_); refine box_event ?hg (N := 13) ?hd (cs := #[.int .i64 0, .int .i64 0, .slice none 0 0]) (t := 24) ?hr ?_; (case hd => rfl); (case hg => rfl); (case hr => first | (go_simp; done) | (go_simp; rfl)); intro gE hg w27 hbox hb; have n0_ := zA (Kd.R_below (by (with_reducible repeat (first | apply Kd.R_alloc | apply Kd.R_drewN | apply Kd.R_drew)); exact HO3k.out) hb); have n1_ := zA (Kd.R_below (by (with_reducible repeat (first | apply Kd.R_alloc | apply Kd.R_drewN | apply Kd.R_drew)); exact HO3r.out) hb); have n2_ := zA (blk_below (g := gA) (o := .cells #[.int .i64 a0_0, .int .i64 a0_1, .slice A0_2 l0_2.length c0_2] 24 (0, 0)) (by (with_reducible repeat (first | refine zN ?_ _ | refine zD ?_ | refine zB ?_ _)); exact BK3d.out) hb); have n3_ := zA (blk_below (g := gB) (o := .cells #[.int .i64 a1_0, .int .i64 a1_1, .slice A1_2 l1_2.length c1_2] 24 (0, 0)) (by (with_reducible repeat (first | refine zN ?_ _ | refine zD ?_ | refine zB ?_ _)); exact BK3e.out) hb); have n4_ := zA (blk_below (g := gC) (o := .cells #[.int .i64 a2_0, .int .i64 a2_1, .slice A2_2 l2_2.length c2_2] 24 (0, 0)) (by (with_reducible repeat (first | refine zN ?_ _ | refine zD ?_ | refine zB ?_ _)); exact BK3f.out) hb); have n5_ := zA (blk_below (g := gD) (o := .cells #[.int .i64 t228, .int .i64 t229, .slice Ao23 t230.length co23] 24 (0, 0)) (by (with_reducible repeat (first | refine zN ?_ _ | refine zD ?_ | refine zB ?_ _)); exact BK3m.out) hb); have n6_ := zA (below_step (by repeat (first | (with_reducible first | exact HB.out | apply zW | apply zX | apply zY | refine zS ?_ GE3d.out | refine zS ?_ GE3e.out | refine zS ?_ GE3f.out | refine zS ?_ GE3m.out) | exact HB.out)) hb); have n7_ := zA (hbox); have n8_ := zA ((by rw [hg]; exact (below_size (by repeat (first | (with_reducible first | exact HB.out | apply zW | apply zX | apply zY | refine zS ?_ GE3d.out | refine zS ?_ GE3e.out | refine zS ?_ GE3f.out | refine zS ?_ GE3m.out) | exact HB.out))) : w.heap.size ≤ gE)); have n9_ := zA ((by rw [hg]; exact (below_size (by repeat (first | (with_reducible first | exact HB.out | apply zW | apply zX | apply zY | refine zS ?_ GE3d.out | refine zS ?_ GE3e.out | refine zS ?_ GE3f.out | refine zS ?_ GE3m.out) | exact HB.out))) : w.heap.size ≤ gE)); have n10_ := zA ((by rw [hg]; exact Nat.ne_of_lt (blk_lt (g := gA) (o := .cells #[.int .i64 a0_0, .int .i64 a0_1, .slice A0_2 l0_2.length c0_2] 24 (0, 0)) (by (with_reducible repeat (first | refine zN ?_ _ | refine zD ?_ | refine zB ?_ _)); exact BK3d.out)) : gA ≠ gE)); have n11_ := zA ((by rw [hg]; exact Nat.ne_of_gt (blk_lt (g := gA) (o := .cells #[.int .i64 a0_0, .int .i64 a0_1, .slice A0_2 l0_2.length c0_2] 24 (0, 0)) (by (with_reducible repeat (first | refine zN ?_ _ | refine zD ?_ | refine zB ?_ _)); exact BK3d.out)) : gE ≠ gA)); have n12_ := zA ((by rw [hg]; exact Nat.ne_of_lt (blk_lt (g := gB) (o := .cells #[.int .i64 a1_0, .int .i64 a1_1, .slice A1_2 l1_2.length c1_2] 24 (0, 0)) (by (with_reducible repeat (first | refine zN ?_ _ | refine zD ?_ | refine zB ?_ _)); exact BK3e.out)) : gB ≠ gE)); have n13_ := zA ((by rw [hg]; exact Nat.ne_of_gt (blk_lt (g := gB) (o := .cells #[.int .i64 a1_0, .int .i64 a1_1, .slice A1_2 l1_2.length c1_2] 24 (0, 0)) (by (with_reducible repeat (first | refine zN ?_ _ | refine zD ?_ | refine zB ?_ _)); exact BK3e.out)) : gE ≠ gB)); have n14_ := zA ((by rw [hg]; exact Nat.ne_of_lt (blk_lt (g := gC) (o := .cells #[.int .i64 a2_0, .int .i64 a2_1, .slice A2_2 l2_2.length c2_2] 24 (0, 0)) (by (with_reducible repeat (first | refine zN ?_ _ | refine zD ?_ | refine zB ?_ _)); exact BK3f.out)) : gC ≠ gE)); have n15_ := zA ((by rw [hg]; exact Nat.ne_of_gt (blk_lt (g := gC) (o := .cells #[.int .i64 a2_0, .int .i64 a2_1, .slice A2_2 l2_2.length c2_2] 24 (0, 0)) (by (with_reducible repeat (first | refine zN ?_ _ | refine zD ?_ | refine zB ?_ _)); exact BK3f.out)) : gE ≠ gC)); have n16_ := zA ((by rw [hg]; exact Nat.ne_of_lt (blk_lt (g := gD) (o := .cells #[.int .i64 t228, .int .i64 t229, .slice Ao23 t230.length co23] 24 (0, 0)) (by (with_reducible repeat (first | refine zN ?_ _ | refine zD ?_ | refine zB ?_ _)); exact BK3m.out)) : gD ≠ gE)); have n17_ := zA ((by rw [hg]; exact Nat.ne_of_gt (blk_lt (g := gD) (o := .cells #[.int .i64 t228, .int .i64 t229, .slice Ao23 t230.length co23] 24 (0, 0)) (by (with_reducible repeat (first | refine zN ?_ _ | refine zD ?_ | refine zB ?_ _)); exact BK3m.out)) : gE ≠ gD)); clear HO3k; clear HO3r; clear BK3d; clear BK3e; clear BK3f; clear BK3m; clear HB; have HO3k := n0_; have HO3r := n1_; have BK3d := n2_; have BK3e := n3_; have BK3f := n4_; have BK3m := n5_; have HB := n6_; have BK3t := n7_; have GW3t := n8_; have GE3t := n9_; have NB225_241 := n10_; have NB241_225 := n11_; have NB226_241 := n12_; have NB241_226 := n13_; have NB227_241 := n14_; have NB241_227 := n15_; have NB234_241 := n16_; have NB241_234 := n17_; clear n0_ n1_ n2_ n3_ n4_ n5_ n6_ n7_ n8_ n9_ n10_ n11_ n12_ n13_ n14_ n15_ n16_ n17_; clear hb hbox hg; have hnb28 := NB241_225.out; have hnc28 := NB225_241.out; have hnb29 := NB241_226.out; have hnc29 := NB226_241.out; have hnb30 := NB241_227.out; have hnc30 := NB227_241.out; have hnb31 := NB241_234.out; have hnc31 := NB234_241.out; have hcz32_0 : w27.cell? ⟨gE, 0, none⟩ = some (.int .i64 0) := (blk_cell BK3t.out 0).trans rfl; have hcz32_1 : w27.cell? ⟨gE, 1, none⟩ = some (.int .i64 0) := (blk_cell BK3t.out 1).trans rfl; have hcz32_2 : w27.cell? ⟨gE, 2, none⟩ = some (.slice none 0 0) := (blk_cell BK3t.out 2).trans rfl; have hfz32_0 := blk_frozen BK3t.out 0; have hfz32_1 := blk_frozen BK3t.out 1; have hfz32_2 := blk_frozen BK3t.out 2; obtain ⟨Ao33, co33, eo33⟩ := Kd.R_slice HO3r.out; subst eo33))
 (try simp only [Act.put, List.setIfInBounds_toArray, List.set_cons_zero, List.set_cons_succ])
 go_cut [51] (fun v51 wc => ∃ (kq : Nat) (x51_7 : Bool), v51 = .bool x51_7 ∧ Aside0 (lawJoins.j0 kq a3 a4 t233 x51_7 a0_0 a0_1 l0_2 a1_0 a1_1 l1_2 a2_0 a2_1 l2_2 t228 t229 t230 = some r) ∧ Aside0 (kq ≤ k) ∧ Aside0 (Kd.R (Kd.int .i64) 3 wc w.heap.size (fun k_ => some k_ ≠ ((.slice Ao33 t237.length co33) : Value).ownBlock) (.slice Ao23 t230.length co23) t230) ∧ Aside0 (Kd.R (Kd.int .i64) 3 wc w.heap.size (fun k_ => some k_ ≠ ((.slice Ao23 t230.length co23) : Value).ownBlock) (.slice Ao33 t237.length co33) t237) ∧ Aside0 (wc.heap[gA]? = some (.cells #[.int .i64 a0_0, .int .i64 a0_1, (.slice A0_2 l0_2.length c0_2)] 24 (0, 0))) ∧ Aside0 (wc.heap[gB]? = some (.cells #[.int .i64 a1_0, .int .i64 a1_1, (.slice A1_2 l1_2.length c1_2)] 24 (0, 0))) ∧ Aside0 (wc.heap[gC]? = some (.cells #[.int .i64 a2_0, .int .i64 a2_1, (.slice A2_2 l2_2.length c2_2)] 24 (0, 0))) ∧ Aside0 (wc.heap[gD]? = some (.cells #[.int .i64 t228, .int .i64 t229, (.slice Ao23 t230.length co23)] 24 (0, 0))) ∧ Aside0 (wc.heap[gE]? = some (.cells #[.int .i64 t235, .int .i64 t236, (.slice Ao33 t237.length co33)] 24 (0, 0))) ∧ Aside0 (Below w.heap.size w wc))
 case first =>
  have H := HC8.out
  clear HC8
  replace H := Option.bind_eq_some_iff.mp H
  obtain ⟨t242, A340, H⟩ := H
  replace H : (if t242 = true then (lawJoins.j0 k a3 a4 t233 (t233 != t240) a0_0 a0_1 l0_2 a1_0 a1_1 l1_2 a2_0 a2_1 l2_2 t228 t229 t230) else (lawJoins.j0 k a3 a4 t233 true a0_0 a0_1 l0_2 a1_0 a1_1 l1_2 a2_0 a2_1 l2_2 t228 t229 t230)) = some r := H
  have A34 := zA A340
  clear A340
  by_cases c35 : t242 = true
  ·
   subst c35
   have H1 : (lawJoins.j0 k a3 a4 t233 (t233 != t240) a0_0 a0_1 l0_2 a1_0 a1_1 l1_2 a2_0 a2_1 l2_2 t228 t229 t230) = some r := by rw [if_pos rfl] at H; exact H
   clear H
   have H := H1
   clear H1
   have H' := zA H
   clear H
   have hnb36 := NB234_225.out
   have hnc36 := NB225_234.out
   have hnb37 := NB234_226.out
   have hnc37 := NB226_234.out
   have hnb38 := NB234_227.out
   have hnc38 := NB227_234.out
   have hnb39 := NB234_241.out
   have hnc39 := NB241_234.out
   have hcz40_0 : w27.cell? ⟨gD, 0, none⟩ = some (.int .i64 t228) := (blk_cell BK3m.out 0).trans rfl
   have hcz40_1 : w27.cell? ⟨gD, 1, none⟩ = some (.int .i64 t229) := (blk_cell BK3m.out 1).trans rfl
   have hcz40_2 : w27.cell? ⟨gD, 2, none⟩ = some (.slice Ao23 t230.length co23) := (blk_cell BK3m.out 2).trans rfl
   have hfz40_0 := blk_frozen BK3m.out 0
   have hfz40_1 := blk_frozen BK3m.out 1
   have hfz40_2 := blk_frozen BK3m.out 2
   have hnb41 := NB241_225.out
   have hnc41 := NB225_241.out
   have hnb42 := NB241_226.out
   have hnc42 := NB226_241.out
   have hnb43 := NB241_227.out
   have hnc43 := NB227_241.out
   have hcz44_0 : w27.cell? ⟨gE, 0, none⟩ = some (.int .i64 0) := (blk_cell BK3t.out 0).trans rfl
   have hcz44_1 : w27.cell? ⟨gE, 1, none⟩ = some (.int .i64 0) := (blk_cell BK3t.out 1).trans rfl
   have hcz44_2 : w27.cell? ⟨gE, 2, none⟩ = some (.slice none 0 0) := (blk_cell BK3t.out 2).trans rfl
   have hfz44_0 := blk_frozen BK3t.out 0
   have hfz44_1 := blk_frozen BK3t.out 1
   have hfz44_2 := blk_frozen BK3t.out 2
   go_wp2_with (first | ((with_reducible refine gate_callee (f := 15) rfl ?_); refine goesL_ (some 45) rfl rfl Try.func15 (by kernel_rfl) rfl #[.agg #[.int .i64 t228, .int .i64 t229, .slice Ao23 t230.length co23], .agg #[.int .i64 t235, .int .i64 t236, .slice Ao33 t237.length co33]] rfl (by (try simp only [List.map_toArray, List.map_cons, List.map_nil]); first | done | rfl | (simp only [List.length_drop, List.length_take]; rfl)) ?_; (with_reducible refine (kimberlitelaw03_alike.calls k t228 t229 _ _ t230 t235 t236 _ _ t237 true _ ?side1 ?side2 ?side3 ?side4 A34.out).mono ?_); (case side1 => refine (Kd.R_reads' (e := 3) (base := w.heap.size) (ok := fun k_ => (True ∧ some k_ ≠ (.slice Ao33 t237.length co33 : Value).ownBlock)) (n := t230.length) (c := co23) ?_).2.2; exact (by (with_reducible repeat (first | apply Kd.R_alloc | apply Kd.R_drewN | apply Kd.R_drew)); exact (Kd.R_mono (Kd.R_far (p := ⟨gE, 2, none⟩) (Kd.R_far (p := ⟨gE, 1, none⟩) (Kd.R_far (p := ⟨gE, 0, none⟩) (Kd.R_types HO3k.out BK3t.out (by decide)) (fun _ hk => hk.2) (.int .i64 t235)) (fun _ hk => hk.2) (.int .i64 t236)) (fun _ hk => hk.2) (.slice Ao33 t237.length co33)) (fun _ h_ => h_.1)))); (case side2 => exact (Kd.R_reads' HO3k.out).2.1); (case side3 => refine (Kd.R_reads' (e := 3) (base := w.heap.size) (ok := fun k_ => (True ∧ some k_ ≠ (.slice Ao23 t230.length co23 : Value).ownBlock)) (n := t237.length) (c := co33) ?_).2.2; exact (by (with_reducible repeat (first | apply Kd.R_alloc | apply Kd.R_drewN | apply Kd.R_drew)); exact (Kd.R_mono (Kd.R_far (p := ⟨gE, 2, none⟩) (Kd.R_far (p := ⟨gE, 1, none⟩) (Kd.R_far (p := ⟨gE, 0, none⟩) (Kd.R_types HO3r.out BK3t.out (by decide)) (fun _ hk => hk.2) (.int .i64 t235)) (fun _ hk => hk.2) (.int .i64 t236)) (fun _ hk => hk.2) (.slice Ao33 t237.length co33)) (fun _ h_ => h_.1)))); (case side4 => exact (Kd.R_reads' HO3r.out).2.1); rintro e w45 ⟨rfl, hb⟩; refine ⟨_, rfl, ?_⟩; have n0_ := zA (Kd.R_below (by (with_reducible repeat (first | apply Kd.R_alloc | apply Kd.R_drewN | apply Kd.R_drew)); exact (Kd.R_mono (Kd.R_far (p := ⟨gE, 2, none⟩) (Kd.R_far (p := ⟨gE, 1, none⟩) (Kd.R_far (p := ⟨gE, 0, none⟩) (Kd.R_types HO3k.out BK3t.out (by decide)) (fun _ hk => hk.2) (.int .i64 t235)) (fun _ hk => hk.2) (.int .i64 t236)) (fun _ hk => hk.2) (.slice Ao33 t237.length co33)) (fun _ h_ => h_.1))) hb); have n1_ := zA (Kd.R_below (by (with_reducible repeat (first | apply Kd.R_alloc | apply Kd.R_drewN | apply Kd.R_drew)); exact (Kd.R_mono (Kd.R_far (p := ⟨gE, 2, none⟩) (Kd.R_far (p := ⟨gE, 1, none⟩) (Kd.R_far (p := ⟨gE, 0, none⟩) (Kd.R_types HO3r.out BK3t.out (by decide)) (fun _ hk => hk.2) (.int .i64 t235)) (fun _ hk => hk.2) (.int .i64 t236)) (fun _ hk => hk.2) (.slice Ao33 t237.length co33)) (fun _ h_ => h_.1))) hb); have n2_ := zA (blk_below (g := gA) (o := .cells #[.int .i64 a0_0, .int .i64 a0_1, .slice A0_2 l0_2.length c0_2] 24 (0, 0)) (by (with_reducible repeat (first | refine zN ?_ _ | refine zD ?_ | refine zB ?_ _)); refine blk_far ?_ NB225_241.out _; (with_reducible repeat (first | refine zN ?_ _ | refine zD ?_ | refine zB ?_ _)); refine blk_far ?_ NB225_241.out _; (with_reducible repeat (first | refine zN ?_ _ | refine zD ?_ | refine zB ?_ _)); refine blk_far ?_ NB225_241.out _; (with_reducible repeat (first | refine zN ?_ _ | refine zD ?_ | refine zB ?_ _)); exact BK3d.out) hb); have n3_ := zA (blk_below (g := gB) (o := .cells #[.int .i64 a1_0, .int .i64 a1_1, .slice A1_2 l1_2.length c1_2] 24 (0, 0)) (by (with_reducible repeat (first | refine zN ?_ _ | refine zD ?_ | refine zB ?_ _)); refine blk_far ?_ NB226_241.out _; (with_reducible repeat (first | refine zN ?_ _ | refine zD ?_ | refine zB ?_ _)); refine blk_far ?_ NB226_241.out _; (with_reducible repeat (first | refine zN ?_ _ | refine zD ?_ | refine zB ?_ _)); refine blk_far ?_ NB226_241.out _; (with_reducible repeat (first | refine zN ?_ _ | refine zD ?_ | refine zB ?_ _)); exact BK3e.out) hb); have n4_ := zA (blk_below (g := gC) (o := .cells #[.int .i64 a2_0, .int .i64 a2_1, .slice A2_2 l2_2.length c2_2] 24 (0, 0)) (by (with_reducible repeat (first | refine zN ?_ _ | refine zD ?_ | refine zB ?_ _)); refine blk_far ?_ NB227_241.out _; (with_reducible repeat (first | refine zN ?_ _ | refine zD ?_ | refine zB ?_ _)); refine blk_far ?_ NB227_241.out _; (with_reducible repeat (first | refine zN ?_ _ | refine zD ?_ | refine zB ?_ _)); refine blk_far ?_ NB227_241.out _; (with_reducible repeat (first | refine zN ?_ _ | refine zD ?_ | refine zB ?_ _)); exact BK3f.out) hb); have n5_ := zA (blk_below (g := gD) (o := .cells #[.int .i64 t228, .int .i64 t229, .slice Ao23 t230.length co23] 24 (0, 0)) (by (with_reducible repeat (first | refine zN ?_ _ | refine zD ?_ | refine zB ?_ _)); refine blk_far ?_ NB234_241.out _; (with_reducible repeat (first | refine zN ?_ _ | refine zD ?_ | refine zB ?_ _)); refine blk_far ?_ NB234_241.out _; (with_reducible repeat (first | refine zN ?_ _ | refine zD ?_ | refine zB ?_ _)); refine blk_far ?_ NB234_241.out _; (with_reducible repeat (first | refine zN ?_ _ | refine zD ?_ | refine zB ?_ _)); exact BK3m.out) hb); have n6_ := zA (blk_below (g := gE) (o := .cells #[.int .i64 t235, .int .i64 t236, .slice Ao33 t237.length co33] 24 (0, 0)) (by (with_reducible repeat (first | refine zN ?_ _ | refine zD ?_ | refine zB ?_ _)); refine blk_put (cs := #[.int .i64 t235, .int .i64 t236, .slice none 0 0]) ?_ 2 _ rfl; (with_reducible repeat (first | refine zN ?_ _ | refine zD ?_ | refine zB ?_ _)); refine blk_put (cs := #[.int .i64 t235, .int .i64 0, .slice none 0 0]) ?_ 1 _ rfl; (with_reducible repeat (first | refine zN ?_ _ | refine zD ?_ | refine zB ?_ _)); refine blk_put (cs := #[.int .i64 0, .int .i64 0, .slice none 0 0]) ?_ 0 _ rfl; (with_reducible repeat (first | refine zN ?_ _ | refine zD ?_ | refine zB ?_ _)); exact BK3t.out) hb); have n7_ := zA (below_step (by repeat (first | (with_reducible first | exact HB.out | apply zW | apply zX | apply zY | refine zS ?_ GE3d.out | refine zS ?_ GE3e.out | refine zS ?_ GE3f.out | refine zS ?_ GE3m.out | refine zS ?_ GE3t.out) | exact HB.out)) hb); clear HO3k; clear HO3r; clear BK3d; clear BK3e; clear BK3f; clear BK3m; clear BK3t; clear HB; have HO3k := n0_; have HO3r := n1_; have BK3d := n2_; have BK3e := n3_; have BK3f := n4_; have BK3m := n5_; have BK3t := n6_; have HB := n7_; clear n0_ n1_ n2_ n3_ n4_ n5_ n6_ n7_; (try clear hb); (try clear hb2); (try clear hk); (try clear hi)))
   go_meet
   case rel => exact ⟨_, ((t233 != t240)), (by first | rfl | (simp; done) | (simp [*]; done)), H', ⟨by first | omega | exact Nat.le_refl _⟩, ⟨by (with_reducible repeat (first | apply Kd.R_alloc | apply Kd.R_drewN | apply Kd.R_drew)); exact Kd.R_mono HO3k.out (fun _ hk => hk.2)⟩, ⟨by (with_reducible repeat (first | apply Kd.R_alloc | apply Kd.R_drewN | apply Kd.R_drew)); exact Kd.R_mono HO3r.out (fun _ hk => hk.2)⟩, ⟨by (with_reducible repeat (first | refine zN ?_ _ | refine zD ?_ | refine zB ?_ _)); exact BK3d.out⟩, ⟨by (with_reducible repeat (first | refine zN ?_ _ | refine zD ?_ | refine zB ?_ _)); exact BK3e.out⟩, ⟨by (with_reducible repeat (first | refine zN ?_ _ | refine zD ?_ | refine zB ?_ _)); exact BK3f.out⟩, ⟨by (with_reducible repeat (first | refine zN ?_ _ | refine zD ?_ | refine zB ?_ _)); exact BK3m.out⟩, ⟨by (with_reducible repeat (first | refine zN ?_ _ | refine zD ?_ | refine zB ?_ _)); exact BK3t.out⟩, ⟨by repeat (first | (with_reducible first | exact HB.out | apply zW | apply zX | apply zY | refine zS ?_ GE3d.out | refine zS ?_ GE3e.out | refine zS ?_ GE3f.out | refine zS ?_ GE3m.out | refine zS ?_ GE3t.out) | exact HB.out)⟩⟩
  ·
   replace c35 := Bool.eq_false_iff.mpr c35
   subst c35
   have H1 : (lawJoins.j0 k a3 a4 t233 true a0_0 a0_1 l0_2 a1_0 a1_1 l1_2 a2_0 a2_1 l2_2 t228 t229 t230) = some r := by rw [if_neg (show ¬ (false = true) by decide)] at H; exact H
   clear H
   have H := H1
   clear H1
   have H' := zA H
   clear H
   have hnb46 := NB234_225.out
   have hnc46 := NB225_234.out
   have hnb47 := NB234_226.out
   have hnc47 := NB226_234.out
   have hnb48 := NB234_227.out
   have hnc48 := NB227_234.out
   have hnb49 := NB234_241.out
   have hnc49 := NB241_234.out
   have hcz50_0 : w27.cell? ⟨gD, 0, none⟩ = some (.int .i64 t228) := (blk_cell BK3m.out 0).trans rfl
   have hcz50_1 : w27.cell? ⟨gD, 1, none⟩ = some (.int .i64 t229) := (blk_cell BK3m.out 1).trans rfl
   have hcz50_2 : w27.cell? ⟨gD, 2, none⟩ = some (.slice Ao23 t230.length co23) := (blk_cell BK3m.out 2).trans rfl
   have hfz50_0 := blk_frozen BK3m.out 0
   have hfz50_1 := blk_frozen BK3m.out 1
   have hfz50_2 := blk_frozen BK3m.out 2
   have hnb51 := NB241_225.out
   have hnc51 := NB225_241.out
   have hnb52 := NB241_226.out
   have hnc52 := NB226_241.out
   have hnb53 := NB241_227.out
   have hnc53 := NB227_241.out
   have hcz54_0 : w27.cell? ⟨gE, 0, none⟩ = some (.int .i64 0) := (blk_cell BK3t.out 0).trans rfl
   have hcz54_1 : w27.cell? ⟨gE, 1, none⟩ = some (.int .i64 0) := (blk_cell BK3t.out 1).trans rfl
   have hcz54_2 : w27.cell? ⟨gE, 2, none⟩ = some (.slice none 0 0) := (blk_cell BK3t.out 2).trans rfl
   have hfz54_0 := blk_frozen BK3t.out 0
   have hfz54_1 := blk_frozen BK3t.out 1
   have hfz54_2 := blk_frozen BK3t.out 2
   go_wp2_with (first | ((with_reducible refine gate_callee (f := 15) rfl ?_); refine goesL_ (some 45) rfl rfl Try.func15 (by kernel_rfl) rfl #[.agg #[.int .i64 t228, .int .i64 t229, .slice Ao23 t230.length co23], .agg #[.int .i64 t235, .int .i64 t236, .slice Ao33 t237.length co33]] rfl (by (try simp only [List.map_toArray, List.map_cons, List.map_nil]); first | done | rfl | (simp only [List.length_drop, List.length_take]; rfl)) ?_; (with_reducible refine (kimberlitelaw03_alike.calls k t228 t229 _ _ t230 t235 t236 _ _ t237 false _ ?side1 ?side2 ?side3 ?side4 A34.out).mono ?_); (case side1 => refine (Kd.R_reads' (e := 3) (base := w.heap.size) (ok := fun k_ => (True ∧ some k_ ≠ (.slice Ao33 t237.length co33 : Value).ownBlock)) (n := t230.length) (c := co23) ?_).2.2; exact (by (with_reducible repeat (first | apply Kd.R_alloc | apply Kd.R_drewN | apply Kd.R_drew)); exact (Kd.R_mono (Kd.R_far (p := ⟨gE, 2, none⟩) (Kd.R_far (p := ⟨gE, 1, none⟩) (Kd.R_far (p := ⟨gE, 0, none⟩) (Kd.R_types HO3k.out BK3t.out (by decide)) (fun _ hk => hk.2) (.int .i64 t235)) (fun _ hk => hk.2) (.int .i64 t236)) (fun _ hk => hk.2) (.slice Ao33 t237.length co33)) (fun _ h_ => h_.1)))); (case side2 => exact (Kd.R_reads' HO3k.out).2.1); (case side3 => refine (Kd.R_reads' (e := 3) (base := w.heap.size) (ok := fun k_ => (True ∧ some k_ ≠ (.slice Ao23 t230.length co23 : Value).ownBlock)) (n := t237.length) (c := co33) ?_).2.2; exact (by (with_reducible repeat (first | apply Kd.R_alloc | apply Kd.R_drewN | apply Kd.R_drew)); exact (Kd.R_mono (Kd.R_far (p := ⟨gE, 2, none⟩) (Kd.R_far (p := ⟨gE, 1, none⟩) (Kd.R_far (p := ⟨gE, 0, none⟩) (Kd.R_types HO3r.out BK3t.out (by decide)) (fun _ hk => hk.2) (.int .i64 t235)) (fun _ hk => hk.2) (.int .i64 t236)) (fun _ hk => hk.2) (.slice Ao33 t237.length co33)) (fun _ h_ => h_.1)))); (case side4 => exact (Kd.R_reads' HO3r.out).2.1); rintro e w55 ⟨rfl, hb⟩; refine ⟨_, rfl, ?_⟩; have n0_ := zA (Kd.R_below (by (with_reducible repeat (first | apply Kd.R_alloc | apply Kd.R_drewN | apply Kd.R_drew)); exact (Kd.R_mono (Kd.R_far (p := ⟨gE, 2, none⟩) (Kd.R_far (p := ⟨gE, 1, none⟩) (Kd.R_far (p := ⟨gE, 0, none⟩) (Kd.R_types HO3k.out BK3t.out (by decide)) (fun _ hk => hk.2) (.int .i64 t235)) (fun _ hk => hk.2) (.int .i64 t236)) (fun _ hk => hk.2) (.slice Ao33 t237.length co33)) (fun _ h_ => h_.1))) hb); have n1_ := zA (Kd.R_below (by (with_reducible repeat (first | apply Kd.R_alloc | apply Kd.R_drewN | apply Kd.R_drew)); exact (Kd.R_mono (Kd.R_far (p := ⟨gE, 2, none⟩) (Kd.R_far (p := ⟨gE, 1, none⟩) (Kd.R_far (p := ⟨gE, 0, none⟩) (Kd.R_types HO3r.out BK3t.out (by decide)) (fun _ hk => hk.2) (.int .i64 t235)) (fun _ hk => hk.2) (.int .i64 t236)) (fun _ hk => hk.2) (.slice Ao33 t237.length co33)) (fun _ h_ => h_.1))) hb); have n2_ := zA (blk_below (g := gA) (o := .cells #[.int .i64 a0_0, .int .i64 a0_1, .slice A0_2 l0_2.length c0_2] 24 (0, 0)) (by (with_reducible repeat (first | refine zN ?_ _ | refine zD ?_ | refine zB ?_ _)); refine blk_far ?_ NB225_241.out _; (with_reducible repeat (first | refine zN ?_ _ | refine zD ?_ | refine zB ?_ _)); refine blk_far ?_ NB225_241.out _; (with_reducible repeat (first | refine zN ?_ _ | refine zD ?_ | refine zB ?_ _)); refine blk_far ?_ NB225_241.out _; (with_reducible repeat (first | refine zN ?_ _ | refine zD ?_ | refine zB ?_ _)); exact BK3d.out) hb); have n3_ := zA (blk_below (g := gB) (o := .cells #[.int .i64 a1_0, .int .i64 a1_1, .slice A1_2 l1_2.length c1_2] 24 (0, 0)) (by (with_reducible repeat (first | refine zN ?_ _ | refine zD ?_ | refine zB ?_ _)); refine blk_far ?_ NB226_241.out _; (with_reducible repeat (first | refine zN ?_ _ | refine zD ?_ | refine zB ?_ _)); refine blk_far ?_ NB226_241.out _; (with_reducible repeat (first | refine zN ?_ _ | refine zD ?_ | refine zB ?_ _)); refine blk_far ?_ NB226_241.out _; (with_reducible repeat (first | refine zN ?_ _ | refine zD ?_ | refine zB ?_ _)); exact BK3e.out) hb); have n4_ := zA (blk_below (g := gC) (o := .cells #[.int .i64 a2_0, .int .i64 a2_1, .slice A2_2 l2_2.length c2_2] 24 (0, 0)) (by (with_reducible repeat (first | refine zN ?_ _ | refine zD ?_ | refine zB ?_ _)); refine blk_far ?_ NB227_241.out _; (with_reducible repeat (first | refine zN ?_ _ | refine zD ?_ | refine zB ?_ _)); refine blk_far ?_ NB227_241.out _; (with_reducible repeat (first | refine zN ?_ _ | refine zD ?_ | refine zB ?_ _)); refine blk_far ?_ NB227_241.out _; (with_reducible repeat (first | refine zN ?_ _ | refine zD ?_ | refine zB ?_ _)); exact BK3f.out) hb); have n5_ := zA (blk_below (g := gD) (o := .cells #[.int .i64 t228, .int .i64 t229, .slice Ao23 t230.length co23] 24 (0, 0)) (by (with_reducible repeat (first | refine zN ?_ _ | refine zD ?_ | refine zB ?_ _)); refine blk_far ?_ NB234_241.out _; (with_reducible repeat (first | refine zN ?_ _ | refine zD ?_ | refine zB ?_ _)); refine blk_far ?_ NB234_241.out _; (with_reducible repeat (first | refine zN ?_ _ | refine zD ?_ | refine zB ?_ _)); refine blk_far ?_ NB234_241.out _; (with_reducible repeat (first | refine zN ?_ _ | refine zD ?_ | refine zB ?_ _)); exact BK3m.out) hb); have n6_ := zA (blk_below (g := gE) (o := .cells #[.int .i64 t235, .int .i64 t236, .slice Ao33 t237.length co33] 24 (0, 0)) (by (with_reducible repeat (first | refine zN ?_ _ | refine zD ?_ | refine zB ?_ _)); refine blk_put (cs := #[.int .i64 t235, .int .i64 t236, .slice none 0 0]) ?_ 2 _ rfl; (with_reducible repeat (first | refine zN ?_ _ | refine zD ?_ | refine zB ?_ _)); refine blk_put (cs := #[.int .i64 t235, .int .i64 0, .slice none 0 0]) ?_ 1 _ rfl; (with_reducible repeat (first | refine zN ?_ _ | refine zD ?_ | refine zB ?_ _)); refine blk_put (cs := #[.int .i64 0, .int .i64 0, .slice none 0 0]) ?_ 0 _ rfl; (with_reducible repeat (first | refine zN ?_ _ | refine zD ?_ | refine zB ?_ _)); exact BK3t.out) hb); have n7_ := zA (below_step (by repeat (first | (with_reducible first | exact HB.out | apply zW | apply zX | apply zY | refine zS ?_ GE3d.out | refine zS ?_ GE3e.out | refine zS ?_ GE3f.out | refine zS ?_ GE3m.out | refine zS ?_ GE3t.out) | exact HB.out)) hb); clear HO3k; clear HO3r; clear BK3d; clear BK3e; clear BK3f; clear BK3m; clear BK3t; clear HB; have HO3k := n0_; have HO3r := n1_; have BK3d := n2_; have BK3e := n3_; have BK3f := n4_; have BK3m := n5_; have BK3t := n6_; have HB := n7_; clear n0_ n1_ n2_ n3_ n4_ n5_ n6_ n7_; (try clear hb); (try clear hb2); (try clear hk); (try clear hi)))
   go_meet
   case rel => exact ⟨_, (true), (by first | rfl | (simp; done) | (simp [*]; done)), H', ⟨by first | omega | exact Nat.le_refl _⟩, ⟨by (with_reducible repeat (first | apply Kd.R_alloc | apply Kd.R_drewN | apply Kd.R_drew)); exact Kd.R_mono HO3k.out (fun _ hk => hk.2)⟩, ⟨by (with_reducible repeat (first | apply Kd.R_alloc | apply Kd.R_drewN | apply Kd.R_drew)); exact Kd.R_mono HO3r.out (fun _ hk => hk.2)⟩, ⟨by (with_reducible repeat (first | refine zN ?_ _ | refine zD ?_ | refine zB ?_ _)); exact BK3d.out⟩, ⟨by (with_reducible repeat (first | refine zN ?_ _ | refine zD ?_ | refine zB ?_ _)); exact BK3e.out⟩, ⟨by (with_reducible repeat (first | refine zN ?_ _ | refine zD ?_ | refine zB ?_ _)); exact BK3f.out⟩, ⟨by (with_reducible repeat (first | refine zN ?_ _ | refine zD ?_ | refine zB ?_ _)); exact BK3m.out⟩, ⟨by (with_reducible repeat (first | refine zN ?_ _ | refine zD ?_ | refine zB ?_ _)); exact BK3t.out⟩, ⟨by repeat (first | (with_reducible first | exact HB.out | apply zW | apply zX | apply zY | refine zS ?_ GE3d.out | refine zS ?_ GE3e.out | refine zS ?_ GE3f.out | refine zS ?_ GE3m.out | refine zS ?_ GE3t.out) | exact HB.out)⟩⟩
 case rest =>
  clear HC8
  try clear c1
  try clear c2
  try clear p2
  try clear c3
  try clear c4
  try clear c5
  try clear c12
  try clear c13
  try clear c14
  try clear c15
  try clear c19
  try clear c20
  try clear c21
  try clear c28
  try clear c29
  try clear c30
  try clear c31
  try clear c35
  try clear c36
  try clear c37
  try clear c38
  try clear c39
  try clear c41
  try clear c42
  try clear c43
  try clear c46
  try clear c47
  try clear c48
  try clear c49
  try clear c51
  try clear c52
  try clear c53
  try clear hcz14_0
  try clear hcz14_1
  try clear hcz14_2
  try clear hcz16_0
  try clear hcz16_1
  try clear hcz16_2
  try clear hcz22_0
  try clear hcz22_1
  try clear hcz22_2
  try clear hcz24_0
  try clear hcz24_1
  try clear hcz24_2
  try clear hcz25_0
  try clear hcz25_1
  try clear hcz25_2
  try clear hcz32_0
  try clear hcz32_1
  try clear hcz32_2
  try clear hcz40_0
  try clear hcz40_1
  try clear hcz40_2
  try clear hcz44_0
  try clear hcz44_1
  try clear hcz44_2
  try clear hcz50_0
  try clear hcz50_1
  try clear hcz50_2
  try clear hcz54_0
  try clear hcz54_1
  try clear hcz54_2
  try clear hfz14_0
  try clear hfz14_1
  try clear hfz14_2
  try clear hfz16_0
  try clear hfz16_1
  try clear hfz16_2
  try clear hfz22_0
  try clear hfz22_1
  try clear hfz22_2
  try clear hfz24_0
  try clear hfz24_1
  try clear hfz24_2
  try clear hfz25_0
  try clear hfz25_1
  try clear hfz25_2
  try clear hfz32_0
  try clear hfz32_1
  try clear hfz32_2
  try clear hfz40_0
  try clear hfz40_1
  try clear hfz40_2
  try clear hfz44_0
  try clear hfz44_1
  try clear hfz44_2
  try clear hfz50_0
  try clear hfz50_1
  try clear hfz50_2
  try clear hfz54_0
  try clear hfz54_1
  try clear hfz54_2
  obtain ⟨kq, x51_7, rfl, HA, HJ7, HO_235002, HO_242002, BK3d, BK3e, BK3f, BK3m, BK3t, HB⟩ := hcut
  cases kq with
  | zero => exact absurd HA.out (by simp [lawJoins.j0])
  | succ kj7 =>
   have H := HA.out
   clear HA
   simp only [lawJoins.j0] at H
   by_cases c56 : x51_7 = true
   ·
    subst c56
    have H1 : (none) = some r := by rw [if_pos rfl] at H; exact H
    clear H
    have H := H1
    clear H1
    exact absurd H (by simp)
   ·
    replace c56 := Bool.eq_false_iff.mpr c56
    subst c56
    have H1 : (if t233 = 0 then ((curve_Join.f t228 t229 t230 a2_0 a2_1 l2_2).bind fun bt247 => ((curve_Join.f a1_0 a1_1 l1_2 a2_0 a2_1 l2_2).bind fun bt254 => ((curve_Join.f a0_0 a0_1 l0_2 bt254.1 bt254.2.1 bt254.2.2.1).bind fun bt261 => (if bt247.2.2.2 = 0 then (if bt254.2.2.2 = 0 then (if bt261.2.2.2 = 0 then ((kimberlitelaw03_alike.f kj7 bt247.1 bt247.2.1 bt247.2.2.1 bt261.1 bt261.2.1 bt261.2.2.1).bind fun t268 => (lawJoins.j1 kj7 a3 a4 (!t268) a0_0 a0_1 l0_2 a1_0 a1_1 l1_2 t228 t229 t230)) else (lawJoins.j1 kj7 a3 a4 false a0_0 a0_1 l0_2 a1_0 a1_1 l1_2 t228 t229 t230)) else (lawJoins.j1 kj7 a3 a4 false a0_0 a0_1 l0_2 a1_0 a1_1 l1_2 t228 t229 t230)) else (lawJoins.j1 kj7 a3 a4 false a0_0 a0_1 l0_2 a1_0 a1_1 l1_2 t228 t229 t230))))) else ((curve_Valid.f a0_0 a0_1 l0_2).bind fun t243 => (if t243 = true then ((curve_Valid.f a1_0 a1_1 l1_2).bind fun t244 => (if ((t233 == 2) == (!t244)) = true then ((kimberlitelaw03_alive.f).bind fun t245 => (some t245)) else (none))) else (if ((t233 == 2) == true) = true then ((kimberlitelaw03_alive.f).bind fun t246 => (some t246)) else (none))))) = some r := by rw [if_neg (show ¬ (false = true) by decide)] at H; exact H
    clear H
    have H := H1
    clear H1
    by_cases c57 : t233 = 0
    ·
     rw [if_pos c57] at H
     have c57b0 : (t233 == 0) = true := beq_iff_eq.mpr c57
     have c57b1 : (t233 != 0) = false := bne_eq_false_iff_eq.mpr c57
     clear c57
     replace H := Option.bind_eq_some_iff.mp H
     obtain ⟨⟨t247, t248, t249, t252⟩, A580, H⟩ := H
     replace H : ((curve_Join.f a1_0 a1_1 l1_2 a2_0 a2_1 l2_2).bind fun bt254 => ((curve_Join.f a0_0 a0_1 l0_2 bt254.1 bt254.2.1 bt254.2.2.1).bind fun bt261 => (if t252 = 0 then (if bt254.2.2.2 = 0 then (if bt261.2.2.2 = 0 then ((kimberlitelaw03_alike.f kj7 t247 t248 t249 bt261.1 bt261.2.1 bt261.2.2.1).bind fun t268 => (lawJoins.j1 kj7 a3 a4 (!t268) a0_0 a0_1 l0_2 a1_0 a1_1 l1_2 t228 t229 t230)) else (lawJoins.j1 kj7 a3 a4 false a0_0 a0_1 l0_2 a1_0 a1_1 l1_2 t228 t229 t230)) else (lawJoins.j1 kj7 a3 a4 false a0_0 a0_1 l0_2 a1_0 a1_1 l1_2 t228 t229 t230)) else (lawJoins.j1 kj7 a3 a4 false a0_0 a0_1 l0_2 a1_0 a1_1 l1_2 t228 t229 t230)))) = some r := H
     have A58 := zA A580
     clear A580
     replace H := Option.bind_eq_some_iff.mp H
     obtain ⟨⟨t254, t255, t256, t259⟩, A590, H⟩ := H
     replace H : ((curve_Join.f a0_0 a0_1 l0_2 t254 t255 t256).bind fun bt261 => (if t252 = 0 then (if t259 = 0 then (if bt261.2.2.2 = 0 then ((kimberlitelaw03_alike.f kj7 t247 t248 t249 bt261.1 bt261.2.1 bt261.2.2.1).bind fun t268 => (lawJoins.j1 kj7 a3 a4 (!t268) a0_0 a0_1 l0_2 a1_0 a1_1 l1_2 t228 t229 t230)) else (lawJoins.j1 kj7 a3 a4 false a0_0 a0_1 l0_2 a1_0 a1_1 l1_2 t228 t229 t230)) else (lawJoins.j1 kj7 a3 a4 false a0_0 a0_1 l0_2 a1_0 a1_1 l1_2 t228 t229 t230)) else (lawJoins.j1 kj7 a3 a4 false a0_0 a0_1 l0_2 a1_0 a1_1 l1_2 t228 t229 t230))) = some r := H
     have A59 := zA A590
     clear A590
     replace H := Option.bind_eq_some_iff.mp H
     obtain ⟨⟨t261, t262, t263, t266⟩, A600, H⟩ := H
     replace H : (if t252 = 0 then (if t259 = 0 then (if t266 = 0 then ((kimberlitelaw03_alike.f kj7 t247 t248 t249 t261 t262 t263).bind fun t268 => (lawJoins.j1 kj7 a3 a4 (!t268) a0_0 a0_1 l0_2 a1_0 a1_1 l1_2 t228 t229 t230)) else (lawJoins.j1 kj7 a3 a4 false a0_0 a0_1 l0_2 a1_0 a1_1 l1_2 t228 t229 t230)) else (lawJoins.j1 kj7 a3 a4 false a0_0 a0_1 l0_2 a1_0 a1_1 l1_2 t228 t229 t230)) else (lawJoins.j1 kj7 a3 a4 false a0_0 a0_1 l0_2 a1_0 a1_1 l1_2 t228 t229 t230)) = some r := H
     have A60 := zA A600
     clear A600
     have HC61 := zA H
     clear H
     have hnb62 := NB234_225.out
     have hnc62 := NB225_234.out
     have hnb63 := NB234_226.out
     have hnc63 := NB226_234.out
     have hnb64 := NB234_227.out
     have hnc64 := NB227_234.out
     have hnb65 := NB234_241.out
     have hnc65 := NB241_234.out
     have hcz66_0 : wc.cell? ⟨gD, 0, none⟩ = some (.int .i64 t228) := (blk_cell BK3m.out 0).trans rfl
     have hcz66_1 : wc.cell? ⟨gD, 1, none⟩ = some (.int .i64 t229) := (blk_cell BK3m.out 1).trans rfl
     have hcz66_2 : wc.cell? ⟨gD, 2, none⟩ = some (.slice Ao23 t230.length co23) := (blk_cell BK3m.out 2).trans rfl
     have hfz66_0 := blk_frozen BK3m.out 0
     have hfz66_1 := blk_frozen BK3m.out 1
     have hfz66_2 := blk_frozen BK3m.out 2
     have hnb67 := NB227_225.out
     have hnc67 := NB225_227.out
     have hnb68 := NB227_226.out
     have hnc68 := NB226_227.out
     have hnb69 := NB227_241.out
     have hnc69 := NB241_227.out
     have hcz70_0 : wc.cell? ⟨gC, 0, none⟩ = some (.int .i64 a2_0) := (blk_cell BK3f.out 0).trans rfl
     have hcz70_1 : wc.cell? ⟨gC, 1, none⟩ = some (.int .i64 a2_1) := (blk_cell BK3f.out 1).trans rfl
     have hcz70_2 : wc.cell? ⟨gC, 2, none⟩ = some (.slice A2_2 l2_2.length c2_2) := (blk_cell BK3f.out 2).trans rfl
     have hfz70_0 := blk_frozen BK3f.out 0
     have hfz70_1 := blk_frozen BK3f.out 1
     have hfz70_2 := blk_frozen BK3f.out 2
     go_upto_region 10 with (first | ((with_reducible refine gate_callee (f := 14) rfl ?_); refine goesL_ (some 71) rfl rfl Try.func14 (by kernel_rfl) rfl #[.agg #[.int .i64 t228, .int .i64 t229, .slice Ao23 t230.length co23], .agg #[.int .i64 a2_0, .int .i64 a2_1, .slice A2_2 l2_2.length c2_2]] rfl (by (try simp only [List.map_toArray, List.map_cons, List.map_nil]); first | done | rfl | (simp only [List.length_drop, List.length_take]; rfl)) ?_; (with_reducible refine (curve_Join.calls t228 t229 _ _ t230 a2_0 a2_1 _ _ l2_2 t247 t248 t249 t252 _ ?side1 ?side2 ?side3 ?side4 A58.out).mono ?_); (case side1 => repeat (first | exact (Kd.R_reads' HO_235002.out).2.2 | (with_reducible refine Kd.C_alloc ?_ _) | (with_reducible refine Kd.C_drewN ?_ _) | (with_reducible refine Kd.C_drew ?_))); (case side2 => exact (Kd.R_reads' HO_235002.out).2.1); (case side3 => repeat (first | exact (Kd.C_below HR2_2.out HB.out) | (with_reducible refine Kd.C_alloc ?_ _) | (with_reducible refine Kd.C_drewN ?_ _) | (with_reducible refine Kd.C_drew ?_))); (case side4 => exact HC2_2.out); rintro e w71 ⟨v250, rfl, ho0, hb⟩; refine ⟨_, rfl, ?_⟩; have n0_ := zA (Kd.R_elder' (by (with_reducible repeat (first | apply Kd.R_alloc | apply Kd.R_drewN | apply Kd.R_drew)); exact HO_235002.out) (Kd.R_base ho0) hb); have n1_ := zA (Kd.R_elder' (by (with_reducible repeat (first | apply Kd.R_alloc | apply Kd.R_drewN | apply Kd.R_drew)); exact HO_242002.out) (Kd.R_base ho0) hb); have n2_ := zA (Kd.R_lower (Kd.R_new' (Kd.R_new' ho0 (Kd.R_lt (by (with_reducible repeat (first | apply Kd.R_alloc | apply Kd.R_drewN | apply Kd.R_drew)); exact HO_235002.out))) (Kd.R_lt (by (with_reducible repeat (first | apply Kd.R_alloc | apply Kd.R_drewN | apply Kd.R_drew)); exact HO_242002.out))) (below_size (by repeat (first | (with_reducible first | exact HB.out | apply zW | apply zX | apply zY | refine zS ?_ GE3d.out | refine zS ?_ GE3e.out | refine zS ?_ GE3f.out | refine zS ?_ GE3m.out | refine zS ?_ GE3t.out) | exact HB.out)))); have n3_ := zA (blk_below (g := gA) (o := .cells #[.int .i64 a0_0, .int .i64 a0_1, .slice A0_2 l0_2.length c0_2] 24 (0, 0)) (by (with_reducible repeat (first | refine zN ?_ _ | refine zD ?_ | refine zB ?_ _)); exact BK3d.out) hb); have n4_ := zA (blk_below (g := gB) (o := .cells #[.int .i64 a1_0, .int .i64 a1_1, .slice A1_2 l1_2.length c1_2] 24 (0, 0)) (by (with_reducible repeat (first | refine zN ?_ _ | refine zD ?_ | refine zB ?_ _)); exact BK3e.out) hb); have n5_ := zA (blk_below (g := gC) (o := .cells #[.int .i64 a2_0, .int .i64 a2_1, .slice A2_2 l2_2.length c2_2] 24 (0, 0)) (by (with_reducible repeat (first | refine zN ?_ _ | refine zD ?_ | refine zB ?_ _)); exact BK3f.out) hb); have n6_ := zA (blk_below (g := gD) (o := .cells #[.int .i64 t228, .int .i64 t229, .slice Ao23 t230.length co23] 24 (0, 0)) (by (with_reducible repeat (first | refine zN ?_ _ | refine zD ?_ | refine zB ?_ _)); exact BK3m.out) hb); have n7_ := zA (blk_below (g := gE) (o := .cells #[.int .i64 t235, .int .i64 t236, .slice Ao33 t237.length co33] 24 (0, 0)) (by (with_reducible repeat (first | refine zN ?_ _ | refine zD ?_ | refine zB ?_ _)); exact BK3t.out) hb); have n8_ := zA (below_step (by repeat (first | (with_reducible first | exact HB.out | apply zW | apply zX | apply zY | refine zS ?_ GE3d.out | refine zS ?_ GE3e.out | refine zS ?_ GE3f.out | refine zS ?_ GE3m.out | refine zS ?_ GE3t.out) | exact HB.out)) hb); clear HO_235002; clear HO_242002; clear BK3d; clear BK3e; clear BK3f; clear BK3m; clear BK3t; clear HB; have HO_235002 := n0_; have HO_242002 := n1_; have HO43 := n2_; have BK3d := n3_; have BK3e := n4_; have BK3f := n5_; have BK3m := n6_; have BK3t := n7_; have HB := n8_; clear n0_ n1_ n2_ n3_ n4_ n5_ n6_ n7_ n8_; (try clear hb); (try clear hb2); (try clear hk); (try clear hi); (try clear ho0)) | ((with_reducible refine gate_dst (N := 15) rfl ?_); refine box_event ?hg (N := 15) ?hd (cs := #[.int .i64 0, .int .i64 0, .slice none 0 0]) (t := 24) ?hr ?_; (case hd => rfl); (case hg => rfl); (case hr => first | (go_simp; done) | (go_simp; rfl)); intro gF hg w72 hbox hb; have n0_ := zA (Kd.R_below (by (with_reducible repeat (first | apply Kd.R_alloc | apply Kd.R_drewN | apply Kd.R_drew)); exact HO_235002.out) hb); have n1_ := zA (Kd.R_below (by (with_reducible repeat (first | apply Kd.R_alloc | apply Kd.R_drewN | apply Kd.R_drew)); exact HO_242002.out) hb); have n2_ := zA (Kd.R_below (by (with_reducible repeat (first | apply Kd.R_alloc | apply Kd.R_drewN | apply Kd.R_drew)); exact HO43.out) hb); have n3_ := zA (blk_below (g := gA) (o := .cells #[.int .i64 a0_0, .int .i64 a0_1, .slice A0_2 l0_2.length c0_2] 24 (0, 0)) (by (with_reducible repeat (first | refine zN ?_ _ | refine zD ?_ | refine zB ?_ _)); exact BK3d.out) hb); have n4_ := zA (blk_below (g := gB) (o := .cells #[.int .i64 a1_0, .int .i64 a1_1, .slice A1_2 l1_2.length c1_2] 24 (0, 0)) (by (with_reducible repeat (first | refine zN ?_ _ | refine zD ?_ | refine zB ?_ _)); exact BK3e.out) hb); have n5_ := zA (blk_below (g := gC) (o := .cells #[.int .i64 a2_0, .int .i64 a2_1, .slice A2_2 l2_2.length c2_2] 24 (0, 0)) (by (with_reducible repeat (first | refine zN ?_ _ | refine zD ?_ | refine zB ?_ _)); exact BK3f.out) hb); have n6_ := zA (blk_below (g := gD) (o := .cells #[.int .i64 t228, .int .i64 t229, .slice Ao23 t230.length co23] 24 (0, 0)) (by (with_reducible repeat (first | refine zN ?_ _ | refine zD ?_ | refine zB ?_ _)); exact BK3m.out) hb); have n7_ := zA (blk_below (g := gE) (o := .cells #[.int .i64 t235, .int .i64 t236, .slice Ao33 t237.length co33] 24 (0, 0)) (by (with_reducible repeat (first | refine zN ?_ _ | refine zD ?_ | refine zB ?_ _)); exact BK3t.out) hb); have n8_ := zA (below_step (by repeat (first | (with_reducible first | exact HB.out | apply zW | apply zX | apply zY | refine zS ?_ GE3d.out | refine zS ?_ GE3e.out | refine zS ?_ GE3f.out | refine zS ?_ GE3m.out | refine zS ?_ GE3t.out) | exact HB.out)) hb); have n9_ := zA (hbox); have n10_ := zA ((by rw [hg]; exact (below_size (by repeat (first | (with_reducible first | exact HB.out | apply zW | apply zX | apply zY | refine zS ?_ GE3d.out | refine zS ?_ GE3e.out | refine zS ?_ GE3f.out | refine zS ?_ GE3m.out | refine zS ?_ GE3t.out) | exact HB.out))) : w.heap.size ≤ gF)); have n11_ := zA ((by rw [hg]; exact (below_size (by repeat (first | (with_reducible first | exact HB.out | apply zW | apply zX | apply zY | refine zS ?_ GE3d.out | refine zS ?_ GE3e.out | refine zS ?_ GE3f.out | refine zS ?_ GE3m.out | refine zS ?_ GE3t.out) | exact HB.out))) : w.heap.size ≤ gF)); have n12_ := zA ((by rw [hg]; exact Nat.ne_of_lt (blk_lt (g := gA) (o := .cells #[.int .i64 a0_0, .int .i64 a0_1, .slice A0_2 l0_2.length c0_2] 24 (0, 0)) (by (with_reducible repeat (first | refine zN ?_ _ | refine zD ?_ | refine zB ?_ _)); exact BK3d.out)) : gA ≠ gF)); have n13_ := zA ((by rw [hg]; exact Nat.ne_of_gt (blk_lt (g := gA) (o := .cells #[.int .i64 a0_0, .int .i64 a0_1, .slice A0_2 l0_2.length c0_2] 24 (0, 0)) (by (with_reducible repeat (first | refine zN ?_ _ | refine zD ?_ | refine zB ?_ _)); exact BK3d.out)) : gF ≠ gA)); have n14_ := zA ((by rw [hg]; exact Nat.ne_of_lt (blk_lt (g := gB) (o := .cells #[.int .i64 a1_0, .int .i64 a1_1, .slice A1_2 l1_2.length c1_2] 24 (0, 0)) (by (with_reducible repeat (first | refine zN ?_ _ | refine zD ?_ | refine zB ?_ _)); exact BK3e.out)) : gB ≠ gF)); have n15_ := zA ((by rw [hg]; exact Nat.ne_of_gt (blk_lt (g := gB) (o := .cells #[.int .i64 a1_0, .int .i64 a1_1, .slice A1_2 l1_2.length c1_2] 24 (0, 0)) (by (with_reducible repeat (first | refine zN ?_ _ | refine zD ?_ | refine zB ?_ _)); exact BK3e.out)) : gF ≠ gB)); have n16_ := zA ((by rw [hg]; exact Nat.ne_of_lt (blk_lt (g := gC) (o := .cells #[.int .i64 a2_0, .int .i64 a2_1, .slice A2_2 l2_2.length c2_2] 24 (0, 0)) (by (with_reducible repeat (first | refine zN ?_ _ | refine zD ?_ | refine zB ?_ _)); exact BK3f.out)) : gC ≠ gF)); have n17_ := zA ((by rw [hg]; exact Nat.ne_of_gt (blk_lt (g := gC) (o := .cells #[.int .i64 a2_0, .int .i64 a2_1, .slice A2_2 l2_2.length c2_2] 24 (0, 0)) (by (with_reducible repeat (first | refine zN ?_ _ | refine zD ?_ | refine zB ?_ _)); exact BK3f.out)) : gF ≠ gC)); have n18_ := zA ((by rw [hg]; exact Nat.ne_of_lt (blk_lt (g := gD) (o := .cells #[.int .i64 t228, .int .i64 t229, .slice Ao23 t230.length co23] 24 (0, 0)) (by (with_reducible repeat (first | refine zN ?_ _ | refine zD ?_ | refine zB ?_ _)); exact BK3m.out)) : gD ≠ gF)); have n19_ := zA ((by rw [hg]; exact Nat.ne_of_gt (blk_lt (g := gD) (o := .cells #[.int .i64 t228, .int .i64 t229, .slice Ao23 t230.length co23] 24 (0, 0)) (by (with_reducible repeat (first | refine zN ?_ _ | refine zD ?_ | refine zB ?_ _)); exact BK3m.out)) : gF ≠ gD)); have n20_ := zA ((by rw [hg]; exact Nat.ne_of_lt (blk_lt (g := gE) (o := .cells #[.int .i64 t235, .int .i64 t236, .slice Ao33 t237.length co33] 24 (0, 0)) (by (with_reducible repeat (first | refine zN ?_ _ | refine zD ?_ | refine zB ?_ _)); exact BK3t.out)) : gE ≠ gF)); have n21_ := zA ((by rw [hg]; exact Nat.ne_of_gt (blk_lt (g := gE) (o := .cells #[.int .i64 t235, .int .i64 t236, .slice Ao33 t237.length co33] 24 (0, 0)) (by (with_reducible repeat (first | refine zN ?_ _ | refine zD ?_ | refine zB ?_ _)); exact BK3t.out)) : gF ≠ gE)); clear HO_235002; clear HO_242002; clear HO43; clear BK3d; clear BK3e; clear BK3f; clear BK3m; clear BK3t; clear HB; have HO_235002 := n0_; have HO_242002 := n1_; have HO43 := n2_; have BK3d := n3_; have BK3e := n4_; have BK3f := n5_; have BK3m := n6_; have BK3t := n7_; have HB := n8_; have BK45 := n9_; have GW45 := n10_; have GE45 := n11_; have NB225_253 := n12_; have NB253_225 := n13_; have NB226_253 := n14_; have NB253_226 := n15_; have NB227_253 := n16_; have NB253_227 := n17_; have NB234_253 := n18_; have NB253_234 := n19_; have NB241_253 := n20_; have NB253_241 := n21_; clear n0_ n1_ n2_ n3_ n4_ n5_ n6_ n7_ n8_ n9_ n10_ n11_ n12_ n13_ n14_ n15_ n16_ n17_ n18_ n19_ n20_ n21_; clear hb hbox hg; have hnb73 := NB253_225.out; have hnc73 := NB225_253.out; have hnb74 := NB253_226.out; have hnc74 := NB226_253.out; have hnb75 := NB253_227.out; have hnc75 := NB227_253.out; have hnb76 := NB253_234.out; have hnc76 := NB234_253.out; have hnb77 := NB253_241.out; have hnc77 := NB241_253.out; have hcz78_0 : w72.cell? ⟨gF, 0, none⟩ = some (.int .i64 0) := (blk_cell BK45.out 0).trans rfl; have hcz78_1 : w72.cell? ⟨gF, 1, none⟩ = some (.int .i64 0) := (blk_cell BK45.out 1).trans rfl; have hcz78_2 : w72.cell? ⟨gF, 2, none⟩ = some (.slice none 0 0) := (blk_cell BK45.out 2).trans rfl; have hfz78_0 := blk_frozen BK45.out 0; have hfz78_1 := blk_frozen BK45.out 1; have hfz78_2 := blk_frozen BK45.out 2; obtain ⟨Ao79, co79, eo79⟩ := Kd.R_slice HO43.out; subst eo79; have hnb80 := NB226_225.out; have hnc80 := NB225_226.out; have hnb81 := NB226_241.out; have hnc81 := NB241_226.out; have hcz82_0 : w72.cell? ⟨gB, 0, none⟩ = some (.int .i64 a1_0) := (blk_cell BK3e.out 0).trans rfl; have hcz82_1 : w72.cell? ⟨gB, 1, none⟩ = some (.int .i64 a1_1) := (blk_cell BK3e.out 1).trans rfl; have hcz82_2 : w72.cell? ⟨gB, 2, none⟩ = some (.slice A1_2 l1_2.length c1_2) := (blk_cell BK3e.out 2).trans rfl; have hfz82_0 := blk_frozen BK3e.out 0; have hfz82_1 := blk_frozen BK3e.out 1; have hfz82_2 := blk_frozen BK3e.out 2; have hcz83_0 : w72.cell? ⟨gC, 0, none⟩ = some (.int .i64 a2_0) := (blk_cell BK3f.out 0).trans rfl; have hcz83_1 : w72.cell? ⟨gC, 1, none⟩ = some (.int .i64 a2_1) := (blk_cell BK3f.out 1).trans rfl; have hcz83_2 : w72.cell? ⟨gC, 2, none⟩ = some (.slice A2_2 l2_2.length c2_2) := (blk_cell BK3f.out 2).trans rfl; have hfz83_0 := blk_frozen BK3f.out 0; have hfz83_1 := blk_frozen BK3f.out 1; have hfz83_2 := blk_frozen BK3f.out 2) | ((with_reducible refine gate_callee (f := 14) rfl ?_); refine goesL_ (some 77) rfl rfl Try.func14 (by kernel_rfl) rfl #[.agg #[.int .i64 a1_0, .int .i64 a1_1, .slice A1_2 l1_2.length c1_2], .agg #[.int .i64 a2_0, .int .i64 a2_1, .slice A2_2 l2_2.length c2_2]] rfl (by (try simp only [List.map_toArray, List.map_cons, List.map_nil]); first | done | rfl | (simp only [List.length_drop, List.length_take]; rfl)) ?_; (with_reducible refine (curve_Join.calls a1_0 a1_1 _ _ l1_2 a2_0 a2_1 _ _ l2_2 t254 t255 t256 t259 _ ?side1 ?side2 ?side3 ?side4 A59.out).mono ?_); (case side1 => exact Kd.C_below HR1_2.out (by repeat (first | (with_reducible first | exact HB.out | apply zW | apply zX | apply zY | refine zS ?_ GE3d.out | refine zS ?_ GE3e.out | refine zS ?_ GE3f.out | refine zS ?_ GE3m.out | refine zS ?_ GE3t.out | refine zS ?_ GE45.out) | exact HB.out))); (case side2 => exact HC1_2.out); (case side3 => exact Kd.C_below HR2_2.out (by repeat (first | (with_reducible first | exact HB.out | apply zW | apply zX | apply zY | refine zS ?_ GE3d.out | refine zS ?_ GE3e.out | refine zS ?_ GE3f.out | refine zS ?_ GE3m.out | refine zS ?_ GE3t.out | refine zS ?_ GE45.out) | exact HB.out))); (case side4 => exact HC2_2.out); rintro e w84 ⟨v257, rfl, ho0, hb⟩; refine ⟨_, rfl, ?_⟩; have n0_ := zA (Kd.R_elder' (by (with_reducible repeat (first | apply Kd.R_alloc | apply Kd.R_drewN | apply Kd.R_drew)); exact (Kd.R_mono (Kd.R_far (p := ⟨gF, 2, none⟩) (Kd.R_far (p := ⟨gF, 1, none⟩) (Kd.R_far (p := ⟨gF, 0, none⟩) (Kd.R_types HO_235002.out BK45.out (by decide)) (fun _ hk => hk.2) (.int .i64 t247)) (fun _ hk => hk.2) (.int .i64 t248)) (fun _ hk => hk.2) (.slice Ao79 t249.length co79)) (fun _ h_ => h_.1))) (Kd.R_base ho0) hb); have n1_ := zA (Kd.R_elder' (by (with_reducible repeat (first | apply Kd.R_alloc | apply Kd.R_drewN | apply Kd.R_drew)); exact (Kd.R_mono (Kd.R_far (p := ⟨gF, 2, none⟩) (Kd.R_far (p := ⟨gF, 1, none⟩) (Kd.R_far (p := ⟨gF, 0, none⟩) (Kd.R_types HO_242002.out BK45.out (by decide)) (fun _ hk => hk.2) (.int .i64 t247)) (fun _ hk => hk.2) (.int .i64 t248)) (fun _ hk => hk.2) (.slice Ao79 t249.length co79)) (fun _ h_ => h_.1))) (Kd.R_base ho0) hb); have n2_ := zA (Kd.R_elder' (by (with_reducible repeat (first | apply Kd.R_alloc | apply Kd.R_drewN | apply Kd.R_drew)); exact (Kd.R_mono (Kd.R_far (p := ⟨gF, 2, none⟩) (Kd.R_far (p := ⟨gF, 1, none⟩) (Kd.R_far (p := ⟨gF, 0, none⟩) (Kd.R_types HO43.out BK45.out (by decide)) (fun _ hk => hk.2) (.int .i64 t247)) (fun _ hk => hk.2) (.int .i64 t248)) (fun _ hk => hk.2) (.slice Ao79 t249.length co79)) (fun _ h_ => h_.1))) (Kd.R_base ho0) hb); have n3_ := zA (Kd.R_lower (Kd.R_new' (Kd.R_new' (Kd.R_new' ho0 (Kd.R_lt (by (with_reducible repeat (first | apply Kd.R_alloc | apply Kd.R_drewN | apply Kd.R_drew)); exact (Kd.R_mono (Kd.R_far (p := ⟨gF, 2, none⟩) (Kd.R_far (p := ⟨gF, 1, none⟩) (Kd.R_far (p := ⟨gF, 0, none⟩) (Kd.R_types HO_235002.out BK45.out (by decide)) (fun _ hk => hk.2) (.int .i64 t247)) (fun _ hk => hk.2) (.int .i64 t248)) (fun _ hk => hk.2) (.slice Ao79 t249.length co79)) (fun _ h_ => h_.1))))) (Kd.R_lt (by (with_reducible repeat (first | apply Kd.R_alloc | apply Kd.R_drewN | apply Kd.R_drew)); exact (Kd.R_mono (Kd.R_far (p := ⟨gF, 2, none⟩) (Kd.R_far (p := ⟨gF, 1, none⟩) (Kd.R_far (p := ⟨gF, 0, none⟩) (Kd.R_types HO_242002.out BK45.out (by decide)) (fun _ hk => hk.2) (.int .i64 t247)) (fun _ hk => hk.2) (.int .i64 t248)) (fun _ hk => hk.2) (.slice Ao79 t249.length co79)) (fun _ h_ => h_.1))))) (Kd.R_lt (by (with_reducible repeat (first | apply Kd.R_alloc | apply Kd.R_drewN | apply Kd.R_drew)); exact (Kd.R_mono (Kd.R_far (p := ⟨gF, 2, none⟩) (Kd.R_far (p := ⟨gF, 1, none⟩) (Kd.R_far (p := ⟨gF, 0, none⟩) (Kd.R_types HO43.out BK45.out (by decide)) (fun _ hk => hk.2) (.int .i64 t247)) (fun _ hk => hk.2) (.int .i64 t248)) (fun _ hk => hk.2) (.slice Ao79 t249.length co79)) (fun _ h_ => h_.1))))) (below_size (by repeat (first | (with_reducible first | exact HB.out | apply zW | apply zX | apply zY | refine zS ?_ GE3d.out | refine zS ?_ GE3e.out | refine zS ?_ GE3f.out | refine zS ?_ GE3m.out | refine zS ?_ GE3t.out | refine zS ?_ GE45.out) | exact HB.out)))); have n4_ := zA (blk_below (g := gA) (o := .cells #[.int .i64 a0_0, .int .i64 a0_1, .slice A0_2 l0_2.length c0_2] 24 (0, 0)) (by (with_reducible repeat (first | refine zN ?_ _ | refine zD ?_ | refine zB ?_ _)); refine blk_far ?_ NB225_253.out _; (with_reducible repeat (first | refine zN ?_ _ | refine zD ?_ | refine zB ?_ _)); refine blk_far ?_ NB225_253.out _; (with_reducible repeat (first | refine zN ?_ _ | refine zD ?_ | refine zB ?_ _)); refine blk_far ?_ NB225_253.out _; (with_reducible repeat (first | refine zN ?_ _ | refine zD ?_ | refine zB ?_ _)); exact BK3d.out) hb); have n5_ := zA (blk_below (g := gB) (o := .cells #[.int .i64 a1_0, .int .i64 a1_1, .slice A1_2 l1_2.length c1_2] 24 (0, 0)) (by (with_reducible repeat (first | refine zN ?_ _ | refine zD ?_ | refine zB ?_ _)); refine blk_far ?_ NB226_253.out _; (with_reducible repeat (first | refine zN ?_ _ | refine zD ?_ | refine zB ?_ _)); refine blk_far ?_ NB226_253.out _; (with_reducible repeat (first | refine zN ?_ _ | refine zD ?_ | refine zB ?_ _)); refine blk_far ?_ NB226_253.out _; (with_reducible repeat (first | refine zN ?_ _ | refine zD ?_ | refine zB ?_ _)); exact BK3e.out) hb); have n6_ := zA (blk_below (g := gC) (o := .cells #[.int .i64 a2_0, .int .i64 a2_1, .slice A2_2 l2_2.length c2_2] 24 (0, 0)) (by (with_reducible repeat (first | refine zN ?_ _ | refine zD ?_ | refine zB ?_ _)); refine blk_far ?_ NB227_253.out _; (with_reducible repeat (first | refine zN ?_ _ | refine zD ?_ | refine zB ?_ _)); refine blk_far ?_ NB227_253.out _; (with_reducible repeat (first | refine zN ?_ _ | refine zD ?_ | refine zB ?_ _)); refine blk_far ?_ NB227_253.out _; (with_reducible repeat (first | refine zN ?_ _ | refine zD ?_ | refine zB ?_ _)); exact BK3f.out) hb); have n7_ := zA (blk_below (g := gD) (o := .cells #[.int .i64 t228, .int .i64 t229, .slice Ao23 t230.length co23] 24 (0, 0)) (by (with_reducible repeat (first | refine zN ?_ _ | refine zD ?_ | refine zB ?_ _)); refine blk_far ?_ NB234_253.out _; (with_reducible repeat (first | refine zN ?_ _ | refine zD ?_ | refine zB ?_ _)); refine blk_far ?_ NB234_253.out _; (with_reducible repeat (first | refine zN ?_ _ | refine zD ?_ | refine zB ?_ _)); refine blk_far ?_ NB234_253.out _; (with_reducible repeat (first | refine zN ?_ _ | refine zD ?_ | refine zB ?_ _)); exact BK3m.out) hb); have n8_ := zA (blk_below (g := gE) (o := .cells #[.int .i64 t235, .int .i64 t236, .slice Ao33 t237.length co33] 24 (0, 0)) (by (with_reducible repeat (first | refine zN ?_ _ | refine zD ?_ | refine zB ?_ _)); refine blk_far ?_ NB241_253.out _; (with_reducible repeat (first | refine zN ?_ _ | refine zD ?_ | refine zB ?_ _)); refine blk_far ?_ NB241_253.out _; (with_reducible repeat (first | refine zN ?_ _ | refine zD ?_ | refine zB ?_ _)); refine blk_far ?_ NB241_253.out _; (with_reducible repeat (first | refine zN ?_ _ | refine zD ?_ | refine zB ?_ _)); exact BK3t.out) hb); have n9_ := zA (blk_below (g := gF) (o := .cells #[.int .i64 t247, .int .i64 t248, .slice Ao79 t249.length co79] 24 (0, 0)) (by (with_reducible repeat (first | refine zN ?_ _ | refine zD ?_ | refine zB ?_ _)); refine blk_put (cs := #[.int .i64 t247, .int .i64 t248, .slice none 0 0]) ?_ 2 _ rfl; (with_reducible repeat (first | refine zN ?_ _ | refine zD ?_ | refine zB ?_ _)); refine blk_put (cs := #[.int .i64 t247, .int .i64 0, .slice none 0 0]) ?_ 1 _ rfl; (with_reducible repeat (first | refine zN ?_ _ | refine zD ?_ | refine zB ?_ _)); refine blk_put (cs := #[.int .i64 0, .int .i64 0, .slice none 0 0]) ?_ 0 _ rfl; (with_reducible repeat (first | refine zN ?_ _ | refine zD ?_ | refine zB ?_ _)); exact BK45.out) hb); have n10_ := zA (below_step (by repeat (first | (with_reducible first | exact HB.out | apply zW | apply zX | apply zY | refine zS ?_ GE3d.out | refine zS ?_ GE3e.out | refine zS ?_ GE3f.out | refine zS ?_ GE3m.out | refine zS ?_ GE3t.out | refine zS ?_ GE45.out) | exact HB.out)) hb); clear HO_235002; clear HO_242002; clear HO43; clear BK3d; clear BK3e; clear BK3f; clear BK3m; clear BK3t; clear BK45; clear HB; have HO_235002 := n0_; have HO_242002 := n1_; have HO43 := n2_; have HO4A := n3_; have BK3d := n4_; have BK3e := n5_; have BK3f := n6_; have BK3m := n7_; have BK3t := n8_; have BK45 := n9_; have HB := n10_; clear n0_ n1_ n2_ n3_ n4_ n5_ n6_ n7_ n8_ n9_ n10_; (try clear hb); (try clear hb2); (try clear hk); (try clear hi); (try clear ho0)) | ((with_reducible refine gate_dst (N := 16) rfl ?_); refine box_event ?hg (N := 16) ?hd (cs := #[.int .i64 0, .int .i64 0, .slice none 0 0]) (t := 24) ?hr ?_; (case hd => rfl); (case hg => rfl); (case hr => first | (go_simp; done) | (go_simp; rfl)); intro gG hg w85 hbox hb; have n0_ := zA (Kd.R_below (by (with_reducible repeat (first | apply Kd.R_alloc | apply Kd.R_drewN | apply Kd.R_drew)); exact HO_235002.out) hb); have n1_ := zA (Kd.R_below (by (with_reducible repeat (first | apply Kd.R_alloc | apply Kd.R_drewN | apply Kd.R_drew)); exact HO_242002.out) hb); have n2_ := zA (Kd.R_below (by (with_reducible repeat (first | apply Kd.R_alloc | apply Kd.R_drewN | apply Kd.R_drew)); exact HO43.out) hb); have n3_ := zA (Kd.R_below (by (with_reducible repeat (first | apply Kd.R_alloc | apply Kd.R_drewN | apply Kd.R_drew)); exact HO4A.out) hb); have n4_ := zA (blk_below (g := gA) (o := .cells #[.int .i64 a0_0, .int .i64 a0_1, .slice A0_2 l0_2.length c0_2] 24 (0, 0)) (by (with_reducible repeat (first | refine zN ?_ _ | refine zD ?_ | refine zB ?_ _)); exact BK3d.out) hb); have n5_ := zA (blk_below (g := gB) (o := .cells #[.int .i64 a1_0, .int .i64 a1_1, .slice A1_2 l1_2.length c1_2] 24 (0, 0)) (by (with_reducible repeat (first | refine zN ?_ _ | refine zD ?_ | refine zB ?_ _)); exact BK3e.out) hb); have n6_ := zA (blk_below (g := gC) (o := .cells #[.int .i64 a2_0, .int .i64 a2_1, .slice A2_2 l2_2.length c2_2] 24 (0, 0)) (by (with_reducible repeat (first | refine zN ?_ _ | refine zD ?_ | refine zB ?_ _)); exact BK3f.out) hb); have n7_ := zA (blk_below (g := gD) (o := .cells #[.int .i64 t228, .int .i64 t229, .slice Ao23 t230.length co23] 24 (0, 0)) (by (with_reducible repeat (first | refine zN ?_ _ | refine zD ?_ | refine zB ?_ _)); exact BK3m.out) hb); have n8_ := zA (blk_below (g := gE) (o := .cells #[.int .i64 t235, .int .i64 t236, .slice Ao33 t237.length co33] 24 (0, 0)) (by (with_reducible repeat (first | refine zN ?_ _ | refine zD ?_ | refine zB ?_ _)); exact BK3t.out) hb); have n9_ := zA (blk_below (g := gF) (o := .cells #[.int .i64 t247, .int .i64 t248, .slice Ao79 t249.length co79] 24 (0, 0)) (by (with_reducible repeat (first | refine zN ?_ _ | refine zD ?_ | refine zB ?_ _)); exact BK45.out) hb); have n10_ := zA (below_step (by repeat (first | (with_reducible first | exact HB.out | apply zW | apply zX | apply zY | refine zS ?_ GE3d.out | refine zS ?_ GE3e.out | refine zS ?_ GE3f.out | refine zS ?_ GE3m.out | refine zS ?_ GE3t.out | refine zS ?_ GE45.out) | exact HB.out)) hb); have n11_ := zA (hbox); have n12_ := zA ((by rw [hg]; exact (below_size (by repeat (first | (with_reducible first | exact HB.out | apply zW | apply zX | apply zY | refine zS ?_ GE3d.out | refine zS ?_ GE3e.out | refine zS ?_ GE3f.out | refine zS ?_ GE3m.out | refine zS ?_ GE3t.out | refine zS ?_ GE45.out) | exact HB.out))) : w.heap.size ≤ gG)); have n13_ := zA ((by rw [hg]; exact (below_size (by repeat (first | (with_reducible first | exact HB.out | apply zW | apply zX | apply zY | refine zS ?_ GE3d.out | refine zS ?_ GE3e.out | refine zS ?_ GE3f.out | refine zS ?_ GE3m.out | refine zS ?_ GE3t.out | refine zS ?_ GE45.out) | exact HB.out))) : w.heap.size ≤ gG)); have n14_ := zA ((by rw [hg]; exact Nat.ne_of_lt (blk_lt (g := gA) (o := .cells #[.int .i64 a0_0, .int .i64 a0_1, .slice A0_2 l0_2.length c0_2] 24 (0, 0)) (by (with_reducible repeat (first | refine zN ?_ _ | refine zD ?_ | refine zB ?_ _)); exact BK3d.out)) : gA ≠ gG)); have n15_ := zA ((by rw [hg]; exact Nat.ne_of_gt (blk_lt (g := gA) (o := .cells #[.int .i64 a0_0, .int .i64 a0_1, .slice A0_2 l0_2.length c0_2] 24 (0, 0)) (by (with_reducible repeat (first | refine zN ?_ _ | refine zD ?_ | refine zB ?_ _)); exact BK3d.out)) : gG ≠ gA)); have n16_ := zA ((by rw [hg]; exact Nat.ne_of_lt (blk_lt (g := gB) (o := .cells #[.int .i64 a1_0, .int .i64 a1_1, .slice A1_2 l1_2.length c1_2] 24 (0, 0)) (by (with_reducible repeat (first | refine zN ?_ _ | refine zD ?_ | refine zB ?_ _)); exact BK3e.out)) : gB ≠ gG)); have n17_ := zA ((by rw [hg]; exact Nat.ne_of_gt (blk_lt (g := gB) (o := .cells #[.int .i64 a1_0, .int .i64 a1_1, .slice A1_2 l1_2.length c1_2] 24 (0, 0)) (by (with_reducible repeat (first | refine zN ?_ _ | refine zD ?_ | refine zB ?_ _)); exact BK3e.out)) : gG ≠ gB)); have n18_ := zA ((by rw [hg]; exact Nat.ne_of_lt (blk_lt (g := gC) (o := .cells #[.int .i64 a2_0, .int .i64 a2_1, .slice A2_2 l2_2.length c2_2] 24 (0, 0)) (by (with_reducible repeat (first | refine zN ?_ _ | refine zD ?_ | refine zB ?_ _)); exact BK3f.out)) : gC ≠ gG)); have n19_ := zA ((by rw [hg]; exact Nat.ne_of_gt (blk_lt (g := gC) (o := .cells #[.int .i64 a2_0, .int .i64 a2_1, .slice A2_2 l2_2.length c2_2] 24 (0, 0)) (by (with_reducible repeat (first | refine zN ?_ _ | refine zD ?_ | refine zB ?_ _)); exact BK3f.out)) : gG ≠ gC)); have n20_ := zA ((by rw [hg]; exact Nat.ne_of_lt (blk_lt (g := gD) (o := .cells #[.int .i64 t228, .int .i64 t229, .slice Ao23 t230.length co23] 24 (0, 0)) (by (with_reducible repeat (first | refine zN ?_ _ | refine zD ?_ | refine zB ?_ _)); exact BK3m.out)) : gD ≠ gG)); have n21_ := zA ((by rw [hg]; exact Nat.ne_of_gt (blk_lt (g := gD) (o := .cells #[.int .i64 t228, .int .i64 t229, .slice Ao23 t230.length co23] 24 (0, 0)) (by (with_reducible repeat (first | refine zN ?_ _ | refine zD ?_ | refine zB ?_ _)); exact BK3m.out)) : gG ≠ gD)); have n22_ := zA ((by rw [hg]; exact Nat.ne_of_lt (blk_lt (g := gE) (o := .cells #[.int .i64 t235, .int .i64 t236, .slice Ao33 t237.length co33] 24 (0, 0)) (by (with_reducible repeat (first | refine zN ?_ _ | refine zD ?_ | refine zB ?_ _)); exact BK3t.out)) : gE ≠ gG)); have n23_ := zA ((by rw [hg]; exact Nat.ne_of_gt (blk_lt (g := gE) (o := .cells #[.int .i64 t235, .int .i64 t236, .slice Ao33 t237.length co33] 24 (0, 0)) (by (with_reducible repeat (first | refine zN ?_ _ | refine zD ?_ | refine zB ?_ _)); exact BK3t.out)) : gG ≠ gE)); have n24_ := zA ((by rw [hg]; exact Nat.ne_of_lt (blk_lt (g := gF) (o := .cells #[.int .i64 t247, .int .i64 t248, .slice Ao79 t249.length co79] 24 (0, 0)) (by (with_reducible repeat (first | refine zN ?_ _ | refine zD ?_ | refine zB ?_ _)); exact BK45.out)) : gF ≠ gG)); have n25_ := zA ((by rw [hg]; exact Nat.ne_of_gt (blk_lt (g := gF) (o := .cells #[.int .i64 t247, .int .i64 t248, .slice Ao79 t249.length co79] 24 (0, 0)) (by (with_reducible repeat (first | refine zN ?_ _ | refine zD ?_ | refine zB ?_ _)); exact BK45.out)) : gG ≠ gF)); clear HO_235002; clear HO_242002; clear HO43; clear HO4A; clear BK3d; clear BK3e; clear BK3f; clear BK3m; clear BK3t; clear BK45; clear HB; have HO_235002 := n0_; have HO_242002 := n1_; have HO43 := n2_; have HO4A := n3_; have BK3d := n4_; have BK3e := n5_; have BK3f := n6_; have BK3m := n7_; have BK3t := n8_; have BK45 := n9_; have HB := n10_; have BK4C := n11_; have GW4C := n12_; have GE4C := n13_; have NB225_260 := n14_; have NB260_225 := n15_; have NB226_260 := n16_; have NB260_226 := n17_; have NB227_260 := n18_; have NB260_227 := n19_; have NB234_260 := n20_; have NB260_234 := n21_; have NB241_260 := n22_; have NB260_241 := n23_; have NB253_260 := n24_; have NB260_253 := n25_; clear n0_ n1_ n2_ n3_ n4_ n5_ n6_ n7_ n8_ n9_ n10_ n11_ n12_ n13_ n14_ n15_ n16_ n17_ n18_ n19_ n20_ n21_ n22_ n23_ n24_ n25_; clear hb hbox hg; have hnb86 := NB260_225.out; have hnc86 := NB225_260.out; have hnb87 := NB260_226.out; have hnc87 := NB226_260.out; have hnb88 := NB260_227.out; have hnc88 := NB227_260.out; have hnb89 := NB260_234.out; have hnc89 := NB234_260.out; have hnb90 := NB260_241.out; have hnc90 := NB241_260.out; have hnb91 := NB260_253.out; have hnc91 := NB253_260.out; have hcz92_0 : w85.cell? ⟨gG, 0, none⟩ = some (.int .i64 0) := (blk_cell BK4C.out 0).trans rfl; have hcz92_1 : w85.cell? ⟨gG, 1, none⟩ = some (.int .i64 0) := (blk_cell BK4C.out 1).trans rfl; have hcz92_2 : w85.cell? ⟨gG, 2, none⟩ = some (.slice none 0 0) := (blk_cell BK4C.out 2).trans rfl; have hfz92_0 := blk_frozen BK4C.out 0; have hfz92_1 := blk_frozen BK4C.out 1; have hfz92_2 := blk_frozen BK4C.out 2; obtain ⟨Ao93, co93, eo93⟩ := Kd.R_slice HO4A.out; subst eo93; have hnb94 := NB225_241.out; have hnc94 := NB241_225.out; have hcz95_0 : w85.cell? ⟨gA, 0, none⟩ = some (.int .i64 a0_0) := (blk_cell BK3d.out 0).trans rfl; have hcz95_1 : w85.cell? ⟨gA, 1, none⟩ = some (.int .i64 a0_1) := (blk_cell BK3d.out 1).trans rfl; have hcz95_2 : w85.cell? ⟨gA, 2, none⟩ = some (.slice A0_2 l0_2.length c0_2) := (blk_cell BK3d.out 2).trans rfl; have hfz95_0 := blk_frozen BK3d.out 0; have hfz95_1 := blk_frozen BK3d.out 1; have hfz95_2 := blk_frozen BK3d.out 2) | ((with_reducible refine gate_callee (f := 14) rfl ?_); refine goesL_ (some 83) rfl rfl Try.func14 (by kernel_rfl) rfl #[.agg #[.int .i64 a0_0, .int .i64 a0_1, .slice A0_2 l0_2.length c0_2], .agg #[.int .i64 t254, .int .i64 t255, .slice Ao93 t256.length co93]] rfl (by (try simp only [List.map_toArray, List.map_cons, List.map_nil]); first | done | rfl | (simp only [List.length_drop, List.length_take]; rfl)) ?_; (with_reducible refine (curve_Join.calls a0_0 a0_1 _ _ l0_2 t254 t255 _ _ t256 t261 t262 t263 t266 _ ?side1 ?side2 ?side3 ?side4 A60.out).mono ?_); (case side1 => exact Kd.C_below HR0_2.out (by repeat (first | (with_reducible first | exact HB.out | apply zW | apply zX | apply zY | refine zS ?_ GE3d.out | refine zS ?_ GE3e.out | refine zS ?_ GE3f.out | refine zS ?_ GE3m.out | refine zS ?_ GE3t.out | refine zS ?_ GE45.out | refine zS ?_ GE4C.out) | exact HB.out))); (case side2 => exact HC0_2.out); (case side3 => refine (Kd.R_reads' (e := 3) (base := w.heap.size) (ok := fun k_ => (((True ∧ some k_ ≠ (.slice Ao23 t230.length co23 : Value).ownBlock) ∧ some k_ ≠ (.slice Ao33 t237.length co33 : Value).ownBlock) ∧ some k_ ≠ (.slice Ao79 t249.length co79 : Value).ownBlock)) (n := t256.length) (c := co93) ?_).2.2; exact (by (with_reducible repeat (first | apply Kd.R_alloc | apply Kd.R_drewN | apply Kd.R_drew)); exact (Kd.R_mono (Kd.R_far (p := ⟨gG, 2, none⟩) (Kd.R_far (p := ⟨gG, 1, none⟩) (Kd.R_far (p := ⟨gG, 0, none⟩) (Kd.R_types HO4A.out BK4C.out (by decide)) (fun _ hk => hk.2) (.int .i64 t254)) (fun _ hk => hk.2) (.int .i64 t255)) (fun _ hk => hk.2) (.slice Ao93 t256.length co93)) (fun _ h_ => h_.1)))); (case side4 => exact (Kd.R_reads' HO4A.out).2.1); rintro e w96 ⟨v264, rfl, ho0, hb⟩; refine ⟨_, rfl, ?_⟩; have n0_ := zA (Kd.R_elder' (by (with_reducible repeat (first | apply Kd.R_alloc | apply Kd.R_drewN | apply Kd.R_drew)); exact (Kd.R_mono (Kd.R_far (p := ⟨gG, 2, none⟩) (Kd.R_far (p := ⟨gG, 1, none⟩) (Kd.R_far (p := ⟨gG, 0, none⟩) (Kd.R_types HO_235002.out BK4C.out (by decide)) (fun _ hk => hk.2) (.int .i64 t254)) (fun _ hk => hk.2) (.int .i64 t255)) (fun _ hk => hk.2) (.slice Ao93 t256.length co93)) (fun _ h_ => h_.1))) (Kd.R_base ho0) hb); have n1_ := zA (Kd.R_elder' (by (with_reducible repeat (first | apply Kd.R_alloc | apply Kd.R_drewN | apply Kd.R_drew)); exact (Kd.R_mono (Kd.R_far (p := ⟨gG, 2, none⟩) (Kd.R_far (p := ⟨gG, 1, none⟩) (Kd.R_far (p := ⟨gG, 0, none⟩) (Kd.R_types HO_242002.out BK4C.out (by decide)) (fun _ hk => hk.2) (.int .i64 t254)) (fun _ hk => hk.2) (.int .i64 t255)) (fun _ hk => hk.2) (.slice Ao93 t256.length co93)) (fun _ h_ => h_.1))) (Kd.R_base ho0) hb); have n2_ := zA (Kd.R_elder' (by (with_reducible repeat (first | apply Kd.R_alloc | apply Kd.R_drewN | apply Kd.R_drew)); exact (Kd.R_mono (Kd.R_far (p := ⟨gG, 2, none⟩) (Kd.R_far (p := ⟨gG, 1, none⟩) (Kd.R_far (p := ⟨gG, 0, none⟩) (Kd.R_types HO43.out BK4C.out (by decide)) (fun _ hk => hk.2) (.int .i64 t254)) (fun _ hk => hk.2) (.int .i64 t255)) (fun _ hk => hk.2) (.slice Ao93 t256.length co93)) (fun _ h_ => h_.1))) (Kd.R_base ho0) hb); have n3_ := zA (Kd.R_elder' (by (with_reducible repeat (first | apply Kd.R_alloc | apply Kd.R_drewN | apply Kd.R_drew)); exact (Kd.R_mono (Kd.R_far (p := ⟨gG, 2, none⟩) (Kd.R_far (p := ⟨gG, 1, none⟩) (Kd.R_far (p := ⟨gG, 0, none⟩) (Kd.R_types HO4A.out BK4C.out (by decide)) (fun _ hk => hk.2) (.int .i64 t254)) (fun _ hk => hk.2) (.int .i64 t255)) (fun _ hk => hk.2) (.slice Ao93 t256.length co93)) (fun _ h_ => h_.1))) (Kd.R_base ho0) hb); have n4_ := zA (Kd.R_lower (Kd.R_new' (Kd.R_new' (Kd.R_new' (Kd.R_new' ho0 (Kd.R_lt (by (with_reducible repeat (first | apply Kd.R_alloc | apply Kd.R_drewN | apply Kd.R_drew)); exact (Kd.R_mono (Kd.R_far (p := ⟨gG, 2, none⟩) (Kd.R_far (p := ⟨gG, 1, none⟩) (Kd.R_far (p := ⟨gG, 0, none⟩) (Kd.R_types HO_235002.out BK4C.out (by decide)) (fun _ hk => hk.2) (.int .i64 t254)) (fun _ hk => hk.2) (.int .i64 t255)) (fun _ hk => hk.2) (.slice Ao93 t256.length co93)) (fun _ h_ => h_.1))))) (Kd.R_lt (by (with_reducible repeat (first | apply Kd.R_alloc | apply Kd.R_drewN | apply Kd.R_drew)); exact (Kd.R_mono (Kd.R_far (p := ⟨gG, 2, none⟩) (Kd.R_far (p := ⟨gG, 1, none⟩) (Kd.R_far (p := ⟨gG, 0, none⟩) (Kd.R_types HO_242002.out BK4C.out (by decide)) (fun _ hk => hk.2) (.int .i64 t254)) (fun _ hk => hk.2) (.int .i64 t255)) (fun _ hk => hk.2) (.slice Ao93 t256.length co93)) (fun _ h_ => h_.1))))) (Kd.R_lt (by (with_reducible repeat (first | apply Kd.R_alloc | apply Kd.R_drewN | apply Kd.R_drew)); exact (Kd.R_mono (Kd.R_far (p := ⟨gG, 2, none⟩) (Kd.R_far (p := ⟨gG, 1, none⟩) (Kd.R_far (p := ⟨gG, 0, none⟩) (Kd.R_types HO43.out BK4C.out (by decide)) (fun _ hk => hk.2) (.int .i64 t254)) (fun _ hk => hk.2) (.int .i64 t255)) (fun _ hk => hk.2) (.slice Ao93 t256.length co93)) (fun _ h_ => h_.1))))) (Kd.R_lt (by (with_reducible repeat (first | apply Kd.R_alloc | apply Kd.R_drewN | apply Kd.R_drew)); exact (Kd.R_mono (Kd.R_far (p := ⟨gG, 2, none⟩) (Kd.R_far (p := ⟨gG, 1, none⟩) (Kd.R_far (p := ⟨gG, 0, none⟩) (Kd.R_types HO4A.out BK4C.out (by decide)) (fun _ hk => hk.2) (.int .i64 t254)) (fun _ hk => hk.2) (.int .i64 t255)) (fun _ hk => hk.2) (.slice Ao93 t256.length co93)) (fun _ h_ => h_.1))))) (below_size (by repeat (first | (with_reducible first | exact HB.out | apply zW | apply zX | apply zY | refine zS ?_ GE3d.out | refine zS ?_ GE3e.out | refine zS ?_ GE3f.out | refine zS ?_ GE3m.out | refine zS ?_ GE3t.out | refine zS ?_ GE45.out | refine zS ?_ GE4C.out) | exact HB.out)))); have n5_ := zA (blk_below (g := gA) (o := .cells #[.int .i64 a0_0, .int .i64 a0_1, .slice A0_2 l0_2.length c0_2] 24 (0, 0)) (by (with_reducible repeat (first | refine zN ?_ _ | refine zD ?_ | refine zB ?_ _)); refine blk_far ?_ NB225_260.out _; (with_reducible repeat (first | refine zN ?_ _ | refine zD ?_ | refine zB ?_ _)); refine blk_far ?_ NB225_260.out _; (with_reducible repeat (first | refine zN ?_ _ | refine zD ?_ | refine zB ?_ _)); refine blk_far ?_ NB225_260.out _; (with_reducible repeat (first | refine zN ?_ _ | refine zD ?_ | refine zB ?_ _)); exact BK3d.out) hb); have n6_ := zA (blk_below (g := gB) (o := .cells #[.int .i64 a1_0, .int .i64 a1_1, .slice A1_2 l1_2.length c1_2] 24 (0, 0)) (by (with_reducible repeat (first | refine zN ?_ _ | refine zD ?_ | refine zB ?_ _)); refine blk_far ?_ NB226_260.out _; (with_reducible repeat (first | refine zN ?_ _ | refine zD ?_ | refine zB ?_ _)); refine blk_far ?_ NB226_260.out _; (with_reducible repeat (first | refine zN ?_ _ | refine zD ?_ | refine zB ?_ _)); refine blk_far ?_ NB226_260.out _; (with_reducible repeat (first | refine zN ?_ _ | refine zD ?_ | refine zB ?_ _)); exact BK3e.out) hb); have n7_ := zA (blk_below (g := gC) (o := .cells #[.int .i64 a2_0, .int .i64 a2_1, .slice A2_2 l2_2.length c2_2] 24 (0, 0)) (by (with_reducible repeat (first | refine zN ?_ _ | refine zD ?_ | refine zB ?_ _)); refine blk_far ?_ NB227_260.out _; (with_reducible repeat (first | refine zN ?_ _ | refine zD ?_ | refine zB ?_ _)); refine blk_far ?_ NB227_260.out _; (with_reducible repeat (first | refine zN ?_ _ | refine zD ?_ | refine zB ?_ _)); refine blk_far ?_ NB227_260.out _; (with_reducible repeat (first | refine zN ?_ _ | refine zD ?_ | refine zB ?_ _)); exact BK3f.out) hb); have n8_ := zA (blk_below (g := gD) (o := .cells #[.int .i64 t228, .int .i64 t229, .slice Ao23 t230.length co23] 24 (0, 0)) (by (with_reducible repeat (first | refine zN ?_ _ | refine zD ?_ | refine zB ?_ _)); refine blk_far ?_ NB234_260.out _; (with_reducible repeat (first | refine zN ?_ _ | refine zD ?_ | refine zB ?_ _)); refine blk_far ?_ NB234_260.out _; (with_reducible repeat (first | refine zN ?_ _ | refine zD ?_ | refine zB ?_ _)); refine blk_far ?_ NB234_260.out _; (with_reducible repeat (first | refine zN ?_ _ | refine zD ?_ | refine zB ?_ _)); exact BK3m.out) hb); have n9_ := zA (blk_below (g := gE) (o := .cells #[.int .i64 t235, .int .i64 t236, .slice Ao33 t237.length co33] 24 (0, 0)) (by (with_reducible repeat (first | refine zN ?_ _ | refine zD ?_ | refine zB ?_ _)); refine blk_far ?_ NB241_260.out _; (with_reducible repeat (first | refine zN ?_ _ | refine zD ?_ | refine zB ?_ _)); refine blk_far ?_ NB241_260.out _; (with_reducible repeat (first | refine zN ?_ _ | refine zD ?_ | refine zB ?_ _)); refine blk_far ?_ NB241_260.out _; (with_reducible repeat (first | refine zN ?_ _ | refine zD ?_ | refine zB ?_ _)); exact BK3t.out) hb); have n10_ := zA (blk_below (g := gF) (o := .cells #[.int .i64 t247, .int .i64 t248, .slice Ao79 t249.length co79] 24 (0, 0)) (by (with_reducible repeat (first | refine zN ?_ _ | refine zD ?_ | refine zB ?_ _)); refine blk_far ?_ NB253_260.out _; (with_reducible repeat (first | refine zN ?_ _ | refine zD ?_ | refine zB ?_ _)); refine blk_far ?_ NB253_260.out _; (with_reducible repeat (first | refine zN ?_ _ | refine zD ?_ | refine zB ?_ _)); refine blk_far ?_ NB253_260.out _; (with_reducible repeat (first | refine zN ?_ _ | refine zD ?_ | refine zB ?_ _)); exact BK45.out) hb); have n11_ := zA (blk_below (g := gG) (o := .cells #[.int .i64 t254, .int .i64 t255, .slice Ao93 t256.length co93] 24 (0, 0)) (by (with_reducible repeat (first | refine zN ?_ _ | refine zD ?_ | refine zB ?_ _)); refine blk_put (cs := #[.int .i64 t254, .int .i64 t255, .slice none 0 0]) ?_ 2 _ rfl; (with_reducible repeat (first | refine zN ?_ _ | refine zD ?_ | refine zB ?_ _)); refine blk_put (cs := #[.int .i64 t254, .int .i64 0, .slice none 0 0]) ?_ 1 _ rfl; (with_reducible repeat (first | refine zN ?_ _ | refine zD ?_ | refine zB ?_ _)); refine blk_put (cs := #[.int .i64 0, .int .i64 0, .slice none 0 0]) ?_ 0 _ rfl; (with_reducible repeat (first | refine zN ?_ _ | refine zD ?_ | refine zB ?_ _)); exact BK4C.out) hb); have n12_ := zA (below_step (by repeat (first | (with_reducible first | exact HB.out | apply zW | apply zX | apply zY | refine zS ?_ GE3d.out | refine zS ?_ GE3e.out | refine zS ?_ GE3f.out | refine zS ?_ GE3m.out | refine zS ?_ GE3t.out | refine zS ?_ GE45.out | refine zS ?_ GE4C.out) | exact HB.out)) hb); clear HO_235002; clear HO_242002; clear HO43; clear HO4A; clear BK3d; clear BK3e; clear BK3f; clear BK3m; clear BK3t; clear BK45; clear BK4C; clear HB; have HO_235002 := n0_; have HO_242002 := n1_; have HO43 := n2_; have HO4A := n3_; have HO4H := n4_; have BK3d := n5_; have BK3e := n6_; have BK3f := n7_; have BK3m := n8_; have BK3t := n9_; have BK45 := n10_; have BK4C := n11_; have HB := n12_; clear n0_ n1_ n2_ n3_ n4_ n5_ n6_ n7_ n8_ n9_ n10_ n11_ n12_; (try clear hb); (try clear hb2); (try clear hk); (try clear hi); (try clear ho0)) | ((with_reducible refine gate_dst (N := 17) rfl ?_); refine box_event ?hg (N := 17) ?hd (cs := #[.int .i64 0, .int .i64 0, .slice none 0 0]) (t := 24) ?hr ?_; (case hd => rfl); (case hg => rfl); (case hr => first | (go_simp; done) | (go_simp; rfl)); intro gH hg w97 hbox hb; have n0_ := zA (Kd.R_below (by (with_reducible repeat (first | apply Kd.R_alloc | apply Kd.R_drewN | apply Kd.R_drew)); exact HO_235002.out) hb); have n1_ := zA (Kd.R_below (by (with_reducible repeat (first | apply Kd.R_alloc | apply Kd.R_drewN | apply Kd.R_drew)); exact HO_242002.out) hb); have n2_ := zA (Kd.R_below (by (with_reducible repeat (first | apply Kd.R_alloc | apply Kd.R_drewN | apply Kd.R_drew)); exact HO43.out) hb); have n3_ := zA (Kd.R_below (by (with_reducible repeat (first | apply Kd.R_alloc | apply Kd.R_drewN | apply Kd.R_drew)); exact HO4A.out) hb); have n4_ := zA (Kd.R_below (by (with_reducible repeat (first | apply Kd.R_alloc | apply Kd.R_drewN | apply Kd.R_drew)); exact HO4H.out) hb); have n5_ := zA (blk_below (g := gA) (o := .cells #[.int .i64 a0_0, .int .i64 a0_1, .slice A0_2 l0_2.length c0_2] 24 (0, 0)) (by (with_reducible repeat (first | refine zN ?_ _ | refine zD ?_ | refine zB ?_ _)); exact BK3d.out) hb); have n6_ := zA (blk_below (g := gB) (o := .cells #[.int .i64 a1_0, .int .i64 a1_1, .slice A1_2 l1_2.length c1_2] 24 (0, 0)) (by (with_reducible repeat (first | refine zN ?_ _ | refine zD ?_ | refine zB ?_ _)); exact BK3e.out) hb); have n7_ := zA (blk_below (g := gC) (o := .cells #[.int .i64 a2_0, .int .i64 a2_1, .slice A2_2 l2_2.length c2_2] 24 (0, 0)) (by (with_reducible repeat (first | refine zN ?_ _ | refine zD ?_ | refine zB ?_ _)); exact BK3f.out) hb); have n8_ := zA (blk_below (g := gD) (o := .cells #[.int .i64 t228, .int .i64 t229, .slice Ao23 t230.length co23] 24 (0, 0)) (by (with_reducible repeat (first | refine zN ?_ _ | refine zD ?_ | refine zB ?_ _)); exact BK3m.out) hb); have n9_ := zA (blk_below (g := gE) (o := .cells #[.int .i64 t235, .int .i64 t236, .slice Ao33 t237.length co33] 24 (0, 0)) (by (with_reducible repeat (first | refine zN ?_ _ | refine zD ?_ | refine zB ?_ _)); exact BK3t.out) hb); have n10_ := zA (blk_below (g := gF) (o := .cells #[.int .i64 t247, .int .i64 t248, .slice Ao79 t249.length co79] 24 (0, 0)) (by (with_reducible repeat (first | refine zN ?_ _ | refine zD ?_ | refine zB ?_ _)); exact BK45.out) hb); have n11_ := zA (blk_below (g := gG) (o := .cells #[.int .i64 t254, .int .i64 t255, .slice Ao93 t256.length co93] 24 (0, 0)) (by (with_reducible repeat (first | refine zN ?_ _ | refine zD ?_ | refine zB ?_ _)); exact BK4C.out) hb); have n12_ := zA (below_step (by repeat (first | (with_reducible first | exact HB.out | apply zW | apply zX | apply zY | refine zS ?_ GE3d.out | refine zS ?_ GE3e.out | refine zS ?_ GE3f.out | refine zS ?_ GE3m.out | refine zS ?_ GE3t.out | refine zS ?_ GE45.out | refine zS ?_ GE4C.out) | exact HB.out)) hb); have n13_ := zA (hbox); have n14_ := zA ((by rw [hg]; exact (below_size (by repeat (first | (with_reducible first | exact HB.out | apply zW | apply zX | apply zY | refine zS ?_ GE3d.out | refine zS ?_ GE3e.out | refine zS ?_ GE3f.out | refine zS ?_ GE3m.out | refine zS ?_ GE3t.out | refine zS ?_ GE45.out | refine zS ?_ GE4C.out) | exact HB.out))) : w.heap.size ≤ gH)); have n15_ := zA ((by rw [hg]; exact (below_size (by repeat (first | (with_reducible first | exact HB.out | apply zW | apply zX | apply zY | refine zS ?_ GE3d.out | refine zS ?_ GE3e.out | refine zS ?_ GE3f.out | refine zS ?_ GE3m.out | refine zS ?_ GE3t.out | refine zS ?_ GE45.out | refine zS ?_ GE4C.out) | exact HB.out))) : w.heap.size ≤ gH)); have n16_ := zA ((by rw [hg]; exact Nat.ne_of_lt (blk_lt (g := gA) (o := .cells #[.int .i64 a0_0, .int .i64 a0_1, .slice A0_2 l0_2.length c0_2] 24 (0, 0)) (by (with_reducible repeat (first | refine zN ?_ _ | refine zD ?_ | refine zB ?_ _)); exact BK3d.out)) : gA ≠ gH)); have n17_ := zA ((by rw [hg]; exact Nat.ne_of_gt (blk_lt (g := gA) (o := .cells #[.int .i64 a0_0, .int .i64 a0_1, .slice A0_2 l0_2.length c0_2] 24 (0, 0)) (by (with_reducible repeat (first | refine zN ?_ _ | refine zD ?_ | refine zB ?_ _)); exact BK3d.out)) : gH ≠ gA)); have n18_ := zA ((by rw [hg]; exact Nat.ne_of_lt (blk_lt (g := gB) (o := .cells #[.int .i64 a1_0, .int .i64 a1_1, .slice A1_2 l1_2.length c1_2] 24 (0, 0)) (by (with_reducible repeat (first | refine zN ?_ _ | refine zD ?_ | refine zB ?_ _)); exact BK3e.out)) : gB ≠ gH)); have n19_ := zA ((by rw [hg]; exact Nat.ne_of_gt (blk_lt (g := gB) (o := .cells #[.int .i64 a1_0, .int .i64 a1_1, .slice A1_2 l1_2.length c1_2] 24 (0, 0)) (by (with_reducible repeat (first | refine zN ?_ _ | refine zD ?_ | refine zB ?_ _)); exact BK3e.out)) : gH ≠ gB)); have n20_ := zA ((by rw [hg]; exact Nat.ne_of_lt (blk_lt (g := gC) (o := .cells #[.int .i64 a2_0, .int .i64 a2_1, .slice A2_2 l2_2.length c2_2] 24 (0, 0)) (by (with_reducible repeat (first | refine zN ?_ _ | refine zD ?_ | refine zB ?_ _)); exact BK3f.out)) : gC ≠ gH)); have n21_ := zA ((by rw [hg]; exact Nat.ne_of_gt (blk_lt (g := gC) (o := .cells #[.int .i64 a2_0, .int .i64 a2_1, .slice A2_2 l2_2.length c2_2] 24 (0, 0)) (by (with_reducible repeat (first | refine zN ?_ _ | refine zD ?_ | refine zB ?_ _)); exact BK3f.out)) : gH ≠ gC)); have n22_ := zA ((by rw [hg]; exact Nat.ne_of_lt (blk_lt (g := gD) (o := .cells #[.int .i64 t228, .int .i64 t229, .slice Ao23 t230.length co23] 24 (0, 0)) (by (with_reducible repeat (first | refine zN ?_ _ | refine zD ?_ | refine zB ?_ _)); exact BK3m.out)) : gD ≠ gH)); have n23_ := zA ((by rw [hg]; exact Nat.ne_of_gt (blk_lt (g := gD) (o := .cells #[.int .i64 t228, .int .i64 t229, .slice Ao23 t230.length co23] 24 (0, 0)) (by (with_reducible repeat (first | refine zN ?_ _ | refine zD ?_ | refine zB ?_ _)); exact BK3m.out)) : gH ≠ gD)); have n24_ := zA ((by rw [hg]; exact Nat.ne_of_lt (blk_lt (g := gE) (o := .cells #[.int .i64 t235, .int .i64 t236, .slice Ao33 t237.length co33] 24 (0, 0)) (by (with_reducible repeat (first | refine zN ?_ _ | refine zD ?_ | refine zB ?_ _)); exact BK3t.out)) : gE ≠ gH)); have n25_ := zA ((by rw [hg]; exact Nat.ne_of_gt (blk_lt (g := gE) (o := .cells #[.int .i64 t235, .int .i64 t236, .slice Ao33 t237.length co33] 24 (0, 0)) (by (with_reducible repeat (first | refine zN ?_ _ | refine zD ?_ | refine zB ?_ _)); exact BK3t.out)) : gH ≠ gE)); have n26_ := zA ((by rw [hg]; exact Nat.ne_of_lt (blk_lt (g := gF) (o := .cells #[.int .i64 t247, .int .i64 t248, .slice Ao79 t249.length co79] 24 (0, 0)) (by (with_reducible repeat (first | refine zN ?_ _ | refine zD ?_ | refine zB ?_ _)); exact BK45.out)) : gF ≠ gH)); have n27_ := zA ((by rw [hg]; exact Nat.ne_of_gt (blk_lt (g := gF) (o := .cells #[.int .i64 t247, .int .i64 t248, .slice Ao79 t249.length co79] 24 (0, 0)) (by (with_reducible repeat (first | refine zN ?_ _ | refine zD ?_ | refine zB ?_ _)); exact BK45.out)) : gH ≠ gF)); have n28_ := zA ((by rw [hg]; exact Nat.ne_of_lt (blk_lt (g := gG) (o := .cells #[.int .i64 t254, .int .i64 t255, .slice Ao93 t256.length co93] 24 (0, 0)) (by (with_reducible repeat (first | refine zN ?_ _ | refine zD ?_ | refine zB ?_ _)); exact BK4C.out)) : gG ≠ gH)); have n29_ := zA ((by rw [hg]; exact Nat.ne_of_gt (blk_lt (g := gG) (o := .cells #[.int .i64 t254, .int .i64 t255, .slice Ao93 t256.length co93] 24 (0, 0)) (by (with_reducible repeat (first | refine zN ?_ _ | refine zD ?_ | refine zB ?_ _)); exact BK4C.out)) : gH ≠ gG)); clear HO_235002; clear HO_242002; clear HO43; clear HO4A; clear HO4H; clear BK3d; clear BK3e; clear BK3f; clear BK3m; clear BK3t; clear BK45; clear BK4C; clear HB; have HO_235002 := n0_; have HO_242002 := n1_; have HO43 := n2_; have HO4A := n3_; have HO4H := n4_; have BK3d := n5_; have BK3e := n6_; have BK3f := n7_; have BK3m := n8_; have BK3t := n9_; have BK45 := n10_; have BK4C := n11_; have HB := n12_; have BK4J := n13_; have GW4J := n14_; have GE4J := n15_; have NB225_267 := n16_; have NB267_225 := n17_; have NB226_267 := n18_; have NB267_226 := n19_; have NB227_267 := n20_; have NB267_227 := n21_; have NB234_267 := n22_; have NB267_234 := n23_; have NB241_267 := n24_; have NB267_241 := n25_; have NB253_267 := n26_; have NB267_253 := n27_; have NB260_267 := n28_; have NB267_260 := n29_; clear n0_ n1_ n2_ n3_ n4_ n5_ n6_ n7_ n8_ n9_ n10_ n11_ n12_ n13_ n14_ n15_ n16_ n17_ n18_ n19_ n20_ n21_ n22_ n23_ n24_ n25_ n26_ n27_ n28_ n29_; clear hb hbox hg; have hnb98 := NB267_225.out; have hnc98 := NB225_267.out; have hnb99 := NB267_226.out; have hnc99 := NB226_267.out; have hnb100 := NB267_227.out; have hnc100 := NB227_267.out; have hnb101 := NB267_234.out; have hnc101 := NB234_267.out; have hnb102 := NB267_241.out; have hnc102 := NB241_267.out; have hnb103 := NB267_253.out; have hnc103 := NB253_267.out; have hnb104 := NB267_260.out; have hnc104 := NB260_267.out; have hcz105_0 : w97.cell? ⟨gH, 0, none⟩ = some (.int .i64 0) := (blk_cell BK4J.out 0).trans rfl; have hcz105_1 : w97.cell? ⟨gH, 1, none⟩ = some (.int .i64 0) := (blk_cell BK4J.out 1).trans rfl; have hcz105_2 : w97.cell? ⟨gH, 2, none⟩ = some (.slice none 0 0) := (blk_cell BK4J.out 2).trans rfl; have hfz105_0 := blk_frozen BK4J.out 0; have hfz105_1 := blk_frozen BK4J.out 1; have hfz105_2 := blk_frozen BK4J.out 2; obtain ⟨Ao106, co106, eo106⟩ := Kd.R_slice HO4H.out; subst eo106))
     (try simp only [Act.put, List.setIfInBounds_toArray, List.set_cons_zero, List.set_cons_succ])
     go_cut [101] (fun v101 wc => ∃ (kq : Nat) (x101_60 : Bool), v101 = .bool x101_60 ∧ Aside0 (lawJoins.j1 kq a3 a4 x101_60 a0_0 a0_1 l0_2 a1_0 a1_1 l1_2 t228 t229 t230 = some r) ∧ Aside0 (kq ≤ kj7) ∧ Aside0 (Kd.R (Kd.int .i64) 3 wc w.heap.size (fun k_ => some k_ ≠ ((.slice Ao33 t237.length co33) : Value).ownBlock ∧ some k_ ≠ ((.slice Ao79 t249.length co79) : Value).ownBlock ∧ some k_ ≠ ((.slice Ao93 t256.length co93) : Value).ownBlock ∧ some k_ ≠ ((.slice Ao106 t263.length co106) : Value).ownBlock) (.slice Ao23 t230.length co23) t230) ∧ Aside0 (Kd.R (Kd.int .i64) 3 wc w.heap.size (fun k_ => some k_ ≠ ((.slice Ao23 t230.length co23) : Value).ownBlock ∧ some k_ ≠ ((.slice Ao79 t249.length co79) : Value).ownBlock ∧ some k_ ≠ ((.slice Ao93 t256.length co93) : Value).ownBlock ∧ some k_ ≠ ((.slice Ao106 t263.length co106) : Value).ownBlock) (.slice Ao33 t237.length co33) t237) ∧ Aside0 (Kd.R (Kd.int .i64) 3 wc w.heap.size (fun k_ => some k_ ≠ ((.slice Ao23 t230.length co23) : Value).ownBlock ∧ some k_ ≠ ((.slice Ao33 t237.length co33) : Value).ownBlock ∧ some k_ ≠ ((.slice Ao93 t256.length co93) : Value).ownBlock ∧ some k_ ≠ ((.slice Ao106 t263.length co106) : Value).ownBlock) (.slice Ao79 t249.length co79) t249) ∧ Aside0 (Kd.R (Kd.int .i64) 3 wc w.heap.size (fun k_ => some k_ ≠ ((.slice Ao23 t230.length co23) : Value).ownBlock ∧ some k_ ≠ ((.slice Ao33 t237.length co33) : Value).ownBlock ∧ some k_ ≠ ((.slice Ao79 t249.length co79) : Value).ownBlock ∧ some k_ ≠ ((.slice Ao106 t263.length co106) : Value).ownBlock) (.slice Ao93 t256.length co93) t256) ∧ Aside0 (Kd.R (Kd.int .i64) 3 wc w.heap.size (fun k_ => some k_ ≠ ((.slice Ao23 t230.length co23) : Value).ownBlock ∧ some k_ ≠ ((.slice Ao33 t237.length co33) : Value).ownBlock ∧ some k_ ≠ ((.slice Ao79 t249.length co79) : Value).ownBlock ∧ some k_ ≠ ((.slice Ao93 t256.length co93) : Value).ownBlock) (.slice Ao106 t263.length co106) t263) ∧ Aside0 (wc.heap[gA]? = some (.cells #[.int .i64 a0_0, .int .i64 a0_1, (.slice A0_2 l0_2.length c0_2)] 24 (0, 0))) ∧ Aside0 (wc.heap[gB]? = some (.cells #[.int .i64 a1_0, .int .i64 a1_1, (.slice A1_2 l1_2.length c1_2)] 24 (0, 0))) ∧ Aside0 (wc.heap[gC]? = some (.cells #[.int .i64 a2_0, .int .i64 a2_1, (.slice A2_2 l2_2.length c2_2)] 24 (0, 0))) ∧ Aside0 (wc.heap[gD]? = some (.cells #[.int .i64 t228, .int .i64 t229, (.slice Ao23 t230.length co23)] 24 (0, 0))) ∧ Aside0 (wc.heap[gE]? = some (.cells #[.int .i64 t235, .int .i64 t236, (.slice Ao33 t237.length co33)] 24 (0, 0))) ∧ Aside0 (wc.heap[gF]? = some (.cells #[.int .i64 t247, .int .i64 t248, (.slice Ao79 t249.length co79)] 24 (0, 0))) ∧ Aside0 (wc.heap[gG]? = some (.cells #[.int .i64 t254, .int .i64 t255, (.slice Ao93 t256.length co93)] 24 (0, 0))) ∧ Aside0 (wc.heap[gH]? = some (.cells #[.int .i64 t261, .int .i64 t262, (.slice Ao106 t263.length co106)] 24 (0, 0))) ∧ Aside0 (Below w.heap.size w wc))
     case first =>
      have H := HC61.out
      clear HC61
      by_cases c107 : t252 = 0
      ·
       rw [if_pos c107] at H
       have c107b0 : (t252 == 0) = true := beq_iff_eq.mpr c107
       have c107b1 : (t252 != 0) = false := bne_eq_false_iff_eq.mpr c107
       clear c107
       (first | rw [c107b0] | (simp only [i64_w, i32_w]; rw [c107b0]) | skip)
       by_cases c108 : t259 = 0
       ·
        rw [if_pos c108] at H
        have c108b0 : (t259 == 0) = true := beq_iff_eq.mpr c108
        have c108b1 : (t259 != 0) = false := bne_eq_false_iff_eq.mpr c108
        clear c108
        by_cases c109 : t266 = 0
        ·
         rw [if_pos c109] at H
         have c109b0 : (t266 == 0) = true := beq_iff_eq.mpr c109
         have c109b1 : (t266 != 0) = false := bne_eq_false_iff_eq.mpr c109
         clear c109
         replace H := Option.bind_eq_some_iff.mp H
         obtain ⟨t268, A1100, H⟩ := H
         replace H : (lawJoins.j1 kj7 a3 a4 (!t268) a0_0 a0_1 l0_2 a1_0 a1_1 l1_2 t228 t229 t230) = some r := H
         have A110 := zA A1100
         clear A1100
         have H' := zA H
         clear H
         have hnb111 := NB253_225.out
         have hnc111 := NB225_253.out
         have hnb112 := NB253_226.out
         have hnc112 := NB226_253.out
         have hnb113 := NB253_227.out
         have hnc113 := NB227_253.out
         have hnb114 := NB253_234.out
         have hnc114 := NB234_253.out
         have hnb115 := NB253_241.out
         have hnc115 := NB241_253.out
         have hnb116 := NB253_260.out
         have hnc116 := NB260_253.out
         have hnb117 := NB253_267.out
         have hnc117 := NB267_253.out
         have hcz118_0 : w97.cell? ⟨gF, 0, none⟩ = some (.int .i64 t247) := (blk_cell BK45.out 0).trans rfl
         have hcz118_1 : w97.cell? ⟨gF, 1, none⟩ = some (.int .i64 t248) := (blk_cell BK45.out 1).trans rfl
         have hcz118_2 : w97.cell? ⟨gF, 2, none⟩ = some (.slice Ao79 t249.length co79) := (blk_cell BK45.out 2).trans rfl
         have hfz118_0 := blk_frozen BK45.out 0
         have hfz118_1 := blk_frozen BK45.out 1
         have hfz118_2 := blk_frozen BK45.out 2
         have hnb119 := NB267_225.out
         have hnc119 := NB225_267.out
         have hnb120 := NB267_226.out
         have hnc120 := NB226_267.out
         have hnb121 := NB267_227.out
         have hnc121 := NB227_267.out
         have hnb122 := NB267_234.out
         have hnc122 := NB234_267.out
         have hnb123 := NB267_241.out
         have hnc123 := NB241_267.out
         have hnb124 := NB267_260.out
         have hnc124 := NB260_267.out
         have hcz125_0 : w97.cell? ⟨gH, 0, none⟩ = some (.int .i64 0) := (blk_cell BK4J.out 0).trans rfl
         have hcz125_1 : w97.cell? ⟨gH, 1, none⟩ = some (.int .i64 0) := (blk_cell BK4J.out 1).trans rfl
         have hcz125_2 : w97.cell? ⟨gH, 2, none⟩ = some (.slice none 0 0) := (blk_cell BK4J.out 2).trans rfl
         have hfz125_0 := blk_frozen BK4J.out 0
         have hfz125_1 := blk_frozen BK4J.out 1
         have hfz125_2 := blk_frozen BK4J.out 2
         go_wp2_with (first | (go_at_call 15; (with_reducible refine (kimberlitelaw03_alike.calls kj7 t247 t248 _ _ t249 t261 t262 _ _ t263 t268 _ ?side1 ?side2 ?side3 ?side4 A110.out).mono ?_); (case side1 => refine (Kd.R_reads' (e := 3) (base := w.heap.size) (ok := fun k_ => ((((True ∧ some k_ ≠ (.slice Ao23 t230.length co23 : Value).ownBlock) ∧ some k_ ≠ (.slice Ao33 t237.length co33 : Value).ownBlock) ∧ some k_ ≠ (.slice Ao93 t256.length co93 : Value).ownBlock) ∧ some k_ ≠ (.slice Ao106 t263.length co106 : Value).ownBlock)) (n := t249.length) (c := co79) ?_).2.2; exact (by (with_reducible repeat (first | apply Kd.R_alloc | apply Kd.R_drewN | apply Kd.R_drew)); exact (Kd.R_mono (Kd.R_far (p := ⟨gH, 2, none⟩) (Kd.R_far (p := ⟨gH, 1, none⟩) (Kd.R_far (p := ⟨gH, 0, none⟩) (Kd.R_types HO43.out BK4J.out (by decide)) (fun _ hk => hk.2) (.int .i64 t261)) (fun _ hk => hk.2) (.int .i64 t262)) (fun _ hk => hk.2) (.slice Ao106 t263.length co106)) (fun _ h_ => h_.1)))); (case side2 => exact (Kd.R_reads' HO43.out).2.1); (case side3 => refine (Kd.R_reads' (e := 3) (base := w.heap.size) (ok := fun k_ => ((((True ∧ some k_ ≠ (.slice Ao23 t230.length co23 : Value).ownBlock) ∧ some k_ ≠ (.slice Ao33 t237.length co33 : Value).ownBlock) ∧ some k_ ≠ (.slice Ao79 t249.length co79 : Value).ownBlock) ∧ some k_ ≠ (.slice Ao93 t256.length co93 : Value).ownBlock)) (n := t263.length) (c := co106) ?_).2.2; exact (by (with_reducible repeat (first | apply Kd.R_alloc | apply Kd.R_drewN | apply Kd.R_drew)); exact (Kd.R_mono (Kd.R_far (p := ⟨gH, 2, none⟩) (Kd.R_far (p := ⟨gH, 1, none⟩) (Kd.R_far (p := ⟨gH, 0, none⟩) (Kd.R_types HO4H.out BK4J.out (by decide)) (fun _ hk => hk.2) (.int .i64 t261)) (fun _ hk => hk.2) (.int .i64 t262)) (fun _ hk => hk.2) (.slice Ao106 t263.length co106)) (fun _ h_ => h_.1)))); (case side4 => exact (Kd.R_reads' HO4H.out).2.1); rintro e w126 ⟨rfl, hb⟩; have n0_ := zA (Kd.R_below (by (with_reducible repeat (first | apply Kd.R_alloc | apply Kd.R_drewN | apply Kd.R_drew)); exact (Kd.R_mono (Kd.R_far (p := ⟨gH, 2, none⟩) (Kd.R_far (p := ⟨gH, 1, none⟩) (Kd.R_far (p := ⟨gH, 0, none⟩) (Kd.R_types HO_235002.out BK4J.out (by decide)) (fun _ hk => hk.2) (.int .i64 t261)) (fun _ hk => hk.2) (.int .i64 t262)) (fun _ hk => hk.2) (.slice Ao106 t263.length co106)) (fun _ h_ => h_.1))) hb); have n1_ := zA (Kd.R_below (by (with_reducible repeat (first | apply Kd.R_alloc | apply Kd.R_drewN | apply Kd.R_drew)); exact (Kd.R_mono (Kd.R_far (p := ⟨gH, 2, none⟩) (Kd.R_far (p := ⟨gH, 1, none⟩) (Kd.R_far (p := ⟨gH, 0, none⟩) (Kd.R_types HO_242002.out BK4J.out (by decide)) (fun _ hk => hk.2) (.int .i64 t261)) (fun _ hk => hk.2) (.int .i64 t262)) (fun _ hk => hk.2) (.slice Ao106 t263.length co106)) (fun _ h_ => h_.1))) hb); have n2_ := zA (Kd.R_below (by (with_reducible repeat (first | apply Kd.R_alloc | apply Kd.R_drewN | apply Kd.R_drew)); exact (Kd.R_mono (Kd.R_far (p := ⟨gH, 2, none⟩) (Kd.R_far (p := ⟨gH, 1, none⟩) (Kd.R_far (p := ⟨gH, 0, none⟩) (Kd.R_types HO43.out BK4J.out (by decide)) (fun _ hk => hk.2) (.int .i64 t261)) (fun _ hk => hk.2) (.int .i64 t262)) (fun _ hk => hk.2) (.slice Ao106 t263.length co106)) (fun _ h_ => h_.1))) hb); have n3_ := zA (Kd.R_below (by (with_reducible repeat (first | apply Kd.R_alloc | apply Kd.R_drewN | apply Kd.R_drew)); exact (Kd.R_mono (Kd.R_far (p := ⟨gH, 2, none⟩) (Kd.R_far (p := ⟨gH, 1, none⟩) (Kd.R_far (p := ⟨gH, 0, none⟩) (Kd.R_types HO4A.out BK4J.out (by decide)) (fun _ hk => hk.2) (.int .i64 t261)) (fun _ hk => hk.2) (.int .i64 t262)) (fun _ hk => hk.2) (.slice Ao106 t263.length co106)) (fun _ h_ => h_.1))) hb); have n4_ := zA (Kd.R_below (by (with_reducible repeat (first | apply Kd.R_alloc | apply Kd.R_drewN | apply Kd.R_drew)); exact (Kd.R_mono (Kd.R_far (p := ⟨gH, 2, none⟩) (Kd.R_far (p := ⟨gH, 1, none⟩) (Kd.R_far (p := ⟨gH, 0, none⟩) (Kd.R_types HO4H.out BK4J.out (by decide)) (fun _ hk => hk.2) (.int .i64 t261)) (fun _ hk => hk.2) (.int .i64 t262)) (fun _ hk => hk.2) (.slice Ao106 t263.length co106)) (fun _ h_ => h_.1))) hb); have n5_ := zA (blk_below (g := gA) (o := .cells #[.int .i64 a0_0, .int .i64 a0_1, .slice A0_2 l0_2.length c0_2] 24 (0, 0)) (by (with_reducible repeat (first | refine zN ?_ _ | refine zD ?_ | refine zB ?_ _)); refine blk_far ?_ NB225_267.out _; (with_reducible repeat (first | refine zN ?_ _ | refine zD ?_ | refine zB ?_ _)); refine blk_far ?_ NB225_267.out _; (with_reducible repeat (first | refine zN ?_ _ | refine zD ?_ | refine zB ?_ _)); refine blk_far ?_ NB225_267.out _; (with_reducible repeat (first | refine zN ?_ _ | refine zD ?_ | refine zB ?_ _)); exact BK3d.out) hb); have n6_ := zA (blk_below (g := gB) (o := .cells #[.int .i64 a1_0, .int .i64 a1_1, .slice A1_2 l1_2.length c1_2] 24 (0, 0)) (by (with_reducible repeat (first | refine zN ?_ _ | refine zD ?_ | refine zB ?_ _)); refine blk_far ?_ NB226_267.out _; (with_reducible repeat (first | refine zN ?_ _ | refine zD ?_ | refine zB ?_ _)); refine blk_far ?_ NB226_267.out _; (with_reducible repeat (first | refine zN ?_ _ | refine zD ?_ | refine zB ?_ _)); refine blk_far ?_ NB226_267.out _; (with_reducible repeat (first | refine zN ?_ _ | refine zD ?_ | refine zB ?_ _)); exact BK3e.out) hb); have n7_ := zA (blk_below (g := gC) (o := .cells #[.int .i64 a2_0, .int .i64 a2_1, .slice A2_2 l2_2.length c2_2] 24 (0, 0)) (by (with_reducible repeat (first | refine zN ?_ _ | refine zD ?_ | refine zB ?_ _)); refine blk_far ?_ NB227_267.out _; (with_reducible repeat (first | refine zN ?_ _ | refine zD ?_ | refine zB ?_ _)); refine blk_far ?_ NB227_267.out _; (with_reducible repeat (first | refine zN ?_ _ | refine zD ?_ | refine zB ?_ _)); refine blk_far ?_ NB227_267.out _; (with_reducible repeat (first | refine zN ?_ _ | refine zD ?_ | refine zB ?_ _)); exact BK3f.out) hb); have n8_ := zA (blk_below (g := gD) (o := .cells #[.int .i64 t228, .int .i64 t229, .slice Ao23 t230.length co23] 24 (0, 0)) (by (with_reducible repeat (first | refine zN ?_ _ | refine zD ?_ | refine zB ?_ _)); refine blk_far ?_ NB234_267.out _; (with_reducible repeat (first | refine zN ?_ _ | refine zD ?_ | refine zB ?_ _)); refine blk_far ?_ NB234_267.out _; (with_reducible repeat (first | refine zN ?_ _ | refine zD ?_ | refine zB ?_ _)); refine blk_far ?_ NB234_267.out _; (with_reducible repeat (first | refine zN ?_ _ | refine zD ?_ | refine zB ?_ _)); exact BK3m.out) hb); have n9_ := zA (blk_below (g := gE) (o := .cells #[.int .i64 t235, .int .i64 t236, .slice Ao33 t237.length co33] 24 (0, 0)) (by (with_reducible repeat (first | refine zN ?_ _ | refine zD ?_ | refine zB ?_ _)); refine blk_far ?_ NB241_267.out _; (with_reducible repeat (first | refine zN ?_ _ | refine zD ?_ | refine zB ?_ _)); refine blk_far ?_ NB241_267.out _; (with_reducible repeat (first | refine zN ?_ _ | refine zD ?_ | refine zB ?_ _)); refine blk_far ?_ NB241_267.out _; (with_reducible repeat (first | refine zN ?_ _ | refine zD ?_ | refine zB ?_ _)); exact BK3t.out) hb); have n10_ := zA (blk_below (g := gF) (o := .cells #[.int .i64 t247, .int .i64 t248, .slice Ao79 t249.length co79] 24 (0, 0)) (by (with_reducible repeat (first | refine zN ?_ _ | refine zD ?_ | refine zB ?_ _)); refine blk_far ?_ NB253_267.out _; (with_reducible repeat (first | refine zN ?_ _ | refine zD ?_ | refine zB ?_ _)); refine blk_far ?_ NB253_267.out _; (with_reducible repeat (first | refine zN ?_ _ | refine zD ?_ | refine zB ?_ _)); refine blk_far ?_ NB253_267.out _; (with_reducible repeat (first | refine zN ?_ _ | refine zD ?_ | refine zB ?_ _)); exact BK45.out) hb); have n11_ := zA (blk_below (g := gG) (o := .cells #[.int .i64 t254, .int .i64 t255, .slice Ao93 t256.length co93] 24 (0, 0)) (by (with_reducible repeat (first | refine zN ?_ _ | refine zD ?_ | refine zB ?_ _)); refine blk_far ?_ NB260_267.out _; (with_reducible repeat (first | refine zN ?_ _ | refine zD ?_ | refine zB ?_ _)); refine blk_far ?_ NB260_267.out _; (with_reducible repeat (first | refine zN ?_ _ | refine zD ?_ | refine zB ?_ _)); refine blk_far ?_ NB260_267.out _; (with_reducible repeat (first | refine zN ?_ _ | refine zD ?_ | refine zB ?_ _)); exact BK4C.out) hb); have n12_ := zA (blk_below (g := gH) (o := .cells #[.int .i64 t261, .int .i64 t262, .slice Ao106 t263.length co106] 24 (0, 0)) (by (with_reducible repeat (first | refine zN ?_ _ | refine zD ?_ | refine zB ?_ _)); refine blk_put (cs := #[.int .i64 t261, .int .i64 t262, .slice none 0 0]) ?_ 2 _ rfl; (with_reducible repeat (first | refine zN ?_ _ | refine zD ?_ | refine zB ?_ _)); refine blk_put (cs := #[.int .i64 t261, .int .i64 0, .slice none 0 0]) ?_ 1 _ rfl; (with_reducible repeat (first | refine zN ?_ _ | refine zD ?_ | refine zB ?_ _)); refine blk_put (cs := #[.int .i64 0, .int .i64 0, .slice none 0 0]) ?_ 0 _ rfl; (with_reducible repeat (first | refine zN ?_ _ | refine zD ?_ | refine zB ?_ _)); exact BK4J.out) hb); have n13_ := zA (below_step (by repeat (first | (with_reducible first | exact HB.out | apply zW | apply zX | apply zY | refine zS ?_ GE3d.out | refine zS ?_ GE3e.out | refine zS ?_ GE3f.out | refine zS ?_ GE3m.out | refine zS ?_ GE3t.out | refine zS ?_ GE45.out | refine zS ?_ GE4C.out | refine zS ?_ GE4J.out) | exact HB.out)) hb); clear HO_235002; clear HO_242002; clear HO43; clear HO4A; clear HO4H; clear BK3d; clear BK3e; clear BK3f; clear BK3m; clear BK3t; clear BK45; clear BK4C; clear BK4J; clear HB; have HO_235002 := n0_; have HO_242002 := n1_; have HO43 := n2_; have HO4A := n3_; have HO4H := n4_; have BK3d := n5_; have BK3e := n6_; have BK3f := n7_; have BK3m := n8_; have BK3t := n9_; have BK45 := n10_; have BK4C := n11_; have BK4J := n12_; have HB := n13_; clear n0_ n1_ n2_ n3_ n4_ n5_ n6_ n7_ n8_ n9_ n10_ n11_ n12_ n13_; (try clear hb); (try clear hb2); (try clear hk); (try clear hi)))
         go_meet
         case rel => exact ⟨_, (!t268), (by first | rfl | (simp; done) | (simp [*]; done)), H', ⟨by have := HJ7.out; first | omega | exact Nat.le_refl _⟩, ⟨by (with_reducible repeat (first | apply Kd.R_alloc | apply Kd.R_drewN | apply Kd.R_drew)); exact Kd.R_mono HO_235002.out (fun _ hk => ⟨hk.1.1.1, ⟨hk.1.1.2, ⟨hk.1.2, hk.2⟩⟩⟩)⟩, ⟨by (with_reducible repeat (first | apply Kd.R_alloc | apply Kd.R_drewN | apply Kd.R_drew)); exact Kd.R_mono HO_242002.out (fun _ hk => ⟨hk.1.1.1, ⟨hk.1.1.2, ⟨hk.1.2, hk.2⟩⟩⟩)⟩, ⟨by (with_reducible repeat (first | apply Kd.R_alloc | apply Kd.R_drewN | apply Kd.R_drew)); exact Kd.R_mono HO43.out (fun _ hk => ⟨hk.1.1.1.2, ⟨hk.1.1.2, ⟨hk.1.2, hk.2⟩⟩⟩)⟩, ⟨by (with_reducible repeat (first | apply Kd.R_alloc | apply Kd.R_drewN | apply Kd.R_drew)); exact Kd.R_mono HO4A.out (fun _ hk => ⟨hk.1.1.1.2, ⟨hk.1.1.2, ⟨hk.1.2, hk.2⟩⟩⟩)⟩, ⟨by (with_reducible repeat (first | apply Kd.R_alloc | apply Kd.R_drewN | apply Kd.R_drew)); exact Kd.R_mono HO4H.out (fun _ hk => ⟨hk.1.1.1.2, ⟨hk.1.1.2, ⟨hk.1.2, hk.2⟩⟩⟩)⟩, ⟨by (with_reducible repeat (first | refine zN ?_ _ | refine zD ?_ | refine zB ?_ _)); exact BK3d.out⟩, ⟨by (with_reducible repeat (first | refine zN ?_ _ | refine zD ?_ | refine zB ?_ _)); exact BK3e.out⟩, ⟨by (with_reducible repeat (first | refine zN ?_ _ | refine zD ?_ | refine zB ?_ _)); exact BK3f.out⟩, ⟨by (with_reducible repeat (first | refine zN ?_ _ | refine zD ?_ | refine zB ?_ _)); exact BK3m.out⟩, ⟨by (with_reducible repeat (first | refine zN ?_ _ | refine zD ?_ | refine zB ?_ _)); exact BK3t.out⟩, ⟨by (with_reducible repeat (first | refine zN ?_ _ | refine zD ?_ | refine zB ?_ _)); exact BK45.out⟩, ⟨by (with_reducible repeat (first | refine zN ?_ _ | refine zD ?_ | refine zB ?_ _)); exact BK4C.out⟩, ⟨by (with_reducible repeat (first | refine zN ?_ _ | refine zD ?_ | refine zB ?_ _)); exact BK4J.out⟩, ⟨by repeat (first | (with_reducible first | exact HB.out | apply zW | apply zX | apply zY | refine zS ?_ GE3d.out | refine zS ?_ GE3e.out | refine zS ?_ GE3f.out | refine zS ?_ GE3m.out | refine zS ?_ GE3t.out | refine zS ?_ GE45.out | refine zS ?_ GE4C.out | refine zS ?_ GE4J.out) | exact HB.out)⟩⟩
        ·
         rw [if_neg c109] at H
         have c109b0 : (t266 == 0) = false := beq_eq_false_iff_ne.mpr c109
         have c109b1 : (t266 != 0) = true := bne_iff_ne.mpr c109
         have H' := zA H
         clear H
         go_wp2
         go_meet
         case rel => exact ⟨_, (false), (by first | rfl | (simp; done) | (simp [*]; done)), H', ⟨by have := HJ7.out; first | omega | exact Nat.le_refl _⟩, ⟨by (with_reducible repeat (first | apply Kd.R_alloc | apply Kd.R_drewN | apply Kd.R_drew)); exact Kd.R_mono (Kd.R_far (p := ⟨gH, 2, none⟩) (Kd.R_far (p := ⟨gH, 1, none⟩) (Kd.R_far (p := ⟨gH, 0, none⟩) (Kd.R_types HO_235002.out BK4J.out (by decide)) (fun _ hk => hk.2) (.int .i64 t261)) (fun _ hk => hk.2) (.int .i64 t262)) (fun _ hk => hk.2) (.slice Ao106 t263.length co106)) (fun _ hk => ⟨hk.1.1.1.1, ⟨hk.1.1.1.2, ⟨hk.1.1.2, hk.1.2⟩⟩⟩)⟩, ⟨by (with_reducible repeat (first | apply Kd.R_alloc | apply Kd.R_drewN | apply Kd.R_drew)); exact Kd.R_mono (Kd.R_far (p := ⟨gH, 2, none⟩) (Kd.R_far (p := ⟨gH, 1, none⟩) (Kd.R_far (p := ⟨gH, 0, none⟩) (Kd.R_types HO_242002.out BK4J.out (by decide)) (fun _ hk => hk.2) (.int .i64 t261)) (fun _ hk => hk.2) (.int .i64 t262)) (fun _ hk => hk.2) (.slice Ao106 t263.length co106)) (fun _ hk => ⟨hk.1.1.1.1, ⟨hk.1.1.1.2, ⟨hk.1.1.2, hk.1.2⟩⟩⟩)⟩, ⟨by (with_reducible repeat (first | apply Kd.R_alloc | apply Kd.R_drewN | apply Kd.R_drew)); exact Kd.R_mono (Kd.R_far (p := ⟨gH, 2, none⟩) (Kd.R_far (p := ⟨gH, 1, none⟩) (Kd.R_far (p := ⟨gH, 0, none⟩) (Kd.R_types HO43.out BK4J.out (by decide)) (fun _ hk => hk.2) (.int .i64 t261)) (fun _ hk => hk.2) (.int .i64 t262)) (fun _ hk => hk.2) (.slice Ao106 t263.length co106)) (fun _ hk => ⟨hk.1.1.1.1.2, ⟨hk.1.1.1.2, ⟨hk.1.1.2, hk.1.2⟩⟩⟩)⟩, ⟨by (with_reducible repeat (first | apply Kd.R_alloc | apply Kd.R_drewN | apply Kd.R_drew)); exact Kd.R_mono (Kd.R_far (p := ⟨gH, 2, none⟩) (Kd.R_far (p := ⟨gH, 1, none⟩) (Kd.R_far (p := ⟨gH, 0, none⟩) (Kd.R_types HO4A.out BK4J.out (by decide)) (fun _ hk => hk.2) (.int .i64 t261)) (fun _ hk => hk.2) (.int .i64 t262)) (fun _ hk => hk.2) (.slice Ao106 t263.length co106)) (fun _ hk => ⟨hk.1.1.1.1.2, ⟨hk.1.1.1.2, ⟨hk.1.1.2, hk.1.2⟩⟩⟩)⟩, ⟨by (with_reducible repeat (first | apply Kd.R_alloc | apply Kd.R_drewN | apply Kd.R_drew)); exact Kd.R_mono (Kd.R_far (p := ⟨gH, 2, none⟩) (Kd.R_far (p := ⟨gH, 1, none⟩) (Kd.R_far (p := ⟨gH, 0, none⟩) (Kd.R_types HO4H.out BK4J.out (by decide)) (fun _ hk => hk.2) (.int .i64 t261)) (fun _ hk => hk.2) (.int .i64 t262)) (fun _ hk => hk.2) (.slice Ao106 t263.length co106)) (fun _ hk => ⟨hk.1.1.1.1.2, ⟨hk.1.1.1.2, ⟨hk.1.1.2, hk.1.2⟩⟩⟩)⟩, ⟨by (with_reducible repeat (first | refine zN ?_ _ | refine zD ?_ | refine zB ?_ _)); refine blk_far ?_ NB225_267.out _; (with_reducible repeat (first | refine zN ?_ _ | refine zD ?_ | refine zB ?_ _)); refine blk_far ?_ NB225_267.out _; (with_reducible repeat (first | refine zN ?_ _ | refine zD ?_ | refine zB ?_ _)); refine blk_far ?_ NB225_267.out _; (with_reducible repeat (first | refine zN ?_ _ | refine zD ?_ | refine zB ?_ _)); exact BK3d.out⟩, ⟨by (with_reducible repeat (first | refine zN ?_ _ | refine zD ?_ | refine zB ?_ _)); refine blk_far ?_ NB226_267.out _; (with_reducible repeat (first | refine zN ?_ _ | refine zD ?_ | refine zB ?_ _)); refine blk_far ?_ NB226_267.out _; (with_reducible repeat (first | refine zN ?_ _ | refine zD ?_ | refine zB ?_ _)); refine blk_far ?_ NB226_267.out _; (with_reducible repeat (first | refine zN ?_ _ | refine zD ?_ | refine zB ?_ _)); exact BK3e.out⟩, ⟨by (with_reducible repeat (first | refine zN ?_ _ | refine zD ?_ | refine zB ?_ _)); refine blk_far ?_ NB227_267.out _; (with_reducible repeat (first | refine zN ?_ _ | refine zD ?_ | refine zB ?_ _)); refine blk_far ?_ NB227_267.out _; (with_reducible repeat (first | refine zN ?_ _ | refine zD ?_ | refine zB ?_ _)); refine blk_far ?_ NB227_267.out _; (with_reducible repeat (first | refine zN ?_ _ | refine zD ?_ | refine zB ?_ _)); exact BK3f.out⟩, ⟨by (with_reducible repeat (first | refine zN ?_ _ | refine zD ?_ | refine zB ?_ _)); refine blk_far ?_ NB234_267.out _; (with_reducible repeat (first | refine zN ?_ _ | refine zD ?_ | refine zB ?_ _)); refine blk_far ?_ NB234_267.out _; (with_reducible repeat (first | refine zN ?_ _ | refine zD ?_ | refine zB ?_ _)); refine blk_far ?_ NB234_267.out _; (with_reducible repeat (first | refine zN ?_ _ | refine zD ?_ | refine zB ?_ _)); exact BK3m.out⟩, ⟨by (with_reducible repeat (first | refine zN ?_ _ | refine zD ?_ | refine zB ?_ _)); refine blk_far ?_ NB241_267.out _; (with_reducible repeat (first | refine zN ?_ _ | refine zD ?_ | refine zB ?_ _)); refine blk_far ?_ NB241_267.out _; (with_reducible repeat (first | refine zN ?_ _ | refine zD ?_ | refine zB ?_ _)); refine blk_far ?_ NB241_267.out _; (with_reducible repeat (first | refine zN ?_ _ | refine zD ?_ | refine zB ?_ _)); exact BK3t.out⟩, ⟨by (with_reducible repeat (first | refine zN ?_ _ | refine zD ?_ | refine zB ?_ _)); refine blk_far ?_ NB253_267.out _; (with_reducible repeat (first | refine zN ?_ _ | refine zD ?_ | refine zB ?_ _)); refine blk_far ?_ NB253_267.out _; (with_reducible repeat (first | refine zN ?_ _ | refine zD ?_ | refine zB ?_ _)); refine blk_far ?_ NB253_267.out _; (with_reducible repeat (first | refine zN ?_ _ | refine zD ?_ | refine zB ?_ _)); exact BK45.out⟩, ⟨by (with_reducible repeat (first | refine zN ?_ _ | refine zD ?_ | refine zB ?_ _)); refine blk_far ?_ NB260_267.out _; (with_reducible repeat (first | refine zN ?_ _ | refine zD ?_ | refine zB ?_ _)); refine blk_far ?_ NB260_267.out _; (with_reducible repeat (first | refine zN ?_ _ | refine zD ?_ | refine zB ?_ _)); refine blk_far ?_ NB260_267.out _; (with_reducible repeat (first | refine zN ?_ _ | refine zD ?_ | refine zB ?_ _)); exact BK4C.out⟩, ⟨by (with_reducible repeat (first | refine zN ?_ _ | refine zD ?_ | refine zB ?_ _)); refine blk_put (cs := #[.int .i64 t261, .int .i64 t262, .slice none 0 0]) ?_ 2 _ rfl; (with_reducible repeat (first | refine zN ?_ _ | refine zD ?_ | refine zB ?_ _)); refine blk_put (cs := #[.int .i64 t261, .int .i64 0, .slice none 0 0]) ?_ 1 _ rfl; (with_reducible repeat (first | refine zN ?_ _ | refine zD ?_ | refine zB ?_ _)); refine blk_put (cs := #[.int .i64 0, .int .i64 0, .slice none 0 0]) ?_ 0 _ rfl; (with_reducible repeat (first | refine zN ?_ _ | refine zD ?_ | refine zB ?_ _)); exact BK4J.out⟩, ⟨by repeat (first | (with_reducible first | exact HB.out | apply zW | apply zX | apply zY | refine zS ?_ GE3d.out | refine zS ?_ GE3e.out | refine zS ?_ GE3f.out | refine zS ?_ GE3m.out | refine zS ?_ GE3t.out | refine zS ?_ GE45.out | refine zS ?_ GE4C.out | refine zS ?_ GE4J.out) | exact HB.out)⟩⟩
       ·
        rw [if_neg c108] at H
        have c108b0 : (t259 == 0) = false := beq_eq_false_iff_ne.mpr c108
        have c108b1 : (t259 != 0) = true := bne_iff_ne.mpr c108
        have H' := zA H
        clear H
        go_wp2
        go_meet
        case rel => exact ⟨_, (false), (by first | rfl | (simp; done) | (simp [*]; done)), H', ⟨by have := HJ7.out; first | omega | exact Nat.le_refl _⟩, ⟨by (with_reducible repeat (first | apply Kd.R_alloc | apply Kd.R_drewN | apply Kd.R_drew)); exact Kd.R_mono (Kd.R_far (p := ⟨gH, 2, none⟩) (Kd.R_far (p := ⟨gH, 1, none⟩) (Kd.R_far (p := ⟨gH, 0, none⟩) (Kd.R_types HO_235002.out BK4J.out (by decide)) (fun _ hk => hk.2) (.int .i64 t261)) (fun _ hk => hk.2) (.int .i64 t262)) (fun _ hk => hk.2) (.slice Ao106 t263.length co106)) (fun _ hk => ⟨hk.1.1.1.1, ⟨hk.1.1.1.2, ⟨hk.1.1.2, hk.1.2⟩⟩⟩)⟩, ⟨by (with_reducible repeat (first | apply Kd.R_alloc | apply Kd.R_drewN | apply Kd.R_drew)); exact Kd.R_mono (Kd.R_far (p := ⟨gH, 2, none⟩) (Kd.R_far (p := ⟨gH, 1, none⟩) (Kd.R_far (p := ⟨gH, 0, none⟩) (Kd.R_types HO_242002.out BK4J.out (by decide)) (fun _ hk => hk.2) (.int .i64 t261)) (fun _ hk => hk.2) (.int .i64 t262)) (fun _ hk => hk.2) (.slice Ao106 t263.length co106)) (fun _ hk => ⟨hk.1.1.1.1, ⟨hk.1.1.1.2, ⟨hk.1.1.2, hk.1.2⟩⟩⟩)⟩, ⟨by (with_reducible repeat (first | apply Kd.R_alloc | apply Kd.R_drewN | apply Kd.R_drew)); exact Kd.R_mono (Kd.R_far (p := ⟨gH, 2, none⟩) (Kd.R_far (p := ⟨gH, 1, none⟩) (Kd.R_far (p := ⟨gH, 0, none⟩) (Kd.R_types HO43.out BK4J.out (by decide)) (fun _ hk => hk.2) (.int .i64 t261)) (fun _ hk => hk.2) (.int .i64 t262)) (fun _ hk => hk.2) (.slice Ao106 t263.length co106)) (fun _ hk => ⟨hk.1.1.1.1.2, ⟨hk.1.1.1.2, ⟨hk.1.1.2, hk.1.2⟩⟩⟩)⟩, ⟨by (with_reducible repeat (first | apply Kd.R_alloc | apply Kd.R_drewN | apply Kd.R_drew)); exact Kd.R_mono (Kd.R_far (p := ⟨gH, 2, none⟩) (Kd.R_far (p := ⟨gH, 1, none⟩) (Kd.R_far (p := ⟨gH, 0, none⟩) (Kd.R_types HO4A.out BK4J.out (by decide)) (fun _ hk => hk.2) (.int .i64 t261)) (fun _ hk => hk.2) (.int .i64 t262)) (fun _ hk => hk.2) (.slice Ao106 t263.length co106)) (fun _ hk => ⟨hk.1.1.1.1.2, ⟨hk.1.1.1.2, ⟨hk.1.1.2, hk.1.2⟩⟩⟩)⟩, ⟨by (with_reducible repeat (first | apply Kd.R_alloc | apply Kd.R_drewN | apply Kd.R_drew)); exact Kd.R_mono (Kd.R_far (p := ⟨gH, 2, none⟩) (Kd.R_far (p := ⟨gH, 1, none⟩) (Kd.R_far (p := ⟨gH, 0, none⟩) (Kd.R_types HO4H.out BK4J.out (by decide)) (fun _ hk => hk.2) (.int .i64 t261)) (fun _ hk => hk.2) (.int .i64 t262)) (fun _ hk => hk.2) (.slice Ao106 t263.length co106)) (fun _ hk => ⟨hk.1.1.1.1.2, ⟨hk.1.1.1.2, ⟨hk.1.1.2, hk.1.2⟩⟩⟩)⟩, ⟨by (with_reducible repeat (first | refine zN ?_ _ | refine zD ?_ | refine zB ?_ _)); refine blk_far ?_ NB225_267.out _; (with_reducible repeat (first | refine zN ?_ _ | refine zD ?_ | refine zB ?_ _)); refine blk_far ?_ NB225_267.out _; (with_reducible repeat (first | refine zN ?_ _ | refine zD ?_ | refine zB ?_ _)); refine blk_far ?_ NB225_267.out _; (with_reducible repeat (first | refine zN ?_ _ | refine zD ?_ | refine zB ?_ _)); exact BK3d.out⟩, ⟨by (with_reducible repeat (first | refine zN ?_ _ | refine zD ?_ | refine zB ?_ _)); refine blk_far ?_ NB226_267.out _; (with_reducible repeat (first | refine zN ?_ _ | refine zD ?_ | refine zB ?_ _)); refine blk_far ?_ NB226_267.out _; (with_reducible repeat (first | refine zN ?_ _ | refine zD ?_ | refine zB ?_ _)); refine blk_far ?_ NB226_267.out _; (with_reducible repeat (first | refine zN ?_ _ | refine zD ?_ | refine zB ?_ _)); exact BK3e.out⟩, ⟨by (with_reducible repeat (first | refine zN ?_ _ | refine zD ?_ | refine zB ?_ _)); refine blk_far ?_ NB227_267.out _; (with_reducible repeat (first | refine zN ?_ _ | refine zD ?_ | refine zB ?_ _)); refine blk_far ?_ NB227_267.out _; (with_reducible repeat (first | refine zN ?_ _ | refine zD ?_ | refine zB ?_ _)); refine blk_far ?_ NB227_267.out _; (with_reducible repeat (first | refine zN ?_ _ | refine zD ?_ | refine zB ?_ _)); exact BK3f.out⟩, ⟨by (with_reducible repeat (first | refine zN ?_ _ | refine zD ?_ | refine zB ?_ _)); refine blk_far ?_ NB234_267.out _; (with_reducible repeat (first | refine zN ?_ _ | refine zD ?_ | refine zB ?_ _)); refine blk_far ?_ NB234_267.out _; (with_reducible repeat (first | refine zN ?_ _ | refine zD ?_ | refine zB ?_ _)); refine blk_far ?_ NB234_267.out _; (with_reducible repeat (first | refine zN ?_ _ | refine zD ?_ | refine zB ?_ _)); exact BK3m.out⟩, ⟨by (with_reducible repeat (first | refine zN ?_ _ | refine zD ?_ | refine zB ?_ _)); refine blk_far ?_ NB241_267.out _; (with_reducible repeat (first | refine zN ?_ _ | refine zD ?_ | refine zB ?_ _)); refine blk_far ?_ NB241_267.out _; (with_reducible repeat (first | refine zN ?_ _ | refine zD ?_ | refine zB ?_ _)); refine blk_far ?_ NB241_267.out _; (with_reducible repeat (first | refine zN ?_ _ | refine zD ?_ | refine zB ?_ _)); exact BK3t.out⟩, ⟨by (with_reducible repeat (first | refine zN ?_ _ | refine zD ?_ | refine zB ?_ _)); refine blk_far ?_ NB253_267.out _; (with_reducible repeat (first | refine zN ?_ _ | refine zD ?_ | refine zB ?_ _)); refine blk_far ?_ NB253_267.out _; (with_reducible repeat (first | refine zN ?_ _ | refine zD ?_ | refine zB ?_ _)); refine blk_far ?_ NB253_267.out _; (with_reducible repeat (first | refine zN ?_ _ | refine zD ?_ | refine zB ?_ _)); exact BK45.out⟩, ⟨by (with_reducible repeat (first | refine zN ?_ _ | refine zD ?_ | refine zB ?_ _)); refine blk_far ?_ NB260_267.out _; (with_reducible repeat (first | refine zN ?_ _ | refine zD ?_ | refine zB ?_ _)); refine blk_far ?_ NB260_267.out _; (with_reducible repeat (first | refine zN ?_ _ | refine zD ?_ | refine zB ?_ _)); refine blk_far ?_ NB260_267.out _; (with_reducible repeat (first | refine zN ?_ _ | refine zD ?_ | refine zB ?_ _)); exact BK4C.out⟩, ⟨by (with_reducible repeat (first | refine zN ?_ _ | refine zD ?_ | refine zB ?_ _)); refine blk_put (cs := #[.int .i64 t261, .int .i64 t262, .slice none 0 0]) ?_ 2 _ rfl; (with_reducible repeat (first | refine zN ?_ _ | refine zD ?_ | refine zB ?_ _)); refine blk_put (cs := #[.int .i64 t261, .int .i64 0, .slice none 0 0]) ?_ 1 _ rfl; (with_reducible repeat (first | refine zN ?_ _ | refine zD ?_ | refine zB ?_ _)); refine blk_put (cs := #[.int .i64 0, .int .i64 0, .slice none 0 0]) ?_ 0 _ rfl; (with_reducible repeat (first | refine zN ?_ _ | refine zD ?_ | refine zB ?_ _)); exact BK4J.out⟩, ⟨by repeat (first | (with_reducible first | exact HB.out | apply zW | apply zX | apply zY | refine zS ?_ GE3d.out | refine zS ?_ GE3e.out | refine zS ?_ GE3f.out | refine zS ?_ GE3m.out | refine zS ?_ GE3t.out | refine zS ?_ GE45.out | refine zS ?_ GE4C.out | refine zS ?_ GE4J.out) | exact HB.out)⟩⟩
      ·
       rw [if_neg c107] at H
       have c107b0 : (t252 == 0) = false := beq_eq_false_iff_ne.mpr c107
       have c107b1 : (t252 != 0) = true := bne_iff_ne.mpr c107
       (first | rw [c107b0] | (simp only [i64_w, i32_w]; rw [c107b0]) | skip)
       have H' := zA H
       clear H
       go_wp2
       go_meet
       case rel => exact ⟨_, (false), (by first | rfl | (simp; done) | (simp [*]; done)), H', ⟨by have := HJ7.out; first | omega | exact Nat.le_refl _⟩, ⟨by (with_reducible repeat (first | apply Kd.R_alloc | apply Kd.R_drewN | apply Kd.R_drew)); exact Kd.R_mono (Kd.R_far (p := ⟨gH, 2, none⟩) (Kd.R_far (p := ⟨gH, 1, none⟩) (Kd.R_far (p := ⟨gH, 0, none⟩) (Kd.R_types HO_235002.out BK4J.out (by decide)) (fun _ hk => hk.2) (.int .i64 t261)) (fun _ hk => hk.2) (.int .i64 t262)) (fun _ hk => hk.2) (.slice Ao106 t263.length co106)) (fun _ hk => ⟨hk.1.1.1.1, ⟨hk.1.1.1.2, ⟨hk.1.1.2, hk.1.2⟩⟩⟩)⟩, ⟨by (with_reducible repeat (first | apply Kd.R_alloc | apply Kd.R_drewN | apply Kd.R_drew)); exact Kd.R_mono (Kd.R_far (p := ⟨gH, 2, none⟩) (Kd.R_far (p := ⟨gH, 1, none⟩) (Kd.R_far (p := ⟨gH, 0, none⟩) (Kd.R_types HO_242002.out BK4J.out (by decide)) (fun _ hk => hk.2) (.int .i64 t261)) (fun _ hk => hk.2) (.int .i64 t262)) (fun _ hk => hk.2) (.slice Ao106 t263.length co106)) (fun _ hk => ⟨hk.1.1.1.1, ⟨hk.1.1.1.2, ⟨hk.1.1.2, hk.1.2⟩⟩⟩)⟩, ⟨by (with_reducible repeat (first | apply Kd.R_alloc | apply Kd.R_drewN | apply Kd.R_drew)); exact Kd.R_mono (Kd.R_far (p := ⟨gH, 2, none⟩) (Kd.R_far (p := ⟨gH, 1, none⟩) (Kd.R_far (p := ⟨gH, 0, none⟩) (Kd.R_types HO43.out BK4J.out (by decide)) (fun _ hk => hk.2) (.int .i64 t261)) (fun _ hk => hk.2) (.int .i64 t262)) (fun _ hk => hk.2) (.slice Ao106 t263.length co106)) (fun _ hk => ⟨hk.1.1.1.1.2, ⟨hk.1.1.1.2, ⟨hk.1.1.2, hk.1.2⟩⟩⟩)⟩, ⟨by (with_reducible repeat (first | apply Kd.R_alloc | apply Kd.R_drewN | apply Kd.R_drew)); exact Kd.R_mono (Kd.R_far (p := ⟨gH, 2, none⟩) (Kd.R_far (p := ⟨gH, 1, none⟩) (Kd.R_far (p := ⟨gH, 0, none⟩) (Kd.R_types HO4A.out BK4J.out (by decide)) (fun _ hk => hk.2) (.int .i64 t261)) (fun _ hk => hk.2) (.int .i64 t262)) (fun _ hk => hk.2) (.slice Ao106 t263.length co106)) (fun _ hk => ⟨hk.1.1.1.1.2, ⟨hk.1.1.1.2, ⟨hk.1.1.2, hk.1.2⟩⟩⟩)⟩, ⟨by (with_reducible repeat (first | apply Kd.R_alloc | apply Kd.R_drewN | apply Kd.R_drew)); exact Kd.R_mono (Kd.R_far (p := ⟨gH, 2, none⟩) (Kd.R_far (p := ⟨gH, 1, none⟩) (Kd.R_far (p := ⟨gH, 0, none⟩) (Kd.R_types HO4H.out BK4J.out (by decide)) (fun _ hk => hk.2) (.int .i64 t261)) (fun _ hk => hk.2) (.int .i64 t262)) (fun _ hk => hk.2) (.slice Ao106 t263.length co106)) (fun _ hk => ⟨hk.1.1.1.1.2, ⟨hk.1.1.1.2, ⟨hk.1.1.2, hk.1.2⟩⟩⟩)⟩, ⟨by (with_reducible repeat (first | refine zN ?_ _ | refine zD ?_ | refine zB ?_ _)); refine blk_far ?_ NB225_267.out _; (with_reducible repeat (first | refine zN ?_ _ | refine zD ?_ | refine zB ?_ _)); refine blk_far ?_ NB225_267.out _; (with_reducible repeat (first | refine zN ?_ _ | refine zD ?_ | refine zB ?_ _)); refine blk_far ?_ NB225_267.out _; (with_reducible repeat (first | refine zN ?_ _ | refine zD ?_ | refine zB ?_ _)); exact BK3d.out⟩, ⟨by (with_reducible repeat (first | refine zN ?_ _ | refine zD ?_ | refine zB ?_ _)); refine blk_far ?_ NB226_267.out _; (with_reducible repeat (first | refine zN ?_ _ | refine zD ?_ | refine zB ?_ _)); refine blk_far ?_ NB226_267.out _; (with_reducible repeat (first | refine zN ?_ _ | refine zD ?_ | refine zB ?_ _)); refine blk_far ?_ NB226_267.out _; (with_reducible repeat (first | refine zN ?_ _ | refine zD ?_ | refine zB ?_ _)); exact BK3e.out⟩, ⟨by (with_reducible repeat (first | refine zN ?_ _ | refine zD ?_ | refine zB ?_ _)); refine blk_far ?_ NB227_267.out _; (with_reducible repeat (first | refine zN ?_ _ | refine zD ?_ | refine zB ?_ _)); refine blk_far ?_ NB227_267.out _; (with_reducible repeat (first | refine zN ?_ _ | refine zD ?_ | refine zB ?_ _)); refine blk_far ?_ NB227_267.out _; (with_reducible repeat (first | refine zN ?_ _ | refine zD ?_ | refine zB ?_ _)); exact BK3f.out⟩, ⟨by (with_reducible repeat (first | refine zN ?_ _ | refine zD ?_ | refine zB ?_ _)); refine blk_far ?_ NB234_267.out _; (with_reducible repeat (first | refine zN ?_ _ | refine zD ?_ | refine zB ?_ _)); refine blk_far ?_ NB234_267.out _; (with_reducible repeat (first | refine zN ?_ _ | refine zD ?_ | refine zB ?_ _)); refine blk_far ?_ NB234_267.out _; (with_reducible repeat (first | refine zN ?_ _ | refine zD ?_ | refine zB ?_ _)); exact BK3m.out⟩, ⟨by (with_reducible repeat (first | refine zN ?_ _ | refine zD ?_ | refine zB ?_ _)); refine blk_far ?_ NB241_267.out _; (with_reducible repeat (first | refine zN ?_ _ | refine zD ?_ | refine zB ?_ _)); refine blk_far ?_ NB241_267.out _; (with_reducible repeat (first | refine zN ?_ _ | refine zD ?_ | refine zB ?_ _)); refine blk_far ?_ NB241_267.out _; (with_reducible repeat (first | refine zN ?_ _ | refine zD ?_ | refine zB ?_ _)); exact BK3t.out⟩, ⟨by (with_reducible repeat (first | refine zN ?_ _ | refine zD ?_ | refine zB ?_ _)); refine blk_far ?_ NB253_267.out _; (with_reducible repeat (first | refine zN ?_ _ | refine zD ?_ | refine zB ?_ _)); refine blk_far ?_ NB253_267.out _; (with_reducible repeat (first | refine zN ?_ _ | refine zD ?_ | refine zB ?_ _)); refine blk_far ?_ NB253_267.out _; (with_reducible repeat (first | refine zN ?_ _ | refine zD ?_ | refine zB ?_ _)); exact BK45.out⟩, ⟨by (with_reducible repeat (first | refine zN ?_ _ | refine zD ?_ | refine zB ?_ _)); refine blk_far ?_ NB260_267.out _; (with_reducible repeat (first | refine zN ?_ _ | refine zD ?_ | refine zB ?_ _)); refine blk_far ?_ NB260_267.out _; (with_reducible repeat (first | refine zN ?_ _ | refine zD ?_ | refine zB ?_ _)); refine blk_far ?_ NB260_267.out _; (with_reducible repeat (first | refine zN ?_ _ | refine zD ?_ | refine zB ?_ _)); exact BK4C.out⟩, ⟨by (with_reducible repeat (first | refine zN ?_ _ | refine zD ?_ | refine zB ?_ _)); refine blk_put (cs := #[.int .i64 t261, .int .i64 t262, .slice none 0 0]) ?_ 2 _ rfl; (with_reducible repeat (first | refine zN ?_ _ | refine zD ?_ | refine zB ?_ _)); refine blk_put (cs := #[.int .i64 t261, .int .i64 0, .slice none 0 0]) ?_ 1 _ rfl; (with_reducible repeat (first | refine zN ?_ _ | refine zD ?_ | refine zB ?_ _)); refine blk_put (cs := #[.int .i64 0, .int .i64 0, .slice none 0 0]) ?_ 0 _ rfl; (with_reducible repeat (first | refine zN ?_ _ | refine zD ?_ | refine zB ?_ _)); exact BK4J.out⟩, ⟨by repeat (first | (with_reducible first | exact HB.out | apply zW | apply zX | apply zY | refine zS ?_ GE3d.out | refine zS ?_ GE3e.out | refine zS ?_ GE3f.out | refine zS ?_ GE3m.out | refine zS ?_ GE3t.out | refine zS ?_ GE45.out | refine zS ?_ GE4C.out | refine zS ?_ GE4J.out) | exact HB.out)⟩⟩
     case rest =>
      clear HC61
      try clear c1
      try clear c2
      try clear p2
      try clear c3
      try clear c4
      try clear c5
      try clear c6
      try clear c7
      try clear c8
      try clear c9
      try clear c10
      try clear c11
      try clear c12
      try clear c13
      try clear c14
      try clear c15
      try clear c19
      try clear c20
      try clear c21
      try clear c28
      try clear c29
      try clear c30
      try clear c31
      try clear c35
      try clear c36
      try clear c37
      try clear c38
      try clear c39
      try clear c41
      try clear c42
      try clear c43
      try clear c46
      try clear c47
      try clear c48
      try clear c49
      try clear c51
      try clear c52
      try clear c53
      try clear c56
      try clear c57
      try clear c57b0
      try clear c57b1
      try clear c62
      try clear c63
      try clear c64
      try clear c65
      try clear c67
      try clear c68
      try clear c69
      try clear c73
      try clear c74
      try clear c75
      try clear c76
      try clear c77
      try clear c80
      try clear c81
      try clear c86
      try clear c87
      try clear c88
      try clear c89
      try clear c90
      try clear c91
      try clear c94
      try clear c98
      try clear c99
      try clear c100
      try clear c101
      try clear c102
      try clear c103
      try clear c104
      try clear c107
      try clear c107b0
      try clear c107b1
      try clear c108
      try clear c108b0
      try clear c108b1
      try clear c109
      try clear c109b0
      try clear c109b1
      try clear c111
      try clear c112
      try clear c113
      try clear c114
      try clear c115
      try clear c116
      try clear c117
      try clear c119
      try clear c120
      try clear c121
      try clear c122
      try clear c123
      try clear c124
      try clear hcz105_0
      try clear hcz105_1
      try clear hcz105_2
      try clear hcz118_0
      try clear hcz118_1
      try clear hcz118_2
      try clear hcz125_0
      try clear hcz125_1
      try clear hcz125_2
      try clear hcz14_0
      try clear hcz14_1
      try clear hcz14_2
      try clear hcz16_0
      try clear hcz16_1
      try clear hcz16_2
      try clear hcz22_0
      try clear hcz22_1
      try clear hcz22_2
      try clear hcz24_0
      try clear hcz24_1
      try clear hcz24_2
      try clear hcz25_0
      try clear hcz25_1
      try clear hcz25_2
      try clear hcz32_0
      try clear hcz32_1
      try clear hcz32_2
      try clear hcz40_0
      try clear hcz40_1
      try clear hcz40_2
      try clear hcz44_0
      try clear hcz44_1
      try clear hcz44_2
      try clear hcz50_0
      try clear hcz50_1
      try clear hcz50_2
      try clear hcz54_0
      try clear hcz54_1
      try clear hcz54_2
      try clear hcz66_0
      try clear hcz66_1
      try clear hcz66_2
      try clear hcz70_0
      try clear hcz70_1
      try clear hcz70_2
      try clear hcz78_0
      try clear hcz78_1
      try clear hcz78_2
      try clear hcz82_0
      try clear hcz82_1
      try clear hcz82_2
      try clear hcz83_0
      try clear hcz83_1
      try clear hcz83_2
      try clear hcz92_0
      try clear hcz92_1
      try clear hcz92_2
      try clear hcz95_0
      try clear hcz95_1
      try clear hcz95_2
      try clear hfz105_0
      try clear hfz105_1
      try clear hfz105_2
      try clear hfz118_0
      try clear hfz118_1
      try clear hfz118_2
      try clear hfz125_0
      try clear hfz125_1
      try clear hfz125_2
      try clear hfz14_0
      try clear hfz14_1
      try clear hfz14_2
      try clear hfz16_0
      try clear hfz16_1
      try clear hfz16_2
      try clear hfz22_0
      try clear hfz22_1
      try clear hfz22_2
      try clear hfz24_0
      try clear hfz24_1
      try clear hfz24_2
      try clear hfz25_0
      try clear hfz25_1
      try clear hfz25_2
      try clear hfz32_0
      try clear hfz32_1
      try clear hfz32_2
      try clear hfz40_0
      try clear hfz40_1
      try clear hfz40_2
      try clear hfz44_0
      try clear hfz44_1
      try clear hfz44_2
      try clear hfz50_0
      try clear hfz50_1
      try clear hfz50_2
      try clear hfz54_0
      try clear hfz54_1
      try clear hfz54_2
      try clear hfz66_0
      try clear hfz66_1
      try clear hfz66_2
      try clear hfz70_0
      try clear hfz70_1
      try clear hfz70_2
      try clear hfz78_0
      try clear hfz78_1
      try clear hfz78_2
      try clear hfz82_0
      try clear hfz82_1
      try clear hfz82_2
      try clear hfz83_0
      try clear hfz83_1
      try clear hfz83_2
      try clear hfz92_0
      try clear hfz92_1
      try clear hfz92_2
      try clear hfz95_0
      try clear hfz95_1
      try clear hfz95_2
      try clear p2
      obtain ⟨kq, x101_60, rfl, HA, HJ60, HO_235002, HO_242002, HO_254002, HO_261002, HO_268002, BK3d, BK3e, BK3f, BK3m, BK3t, BK45, BK4C, BK4J, HB⟩ := hcut
      cases kq with
      | zero => exact absurd HA.out (by simp [lawJoins.j1])
      | succ kj60 =>
       have H := HA.out
       clear HA
       simp only [lawJoins.j1] at H
       by_cases c127 : x101_60 = true
       ·
        subst c127
        have H1 : (none) = some r := by rw [if_pos rfl] at H; exact H
        clear H
        have H := H1
        clear H1
        exact absurd H (by simp)
       ·
        replace c127 := Bool.eq_false_iff.mpr c127
        subst c127
        have H1 : ((kimberlitelaw03_at.f a0_0 a0_1 l0_2 a3).bind fun bt269 => ((kimberlitelaw03_at.f a1_0 a1_1 l1_2 a4).bind fun bt271 => (if bt269.2 = true then (lawJoins.j2 kj60 a3 a4 bt269.1 bt271.1 (!bt271.2) a0_0 a0_1 l0_2 a1_0 a1_1 l1_2 t228 t229 t230) else (lawJoins.j2 kj60 a3 a4 bt269.1 bt271.1 true a0_0 a0_1 l0_2 a1_0 a1_1 l1_2 t228 t229 t230)))) = some r := by rw [if_neg (show ¬ (false = true) by decide)] at H; exact H
        clear H
        have H := H1
        clear H1
        replace H := Option.bind_eq_some_iff.mp H
        obtain ⟨⟨t269, t270⟩, A1280, H⟩ := H
        replace H : ((kimberlitelaw03_at.f a1_0 a1_1 l1_2 a4).bind fun bt271 => (if t270 = true then (lawJoins.j2 kj60 a3 a4 t269 bt271.1 (!bt271.2) a0_0 a0_1 l0_2 a1_0 a1_1 l1_2 t228 t229 t230) else (lawJoins.j2 kj60 a3 a4 t269 bt271.1 true a0_0 a0_1 l0_2 a1_0 a1_1 l1_2 t228 t229 t230))) = some r := H
        have A128 := zA A1280
        clear A1280
        replace H := Option.bind_eq_some_iff.mp H
        obtain ⟨⟨t271, t272⟩, A1290, H⟩ := H
        replace H : (if t270 = true then (lawJoins.j2 kj60 a3 a4 t269 t271 (!t272) a0_0 a0_1 l0_2 a1_0 a1_1 l1_2 t228 t229 t230) else (lawJoins.j2 kj60 a3 a4 t269 t271 true a0_0 a0_1 l0_2 a1_0 a1_1 l1_2 t228 t229 t230)) = some r := H
        have A129 := zA A1290
        clear A1290
        have HC26 := zA H
        clear H
        have hnb131 := NB225_226.out
        have hnc131 := NB226_225.out
        have hnb132 := NB225_227.out
        have hnc132 := NB227_225.out
        have hnb133 := NB225_234.out
        have hnc133 := NB234_225.out
        have hnb134 := NB225_241.out
        have hnc134 := NB241_225.out
        have hnb135 := NB225_253.out
        have hnc135 := NB253_225.out
        have hnb136 := NB225_260.out
        have hnc136 := NB260_225.out
        have hnb137 := NB225_267.out
        have hnc137 := NB267_225.out
        have hcz138_0 : wc.cell? ⟨gA, 0, none⟩ = some (.int .i64 a0_0) := (blk_cell BK3d.out 0).trans rfl
        have hcz138_1 : wc.cell? ⟨gA, 1, none⟩ = some (.int .i64 a0_1) := (blk_cell BK3d.out 1).trans rfl
        have hcz138_2 : wc.cell? ⟨gA, 2, none⟩ = some (.slice A0_2 l0_2.length c0_2) := (blk_cell BK3d.out 2).trans rfl
        have hfz138_0 := blk_frozen BK3d.out 0
        have hfz138_1 := blk_frozen BK3d.out 1
        have hfz138_2 := blk_frozen BK3d.out 2
        go_upto_region 14 with (first | ((with_reducible refine gate_callee (f := 18) rfl ?_); refine goesL_ (some 105) rfl rfl Try.func18 (by kernel_rfl) rfl #[.agg #[.int .i64 a0_0, .int .i64 a0_1, .slice A0_2 l0_2.length c0_2], .int .i64 a3] rfl (by (try simp only [List.map_toArray, List.map_cons, List.map_nil]); first | done | rfl | (simp only [List.length_drop, List.length_take]; rfl)) ?_; (with_reducible refine (kimberlitelaw03_at.calls a0_0 a0_1 _ _ l0_2 a3 t269 t270 _ ?side1 ?side2 A128.out).mono ?_); (case side1 => repeat (first | exact (Kd.C_below HR0_2.out HB.out) | (with_reducible refine Kd.C_alloc ?_ _) | (with_reducible refine Kd.C_drewN ?_ _) | (with_reducible refine Kd.C_drew ?_))); (case side2 => exact HC0_2.out); rintro e w139 ⟨rfl, hb⟩; refine ⟨_, rfl, ?_⟩; have n0_ := zA (Kd.R_below (by (with_reducible repeat (first | apply Kd.R_alloc | apply Kd.R_drewN | apply Kd.R_drew)); exact HO_235002.out) hb); have n1_ := zA (Kd.R_below (by (with_reducible repeat (first | apply Kd.R_alloc | apply Kd.R_drewN | apply Kd.R_drew)); exact HO_242002.out) hb); have n2_ := zA (Kd.R_below (by (with_reducible repeat (first | apply Kd.R_alloc | apply Kd.R_drewN | apply Kd.R_drew)); exact HO_254002.out) hb); have n3_ := zA (Kd.R_below (by (with_reducible repeat (first | apply Kd.R_alloc | apply Kd.R_drewN | apply Kd.R_drew)); exact HO_261002.out) hb); have n4_ := zA (Kd.R_below (by (with_reducible repeat (first | apply Kd.R_alloc | apply Kd.R_drewN | apply Kd.R_drew)); exact HO_268002.out) hb); have n5_ := zA (blk_below (g := gA) (o := .cells #[.int .i64 a0_0, .int .i64 a0_1, .slice A0_2 l0_2.length c0_2] 24 (0, 0)) (by (with_reducible repeat (first | refine zN ?_ _ | refine zD ?_ | refine zB ?_ _)); exact BK3d.out) hb); have n6_ := zA (blk_below (g := gB) (o := .cells #[.int .i64 a1_0, .int .i64 a1_1, .slice A1_2 l1_2.length c1_2] 24 (0, 0)) (by (with_reducible repeat (first | refine zN ?_ _ | refine zD ?_ | refine zB ?_ _)); exact BK3e.out) hb); have n7_ := zA (blk_below (g := gC) (o := .cells #[.int .i64 a2_0, .int .i64 a2_1, .slice A2_2 l2_2.length c2_2] 24 (0, 0)) (by (with_reducible repeat (first | refine zN ?_ _ | refine zD ?_ | refine zB ?_ _)); exact BK3f.out) hb); have n8_ := zA (blk_below (g := gD) (o := .cells #[.int .i64 t228, .int .i64 t229, .slice Ao23 t230.length co23] 24 (0, 0)) (by (with_reducible repeat (first | refine zN ?_ _ | refine zD ?_ | refine zB ?_ _)); exact BK3m.out) hb); have n9_ := zA (blk_below (g := gE) (o := .cells #[.int .i64 t235, .int .i64 t236, .slice Ao33 t237.length co33] 24 (0, 0)) (by (with_reducible repeat (first | refine zN ?_ _ | refine zD ?_ | refine zB ?_ _)); exact BK3t.out) hb); have n10_ := zA (blk_below (g := gF) (o := .cells #[.int .i64 t247, .int .i64 t248, .slice Ao79 t249.length co79] 24 (0, 0)) (by (with_reducible repeat (first | refine zN ?_ _ | refine zD ?_ | refine zB ?_ _)); exact BK45.out) hb); have n11_ := zA (blk_below (g := gG) (o := .cells #[.int .i64 t254, .int .i64 t255, .slice Ao93 t256.length co93] 24 (0, 0)) (by (with_reducible repeat (first | refine zN ?_ _ | refine zD ?_ | refine zB ?_ _)); exact BK4C.out) hb); have n12_ := zA (blk_below (g := gH) (o := .cells #[.int .i64 t261, .int .i64 t262, .slice Ao106 t263.length co106] 24 (0, 0)) (by (with_reducible repeat (first | refine zN ?_ _ | refine zD ?_ | refine zB ?_ _)); exact BK4J.out) hb); have n13_ := zA (below_step (by repeat (first | (with_reducible first | exact HB.out | apply zW | apply zX | apply zY | refine zS ?_ GE3d.out | refine zS ?_ GE3e.out | refine zS ?_ GE3f.out | refine zS ?_ GE3m.out | refine zS ?_ GE3t.out | refine zS ?_ GE45.out | refine zS ?_ GE4C.out | refine zS ?_ GE4J.out) | exact HB.out)) hb); clear HO_235002; clear HO_242002; clear HO_254002; clear HO_261002; clear HO_268002; clear BK3d; clear BK3e; clear BK3f; clear BK3m; clear BK3t; clear BK45; clear BK4C; clear BK4J; clear HB; have HO_235002 := n0_; have HO_242002 := n1_; have HO_254002 := n2_; have HO_261002 := n3_; have HO_268002 := n4_; have BK3d := n5_; have BK3e := n6_; have BK3f := n7_; have BK3m := n8_; have BK3t := n9_; have BK45 := n10_; have BK4C := n11_; have BK4J := n12_; have HB := n13_; clear n0_ n1_ n2_ n3_ n4_ n5_ n6_ n7_ n8_ n9_ n10_ n11_ n12_ n13_; (try clear hb); (try clear hb2); (try clear hk); (try clear hi); have hnb140 := NB226_227.out; have hnc140 := NB227_226.out; have hnb141 := NB226_234.out; have hnc141 := NB234_226.out; have hnb142 := NB226_241.out; have hnc142 := NB241_226.out; have hnb143 := NB226_253.out; have hnc143 := NB253_226.out; have hnb144 := NB226_260.out; have hnc144 := NB260_226.out; have hnb145 := NB226_267.out; have hnc145 := NB267_226.out; have hcz146_0 : w139.cell? ⟨gB, 0, none⟩ = some (.int .i64 a1_0) := (blk_cell BK3e.out 0).trans rfl; have hcz146_1 : w139.cell? ⟨gB, 1, none⟩ = some (.int .i64 a1_1) := (blk_cell BK3e.out 1).trans rfl; have hcz146_2 : w139.cell? ⟨gB, 2, none⟩ = some (.slice A1_2 l1_2.length c1_2) := (blk_cell BK3e.out 2).trans rfl; have hfz146_0 := blk_frozen BK3e.out 0; have hfz146_1 := blk_frozen BK3e.out 1; have hfz146_2 := blk_frozen BK3e.out 2) | ((with_reducible refine gate_callee (f := 18) rfl ?_); refine goesL_ (some 111) rfl rfl Try.func18 (by kernel_rfl) rfl #[.agg #[.int .i64 a1_0, .int .i64 a1_1, .slice A1_2 l1_2.length c1_2], .int .i64 a4] rfl (by (try simp only [List.map_toArray, List.map_cons, List.map_nil]); first | done | rfl | (simp only [List.length_drop, List.length_take]; rfl)) ?_; (with_reducible refine (kimberlitelaw03_at.calls a1_0 a1_1 _ _ l1_2 a4 t271 t272 _ ?side1 ?side2 A129.out).mono ?_); (case side1 => repeat (first | exact (Kd.C_below HR1_2.out HB.out) | (with_reducible refine Kd.C_alloc ?_ _) | (with_reducible refine Kd.C_drewN ?_ _) | (with_reducible refine Kd.C_drew ?_))); (case side2 => exact HC1_2.out); rintro e w147 ⟨rfl, hb⟩; refine ⟨_, rfl, ?_⟩; have n0_ := zA (Kd.R_below (by (with_reducible repeat (first | apply Kd.R_alloc | apply Kd.R_drewN | apply Kd.R_drew)); exact HO_235002.out) hb); have n1_ := zA (Kd.R_below (by (with_reducible repeat (first | apply Kd.R_alloc | apply Kd.R_drewN | apply Kd.R_drew)); exact HO_242002.out) hb); have n2_ := zA (Kd.R_below (by (with_reducible repeat (first | apply Kd.R_alloc | apply Kd.R_drewN | apply Kd.R_drew)); exact HO_254002.out) hb); have n3_ := zA (Kd.R_below (by (with_reducible repeat (first | apply Kd.R_alloc | apply Kd.R_drewN | apply Kd.R_drew)); exact HO_261002.out) hb); have n4_ := zA (Kd.R_below (by (with_reducible repeat (first | apply Kd.R_alloc | apply Kd.R_drewN | apply Kd.R_drew)); exact HO_268002.out) hb); have n5_ := zA (blk_below (g := gA) (o := .cells #[.int .i64 a0_0, .int .i64 a0_1, .slice A0_2 l0_2.length c0_2] 24 (0, 0)) (by (with_reducible repeat (first | refine zN ?_ _ | refine zD ?_ | refine zB ?_ _)); exact BK3d.out) hb); have n6_ := zA (blk_below (g := gB) (o := .cells #[.int .i64 a1_0, .int .i64 a1_1, .slice A1_2 l1_2.length c1_2] 24 (0, 0)) (by (with_reducible repeat (first | refine zN ?_ _ | refine zD ?_ | refine zB ?_ _)); exact BK3e.out) hb); have n7_ := zA (blk_below (g := gC) (o := .cells #[.int .i64 a2_0, .int .i64 a2_1, .slice A2_2 l2_2.length c2_2] 24 (0, 0)) (by (with_reducible repeat (first | refine zN ?_ _ | refine zD ?_ | refine zB ?_ _)); exact BK3f.out) hb); have n8_ := zA (blk_below (g := gD) (o := .cells #[.int .i64 t228, .int .i64 t229, .slice Ao23 t230.length co23] 24 (0, 0)) (by (with_reducible repeat (first | refine zN ?_ _ | refine zD ?_ | refine zB ?_ _)); exact BK3m.out) hb); have n9_ := zA (blk_below (g := gE) (o := .cells #[.int .i64 t235, .int .i64 t236, .slice Ao33 t237.length co33] 24 (0, 0)) (by (with_reducible repeat (first | refine zN ?_ _ | refine zD ?_ | refine zB ?_ _)); exact BK3t.out) hb); have n10_ := zA (blk_below (g := gF) (o := .cells #[.int .i64 t247, .int .i64 t248, .slice Ao79 t249.length co79] 24 (0, 0)) (by (with_reducible repeat (first | refine zN ?_ _ | refine zD ?_ | refine zB ?_ _)); exact BK45.out) hb); have n11_ := zA (blk_below (g := gG) (o := .cells #[.int .i64 t254, .int .i64 t255, .slice Ao93 t256.length co93] 24 (0, 0)) (by (with_reducible repeat (first | refine zN ?_ _ | refine zD ?_ | refine zB ?_ _)); exact BK4C.out) hb); have n12_ := zA (blk_below (g := gH) (o := .cells #[.int .i64 t261, .int .i64 t262, .slice Ao106 t263.length co106] 24 (0, 0)) (by (with_reducible repeat (first | refine zN ?_ _ | refine zD ?_ | refine zB ?_ _)); exact BK4J.out) hb); have n13_ := zA (below_step (by repeat (first | (with_reducible first | exact HB.out | apply zW | apply zX | apply zY | refine zS ?_ GE3d.out | refine zS ?_ GE3e.out | refine zS ?_ GE3f.out | refine zS ?_ GE3m.out | refine zS ?_ GE3t.out | refine zS ?_ GE45.out | refine zS ?_ GE4C.out | refine zS ?_ GE4J.out) | exact HB.out)) hb); clear HO_235002; clear HO_242002; clear HO_254002; clear HO_261002; clear HO_268002; clear BK3d; clear BK3e; clear BK3f; clear BK3m; clear BK3t; clear BK45; clear BK4C; clear BK4J; clear HB; have HO_235002 := n0_; have HO_242002 := n1_; have HO_254002 := n2_; have HO_261002 := n3_; have HO_268002 := n4_; have BK3d := n5_; have BK3e := n6_; have BK3f := n7_; have BK3m := n8_; have BK3t := n9_; have BK45 := n10_; have BK4C := n11_; have BK4J := n12_; have HB := n13_; clear n0_ n1_ n2_ n3_ n4_ n5_ n6_ n7_ n8_ n9_ n10_ n11_ n12_ n13_; (try clear hb); (try clear hb2); (try clear hk); (try clear hi)))
        (try simp only [Act.put, List.setIfInBounds_toArray, List.set_cons_zero, List.set_cons_succ])
        go_cut [119] (fun v119 wc => ∃ (kq : Nat) (x119_129 : Bool), v119 = .bool x119_129 ∧ Aside0 (lawJoins.j2 kq a3 a4 t269 t271 x119_129 a0_0 a0_1 l0_2 a1_0 a1_1 l1_2 t228 t229 t230 = some r) ∧ Aside0 (kq ≤ kj60) ∧ Aside0 (Kd.R (Kd.int .i64) 3 wc w.heap.size (fun k_ => some k_ ≠ ((.slice Ao33 t237.length co33) : Value).ownBlock ∧ some k_ ≠ ((.slice Ao79 t249.length co79) : Value).ownBlock ∧ some k_ ≠ ((.slice Ao93 t256.length co93) : Value).ownBlock ∧ some k_ ≠ ((.slice Ao106 t263.length co106) : Value).ownBlock) (.slice Ao23 t230.length co23) t230) ∧ Aside0 (Kd.R (Kd.int .i64) 3 wc w.heap.size (fun k_ => some k_ ≠ ((.slice Ao23 t230.length co23) : Value).ownBlock ∧ some k_ ≠ ((.slice Ao79 t249.length co79) : Value).ownBlock ∧ some k_ ≠ ((.slice Ao93 t256.length co93) : Value).ownBlock ∧ some k_ ≠ ((.slice Ao106 t263.length co106) : Value).ownBlock) (.slice Ao33 t237.length co33) t237) ∧ Aside0 (Kd.R (Kd.int .i64) 3 wc w.heap.size (fun k_ => some k_ ≠ ((.slice Ao23 t230.length co23) : Value).ownBlock ∧ some k_ ≠ ((.slice Ao33 t237.length co33) : Value).ownBlock ∧ some k_ ≠ ((.slice Ao93 t256.length co93) : Value).ownBlock ∧ some k_ ≠ ((.slice Ao106 t263.length co106) : Value).ownBlock) (.slice Ao79 t249.length co79) t249) ∧ Aside0 (Kd.R (Kd.int .i64) 3 wc w.heap.size (fun k_ => some k_ ≠ ((.slice Ao23 t230.length co23) : Value).ownBlock ∧ some k_ ≠ ((.slice Ao33 t237.length co33) : Value).ownBlock ∧ some k_ ≠ ((.slice Ao79 t249.length co79) : Value).ownBlock ∧ some k_ ≠ ((.slice Ao106 t263.length co106) : Value).ownBlock) (.slice Ao93 t256.length co93) t256) ∧ Aside0 (Kd.R (Kd.int .i64) 3 wc w.heap.size (fun k_ => some k_ ≠ ((.slice Ao23 t230.length co23) : Value).ownBlock ∧ some k_ ≠ ((.slice Ao33 t237.length co33) : Value).ownBlock ∧ some k_ ≠ ((.slice Ao79 t249.length co79) : Value).ownBlock ∧ some k_ ≠ ((.slice Ao93 t256.length co93) : Value).ownBlock) (.slice Ao106 t263.length co106) t263) ∧ Aside0 (wc.heap[gA]? = some (.cells #[.int .i64 a0_0, .int .i64 a0_1, (.slice A0_2 l0_2.length c0_2)] 24 (0, 0))) ∧ Aside0 (wc.heap[gB]? = some (.cells #[.int .i64 a1_0, .int .i64 a1_1, (.slice A1_2 l1_2.length c1_2)] 24 (0, 0))) ∧ Aside0 (wc.heap[gC]? = some (.cells #[.int .i64 a2_0, .int .i64 a2_1, (.slice A2_2 l2_2.length c2_2)] 24 (0, 0))) ∧ Aside0 (wc.heap[gD]? = some (.cells #[.int .i64 t228, .int .i64 t229, (.slice Ao23 t230.length co23)] 24 (0, 0))) ∧ Aside0 (wc.heap[gE]? = some (.cells #[.int .i64 t235, .int .i64 t236, (.slice Ao33 t237.length co33)] 24 (0, 0))) ∧ Aside0 (wc.heap[gF]? = some (.cells #[.int .i64 t247, .int .i64 t248, (.slice Ao79 t249.length co79)] 24 (0, 0))) ∧ Aside0 (wc.heap[gG]? = some (.cells #[.int .i64 t254, .int .i64 t255, (.slice Ao93 t256.length co93)] 24 (0, 0))) ∧ Aside0 (wc.heap[gH]? = some (.cells #[.int .i64 t261, .int .i64 t262, (.slice Ao106 t263.length co106)] 24 (0, 0))) ∧ Aside0 (Below w.heap.size w wc))
        case first =>
         have H := HC26.out
         clear HC26
         by_cases c148 : t270 = true
         ·
          subst c148
          have H1 : (lawJoins.j2 kj60 a3 a4 t269 t271 (!t272) a0_0 a0_1 l0_2 a1_0 a1_1 l1_2 t228 t229 t230) = some r := by rw [if_pos rfl] at H; exact H
          clear H
          have H := H1
          clear H1
          have H' := zA H
          clear H
          go_wp2
          go_meet
          case rel => exact ⟨_, (!t272), (by first | rfl | (simp; done) | (simp [*]; done)), H', ⟨by have := HJ7.out; have := HJ60.out; first | omega | exact Nat.le_refl _⟩, ⟨by (with_reducible repeat (first | apply Kd.R_alloc | apply Kd.R_drewN | apply Kd.R_drew)); exact HO_235002.out⟩, ⟨by (with_reducible repeat (first | apply Kd.R_alloc | apply Kd.R_drewN | apply Kd.R_drew)); exact HO_242002.out⟩, ⟨by (with_reducible repeat (first | apply Kd.R_alloc | apply Kd.R_drewN | apply Kd.R_drew)); exact HO_254002.out⟩, ⟨by (with_reducible repeat (first | apply Kd.R_alloc | apply Kd.R_drewN | apply Kd.R_drew)); exact HO_261002.out⟩, ⟨by (with_reducible repeat (first | apply Kd.R_alloc | apply Kd.R_drewN | apply Kd.R_drew)); exact HO_268002.out⟩, ⟨by (with_reducible repeat (first | refine zN ?_ _ | refine zD ?_ | refine zB ?_ _)); exact BK3d.out⟩, ⟨by (with_reducible repeat (first | refine zN ?_ _ | refine zD ?_ | refine zB ?_ _)); exact BK3e.out⟩, ⟨by (with_reducible repeat (first | refine zN ?_ _ | refine zD ?_ | refine zB ?_ _)); exact BK3f.out⟩, ⟨by (with_reducible repeat (first | refine zN ?_ _ | refine zD ?_ | refine zB ?_ _)); exact BK3m.out⟩, ⟨by (with_reducible repeat (first | refine zN ?_ _ | refine zD ?_ | refine zB ?_ _)); exact BK3t.out⟩, ⟨by (with_reducible repeat (first | refine zN ?_ _ | refine zD ?_ | refine zB ?_ _)); exact BK45.out⟩, ⟨by (with_reducible repeat (first | refine zN ?_ _ | refine zD ?_ | refine zB ?_ _)); exact BK4C.out⟩, ⟨by (with_reducible repeat (first | refine zN ?_ _ | refine zD ?_ | refine zB ?_ _)); exact BK4J.out⟩, ⟨by repeat (first | (with_reducible first | exact HB.out | apply zW | apply zX | apply zY | refine zS ?_ GE3d.out | refine zS ?_ GE3e.out | refine zS ?_ GE3f.out | refine zS ?_ GE3m.out | refine zS ?_ GE3t.out | refine zS ?_ GE45.out | refine zS ?_ GE4C.out | refine zS ?_ GE4J.out) | exact HB.out)⟩⟩
         ·
          replace c148 := Bool.eq_false_iff.mpr c148
          subst c148
          have H1 : (lawJoins.j2 kj60 a3 a4 t269 t271 true a0_0 a0_1 l0_2 a1_0 a1_1 l1_2 t228 t229 t230) = some r := by rw [if_neg (show ¬ (false = true) by decide)] at H; exact H
          clear H
          have H := H1
          clear H1
          have H' := zA H
          clear H
          go_wp2
          go_meet
          case rel => exact ⟨_, (true), (by first | rfl | (simp; done) | (simp [*]; done)), H', ⟨by have := HJ7.out; have := HJ60.out; first | omega | exact Nat.le_refl _⟩, ⟨by (with_reducible repeat (first | apply Kd.R_alloc | apply Kd.R_drewN | apply Kd.R_drew)); exact HO_235002.out⟩, ⟨by (with_reducible repeat (first | apply Kd.R_alloc | apply Kd.R_drewN | apply Kd.R_drew)); exact HO_242002.out⟩, ⟨by (with_reducible repeat (first | apply Kd.R_alloc | apply Kd.R_drewN | apply Kd.R_drew)); exact HO_254002.out⟩, ⟨by (with_reducible repeat (first | apply Kd.R_alloc | apply Kd.R_drewN | apply Kd.R_drew)); exact HO_261002.out⟩, ⟨by (with_reducible repeat (first | apply Kd.R_alloc | apply Kd.R_drewN | apply Kd.R_drew)); exact HO_268002.out⟩, ⟨by (with_reducible repeat (first | refine zN ?_ _ | refine zD ?_ | refine zB ?_ _)); exact BK3d.out⟩, ⟨by (with_reducible repeat (first | refine zN ?_ _ | refine zD ?_ | refine zB ?_ _)); exact BK3e.out⟩, ⟨by (with_reducible repeat (first | refine zN ?_ _ | refine zD ?_ | refine zB ?_ _)); exact BK3f.out⟩, ⟨by (with_reducible repeat (first | refine zN ?_ _ | refine zD ?_ | refine zB ?_ _)); exact BK3m.out⟩, ⟨by (with_reducible repeat (first | refine zN ?_ _ | refine zD ?_ | refine zB ?_ _)); exact BK3t.out⟩, ⟨by (with_reducible repeat (first | refine zN ?_ _ | refine zD ?_ | refine zB ?_ _)); exact BK45.out⟩, ⟨by (with_reducible repeat (first | refine zN ?_ _ | refine zD ?_ | refine zB ?_ _)); exact BK4C.out⟩, ⟨by (with_reducible repeat (first | refine zN ?_ _ | refine zD ?_ | refine zB ?_ _)); exact BK4J.out⟩, ⟨by repeat (first | (with_reducible first | exact HB.out | apply zW | apply zX | apply zY | refine zS ?_ GE3d.out | refine zS ?_ GE3e.out | refine zS ?_ GE3f.out | refine zS ?_ GE3m.out | refine zS ?_ GE3t.out | refine zS ?_ GE45.out | refine zS ?_ GE4C.out | refine zS ?_ GE4J.out) | exact HB.out)⟩⟩
        case rest =>
         clear HC26
         try clear c1
         try clear c2
         try clear p2
         try clear c3
         try clear c4
         try clear c5
         try clear c6
         try clear c7
         try clear c8
         try clear c9
         try clear c10
         try clear c11
         try clear c12
         try clear c13
         try clear c14
         try clear c15
         try clear c18
         try clear c19
         try clear c20
         try clear c21
         try clear c28
         try clear c29
         try clear c30
         try clear c31
         try clear c35
         try clear c36
         try clear c37
         try clear c38
         try clear c39
         try clear c41
         try clear c42
         try clear c43
         try clear c46
         try clear c47
         try clear c48
         try clear c49
         try clear c51
         try clear c52
         try clear c53
         try clear c56
         try clear c57
         try clear c57b0
         try clear c57b1
         try clear c62
         try clear c63
         try clear c64
         try clear c65
         try clear c67
         try clear c68
         try clear c69
         try clear c73
         try clear c74
         try clear c75
         try clear c76
         try clear c77
         try clear c80
         try clear c81
         try clear c86
         try clear c87
         try clear c88
         try clear c89
         try clear c90
         try clear c91
         try clear c94
         try clear c98
         try clear c99
         try clear c100
         try clear c101
         try clear c102
         try clear c103
         try clear c104
         try clear c107
         try clear c107b0
         try clear c107b1
         try clear c108
         try clear c108b0
         try clear c108b1
         try clear c109
         try clear c109b0
         try clear c109b1
         try clear c111
         try clear c112
         try clear c113
         try clear c114
         try clear c115
         try clear c116
         try clear c117
         try clear c119
         try clear c120
         try clear c121
         try clear c122
         try clear c123
         try clear c124
         try clear c127
         try clear c131
         try clear c132
         try clear c133
         try clear c134
         try clear c135
         try clear c136
         try clear c137
         try clear c140
         try clear c141
         try clear c142
         try clear c143
         try clear c144
         try clear c145
         try clear c148
         try clear hcz105_0
         try clear hcz105_1
         try clear hcz105_2
         try clear hcz118_0
         try clear hcz118_1
         try clear hcz118_2
         try clear hcz125_0
         try clear hcz125_1
         try clear hcz125_2
         try clear hcz138_0
         try clear hcz138_1
         try clear hcz138_2
         try clear hcz146_0
         try clear hcz146_1
         try clear hcz146_2
         try clear hcz14_0
         try clear hcz14_1
         try clear hcz14_2
         try clear hcz16_0
         try clear hcz16_1
         try clear hcz16_2
         try clear hcz22_0
         try clear hcz22_1
         try clear hcz22_2
         try clear hcz24_0
         try clear hcz24_1
         try clear hcz24_2
         try clear hcz25_0
         try clear hcz25_1
         try clear hcz25_2
         try clear hcz32_0
         try clear hcz32_1
         try clear hcz32_2
         try clear hcz40_0
         try clear hcz40_1
         try clear hcz40_2
         try clear hcz44_0
         try clear hcz44_1
         try clear hcz44_2
         try clear hcz50_0
         try clear hcz50_1
         try clear hcz50_2
         try clear hcz54_0
         try clear hcz54_1
         try clear hcz54_2
         try clear hcz66_0
         try clear hcz66_1
         try clear hcz66_2
         try clear hcz70_0
         try clear hcz70_1
         try clear hcz70_2
         try clear hcz78_0
         try clear hcz78_1
         try clear hcz78_2
         try clear hcz82_0
         try clear hcz82_1
         try clear hcz82_2
         try clear hcz83_0
         try clear hcz83_1
         try clear hcz83_2
         try clear hcz92_0
         try clear hcz92_1
         try clear hcz92_2
         try clear hcz95_0
         try clear hcz95_1
         try clear hcz95_2
         try clear hfz105_0
         try clear hfz105_1
         try clear hfz105_2
         try clear hfz118_0
         try clear hfz118_1
         try clear hfz118_2
         try clear hfz125_0
         try clear hfz125_1
         try clear hfz125_2
         try clear hfz138_0
         try clear hfz138_1
         try clear hfz138_2
         try clear hfz146_0
         try clear hfz146_1
         try clear hfz146_2
         try clear hfz14_0
         try clear hfz14_1
         try clear hfz14_2
         try clear hfz16_0
         try clear hfz16_1
         try clear hfz16_2
         try clear hfz22_0
         try clear hfz22_1
         try clear hfz22_2
         try clear hfz24_0
         try clear hfz24_1
         try clear hfz24_2
         try clear hfz25_0
         try clear hfz25_1
         try clear hfz25_2
         try clear hfz32_0
         try clear hfz32_1
         try clear hfz32_2
         try clear hfz40_0
         try clear hfz40_1
         try clear hfz40_2
         try clear hfz44_0
         try clear hfz44_1
         try clear hfz44_2
         try clear hfz50_0
         try clear hfz50_1
         try clear hfz50_2
         try clear hfz54_0
         try clear hfz54_1
         try clear hfz54_2
         try clear hfz66_0
         try clear hfz66_1
         try clear hfz66_2
         try clear hfz70_0
         try clear hfz70_1
         try clear hfz70_2
         try clear hfz78_0
         try clear hfz78_1
         try clear hfz78_2
         try clear hfz82_0
         try clear hfz82_1
         try clear hfz82_2
         try clear hfz83_0
         try clear hfz83_1
         try clear hfz83_2
         try clear hfz92_0
         try clear hfz92_1
         try clear hfz92_2
         try clear hfz95_0
         try clear hfz95_1
         try clear hfz95_2
         try clear p2
         obtain ⟨kq, x119_129, rfl, HA, HJ129, HO_235002, HO_242002, HO_254002, HO_261002, HO_268002, BK3d, BK3e, BK3f, BK3m, BK3t, BK45, BK4C, BK4J, HB⟩ := hcut
         cases kq with
         | zero => exact absurd HA.out (by simp [lawJoins.j2])
         | succ kj129 =>
          have H := HA.out
          clear HA
          simp only [lawJoins.j2] at H
          by_cases c149 : x119_129 = true
          ·
           subst c149
           have H1 : ((kimberlitelaw03_alive.f).bind fun t273 => (some t273)) = some r := by rw [if_pos rfl] at H; exact H
           clear H
           have H := H1
           clear H1
           replace H := Option.bind_eq_some_iff.mp H
           obtain ⟨t273, A1500, H⟩ := H
           replace H : (some t273) = some r := H
           have A150 := zA A1500
           clear A1500
           obtain rfl := Option.some.inj H
           go_wp2_with (first | ((with_reducible refine gate_callee (f := 17) rfl ?_); refine goesL_ (some 120) rfl rfl Try.func17 (by kernel_rfl) rfl #[] rfl (by (try simp only [List.map_toArray, List.map_cons, List.map_nil]); first | done | rfl | (simp only [List.length_drop, List.length_take]; rfl)) ?_; (with_reducible refine (kimberlitelaw03_alive.calls  t273 _ A150.out).mono ?_); rintro e w151 ⟨rfl, hb⟩; refine ⟨_, rfl, ?_⟩; have n0_ := zA (Kd.R_below (by (with_reducible repeat (first | apply Kd.R_alloc | apply Kd.R_drewN | apply Kd.R_drew)); exact HO_235002.out) hb); have n1_ := zA (Kd.R_below (by (with_reducible repeat (first | apply Kd.R_alloc | apply Kd.R_drewN | apply Kd.R_drew)); exact HO_242002.out) hb); have n2_ := zA (Kd.R_below (by (with_reducible repeat (first | apply Kd.R_alloc | apply Kd.R_drewN | apply Kd.R_drew)); exact HO_254002.out) hb); have n3_ := zA (Kd.R_below (by (with_reducible repeat (first | apply Kd.R_alloc | apply Kd.R_drewN | apply Kd.R_drew)); exact HO_261002.out) hb); have n4_ := zA (Kd.R_below (by (with_reducible repeat (first | apply Kd.R_alloc | apply Kd.R_drewN | apply Kd.R_drew)); exact HO_268002.out) hb); have n5_ := zA (blk_below (g := gA) (o := .cells #[.int .i64 a0_0, .int .i64 a0_1, .slice A0_2 l0_2.length c0_2] 24 (0, 0)) (by (with_reducible repeat (first | refine zN ?_ _ | refine zD ?_ | refine zB ?_ _)); exact BK3d.out) hb); have n6_ := zA (blk_below (g := gB) (o := .cells #[.int .i64 a1_0, .int .i64 a1_1, .slice A1_2 l1_2.length c1_2] 24 (0, 0)) (by (with_reducible repeat (first | refine zN ?_ _ | refine zD ?_ | refine zB ?_ _)); exact BK3e.out) hb); have n7_ := zA (blk_below (g := gC) (o := .cells #[.int .i64 a2_0, .int .i64 a2_1, .slice A2_2 l2_2.length c2_2] 24 (0, 0)) (by (with_reducible repeat (first | refine zN ?_ _ | refine zD ?_ | refine zB ?_ _)); exact BK3f.out) hb); have n8_ := zA (blk_below (g := gD) (o := .cells #[.int .i64 t228, .int .i64 t229, .slice Ao23 t230.length co23] 24 (0, 0)) (by (with_reducible repeat (first | refine zN ?_ _ | refine zD ?_ | refine zB ?_ _)); exact BK3m.out) hb); have n9_ := zA (blk_below (g := gE) (o := .cells #[.int .i64 t235, .int .i64 t236, .slice Ao33 t237.length co33] 24 (0, 0)) (by (with_reducible repeat (first | refine zN ?_ _ | refine zD ?_ | refine zB ?_ _)); exact BK3t.out) hb); have n10_ := zA (blk_below (g := gF) (o := .cells #[.int .i64 t247, .int .i64 t248, .slice Ao79 t249.length co79] 24 (0, 0)) (by (with_reducible repeat (first | refine zN ?_ _ | refine zD ?_ | refine zB ?_ _)); exact BK45.out) hb); have n11_ := zA (blk_below (g := gG) (o := .cells #[.int .i64 t254, .int .i64 t255, .slice Ao93 t256.length co93] 24 (0, 0)) (by (with_reducible repeat (first | refine zN ?_ _ | refine zD ?_ | refine zB ?_ _)); exact BK4C.out) hb); have n12_ := zA (blk_below (g := gH) (o := .cells #[.int .i64 t261, .int .i64 t262, .slice Ao106 t263.length co106] 24 (0, 0)) (by (with_reducible repeat (first | refine zN ?_ _ | refine zD ?_ | refine zB ?_ _)); exact BK4J.out) hb); have n13_ := zA (below_step (by repeat (first | (with_reducible first | exact HB.out | apply zW | apply zX | apply zY | refine zS ?_ GE3d.out | refine zS ?_ GE3e.out | refine zS ?_ GE3f.out | refine zS ?_ GE3m.out | refine zS ?_ GE3t.out | refine zS ?_ GE45.out | refine zS ?_ GE4C.out | refine zS ?_ GE4J.out) | exact HB.out)) hb); clear HO_235002; clear HO_242002; clear HO_254002; clear HO_261002; clear HO_268002; clear BK3d; clear BK3e; clear BK3f; clear BK3m; clear BK3t; clear BK45; clear BK4C; clear BK4J; clear HB; have HO_235002 := n0_; have HO_242002 := n1_; have HO_254002 := n2_; have HO_261002 := n3_; have HO_268002 := n4_; have BK3d := n5_; have BK3e := n6_; have BK3f := n7_; have BK3m := n8_; have BK3t := n9_; have BK45 := n10_; have BK4C := n11_; have BK4J := n12_; have HB := n13_; clear n0_ n1_ n2_ n3_ n4_ n5_ n6_ n7_ n8_ n9_ n10_ n11_ n12_ n13_; (try clear hb); (try clear hb2); (try clear hk); (try clear hi)))
           go_ret
           exact ⟨by first | rfl | (simp [errW_none, errW_some] <;> rfl) | (simp [*, errW_none, errW_some] <;> rfl), by repeat (first | (with_reducible first | exact HB.out | apply zW | apply zX | apply zY | refine zS ?_ GE3d.out | refine zS ?_ GE3e.out | refine zS ?_ GE3f.out | refine zS ?_ GE3m.out | refine zS ?_ GE3t.out | refine zS ?_ GE45.out | refine zS ?_ GE4C.out | refine zS ?_ GE4J.out) | exact HB.out)⟩
          ·
           replace c149 := Bool.eq_false_iff.mpr c149
           subst c149
           have H1 : ((kimberlitelaw03_at.f t228 t229 t230 (wrap64 (a3 + a4))).bind fun bt274 => (lawJoins.l0 kj129 a3 a4 t269 t271 bt274.1 bt274.2 false 0 a0_0 a0_1 l0_2 a1_0 a1_1 l1_2 t228 t229 t230)) = some r := by rw [if_neg (show ¬ (false = true) by decide)] at H; exact H
           clear H
           have H := H1
           clear H1
           replace H := Option.bind_eq_some_iff.mp H
           obtain ⟨⟨t274, t275⟩, A1520, H⟩ := H
           replace H : (lawJoins.l0 kj129 a3 a4 t269 t271 t274 t275 false 0 a0_0 a0_1 l0_2 a1_0 a1_1 l1_2 t228 t229 t230) = some r := H
           have A152 := zA A1520
           clear A1520
           have H' := zA H
           clear H
           have hnb153 := NB234_225.out
           have hnc153 := NB225_234.out
           have hnb154 := NB234_226.out
           have hnc154 := NB226_234.out
           have hnb155 := NB234_227.out
           have hnc155 := NB227_234.out
           have hnb156 := NB234_241.out
           have hnc156 := NB241_234.out
           have hnb157 := NB234_253.out
           have hnc157 := NB253_234.out
           have hnb158 := NB234_260.out
           have hnc158 := NB260_234.out
           have hnb159 := NB234_267.out
           have hnc159 := NB267_234.out
           have hcz160_0 : wc.cell? ⟨gD, 0, none⟩ = some (.int .i64 t228) := (blk_cell BK3m.out 0).trans rfl
           have hcz160_1 : wc.cell? ⟨gD, 1, none⟩ = some (.int .i64 t229) := (blk_cell BK3m.out 1).trans rfl
           have hcz160_2 : wc.cell? ⟨gD, 2, none⟩ = some (.slice Ao23 t230.length co23) := (blk_cell BK3m.out 2).trans rfl
           have hfz160_0 := blk_frozen BK3m.out 0
           have hfz160_1 := blk_frozen BK3m.out 1
           have hfz160_2 := blk_frozen BK3m.out 2
           go_wp2_with (first | ((with_reducible refine gate_callee (f := 18) rfl ?_); refine goesL_ (some 126) rfl rfl Try.func18 (by kernel_rfl) rfl #[.agg #[.int .i64 t228, .int .i64 t229, .slice Ao23 t230.length co23], .int .i64 (wrap64 (a3 + a4))] rfl (by (try simp only [List.map_toArray, List.map_cons, List.map_nil]); first | done | rfl | (simp only [List.length_drop, List.length_take]; rfl)) ?_; (with_reducible refine (kimberlitelaw03_at.calls t228 t229 _ _ t230 (wrap64 (a3 + a4)) t274 t275 _ ?side1 ?side2 A152.out).mono ?_); (case side1 => repeat (first | exact (Kd.R_reads' HO_235002.out).2.2 | (with_reducible refine Kd.C_alloc ?_ _) | (with_reducible refine Kd.C_drewN ?_ _) | (with_reducible refine Kd.C_drew ?_))); (case side2 => exact (Kd.R_reads' HO_235002.out).2.1); rintro e w161 ⟨rfl, hb⟩; refine ⟨_, rfl, ?_⟩; have n0_ := zA (Kd.R_below (by (with_reducible repeat (first | apply Kd.R_alloc | apply Kd.R_drewN | apply Kd.R_drew)); exact HO_235002.out) hb); have n1_ := zA (Kd.R_below (by (with_reducible repeat (first | apply Kd.R_alloc | apply Kd.R_drewN | apply Kd.R_drew)); exact HO_242002.out) hb); have n2_ := zA (Kd.R_below (by (with_reducible repeat (first | apply Kd.R_alloc | apply Kd.R_drewN | apply Kd.R_drew)); exact HO_254002.out) hb); have n3_ := zA (Kd.R_below (by (with_reducible repeat (first | apply Kd.R_alloc | apply Kd.R_drewN | apply Kd.R_drew)); exact HO_261002.out) hb); have n4_ := zA (Kd.R_below (by (with_reducible repeat (first | apply Kd.R_alloc | apply Kd.R_drewN | apply Kd.R_drew)); exact HO_268002.out) hb); have n5_ := zA (blk_below (g := gA) (o := .cells #[.int .i64 a0_0, .int .i64 a0_1, .slice A0_2 l0_2.length c0_2] 24 (0, 0)) (by (with_reducible repeat (first | refine zN ?_ _ | refine zD ?_ | refine zB ?_ _)); exact BK3d.out) hb); have n6_ := zA (blk_below (g := gB) (o := .cells #[.int .i64 a1_0, .int .i64 a1_1, .slice A1_2 l1_2.length c1_2] 24 (0, 0)) (by (with_reducible repeat (first | refine zN ?_ _ | refine zD ?_ | refine zB ?_ _)); exact BK3e.out) hb); have n7_ := zA (blk_below (g := gC) (o := .cells #[.int .i64 a2_0, .int .i64 a2_1, .slice A2_2 l2_2.length c2_2] 24 (0, 0)) (by (with_reducible repeat (first | refine zN ?_ _ | refine zD ?_ | refine zB ?_ _)); exact BK3f.out) hb); have n8_ := zA (blk_below (g := gD) (o := .cells #[.int .i64 t228, .int .i64 t229, .slice Ao23 t230.length co23] 24 (0, 0)) (by (with_reducible repeat (first | refine zN ?_ _ | refine zD ?_ | refine zB ?_ _)); exact BK3m.out) hb); have n9_ := zA (blk_below (g := gE) (o := .cells #[.int .i64 t235, .int .i64 t236, .slice Ao33 t237.length co33] 24 (0, 0)) (by (with_reducible repeat (first | refine zN ?_ _ | refine zD ?_ | refine zB ?_ _)); exact BK3t.out) hb); have n10_ := zA (blk_below (g := gF) (o := .cells #[.int .i64 t247, .int .i64 t248, .slice Ao79 t249.length co79] 24 (0, 0)) (by (with_reducible repeat (first | refine zN ?_ _ | refine zD ?_ | refine zB ?_ _)); exact BK45.out) hb); have n11_ := zA (blk_below (g := gG) (o := .cells #[.int .i64 t254, .int .i64 t255, .slice Ao93 t256.length co93] 24 (0, 0)) (by (with_reducible repeat (first | refine zN ?_ _ | refine zD ?_ | refine zB ?_ _)); exact BK4C.out) hb); have n12_ := zA (blk_below (g := gH) (o := .cells #[.int .i64 t261, .int .i64 t262, .slice Ao106 t263.length co106] 24 (0, 0)) (by (with_reducible repeat (first | refine zN ?_ _ | refine zD ?_ | refine zB ?_ _)); exact BK4J.out) hb); have n13_ := zA (below_step (by repeat (first | (with_reducible first | exact HB.out | apply zW | apply zX | apply zY | refine zS ?_ GE3d.out | refine zS ?_ GE3e.out | refine zS ?_ GE3f.out | refine zS ?_ GE3m.out | refine zS ?_ GE3t.out | refine zS ?_ GE45.out | refine zS ?_ GE4C.out | refine zS ?_ GE4J.out) | exact HB.out)) hb); clear HO_235002; clear HO_242002; clear HO_254002; clear HO_261002; clear HO_268002; clear BK3d; clear BK3e; clear BK3f; clear BK3m; clear BK3t; clear BK45; clear BK4C; clear BK4J; clear HB; have HO_235002 := n0_; have HO_242002 := n1_; have HO_254002 := n2_; have HO_261002 := n3_; have HO_268002 := n4_; have BK3d := n5_; have BK3e := n6_; have BK3f := n7_; have BK3m := n8_; have BK3t := n9_; have BK45 := n10_; have BK4C := n11_; have BK4J := n12_; have HB := n13_; clear n0_ n1_ n2_ n3_ n4_ n5_ n6_ n7_ n8_ n9_ n10_ n11_ n12_ n13_; (try clear hb); (try clear hb2); (try clear hk); (try clear hi)))
           go_loopg [25, 26] kj129 (fun kq v25 v26 w' => ∃ (x25_4 : Bool) (x26_4 : Int), v25 = .bool x25_4 ∧ v26 = .int .i64 x26_4 ∧ Aside0 (lawJoins.l0 kq a3 a4 t269 t271 t274 t275 x25_4 x26_4 a0_0 a0_1 l0_2 a1_0 a1_1 l1_2 t228 t229 t230 = some r) ∧ Aside0 (kq ≤ kj129) ∧ Aside0 (Kd.R (Kd.int .i64) 3 w' w.heap.size (fun k_ => some k_ ≠ ((.slice Ao33 t237.length co33) : Value).ownBlock ∧ some k_ ≠ ((.slice Ao79 t249.length co79) : Value).ownBlock ∧ some k_ ≠ ((.slice Ao93 t256.length co93) : Value).ownBlock ∧ some k_ ≠ ((.slice Ao106 t263.length co106) : Value).ownBlock) (.slice Ao23 t230.length co23) t230) ∧ Aside0 (Kd.R (Kd.int .i64) 3 w' w.heap.size (fun k_ => some k_ ≠ ((.slice Ao23 t230.length co23) : Value).ownBlock ∧ some k_ ≠ ((.slice Ao79 t249.length co79) : Value).ownBlock ∧ some k_ ≠ ((.slice Ao93 t256.length co93) : Value).ownBlock ∧ some k_ ≠ ((.slice Ao106 t263.length co106) : Value).ownBlock) (.slice Ao33 t237.length co33) t237) ∧ Aside0 (Kd.R (Kd.int .i64) 3 w' w.heap.size (fun k_ => some k_ ≠ ((.slice Ao23 t230.length co23) : Value).ownBlock ∧ some k_ ≠ ((.slice Ao33 t237.length co33) : Value).ownBlock ∧ some k_ ≠ ((.slice Ao93 t256.length co93) : Value).ownBlock ∧ some k_ ≠ ((.slice Ao106 t263.length co106) : Value).ownBlock) (.slice Ao79 t249.length co79) t249) ∧ Aside0 (Kd.R (Kd.int .i64) 3 w' w.heap.size (fun k_ => some k_ ≠ ((.slice Ao23 t230.length co23) : Value).ownBlock ∧ some k_ ≠ ((.slice Ao33 t237.length co33) : Value).ownBlock ∧ some k_ ≠ ((.slice Ao79 t249.length co79) : Value).ownBlock ∧ some k_ ≠ ((.slice Ao106 t263.length co106) : Value).ownBlock) (.slice Ao93 t256.length co93) t256) ∧ Aside0 (Kd.R (Kd.int .i64) 3 w' w.heap.size (fun k_ => some k_ ≠ ((.slice Ao23 t230.length co23) : Value).ownBlock ∧ some k_ ≠ ((.slice Ao33 t237.length co33) : Value).ownBlock ∧ some k_ ≠ ((.slice Ao79 t249.length co79) : Value).ownBlock ∧ some k_ ≠ ((.slice Ao93 t256.length co93) : Value).ownBlock) (.slice Ao106 t263.length co106) t263) ∧ Aside0 (w'.heap[gA]? = some (.cells #[.int .i64 a0_0, .int .i64 a0_1, (.slice A0_2 l0_2.length c0_2)] 24 (0, 0))) ∧ Aside0 (w'.heap[gB]? = some (.cells #[.int .i64 a1_0, .int .i64 a1_1, (.slice A1_2 l1_2.length c1_2)] 24 (0, 0))) ∧ Aside0 (w'.heap[gC]? = some (.cells #[.int .i64 a2_0, .int .i64 a2_1, (.slice A2_2 l2_2.length c2_2)] 24 (0, 0))) ∧ Aside0 (w'.heap[gD]? = some (.cells #[.int .i64 t228, .int .i64 t229, (.slice Ao23 t230.length co23)] 24 (0, 0))) ∧ Aside0 (w'.heap[gE]? = some (.cells #[.int .i64 t235, .int .i64 t236, (.slice Ao33 t237.length co33)] 24 (0, 0))) ∧ Aside0 (w'.heap[gF]? = some (.cells #[.int .i64 t247, .int .i64 t248, (.slice Ao79 t249.length co79)] 24 (0, 0))) ∧ Aside0 (w'.heap[gG]? = some (.cells #[.int .i64 t254, .int .i64 t255, (.slice Ao93 t256.length co93)] 24 (0, 0))) ∧ Aside0 (w'.heap[gH]? = some (.cells #[.int .i64 t261, .int .i64 t262, (.slice Ao106 t263.length co106)] 24 (0, 0))) ∧ Aside0 (Below w.heap.size w w'))
           case atStart => exact ⟨(false), (0), (by first | rfl | (simp; done) | (simp [*]; done)), (by first | rfl | (simp; done) | (simp [*]; done)), H', ⟨Nat.le_refl _⟩, ⟨by (with_reducible repeat (first | apply Kd.R_alloc | apply Kd.R_drewN | apply Kd.R_drew)); exact HO_235002.out⟩, ⟨by (with_reducible repeat (first | apply Kd.R_alloc | apply Kd.R_drewN | apply Kd.R_drew)); exact HO_242002.out⟩, ⟨by (with_reducible repeat (first | apply Kd.R_alloc | apply Kd.R_drewN | apply Kd.R_drew)); exact HO_254002.out⟩, ⟨by (with_reducible repeat (first | apply Kd.R_alloc | apply Kd.R_drewN | apply Kd.R_drew)); exact HO_261002.out⟩, ⟨by (with_reducible repeat (first | apply Kd.R_alloc | apply Kd.R_drewN | apply Kd.R_drew)); exact HO_268002.out⟩, ⟨by (with_reducible repeat (first | refine zN ?_ _ | refine zD ?_ | refine zB ?_ _)); exact BK3d.out⟩, ⟨by (with_reducible repeat (first | refine zN ?_ _ | refine zD ?_ | refine zB ?_ _)); exact BK3e.out⟩, ⟨by (with_reducible repeat (first | refine zN ?_ _ | refine zD ?_ | refine zB ?_ _)); exact BK3f.out⟩, ⟨by (with_reducible repeat (first | refine zN ?_ _ | refine zD ?_ | refine zB ?_ _)); exact BK3m.out⟩, ⟨by (with_reducible repeat (first | refine zN ?_ _ | refine zD ?_ | refine zB ?_ _)); exact BK3t.out⟩, ⟨by (with_reducible repeat (first | refine zN ?_ _ | refine zD ?_ | refine zB ?_ _)); exact BK45.out⟩, ⟨by (with_reducible repeat (first | refine zN ?_ _ | refine zD ?_ | refine zB ?_ _)); exact BK4C.out⟩, ⟨by (with_reducible repeat (first | refine zN ?_ _ | refine zD ?_ | refine zB ?_ _)); exact BK4J.out⟩, ⟨by repeat (first | (with_reducible first | exact HB.out | apply zW | apply zX | apply zY | refine zS ?_ GE3d.out | refine zS ?_ GE3e.out | refine zS ?_ GE3f.out | refine zS ?_ GE3m.out | refine zS ?_ GE3t.out | refine zS ?_ GE45.out | refine zS ?_ GE4C.out | refine zS ?_ GE4J.out) | exact HB.out)⟩⟩
           case round =>
            clear H'
            try clear c1
            try clear c2
            try clear p2
            try clear c3
            try clear c4
            try clear c5
            try clear c6
            try clear p6
            try clear c7
            try clear c8
            try clear c9
            try clear c10
            try clear c11
            try clear c12
            try clear c13
            try clear c14
            try clear c15
            try clear c17
            try clear c18
            try clear c19
            try clear c20
            try clear c21
            try clear c28
            try clear c29
            try clear c30
            try clear c31
            try clear c35
            try clear c36
            try clear c37
            try clear c38
            try clear c39
            try clear c41
            try clear c42
            try clear c43
            try clear c46
            try clear c47
            try clear c48
            try clear c49
            try clear c51
            try clear c52
            try clear c53
            try clear c56
            try clear c57
            try clear c57b0
            try clear c57b1
            try clear c62
            try clear c63
            try clear c64
            try clear p64
            try clear c65
            try clear c67
            try clear c68
            try clear c69
            try clear c73
            try clear c74
            try clear c75
            try clear c76
            try clear c77
            try clear c80
            try clear c81
            try clear c86
            try clear c87
            try clear c88
            try clear c89
            try clear c90
            try clear c91
            try clear c94
            try clear c98
            try clear c99
            try clear c100
            try clear c101
            try clear c102
            try clear c103
            try clear c104
            try clear c107
            try clear c107b0
            try clear c107b1
            try clear c108
            try clear c108b0
            try clear c108b1
            try clear c109
            try clear c109b0
            try clear c109b1
            try clear c111
            try clear c112
            try clear c113
            try clear c114
            try clear c115
            try clear c116
            try clear c117
            try clear c119
            try clear c120
            try clear c121
            try clear c122
            try clear c123
            try clear c124
            try clear c127
            try clear c131
            try clear c132
            try clear c133
            try clear c134
            try clear c135
            try clear c136
            try clear c137
            try clear c140
            try clear c141
            try clear c142
            try clear c143
            try clear c144
            try clear c145
            try clear c148
            try clear c149
            try clear c153
            try clear c154
            try clear c155
            try clear c156
            try clear c157
            try clear c158
            try clear c159
            try clear hcz105_0
            try clear hcz105_1
            try clear hcz105_2
            try clear hcz118_0
            try clear hcz118_1
            try clear hcz118_2
            try clear hcz125_0
            try clear hcz125_1
            try clear hcz125_2
            try clear hcz138_0
            try clear hcz138_1
            try clear hcz138_2
            try clear hcz146_0
            try clear hcz146_1
            try clear hcz146_2
            try clear hcz14_0
            try clear hcz14_1
            try clear hcz14_2
            try clear hcz160_0
            try clear hcz160_1
            try clear hcz160_2
            try clear hcz16_0
            try clear hcz16_1
            try clear hcz16_2
            try clear hcz22_0
            try clear hcz22_1
            try clear hcz22_2
            try clear hcz24_0
            try clear hcz24_1
            try clear hcz24_2
            try clear hcz25_0
            try clear hcz25_1
            try clear hcz25_2
            try clear hcz32_0
            try clear hcz32_1
            try clear hcz32_2
            try clear hcz40_0
            try clear hcz40_1
            try clear hcz40_2
            try clear hcz44_0
            try clear hcz44_1
            try clear hcz44_2
            try clear hcz50_0
            try clear hcz50_1
            try clear hcz50_2
            try clear hcz54_0
            try clear hcz54_1
            try clear hcz54_2
            try clear hcz66_0
            try clear hcz66_1
            try clear hcz66_2
            try clear hcz70_0
            try clear hcz70_1
            try clear hcz70_2
            try clear hcz78_0
            try clear hcz78_1
            try clear hcz78_2
            try clear hcz82_0
            try clear hcz82_1
            try clear hcz82_2
            try clear hcz83_0
            try clear hcz83_1
            try clear hcz83_2
            try clear hcz92_0
            try clear hcz92_1
            try clear hcz92_2
            try clear hcz95_0
            try clear hcz95_1
            try clear hcz95_2
            try clear hfz105_0
            try clear hfz105_1
            try clear hfz105_2
            try clear hfz118_0
            try clear hfz118_1
            try clear hfz118_2
            try clear hfz125_0
            try clear hfz125_1
            try clear hfz125_2
            try clear hfz138_0
            try clear hfz138_1
            try clear hfz138_2
            try clear hfz146_0
            try clear hfz146_1
            try clear hfz146_2
            try clear hfz14_0
            try clear hfz14_1
            try clear hfz14_2
            try clear hfz160_0
            try clear hfz160_1
            try clear hfz160_2
            try clear hfz16_0
            try clear hfz16_1
            try clear hfz16_2
            try clear hfz22_0
            try clear hfz22_1
            try clear hfz22_2
            try clear hfz24_0
            try clear hfz24_1
            try clear hfz24_2
            try clear hfz25_0
            try clear hfz25_1
            try clear hfz25_2
            try clear hfz32_0
            try clear hfz32_1
            try clear hfz32_2
            try clear hfz40_0
            try clear hfz40_1
            try clear hfz40_2
            try clear hfz44_0
            try clear hfz44_1
            try clear hfz44_2
            try clear hfz50_0
            try clear hfz50_1
            try clear hfz50_2
            try clear hfz54_0
            try clear hfz54_1
            try clear hfz54_2
            try clear hfz66_0
            try clear hfz66_1
            try clear hfz66_2
            try clear hfz70_0
            try clear hfz70_1
            try clear hfz70_2
            try clear hfz78_0
            try clear hfz78_1
            try clear hfz78_2
            try clear hfz82_0
            try clear hfz82_1
            try clear hfz82_2
            try clear hfz83_0
            try clear hfz83_1
            try clear hfz83_2
            try clear hfz92_0
            try clear hfz92_1
            try clear hfz92_2
            try clear hfz95_0
            try clear hfz95_1
            try clear hfz95_2
            try clear p2
            obtain ⟨x25_4, x26_4, rfl, rfl, HA, HK4, HO_235002, HO_242002, HO_254002, HO_261002, HO_268002, BK3d, BK3e, BK3f, BK3m, BK3t, BK45, BK4C, BK4J, HB⟩ := hrel
            cases gk with
            | zero => exact absurd HA.out (by simp [lawJoins.l0])
            | succ k4 =>
             have H := HA.out
             clear HA
             simp only [lawJoins.l0] at H
             by_cases c162 : x26_4 ≤ (l0_2.length : Int)
             ·
              rw [if_pos c162] at H
              have c162b0 : decide (x26_4 ≤ (l0_2.length : Int)) = true := decide_eq_true c162
              clear c162
              replace H := Option.bind_eq_some_iff.mp H
              obtain ⟨⟨t276, t277⟩, A1630, H⟩ := H
              replace H : ((kimberlitelaw03_at.f a1_0 a1_1 l1_2 (wrap64 ((wrap64 ((wrap64 (a3 + a4)) - a0_0)) - x26_4))).bind fun bt278 => (if t277 = true then (if bt278.2 = true then (lawJoins.j4 k4 a3 a4 t269 t271 t274 t275 x25_4 x26_4 t276 t277 bt278.1 bt278.2 (decide ((wrap64 (t276 + bt278.1)) < t274)) a0_0 a0_1 l0_2 a1_0 a1_1 l1_2 t228 t229 t230) else (lawJoins.j4 k4 a3 a4 t269 t271 t274 t275 x25_4 x26_4 t276 t277 bt278.1 bt278.2 false a0_0 a0_1 l0_2 a1_0 a1_1 l1_2 t228 t229 t230)) else (lawJoins.j4 k4 a3 a4 t269 t271 t274 t275 x25_4 x26_4 t276 t277 bt278.1 bt278.2 false a0_0 a0_1 l0_2 a1_0 a1_1 l1_2 t228 t229 t230))) = some r := H
              have A163 := zA A1630
              clear A1630
              replace H := Option.bind_eq_some_iff.mp H
              obtain ⟨⟨t278, t279⟩, A1640, H⟩ := H
              replace H : (if t277 = true then (if t279 = true then (lawJoins.j4 k4 a3 a4 t269 t271 t274 t275 x25_4 x26_4 t276 t277 t278 t279 (decide ((wrap64 (t276 + t278)) < t274)) a0_0 a0_1 l0_2 a1_0 a1_1 l1_2 t228 t229 t230) else (lawJoins.j4 k4 a3 a4 t269 t271 t274 t275 x25_4 x26_4 t276 t277 t278 t279 false a0_0 a0_1 l0_2 a1_0 a1_1 l1_2 t228 t229 t230)) else (lawJoins.j4 k4 a3 a4 t269 t271 t274 t275 x25_4 x26_4 t276 t277 t278 t279 false a0_0 a0_1 l0_2 a1_0 a1_1 l1_2 t228 t229 t230)) = some r := H
              have A164 := zA A1640
              clear A1640
              have HC2f := zA H
              clear H
              have hnb166 := NB225_226.out
              have hnc166 := NB226_225.out
              have hnb167 := NB225_227.out
              have hnc167 := NB227_225.out
              have hnb168 := NB225_234.out
              have hnc168 := NB234_225.out
              have hnb169 := NB225_241.out
              have hnc169 := NB241_225.out
              have hnb170 := NB225_253.out
              have hnc170 := NB253_225.out
              have hnb171 := NB225_260.out
              have hnc171 := NB260_225.out
              have hnb172 := NB225_267.out
              have hnc172 := NB267_225.out
              have hcz173_0 : wr.cell? ⟨gA, 0, none⟩ = some (.int .i64 a0_0) := (blk_cell BK3d.out 0).trans rfl
              have hcz173_1 : wr.cell? ⟨gA, 1, none⟩ = some (.int .i64 a0_1) := (blk_cell BK3d.out 1).trans rfl
              have hcz173_2 : wr.cell? ⟨gA, 2, none⟩ = some (.slice A0_2 l0_2.length c0_2) := (blk_cell BK3d.out 2).trans rfl
              have hfz173_0 := blk_frozen BK3d.out 0
              have hfz173_1 := blk_frozen BK3d.out 1
              have hfz173_2 := blk_frozen BK3d.out 2
              go_upto_region 23 with (first | ((with_reducible refine gate_callee (f := 18) rfl ?_); refine goesL_ (some 142) rfl rfl Try.func18 (by kernel_rfl) rfl #[.agg #[.int .i64 a0_0, .int .i64 a0_1, .slice A0_2 l0_2.length c0_2], .int .i64 (wrap64 (a0_0 + x26_4))] rfl (by (try simp only [List.map_toArray, List.map_cons, List.map_nil]); first | done | rfl | (simp only [List.length_drop, List.length_take]; rfl)) ?_; (with_reducible refine (kimberlitelaw03_at.calls a0_0 a0_1 _ _ l0_2 (wrap64 (a0_0 + x26_4)) t276 t277 _ ?side1 ?side2 A163.out).mono ?_); (case side1 => repeat (first | exact (Kd.C_below HR0_2.out HB.out) | (with_reducible refine Kd.C_alloc ?_ _) | (with_reducible refine Kd.C_drewN ?_ _) | (with_reducible refine Kd.C_drew ?_))); (case side2 => exact HC0_2.out); rintro e w174 ⟨rfl, hb⟩; refine ⟨_, rfl, ?_⟩; have n0_ := zA (Kd.R_below (by (with_reducible repeat (first | apply Kd.R_alloc | apply Kd.R_drewN | apply Kd.R_drew)); exact HO_235002.out) hb); have n1_ := zA (Kd.R_below (by (with_reducible repeat (first | apply Kd.R_alloc | apply Kd.R_drewN | apply Kd.R_drew)); exact HO_242002.out) hb); have n2_ := zA (Kd.R_below (by (with_reducible repeat (first | apply Kd.R_alloc | apply Kd.R_drewN | apply Kd.R_drew)); exact HO_254002.out) hb); have n3_ := zA (Kd.R_below (by (with_reducible repeat (first | apply Kd.R_alloc | apply Kd.R_drewN | apply Kd.R_drew)); exact HO_261002.out) hb); have n4_ := zA (Kd.R_below (by (with_reducible repeat (first | apply Kd.R_alloc | apply Kd.R_drewN | apply Kd.R_drew)); exact HO_268002.out) hb); have n5_ := zA (blk_below (g := gA) (o := .cells #[.int .i64 a0_0, .int .i64 a0_1, .slice A0_2 l0_2.length c0_2] 24 (0, 0)) (by (with_reducible repeat (first | refine zN ?_ _ | refine zD ?_ | refine zB ?_ _)); exact BK3d.out) hb); have n6_ := zA (blk_below (g := gB) (o := .cells #[.int .i64 a1_0, .int .i64 a1_1, .slice A1_2 l1_2.length c1_2] 24 (0, 0)) (by (with_reducible repeat (first | refine zN ?_ _ | refine zD ?_ | refine zB ?_ _)); exact BK3e.out) hb); have n7_ := zA (blk_below (g := gC) (o := .cells #[.int .i64 a2_0, .int .i64 a2_1, .slice A2_2 l2_2.length c2_2] 24 (0, 0)) (by (with_reducible repeat (first | refine zN ?_ _ | refine zD ?_ | refine zB ?_ _)); exact BK3f.out) hb); have n8_ := zA (blk_below (g := gD) (o := .cells #[.int .i64 t228, .int .i64 t229, .slice Ao23 t230.length co23] 24 (0, 0)) (by (with_reducible repeat (first | refine zN ?_ _ | refine zD ?_ | refine zB ?_ _)); exact BK3m.out) hb); have n9_ := zA (blk_below (g := gE) (o := .cells #[.int .i64 t235, .int .i64 t236, .slice Ao33 t237.length co33] 24 (0, 0)) (by (with_reducible repeat (first | refine zN ?_ _ | refine zD ?_ | refine zB ?_ _)); exact BK3t.out) hb); have n10_ := zA (blk_below (g := gF) (o := .cells #[.int .i64 t247, .int .i64 t248, .slice Ao79 t249.length co79] 24 (0, 0)) (by (with_reducible repeat (first | refine zN ?_ _ | refine zD ?_ | refine zB ?_ _)); exact BK45.out) hb); have n11_ := zA (blk_below (g := gG) (o := .cells #[.int .i64 t254, .int .i64 t255, .slice Ao93 t256.length co93] 24 (0, 0)) (by (with_reducible repeat (first | refine zN ?_ _ | refine zD ?_ | refine zB ?_ _)); exact BK4C.out) hb); have n12_ := zA (blk_below (g := gH) (o := .cells #[.int .i64 t261, .int .i64 t262, .slice Ao106 t263.length co106] 24 (0, 0)) (by (with_reducible repeat (first | refine zN ?_ _ | refine zD ?_ | refine zB ?_ _)); exact BK4J.out) hb); have n13_ := zA (below_step (by repeat (first | (with_reducible first | exact HB.out | apply zW | apply zX | apply zY | refine zS ?_ GE3d.out | refine zS ?_ GE3e.out | refine zS ?_ GE3f.out | refine zS ?_ GE3m.out | refine zS ?_ GE3t.out | refine zS ?_ GE45.out | refine zS ?_ GE4C.out | refine zS ?_ GE4J.out) | exact HB.out)) hb); clear HO_235002; clear HO_242002; clear HO_254002; clear HO_261002; clear HO_268002; clear BK3d; clear BK3e; clear BK3f; clear BK3m; clear BK3t; clear BK45; clear BK4C; clear BK4J; clear HB; have HO_235002 := n0_; have HO_242002 := n1_; have HO_254002 := n2_; have HO_261002 := n3_; have HO_268002 := n4_; have BK3d := n5_; have BK3e := n6_; have BK3f := n7_; have BK3m := n8_; have BK3t := n9_; have BK45 := n10_; have BK4C := n11_; have BK4J := n12_; have HB := n13_; clear n0_ n1_ n2_ n3_ n4_ n5_ n6_ n7_ n8_ n9_ n10_ n11_ n12_ n13_; (try clear hb); (try clear hb2); (try clear hk); (try clear hi); have hnb175 := NB226_227.out; have hnc175 := NB227_226.out; have hnb176 := NB226_234.out; have hnc176 := NB234_226.out; have hnb177 := NB226_241.out; have hnc177 := NB241_226.out; have hnb178 := NB226_253.out; have hnc178 := NB253_226.out; have hnb179 := NB226_260.out; have hnc179 := NB260_226.out; have hnb180 := NB226_267.out; have hnc180 := NB267_226.out; have hcz181_0 : w174.cell? ⟨gB, 0, none⟩ = some (.int .i64 a1_0) := (blk_cell BK3e.out 0).trans rfl; have hcz181_1 : w174.cell? ⟨gB, 1, none⟩ = some (.int .i64 a1_1) := (blk_cell BK3e.out 1).trans rfl; have hcz181_2 : w174.cell? ⟨gB, 2, none⟩ = some (.slice A1_2 l1_2.length c1_2) := (blk_cell BK3e.out 2).trans rfl; have hfz181_0 := blk_frozen BK3e.out 0; have hfz181_1 := blk_frozen BK3e.out 1; have hfz181_2 := blk_frozen BK3e.out 2; have hcz182_0 : w174.cell? ⟨gA, 0, none⟩ = some (.int .i64 a0_0) := (blk_cell BK3d.out 0).trans rfl; have hcz182_1 : w174.cell? ⟨gA, 1, none⟩ = some (.int .i64 a0_1) := (blk_cell BK3d.out 1).trans rfl; have hcz182_2 : w174.cell? ⟨gA, 2, none⟩ = some (.slice A0_2 l0_2.length c0_2) := (blk_cell BK3d.out 2).trans rfl; have hfz182_0 := blk_frozen BK3d.out 0; have hfz182_1 := blk_frozen BK3d.out 1; have hfz182_2 := blk_frozen BK3d.out 2) | ((with_reducible refine gate_callee (f := 18) rfl ?_); refine goesL_ (some 155) rfl rfl Try.func18 (by kernel_rfl) rfl #[.agg #[.int .i64 a1_0, .int .i64 a1_1, .slice A1_2 l1_2.length c1_2], .int .i64 (wrap64 ((wrap64 ((wrap64 (a3 + a4)) - a0_0)) - x26_4))] rfl (by (try simp only [List.map_toArray, List.map_cons, List.map_nil]); first | done | rfl | (simp only [List.length_drop, List.length_take]; rfl)) ?_; (with_reducible refine (kimberlitelaw03_at.calls a1_0 a1_1 _ _ l1_2 (wrap64 ((wrap64 ((wrap64 (a3 + a4)) - a0_0)) - x26_4)) t278 t279 _ ?side1 ?side2 A164.out).mono ?_); (case side1 => repeat (first | exact (Kd.C_below HR1_2.out HB.out) | (with_reducible refine Kd.C_alloc ?_ _) | (with_reducible refine Kd.C_drewN ?_ _) | (with_reducible refine Kd.C_drew ?_))); (case side2 => exact HC1_2.out); rintro e w183 ⟨rfl, hb⟩; refine ⟨_, rfl, ?_⟩; have n0_ := zA (Kd.R_below (by (with_reducible repeat (first | apply Kd.R_alloc | apply Kd.R_drewN | apply Kd.R_drew)); exact HO_235002.out) hb); have n1_ := zA (Kd.R_below (by (with_reducible repeat (first | apply Kd.R_alloc | apply Kd.R_drewN | apply Kd.R_drew)); exact HO_242002.out) hb); have n2_ := zA (Kd.R_below (by (with_reducible repeat (first | apply Kd.R_alloc | apply Kd.R_drewN | apply Kd.R_drew)); exact HO_254002.out) hb); have n3_ := zA (Kd.R_below (by (with_reducible repeat (first | apply Kd.R_alloc | apply Kd.R_drewN | apply Kd.R_drew)); exact HO_261002.out) hb); have n4_ := zA (Kd.R_below (by (with_reducible repeat (first | apply Kd.R_alloc | apply Kd.R_drewN | apply Kd.R_drew)); exact HO_268002.out) hb); have n5_ := zA (blk_below (g := gA) (o := .cells #[.int .i64 a0_0, .int .i64 a0_1, .slice A0_2 l0_2.length c0_2] 24 (0, 0)) (by (with_reducible repeat (first | refine zN ?_ _ | refine zD ?_ | refine zB ?_ _)); exact BK3d.out) hb); have n6_ := zA (blk_below (g := gB) (o := .cells #[.int .i64 a1_0, .int .i64 a1_1, .slice A1_2 l1_2.length c1_2] 24 (0, 0)) (by (with_reducible repeat (first | refine zN ?_ _ | refine zD ?_ | refine zB ?_ _)); exact BK3e.out) hb); have n7_ := zA (blk_below (g := gC) (o := .cells #[.int .i64 a2_0, .int .i64 a2_1, .slice A2_2 l2_2.length c2_2] 24 (0, 0)) (by (with_reducible repeat (first | refine zN ?_ _ | refine zD ?_ | refine zB ?_ _)); exact BK3f.out) hb); have n8_ := zA (blk_below (g := gD) (o := .cells #[.int .i64 t228, .int .i64 t229, .slice Ao23 t230.length co23] 24 (0, 0)) (by (with_reducible repeat (first | refine zN ?_ _ | refine zD ?_ | refine zB ?_ _)); exact BK3m.out) hb); have n9_ := zA (blk_below (g := gE) (o := .cells #[.int .i64 t235, .int .i64 t236, .slice Ao33 t237.length co33] 24 (0, 0)) (by (with_reducible repeat (first | refine zN ?_ _ | refine zD ?_ | refine zB ?_ _)); exact BK3t.out) hb); have n10_ := zA (blk_below (g := gF) (o := .cells #[.int .i64 t247, .int .i64 t248, .slice Ao79 t249.length co79] 24 (0, 0)) (by (with_reducible repeat (first | refine zN ?_ _ | refine zD ?_ | refine zB ?_ _)); exact BK45.out) hb); have n11_ := zA (blk_below (g := gG) (o := .cells #[.int .i64 t254, .int .i64 t255, .slice Ao93 t256.length co93] 24 (0, 0)) (by (with_reducible repeat (first | refine zN ?_ _ | refine zD ?_ | refine zB ?_ _)); exact BK4C.out) hb); have n12_ := zA (blk_below (g := gH) (o := .cells #[.int .i64 t261, .int .i64 t262, .slice Ao106 t263.length co106] 24 (0, 0)) (by (with_reducible repeat (first | refine zN ?_ _ | refine zD ?_ | refine zB ?_ _)); exact BK4J.out) hb); have n13_ := zA (below_step (by repeat (first | (with_reducible first | exact HB.out | apply zW | apply zX | apply zY | refine zS ?_ GE3d.out | refine zS ?_ GE3e.out | refine zS ?_ GE3f.out | refine zS ?_ GE3m.out | refine zS ?_ GE3t.out | refine zS ?_ GE45.out | refine zS ?_ GE4C.out | refine zS ?_ GE4J.out) | exact HB.out)) hb); clear HO_235002; clear HO_242002; clear HO_254002; clear HO_261002; clear HO_268002; clear BK3d; clear BK3e; clear BK3f; clear BK3m; clear BK3t; clear BK45; clear BK4C; clear BK4J; clear HB; have HO_235002 := n0_; have HO_242002 := n1_; have HO_254002 := n2_; have HO_261002 := n3_; have HO_268002 := n4_; have BK3d := n5_; have BK3e := n6_; have BK3f := n7_; have BK3m := n8_; have BK3t := n9_; have BK45 := n10_; have BK4C := n11_; have BK4J := n12_; have HB := n13_; clear n0_ n1_ n2_ n3_ n4_ n5_ n6_ n7_ n8_ n9_ n10_ n11_ n12_ n13_; (try clear hb); (try clear hb2); (try clear hk); (try clear hi)))
              (try simp only [Act.put, List.setIfInBounds_toArray, List.set_cons_zero, List.set_cons_succ])
              go_cut [168] (fun v168 wc => ∃ (kq : Nat) (x168_164 : Bool), v168 = .bool x168_164 ∧ Aside0 (lawJoins.j4 kq a3 a4 t269 t271 t274 t275 x25_4 x26_4 t276 t277 t278 t279 x168_164 a0_0 a0_1 l0_2 a1_0 a1_1 l1_2 t228 t229 t230 = some r) ∧ Aside0 (kq ≤ k4) ∧ Aside0 (Kd.R (Kd.int .i64) 3 wc w.heap.size (fun k_ => some k_ ≠ ((.slice Ao33 t237.length co33) : Value).ownBlock ∧ some k_ ≠ ((.slice Ao79 t249.length co79) : Value).ownBlock ∧ some k_ ≠ ((.slice Ao93 t256.length co93) : Value).ownBlock ∧ some k_ ≠ ((.slice Ao106 t263.length co106) : Value).ownBlock) (.slice Ao23 t230.length co23) t230) ∧ Aside0 (Kd.R (Kd.int .i64) 3 wc w.heap.size (fun k_ => some k_ ≠ ((.slice Ao23 t230.length co23) : Value).ownBlock ∧ some k_ ≠ ((.slice Ao79 t249.length co79) : Value).ownBlock ∧ some k_ ≠ ((.slice Ao93 t256.length co93) : Value).ownBlock ∧ some k_ ≠ ((.slice Ao106 t263.length co106) : Value).ownBlock) (.slice Ao33 t237.length co33) t237) ∧ Aside0 (Kd.R (Kd.int .i64) 3 wc w.heap.size (fun k_ => some k_ ≠ ((.slice Ao23 t230.length co23) : Value).ownBlock ∧ some k_ ≠ ((.slice Ao33 t237.length co33) : Value).ownBlock ∧ some k_ ≠ ((.slice Ao93 t256.length co93) : Value).ownBlock ∧ some k_ ≠ ((.slice Ao106 t263.length co106) : Value).ownBlock) (.slice Ao79 t249.length co79) t249) ∧ Aside0 (Kd.R (Kd.int .i64) 3 wc w.heap.size (fun k_ => some k_ ≠ ((.slice Ao23 t230.length co23) : Value).ownBlock ∧ some k_ ≠ ((.slice Ao33 t237.length co33) : Value).ownBlock ∧ some k_ ≠ ((.slice Ao79 t249.length co79) : Value).ownBlock ∧ some k_ ≠ ((.slice Ao106 t263.length co106) : Value).ownBlock) (.slice Ao93 t256.length co93) t256) ∧ Aside0 (Kd.R (Kd.int .i64) 3 wc w.heap.size (fun k_ => some k_ ≠ ((.slice Ao23 t230.length co23) : Value).ownBlock ∧ some k_ ≠ ((.slice Ao33 t237.length co33) : Value).ownBlock ∧ some k_ ≠ ((.slice Ao79 t249.length co79) : Value).ownBlock ∧ some k_ ≠ ((.slice Ao93 t256.length co93) : Value).ownBlock) (.slice Ao106 t263.length co106) t263) ∧ Aside0 (wc.heap[gA]? = some (.cells #[.int .i64 a0_0, .int .i64 a0_1, (.slice A0_2 l0_2.length c0_2)] 24 (0, 0))) ∧ Aside0 (wc.heap[gB]? = some (.cells #[.int .i64 a1_0, .int .i64 a1_1, (.slice A1_2 l1_2.length c1_2)] 24 (0, 0))) ∧ Aside0 (wc.heap[gC]? = some (.cells #[.int .i64 a2_0, .int .i64 a2_1, (.slice A2_2 l2_2.length c2_2)] 24 (0, 0))) ∧ Aside0 (wc.heap[gD]? = some (.cells #[.int .i64 t228, .int .i64 t229, (.slice Ao23 t230.length co23)] 24 (0, 0))) ∧ Aside0 (wc.heap[gE]? = some (.cells #[.int .i64 t235, .int .i64 t236, (.slice Ao33 t237.length co33)] 24 (0, 0))) ∧ Aside0 (wc.heap[gF]? = some (.cells #[.int .i64 t247, .int .i64 t248, (.slice Ao79 t249.length co79)] 24 (0, 0))) ∧ Aside0 (wc.heap[gG]? = some (.cells #[.int .i64 t254, .int .i64 t255, (.slice Ao93 t256.length co93)] 24 (0, 0))) ∧ Aside0 (wc.heap[gH]? = some (.cells #[.int .i64 t261, .int .i64 t262, (.slice Ao106 t263.length co106)] 24 (0, 0))) ∧ Aside0 (Below w.heap.size w wc))
              case first =>
               have H := HC2f.out
               clear HC2f
               by_cases c184 : t277 = true
               ·
                subst c184
                have H1 : (if t279 = true then (lawJoins.j4 k4 a3 a4 t269 t271 t274 t275 x25_4 x26_4 t276 true t278 t279 (decide ((wrap64 (t276 + t278)) < t274)) a0_0 a0_1 l0_2 a1_0 a1_1 l1_2 t228 t229 t230) else (lawJoins.j4 k4 a3 a4 t269 t271 t274 t275 x25_4 x26_4 t276 true t278 t279 false a0_0 a0_1 l0_2 a1_0 a1_1 l1_2 t228 t229 t230)) = some r := by rw [if_pos rfl] at H; exact H
                clear H
                have H := H1
                clear H1
                by_cases c185 : t279 = true
                ·
                 subst c185
                 have H1 : (lawJoins.j4 k4 a3 a4 t269 t271 t274 t275 x25_4 x26_4 t276 true t278 true (decide ((wrap64 (t276 + t278)) < t274)) a0_0 a0_1 l0_2 a1_0 a1_1 l1_2 t228 t229 t230) = some r := by rw [if_pos rfl] at H; exact H
                 clear H
                 have H := H1
                 clear H1
                 have H' := zA H
                 clear H
                 go_wp2
                 go_meet
                 case rel => exact ⟨_, (decide ((wrap64 (t276 + t278)) < t274)), (by first | rfl | (simp; done) | (simp [*]; done)), H', ⟨by have := HJ7.out; have := HJ60.out; have := HJ129.out; have := HK4.out; first | omega | exact Nat.le_refl _⟩, ⟨by (with_reducible repeat (first | apply Kd.R_alloc | apply Kd.R_drewN | apply Kd.R_drew)); exact HO_235002.out⟩, ⟨by (with_reducible repeat (first | apply Kd.R_alloc | apply Kd.R_drewN | apply Kd.R_drew)); exact HO_242002.out⟩, ⟨by (with_reducible repeat (first | apply Kd.R_alloc | apply Kd.R_drewN | apply Kd.R_drew)); exact HO_254002.out⟩, ⟨by (with_reducible repeat (first | apply Kd.R_alloc | apply Kd.R_drewN | apply Kd.R_drew)); exact HO_261002.out⟩, ⟨by (with_reducible repeat (first | apply Kd.R_alloc | apply Kd.R_drewN | apply Kd.R_drew)); exact HO_268002.out⟩, ⟨by (with_reducible repeat (first | refine zN ?_ _ | refine zD ?_ | refine zB ?_ _)); exact BK3d.out⟩, ⟨by (with_reducible repeat (first | refine zN ?_ _ | refine zD ?_ | refine zB ?_ _)); exact BK3e.out⟩, ⟨by (with_reducible repeat (first | refine zN ?_ _ | refine zD ?_ | refine zB ?_ _)); exact BK3f.out⟩, ⟨by (with_reducible repeat (first | refine zN ?_ _ | refine zD ?_ | refine zB ?_ _)); exact BK3m.out⟩, ⟨by (with_reducible repeat (first | refine zN ?_ _ | refine zD ?_ | refine zB ?_ _)); exact BK3t.out⟩, ⟨by (with_reducible repeat (first | refine zN ?_ _ | refine zD ?_ | refine zB ?_ _)); exact BK45.out⟩, ⟨by (with_reducible repeat (first | refine zN ?_ _ | refine zD ?_ | refine zB ?_ _)); exact BK4C.out⟩, ⟨by (with_reducible repeat (first | refine zN ?_ _ | refine zD ?_ | refine zB ?_ _)); exact BK4J.out⟩, ⟨by repeat (first | (with_reducible first | exact HB.out | apply zW | apply zX | apply zY | refine zS ?_ GE3d.out | refine zS ?_ GE3e.out | refine zS ?_ GE3f.out | refine zS ?_ GE3m.out | refine zS ?_ GE3t.out | refine zS ?_ GE45.out | refine zS ?_ GE4C.out | refine zS ?_ GE4J.out) | exact HB.out)⟩⟩
                ·
                 replace c185 := Bool.eq_false_iff.mpr c185
                 subst c185
                 have H1 : (lawJoins.j4 k4 a3 a4 t269 t271 t274 t275 x25_4 x26_4 t276 true t278 false false a0_0 a0_1 l0_2 a1_0 a1_1 l1_2 t228 t229 t230) = some r := by rw [if_neg (show ¬ (false = true) by decide)] at H; exact H
                 clear H
                 have H := H1
                 clear H1
                 have H' := zA H
                 clear H
                 go_wp2
                 go_meet
                 case rel => exact ⟨_, (false), (by first | rfl | (simp; done) | (simp [*]; done)), H', ⟨by have := HJ7.out; have := HJ60.out; have := HJ129.out; have := HK4.out; first | omega | exact Nat.le_refl _⟩, ⟨by (with_reducible repeat (first | apply Kd.R_alloc | apply Kd.R_drewN | apply Kd.R_drew)); exact HO_235002.out⟩, ⟨by (with_reducible repeat (first | apply Kd.R_alloc | apply Kd.R_drewN | apply Kd.R_drew)); exact HO_242002.out⟩, ⟨by (with_reducible repeat (first | apply Kd.R_alloc | apply Kd.R_drewN | apply Kd.R_drew)); exact HO_254002.out⟩, ⟨by (with_reducible repeat (first | apply Kd.R_alloc | apply Kd.R_drewN | apply Kd.R_drew)); exact HO_261002.out⟩, ⟨by (with_reducible repeat (first | apply Kd.R_alloc | apply Kd.R_drewN | apply Kd.R_drew)); exact HO_268002.out⟩, ⟨by (with_reducible repeat (first | refine zN ?_ _ | refine zD ?_ | refine zB ?_ _)); exact BK3d.out⟩, ⟨by (with_reducible repeat (first | refine zN ?_ _ | refine zD ?_ | refine zB ?_ _)); exact BK3e.out⟩, ⟨by (with_reducible repeat (first | refine zN ?_ _ | refine zD ?_ | refine zB ?_ _)); exact BK3f.out⟩, ⟨by (with_reducible repeat (first | refine zN ?_ _ | refine zD ?_ | refine zB ?_ _)); exact BK3m.out⟩, ⟨by (with_reducible repeat (first | refine zN ?_ _ | refine zD ?_ | refine zB ?_ _)); exact BK3t.out⟩, ⟨by (with_reducible repeat (first | refine zN ?_ _ | refine zD ?_ | refine zB ?_ _)); exact BK45.out⟩, ⟨by (with_reducible repeat (first | refine zN ?_ _ | refine zD ?_ | refine zB ?_ _)); exact BK4C.out⟩, ⟨by (with_reducible repeat (first | refine zN ?_ _ | refine zD ?_ | refine zB ?_ _)); exact BK4J.out⟩, ⟨by repeat (first | (with_reducible first | exact HB.out | apply zW | apply zX | apply zY | refine zS ?_ GE3d.out | refine zS ?_ GE3e.out | refine zS ?_ GE3f.out | refine zS ?_ GE3m.out | refine zS ?_ GE3t.out | refine zS ?_ GE45.out | refine zS ?_ GE4C.out | refine zS ?_ GE4J.out) | exact HB.out)⟩⟩
               ·
                replace c184 := Bool.eq_false_iff.mpr c184
                subst c184
                have H1 : (lawJoins.j4 k4 a3 a4 t269 t271 t274 t275 x25_4 x26_4 t276 false t278 t279 false a0_0 a0_1 l0_2 a1_0 a1_1 l1_2 t228 t229 t230) = some r := by rw [if_neg (show ¬ (false = true) by decide)] at H; exact H
                clear H
                have H := H1
                clear H1
                have H' := zA H
                clear H
                go_wp2
                go_meet
                case rel => exact ⟨_, (false), (by first | rfl | (simp; done) | (simp [*]; done)), H', ⟨by have := HJ7.out; have := HJ60.out; have := HJ129.out; have := HK4.out; first | omega | exact Nat.le_refl _⟩, ⟨by (with_reducible repeat (first | apply Kd.R_alloc | apply Kd.R_drewN | apply Kd.R_drew)); exact HO_235002.out⟩, ⟨by (with_reducible repeat (first | apply Kd.R_alloc | apply Kd.R_drewN | apply Kd.R_drew)); exact HO_242002.out⟩, ⟨by (with_reducible repeat (first | apply Kd.R_alloc | apply Kd.R_drewN | apply Kd.R_drew)); exact HO_254002.out⟩, ⟨by (with_reducible repeat (first | apply Kd.R_alloc | apply Kd.R_drewN | apply Kd.R_drew)); exact HO_261002.out⟩, ⟨by (with_reducible repeat (first | apply Kd.R_alloc | apply Kd.R_drewN | apply Kd.R_drew)); exact HO_268002.out⟩, ⟨by (with_reducible repeat (first | refine zN ?_ _ | refine zD ?_ | refine zB ?_ _)); exact BK3d.out⟩, ⟨by (with_reducible repeat (first | refine zN ?_ _ | refine zD ?_ | refine zB ?_ _)); exact BK3e.out⟩, ⟨by (with_reducible repeat (first | refine zN ?_ _ | refine zD ?_ | refine zB ?_ _)); exact BK3f.out⟩, ⟨by (with_reducible repeat (first | refine zN ?_ _ | refine zD ?_ | refine zB ?_ _)); exact BK3m.out⟩, ⟨by (with_reducible repeat (first | refine zN ?_ _ | refine zD ?_ | refine zB ?_ _)); exact BK3t.out⟩, ⟨by (with_reducible repeat (first | refine zN ?_ _ | refine zD ?_ | refine zB ?_ _)); exact BK45.out⟩, ⟨by (with_reducible repeat (first | refine zN ?_ _ | refine zD ?_ | refine zB ?_ _)); exact BK4C.out⟩, ⟨by (with_reducible repeat (first | refine zN ?_ _ | refine zD ?_ | refine zB ?_ _)); exact BK4J.out⟩, ⟨by repeat (first | (with_reducible first | exact HB.out | apply zW | apply zX | apply zY | refine zS ?_ GE3d.out | refine zS ?_ GE3e.out | refine zS ?_ GE3f.out | refine zS ?_ GE3m.out | refine zS ?_ GE3t.out | refine zS ?_ GE45.out | refine zS ?_ GE4C.out | refine zS ?_ GE4J.out) | exact HB.out)⟩⟩
              case rest =>
               clear HC2f
               try clear c1
               try clear c2
               try clear p2
               try clear c3
               try clear c4
               try clear c5
               try clear c6
               try clear p6
               try clear c7
               try clear c8
               try clear c9
               try clear c10
               try clear c11
               try clear c12
               try clear c13
               try clear c14
               try clear c15
               try clear c16
               try clear c17
               try clear c18
               try clear c19
               try clear c20
               try clear c21
               try clear c28
               try clear c29
               try clear c30
               try clear c31
               try clear c35
               try clear c36
               try clear c37
               try clear c38
               try clear c39
               try clear c41
               try clear c42
               try clear c43
               try clear c46
               try clear c47
               try clear c48
               try clear c49
               try clear c51
               try clear c52
               try clear c53
               try clear c56
               try clear c57
               try clear c57b0
               try clear c57b1
               try clear c62
               try clear c63
               try clear c64
               try clear p64
               try clear c65
               try clear c67
               try clear c68
               try clear c69
               try clear c73
               try clear c74
               try clear c75
               try clear c76
               try clear c77
               try clear c80
               try clear c81
               try clear c86
               try clear c87
               try clear c88
               try clear c89
               try clear c90
               try clear c91
               try clear c94
               try clear c98
               try clear c99
               try clear c100
               try clear c101
               try clear c102
               try clear c103
               try clear c104
               try clear c107
               try clear c107b0
               try clear c107b1
               try clear c108
               try clear c108b0
               try clear c108b1
               try clear c109
               try clear c109b0
               try clear c109b1
               try clear c111
               try clear c112
               try clear c113
               try clear c114
               try clear c115
               try clear c116
               try clear c117
               try clear c119
               try clear c120
               try clear c121
               try clear c122
               try clear c123
               try clear c124
               try clear c127
               try clear c131
               try clear c132
               try clear c133
               try clear c134
               try clear c135
               try clear c136
               try clear c137
               try clear c140
               try clear c141
               try clear c142
               try clear c143
               try clear c144
               try clear c145
               try clear c148
               try clear c149
               try clear c153
               try clear c154
               try clear c155
               try clear c156
               try clear c157
               try clear c158
               try clear c159
               try clear c162
               try clear c162b0
               try clear c166
               try clear c167
               try clear c168
               try clear c169
               try clear c170
               try clear c171
               try clear c172
               try clear c175
               try clear c176
               try clear c177
               try clear c178
               try clear c179
               try clear c180
               try clear c184
               try clear c185
               try clear hcz105_0
               try clear hcz105_1
               try clear hcz105_2
               try clear hcz118_0
               try clear hcz118_1
               try clear hcz118_2
               try clear hcz125_0
               try clear hcz125_1
               try clear hcz125_2
               try clear hcz138_0
               try clear hcz138_1
               try clear hcz138_2
               try clear hcz146_0
               try clear hcz146_1
               try clear hcz146_2
               try clear hcz14_0
               try clear hcz14_1
               try clear hcz14_2
               try clear hcz160_0
               try clear hcz160_1
               try clear hcz160_2
               try clear hcz16_0
               try clear hcz16_1
               try clear hcz16_2
               try clear hcz173_0
               try clear hcz173_1
               try clear hcz173_2
               try clear hcz181_0
               try clear hcz181_1
               try clear hcz181_2
               try clear hcz182_0
               try clear hcz182_1
               try clear hcz182_2
               try clear hcz22_0
               try clear hcz22_1
               try clear hcz22_2
               try clear hcz24_0
               try clear hcz24_1
               try clear hcz24_2
               try clear hcz25_0
               try clear hcz25_1
               try clear hcz25_2
               try clear hcz32_0
               try clear hcz32_1
               try clear hcz32_2
               try clear hcz40_0
               try clear hcz40_1
               try clear hcz40_2
               try clear hcz44_0
               try clear hcz44_1
               try clear hcz44_2
               try clear hcz50_0
               try clear hcz50_1
               try clear hcz50_2
               try clear hcz54_0
               try clear hcz54_1
               try clear hcz54_2
               try clear hcz66_0
               try clear hcz66_1
               try clear hcz66_2
               try clear hcz70_0
               try clear hcz70_1
               try clear hcz70_2
               try clear hcz78_0
               try clear hcz78_1
               try clear hcz78_2
               try clear hcz82_0
               try clear hcz82_1
               try clear hcz82_2
               try clear hcz83_0
               try clear hcz83_1
               try clear hcz83_2
               try clear hcz92_0
               try clear hcz92_1
               try clear hcz92_2
               try clear hcz95_0
               try clear hcz95_1
               try clear hcz95_2
               try clear hfz105_0
               try clear hfz105_1
               try clear hfz105_2
               try clear hfz118_0
               try clear hfz118_1
               try clear hfz118_2
               try clear hfz125_0
               try clear hfz125_1
               try clear hfz125_2
               try clear hfz138_0
               try clear hfz138_1
               try clear hfz138_2
               try clear hfz146_0
               try clear hfz146_1
               try clear hfz146_2
               try clear hfz14_0
               try clear hfz14_1
               try clear hfz14_2
               try clear hfz160_0
               try clear hfz160_1
               try clear hfz160_2
               try clear hfz16_0
               try clear hfz16_1
               try clear hfz16_2
               try clear hfz173_0
               try clear hfz173_1
               try clear hfz173_2
               try clear hfz181_0
               try clear hfz181_1
               try clear hfz181_2
               try clear hfz182_0
               try clear hfz182_1
               try clear hfz182_2
               try clear hfz22_0
               try clear hfz22_1
               try clear hfz22_2
               try clear hfz24_0
               try clear hfz24_1
               try clear hfz24_2
               try clear hfz25_0
               try clear hfz25_1
               try clear hfz25_2
               try clear hfz32_0
               try clear hfz32_1
               try clear hfz32_2
               try clear hfz40_0
               try clear hfz40_1
               try clear hfz40_2
               try clear hfz44_0
               try clear hfz44_1
               try clear hfz44_2
               try clear hfz50_0
               try clear hfz50_1
               try clear hfz50_2
               try clear hfz54_0
               try clear hfz54_1
               try clear hfz54_2
               try clear hfz66_0
               try clear hfz66_1
               try clear hfz66_2
               try clear hfz70_0
               try clear hfz70_1
               try clear hfz70_2
               try clear hfz78_0
               try clear hfz78_1
               try clear hfz78_2
               try clear hfz82_0
               try clear hfz82_1
               try clear hfz82_2
               try clear hfz83_0
               try clear hfz83_1
               try clear hfz83_2
               try clear hfz92_0
               try clear hfz92_1
               try clear hfz92_2
               try clear hfz95_0
               try clear hfz95_1
               try clear hfz95_2
               try clear p2
               try clear p6
               try clear p64
               obtain ⟨kq, x168_164, rfl, HA, HJ164, HO_235002, HO_242002, HO_254002, HO_261002, HO_268002, BK3d, BK3e, BK3f, BK3m, BK3t, BK45, BK4C, BK4J, HB⟩ := hcut
               cases kq with
               | zero => exact absurd HA.out (by simp [lawJoins.j4])
               | succ kj164 =>
                have H := HA.out
                clear HA
                simp only [lawJoins.j4] at H
                by_cases c186 : x168_164 = true
                ·
                 subst c186
                 have H1 : (none) = some r := by rw [if_pos rfl] at H; exact H
                 clear H
                 have H := H1
                 clear H1
                 exact absurd H (by simp)
                ·
                 replace c186 := Bool.eq_false_iff.mpr c186
                 subst c186
                 have H1 : (if x25_4 = true then (lawJoins.l0 kj164 a3 a4 t269 t271 t274 t275 true (wrap64 (x26_4 + 1)) a0_0 a0_1 l0_2 a1_0 a1_1 l1_2 t228 t229 t230) else (if t277 = true then (if t279 = true then (lawJoins.l0 kj164 a3 a4 t269 t271 t274 t275 ((wrap64 (t276 + t278)) == t274) (wrap64 (x26_4 + 1)) a0_0 a0_1 l0_2 a1_0 a1_1 l1_2 t228 t229 t230) else (lawJoins.l0 kj164 a3 a4 t269 t271 t274 t275 false (wrap64 (x26_4 + 1)) a0_0 a0_1 l0_2 a1_0 a1_1 l1_2 t228 t229 t230)) else (lawJoins.l0 kj164 a3 a4 t269 t271 t274 t275 false (wrap64 (x26_4 + 1)) a0_0 a0_1 l0_2 a1_0 a1_1 l1_2 t228 t229 t230))) = some r := by rw [if_neg (show ¬ (false = true) by decide)] at H; exact H
                 clear H
                 have H := H1
                 clear H1
                 by_cases c187 : x25_4 = true
                 ·
                  subst c187
                  have H1 : (lawJoins.l0 kj164 a3 a4 t269 t271 t274 t275 true (wrap64 (x26_4 + 1)) a0_0 a0_1 l0_2 a1_0 a1_1 l1_2 t228 t229 t230) = some r := by rw [if_pos rfl] at H; exact H
                  clear H
                  have H := H1
                  clear H1
                  have H' := zA H
                  clear H
                  go_wp2
                  go_roundg kj164
                  case measure => have := HJ7.out; have := HJ60.out; have := HJ129.out; have := HK4.out; have := HJ164.out; omega
                  case rel => exact ⟨(true), (wrap64 (x26_4 + 1)), (by first | rfl | (simp; done) | (simp [*]; done)), (by first | rfl | (simp; done) | (simp [*]; done)), H', ⟨by have := HJ7.out; have := HJ60.out; have := HJ129.out; have := HK4.out; have := HJ164.out; omega⟩, ⟨by (with_reducible repeat (first | apply Kd.R_alloc | apply Kd.R_drewN | apply Kd.R_drew)); exact HO_235002.out⟩, ⟨by (with_reducible repeat (first | apply Kd.R_alloc | apply Kd.R_drewN | apply Kd.R_drew)); exact HO_242002.out⟩, ⟨by (with_reducible repeat (first | apply Kd.R_alloc | apply Kd.R_drewN | apply Kd.R_drew)); exact HO_254002.out⟩, ⟨by (with_reducible repeat (first | apply Kd.R_alloc | apply Kd.R_drewN | apply Kd.R_drew)); exact HO_261002.out⟩, ⟨by (with_reducible repeat (first | apply Kd.R_alloc | apply Kd.R_drewN | apply Kd.R_drew)); exact HO_268002.out⟩, ⟨by (with_reducible repeat (first | refine zN ?_ _ | refine zD ?_ | refine zB ?_ _)); exact BK3d.out⟩, ⟨by (with_reducible repeat (first | refine zN ?_ _ | refine zD ?_ | refine zB ?_ _)); exact BK3e.out⟩, ⟨by (with_reducible repeat (first | refine zN ?_ _ | refine zD ?_ | refine zB ?_ _)); exact BK3f.out⟩, ⟨by (with_reducible repeat (first | refine zN ?_ _ | refine zD ?_ | refine zB ?_ _)); exact BK3m.out⟩, ⟨by (with_reducible repeat (first | refine zN ?_ _ | refine zD ?_ | refine zB ?_ _)); exact BK3t.out⟩, ⟨by (with_reducible repeat (first | refine zN ?_ _ | refine zD ?_ | refine zB ?_ _)); exact BK45.out⟩, ⟨by (with_reducible repeat (first | refine zN ?_ _ | refine zD ?_ | refine zB ?_ _)); exact BK4C.out⟩, ⟨by (with_reducible repeat (first | refine zN ?_ _ | refine zD ?_ | refine zB ?_ _)); exact BK4J.out⟩, ⟨by repeat (first | (with_reducible first | exact HB.out | apply zW | apply zX | apply zY | refine zS ?_ GE3d.out | refine zS ?_ GE3e.out | refine zS ?_ GE3f.out | refine zS ?_ GE3m.out | refine zS ?_ GE3t.out | refine zS ?_ GE45.out | refine zS ?_ GE4C.out | refine zS ?_ GE4J.out) | exact HB.out)⟩⟩
                 ·
                  replace c187 := Bool.eq_false_iff.mpr c187
                  subst c187
                  have H1 : (if t277 = true then (if t279 = true then (lawJoins.l0 kj164 a3 a4 t269 t271 t274 t275 ((wrap64 (t276 + t278)) == t274) (wrap64 (x26_4 + 1)) a0_0 a0_1 l0_2 a1_0 a1_1 l1_2 t228 t229 t230) else (lawJoins.l0 kj164 a3 a4 t269 t271 t274 t275 false (wrap64 (x26_4 + 1)) a0_0 a0_1 l0_2 a1_0 a1_1 l1_2 t228 t229 t230)) else (lawJoins.l0 kj164 a3 a4 t269 t271 t274 t275 false (wrap64 (x26_4 + 1)) a0_0 a0_1 l0_2 a1_0 a1_1 l1_2 t228 t229 t230)) = some r := by rw [if_neg (show ¬ (false = true) by decide)] at H; exact H
                  clear H
                  have H := H1
                  clear H1
                  by_cases c188 : t277 = true
                  ·
                   subst c188
                   have H1 : (if t279 = true then (lawJoins.l0 kj164 a3 a4 t269 t271 t274 t275 ((wrap64 (t276 + t278)) == t274) (wrap64 (x26_4 + 1)) a0_0 a0_1 l0_2 a1_0 a1_1 l1_2 t228 t229 t230) else (lawJoins.l0 kj164 a3 a4 t269 t271 t274 t275 false (wrap64 (x26_4 + 1)) a0_0 a0_1 l0_2 a1_0 a1_1 l1_2 t228 t229 t230)) = some r := by rw [if_pos rfl] at H; exact H
                   clear H
                   have H := H1
                   clear H1
                   by_cases c189 : t279 = true
                   ·
                    subst c189
                    have H1 : (lawJoins.l0 kj164 a3 a4 t269 t271 t274 t275 ((wrap64 (t276 + t278)) == t274) (wrap64 (x26_4 + 1)) a0_0 a0_1 l0_2 a1_0 a1_1 l1_2 t228 t229 t230) = some r := by rw [if_pos rfl] at H; exact H
                    clear H
                    have H := H1
                    clear H1
                    have H' := zA H
                    clear H
                    go_wp2
                    go_roundg kj164
                    case measure => have := HJ7.out; have := HJ60.out; have := HJ129.out; have := HK4.out; have := HJ164.out; omega
                    case rel => exact ⟨(((wrap64 (t276 + t278)) == t274)), (wrap64 (x26_4 + 1)), (by first | rfl | (simp; done) | (simp [*]; done)), (by first | rfl | (simp; done) | (simp [*]; done)), H', ⟨by have := HJ7.out; have := HJ60.out; have := HJ129.out; have := HK4.out; have := HJ164.out; omega⟩, ⟨by (with_reducible repeat (first | apply Kd.R_alloc | apply Kd.R_drewN | apply Kd.R_drew)); exact HO_235002.out⟩, ⟨by (with_reducible repeat (first | apply Kd.R_alloc | apply Kd.R_drewN | apply Kd.R_drew)); exact HO_242002.out⟩, ⟨by (with_reducible repeat (first | apply Kd.R_alloc | apply Kd.R_drewN | apply Kd.R_drew)); exact HO_254002.out⟩, ⟨by (with_reducible repeat (first | apply Kd.R_alloc | apply Kd.R_drewN | apply Kd.R_drew)); exact HO_261002.out⟩, ⟨by (with_reducible repeat (first | apply Kd.R_alloc | apply Kd.R_drewN | apply Kd.R_drew)); exact HO_268002.out⟩, ⟨by (with_reducible repeat (first | refine zN ?_ _ | refine zD ?_ | refine zB ?_ _)); exact BK3d.out⟩, ⟨by (with_reducible repeat (first | refine zN ?_ _ | refine zD ?_ | refine zB ?_ _)); exact BK3e.out⟩, ⟨by (with_reducible repeat (first | refine zN ?_ _ | refine zD ?_ | refine zB ?_ _)); exact BK3f.out⟩, ⟨by (with_reducible repeat (first | refine zN ?_ _ | refine zD ?_ | refine zB ?_ _)); exact BK3m.out⟩, ⟨by (with_reducible repeat (first | refine zN ?_ _ | refine zD ?_ | refine zB ?_ _)); exact BK3t.out⟩, ⟨by (with_reducible repeat (first | refine zN ?_ _ | refine zD ?_ | refine zB ?_ _)); exact BK45.out⟩, ⟨by (with_reducible repeat (first | refine zN ?_ _ | refine zD ?_ | refine zB ?_ _)); exact BK4C.out⟩, ⟨by (with_reducible repeat (first | refine zN ?_ _ | refine zD ?_ | refine zB ?_ _)); exact BK4J.out⟩, ⟨by repeat (first | (with_reducible first | exact HB.out | apply zW | apply zX | apply zY | refine zS ?_ GE3d.out | refine zS ?_ GE3e.out | refine zS ?_ GE3f.out | refine zS ?_ GE3m.out | refine zS ?_ GE3t.out | refine zS ?_ GE45.out | refine zS ?_ GE4C.out | refine zS ?_ GE4J.out) | exact HB.out)⟩⟩
                   ·
                    replace c189 := Bool.eq_false_iff.mpr c189
                    subst c189
                    have H1 : (lawJoins.l0 kj164 a3 a4 t269 t271 t274 t275 false (wrap64 (x26_4 + 1)) a0_0 a0_1 l0_2 a1_0 a1_1 l1_2 t228 t229 t230) = some r := by rw [if_neg (show ¬ (false = true) by decide)] at H; exact H
                    clear H
                    have H := H1
                    clear H1
                    have H' := zA H
                    clear H
                    go_wp2
                    go_roundg kj164
                    case measure => have := HJ7.out; have := HJ60.out; have := HJ129.out; have := HK4.out; have := HJ164.out; omega
                    case rel => exact ⟨(false), (wrap64 (x26_4 + 1)), (by first | rfl | (simp; done) | (simp [*]; done)), (by first | rfl | (simp; done) | (simp [*]; done)), H', ⟨by have := HJ7.out; have := HJ60.out; have := HJ129.out; have := HK4.out; have := HJ164.out; omega⟩, ⟨by (with_reducible repeat (first | apply Kd.R_alloc | apply Kd.R_drewN | apply Kd.R_drew)); exact HO_235002.out⟩, ⟨by (with_reducible repeat (first | apply Kd.R_alloc | apply Kd.R_drewN | apply Kd.R_drew)); exact HO_242002.out⟩, ⟨by (with_reducible repeat (first | apply Kd.R_alloc | apply Kd.R_drewN | apply Kd.R_drew)); exact HO_254002.out⟩, ⟨by (with_reducible repeat (first | apply Kd.R_alloc | apply Kd.R_drewN | apply Kd.R_drew)); exact HO_261002.out⟩, ⟨by (with_reducible repeat (first | apply Kd.R_alloc | apply Kd.R_drewN | apply Kd.R_drew)); exact HO_268002.out⟩, ⟨by (with_reducible repeat (first | refine zN ?_ _ | refine zD ?_ | refine zB ?_ _)); exact BK3d.out⟩, ⟨by (with_reducible repeat (first | refine zN ?_ _ | refine zD ?_ | refine zB ?_ _)); exact BK3e.out⟩, ⟨by (with_reducible repeat (first | refine zN ?_ _ | refine zD ?_ | refine zB ?_ _)); exact BK3f.out⟩, ⟨by (with_reducible repeat (first | refine zN ?_ _ | refine zD ?_ | refine zB ?_ _)); exact BK3m.out⟩, ⟨by (with_reducible repeat (first | refine zN ?_ _ | refine zD ?_ | refine zB ?_ _)); exact BK3t.out⟩, ⟨by (with_reducible repeat (first | refine zN ?_ _ | refine zD ?_ | refine zB ?_ _)); exact BK45.out⟩, ⟨by (with_reducible repeat (first | refine zN ?_ _ | refine zD ?_ | refine zB ?_ _)); exact BK4C.out⟩, ⟨by (with_reducible repeat (first | refine zN ?_ _ | refine zD ?_ | refine zB ?_ _)); exact BK4J.out⟩, ⟨by repeat (first | (with_reducible first | exact HB.out | apply zW | apply zX | apply zY | refine zS ?_ GE3d.out | refine zS ?_ GE3e.out | refine zS ?_ GE3f.out | refine zS ?_ GE3m.out | refine zS ?_ GE3t.out | refine zS ?_ GE45.out | refine zS ?_ GE4C.out | refine zS ?_ GE4J.out) | exact HB.out)⟩⟩
                  ·
                   replace c188 := Bool.eq_false_iff.mpr c188
                   subst c188
                   have H1 : (lawJoins.l0 kj164 a3 a4 t269 t271 t274 t275 false (wrap64 (x26_4 + 1)) a0_0 a0_1 l0_2 a1_0 a1_1 l1_2 t228 t229 t230) = some r := by rw [if_neg (show ¬ (false = true) by decide)] at H; exact H
                   clear H
                   have H := H1
                   clear H1
                   have H' := zA H
                   clear H
                   go_wp2
                   go_roundg kj164
                   case measure => have := HJ7.out; have := HJ60.out; have := HJ129.out; have := HK4.out; have := HJ164.out; omega
                   case rel => exact ⟨(false), (wrap64 (x26_4 + 1)), (by first | rfl | (simp; done) | (simp [*]; done)), (by first | rfl | (simp; done) | (simp [*]; done)), H', ⟨by have := HJ7.out; have := HJ60.out; have := HJ129.out; have := HK4.out; have := HJ164.out; omega⟩, ⟨by (with_reducible repeat (first | apply Kd.R_alloc | apply Kd.R_drewN | apply Kd.R_drew)); exact HO_235002.out⟩, ⟨by (with_reducible repeat (first | apply Kd.R_alloc | apply Kd.R_drewN | apply Kd.R_drew)); exact HO_242002.out⟩, ⟨by (with_reducible repeat (first | apply Kd.R_alloc | apply Kd.R_drewN | apply Kd.R_drew)); exact HO_254002.out⟩, ⟨by (with_reducible repeat (first | apply Kd.R_alloc | apply Kd.R_drewN | apply Kd.R_drew)); exact HO_261002.out⟩, ⟨by (with_reducible repeat (first | apply Kd.R_alloc | apply Kd.R_drewN | apply Kd.R_drew)); exact HO_268002.out⟩, ⟨by (with_reducible repeat (first | refine zN ?_ _ | refine zD ?_ | refine zB ?_ _)); exact BK3d.out⟩, ⟨by (with_reducible repeat (first | refine zN ?_ _ | refine zD ?_ | refine zB ?_ _)); exact BK3e.out⟩, ⟨by (with_reducible repeat (first | refine zN ?_ _ | refine zD ?_ | refine zB ?_ _)); exact BK3f.out⟩, ⟨by (with_reducible repeat (first | refine zN ?_ _ | refine zD ?_ | refine zB ?_ _)); exact BK3m.out⟩, ⟨by (with_reducible repeat (first | refine zN ?_ _ | refine zD ?_ | refine zB ?_ _)); exact BK3t.out⟩, ⟨by (with_reducible repeat (first | refine zN ?_ _ | refine zD ?_ | refine zB ?_ _)); exact BK45.out⟩, ⟨by (with_reducible repeat (first | refine zN ?_ _ | refine zD ?_ | refine zB ?_ _)); exact BK4C.out⟩, ⟨by (with_reducible repeat (first | refine zN ?_ _ | refine zD ?_ | refine zB ?_ _)); exact BK4J.out⟩, ⟨by repeat (first | (with_reducible first | exact HB.out | apply zW | apply zX | apply zY | refine zS ?_ GE3d.out | refine zS ?_ GE3e.out | refine zS ?_ GE3f.out | refine zS ?_ GE3m.out | refine zS ?_ GE3t.out | refine zS ?_ GE45.out | refine zS ?_ GE4C.out | refine zS ?_ GE4J.out) | exact HB.out)⟩⟩
             ·
              rw [if_neg c162] at H
              have c162b0 : decide (x26_4 ≤ (l0_2.length : Int)) = false := decide_eq_false c162
              clear c162
              replace H := Option.bind_eq_some_iff.mp H
              obtain ⟨t280, A1900, H⟩ := H
              replace H : (if t280 = true then (if t275 = true then (if t274 ≤ (wrap64 (t269 + t271)) then (if x25_4 = true then ((kimberlitelaw03_alive.f).bind fun t281 => (some t281)) else (none)) else (none)) else (none)) else (none)) = some r := H
              have A190 := zA A1900
              clear A1900
              by_cases c191 : t280 = true
              ·
               subst c191
               have H1 : (if t275 = true then (if t274 ≤ (wrap64 (t269 + t271)) then (if x25_4 = true then ((kimberlitelaw03_alive.f).bind fun t281 => (some t281)) else (none)) else (none)) else (none)) = some r := by rw [if_pos rfl] at H; exact H
               clear H
               have H := H1
               clear H1
               by_cases c192 : t275 = true
               ·
                subst c192
                have H1 : (if t274 ≤ (wrap64 (t269 + t271)) then (if x25_4 = true then ((kimberlitelaw03_alive.f).bind fun t281 => (some t281)) else (none)) else (none)) = some r := by rw [if_pos rfl] at H; exact H
                clear H
                have H := H1
                clear H1
                by_cases c193 : t274 ≤ (wrap64 (t269 + t271))
                ·
                 rw [if_pos c193] at H
                 have c193b0 : decide (t274 ≤ (wrap64 (t269 + t271))) = true := decide_eq_true c193
                 clear c193
                 by_cases c194 : x25_4 = true
                 ·
                  subst c194
                  have H1 : ((kimberlitelaw03_alive.f).bind fun t281 => (some t281)) = some r := by rw [if_pos rfl] at H; exact H
                  clear H
                  have H := H1
                  clear H1
                  replace H := Option.bind_eq_some_iff.mp H
                  obtain ⟨t281, A1950, H⟩ := H
                  replace H : (some t281) = some r := H
                  have A195 := zA A1950
                  clear A1950
                  obtain rfl := Option.some.inj H
                  have hnb196 := NB225_226.out
                  have hnc196 := NB226_225.out
                  have hnb197 := NB225_227.out
                  have hnc197 := NB227_225.out
                  have hnb198 := NB225_234.out
                  have hnc198 := NB234_225.out
                  have hnb199 := NB225_241.out
                  have hnc199 := NB241_225.out
                  have hnb200 := NB225_253.out
                  have hnc200 := NB253_225.out
                  have hnb201 := NB225_260.out
                  have hnc201 := NB260_225.out
                  have hnb202 := NB225_267.out
                  have hnc202 := NB267_225.out
                  have hcz203_0 : wr.cell? ⟨gA, 0, none⟩ = some (.int .i64 a0_0) := (blk_cell BK3d.out 0).trans rfl
                  have hcz203_1 : wr.cell? ⟨gA, 1, none⟩ = some (.int .i64 a0_1) := (blk_cell BK3d.out 1).trans rfl
                  have hcz203_2 : wr.cell? ⟨gA, 2, none⟩ = some (.slice A0_2 l0_2.length c0_2) := (blk_cell BK3d.out 2).trans rfl
                  have hfz203_0 := blk_frozen BK3d.out 0
                  have hfz203_1 := blk_frozen BK3d.out 1
                  have hfz203_2 := blk_frozen BK3d.out 2
                  have hnb204 := NB234_226.out
                  have hnc204 := NB226_234.out
                  have hnb205 := NB234_227.out
                  have hnc205 := NB227_234.out
                  have hnb206 := NB234_241.out
                  have hnc206 := NB241_234.out
                  have hnb207 := NB234_253.out
                  have hnc207 := NB253_234.out
                  have hnb208 := NB234_260.out
                  have hnc208 := NB260_234.out
                  have hnb209 := NB234_267.out
                  have hnc209 := NB267_234.out
                  have hcz210_0 : wr.cell? ⟨gD, 0, none⟩ = some (.int .i64 t228) := (blk_cell BK3m.out 0).trans rfl
                  have hcz210_1 : wr.cell? ⟨gD, 1, none⟩ = some (.int .i64 t229) := (blk_cell BK3m.out 1).trans rfl
                  have hcz210_2 : wr.cell? ⟨gD, 2, none⟩ = some (.slice Ao23 t230.length co23) := (blk_cell BK3m.out 2).trans rfl
                  have hfz210_0 := blk_frozen BK3m.out 0
                  have hfz210_1 := blk_frozen BK3m.out 1
                  have hfz210_2 := blk_frozen BK3m.out 2
                  go_wp2_with (first | ((with_reducible refine gate_callee (f := 16) rfl ?_); refine goesL_ (some 184) rfl rfl Try.func16 (by kernel_rfl) rfl #[.agg #[.int .i64 t228, .int .i64 t229, .slice Ao23 t230.length co23]] rfl (by (try simp only [List.map_toArray, List.map_cons, List.map_nil]); first | done | rfl | (simp only [List.length_drop, List.length_take]; rfl)) ?_; (with_reducible refine (curve_Valid.calls t228 t229 _ _ t230 true _ ?side1 ?side2 A190.out).mono ?_); (case side1 => repeat (first | exact (Kd.R_reads' HO_235002.out).2.2 | (with_reducible refine Kd.C_alloc ?_ _) | (with_reducible refine Kd.C_drewN ?_ _) | (with_reducible refine Kd.C_drew ?_))); (case side2 => exact (Kd.R_reads' HO_235002.out).2.1); rintro e w211 ⟨rfl, hb⟩; refine ⟨_, rfl, ?_⟩; have n0_ := zA (Kd.R_below (by (with_reducible repeat (first | apply Kd.R_alloc | apply Kd.R_drewN | apply Kd.R_drew)); exact HO_235002.out) hb); have n1_ := zA (Kd.R_below (by (with_reducible repeat (first | apply Kd.R_alloc | apply Kd.R_drewN | apply Kd.R_drew)); exact HO_242002.out) hb); have n2_ := zA (Kd.R_below (by (with_reducible repeat (first | apply Kd.R_alloc | apply Kd.R_drewN | apply Kd.R_drew)); exact HO_254002.out) hb); have n3_ := zA (Kd.R_below (by (with_reducible repeat (first | apply Kd.R_alloc | apply Kd.R_drewN | apply Kd.R_drew)); exact HO_261002.out) hb); have n4_ := zA (Kd.R_below (by (with_reducible repeat (first | apply Kd.R_alloc | apply Kd.R_drewN | apply Kd.R_drew)); exact HO_268002.out) hb); have n5_ := zA (blk_below (g := gA) (o := .cells #[.int .i64 a0_0, .int .i64 a0_1, .slice A0_2 l0_2.length c0_2] 24 (0, 0)) (by (with_reducible repeat (first | refine zN ?_ _ | refine zD ?_ | refine zB ?_ _)); exact BK3d.out) hb); have n6_ := zA (blk_below (g := gB) (o := .cells #[.int .i64 a1_0, .int .i64 a1_1, .slice A1_2 l1_2.length c1_2] 24 (0, 0)) (by (with_reducible repeat (first | refine zN ?_ _ | refine zD ?_ | refine zB ?_ _)); exact BK3e.out) hb); have n7_ := zA (blk_below (g := gC) (o := .cells #[.int .i64 a2_0, .int .i64 a2_1, .slice A2_2 l2_2.length c2_2] 24 (0, 0)) (by (with_reducible repeat (first | refine zN ?_ _ | refine zD ?_ | refine zB ?_ _)); exact BK3f.out) hb); have n8_ := zA (blk_below (g := gD) (o := .cells #[.int .i64 t228, .int .i64 t229, .slice Ao23 t230.length co23] 24 (0, 0)) (by (with_reducible repeat (first | refine zN ?_ _ | refine zD ?_ | refine zB ?_ _)); exact BK3m.out) hb); have n9_ := zA (blk_below (g := gE) (o := .cells #[.int .i64 t235, .int .i64 t236, .slice Ao33 t237.length co33] 24 (0, 0)) (by (with_reducible repeat (first | refine zN ?_ _ | refine zD ?_ | refine zB ?_ _)); exact BK3t.out) hb); have n10_ := zA (blk_below (g := gF) (o := .cells #[.int .i64 t247, .int .i64 t248, .slice Ao79 t249.length co79] 24 (0, 0)) (by (with_reducible repeat (first | refine zN ?_ _ | refine zD ?_ | refine zB ?_ _)); exact BK45.out) hb); have n11_ := zA (blk_below (g := gG) (o := .cells #[.int .i64 t254, .int .i64 t255, .slice Ao93 t256.length co93] 24 (0, 0)) (by (with_reducible repeat (first | refine zN ?_ _ | refine zD ?_ | refine zB ?_ _)); exact BK4C.out) hb); have n12_ := zA (blk_below (g := gH) (o := .cells #[.int .i64 t261, .int .i64 t262, .slice Ao106 t263.length co106] 24 (0, 0)) (by (with_reducible repeat (first | refine zN ?_ _ | refine zD ?_ | refine zB ?_ _)); exact BK4J.out) hb); have n13_ := zA (below_step (by repeat (first | (with_reducible first | exact HB.out | apply zW | apply zX | apply zY | refine zS ?_ GE3d.out | refine zS ?_ GE3e.out | refine zS ?_ GE3f.out | refine zS ?_ GE3m.out | refine zS ?_ GE3t.out | refine zS ?_ GE45.out | refine zS ?_ GE4C.out | refine zS ?_ GE4J.out) | exact HB.out)) hb); clear HO_235002; clear HO_242002; clear HO_254002; clear HO_261002; clear HO_268002; clear BK3d; clear BK3e; clear BK3f; clear BK3m; clear BK3t; clear BK45; clear BK4C; clear BK4J; clear HB; have HO_235002 := n0_; have HO_242002 := n1_; have HO_254002 := n2_; have HO_261002 := n3_; have HO_268002 := n4_; have BK3d := n5_; have BK3e := n6_; have BK3f := n7_; have BK3m := n8_; have BK3t := n9_; have BK45 := n10_; have BK4C := n11_; have BK4J := n12_; have HB := n13_; clear n0_ n1_ n2_ n3_ n4_ n5_ n6_ n7_ n8_ n9_ n10_ n11_ n12_ n13_; (try clear hb); (try clear hb2); (try clear hk); (try clear hi)) | (go_at_call 17; (with_reducible refine (kimberlitelaw03_alive.calls  t281 _ A195.out).mono ?_); rintro e w212 ⟨rfl, hb⟩; have n0_ := zA (Kd.R_below (by (with_reducible repeat (first | apply Kd.R_alloc | apply Kd.R_drewN | apply Kd.R_drew)); exact HO_235002.out) hb); have n1_ := zA (Kd.R_below (by (with_reducible repeat (first | apply Kd.R_alloc | apply Kd.R_drewN | apply Kd.R_drew)); exact HO_242002.out) hb); have n2_ := zA (Kd.R_below (by (with_reducible repeat (first | apply Kd.R_alloc | apply Kd.R_drewN | apply Kd.R_drew)); exact HO_254002.out) hb); have n3_ := zA (Kd.R_below (by (with_reducible repeat (first | apply Kd.R_alloc | apply Kd.R_drewN | apply Kd.R_drew)); exact HO_261002.out) hb); have n4_ := zA (Kd.R_below (by (with_reducible repeat (first | apply Kd.R_alloc | apply Kd.R_drewN | apply Kd.R_drew)); exact HO_268002.out) hb); have n5_ := zA (blk_below (g := gA) (o := .cells #[.int .i64 a0_0, .int .i64 a0_1, .slice A0_2 l0_2.length c0_2] 24 (0, 0)) (by (with_reducible repeat (first | refine zN ?_ _ | refine zD ?_ | refine zB ?_ _)); exact BK3d.out) hb); have n6_ := zA (blk_below (g := gB) (o := .cells #[.int .i64 a1_0, .int .i64 a1_1, .slice A1_2 l1_2.length c1_2] 24 (0, 0)) (by (with_reducible repeat (first | refine zN ?_ _ | refine zD ?_ | refine zB ?_ _)); exact BK3e.out) hb); have n7_ := zA (blk_below (g := gC) (o := .cells #[.int .i64 a2_0, .int .i64 a2_1, .slice A2_2 l2_2.length c2_2] 24 (0, 0)) (by (with_reducible repeat (first | refine zN ?_ _ | refine zD ?_ | refine zB ?_ _)); exact BK3f.out) hb); have n8_ := zA (blk_below (g := gD) (o := .cells #[.int .i64 t228, .int .i64 t229, .slice Ao23 t230.length co23] 24 (0, 0)) (by (with_reducible repeat (first | refine zN ?_ _ | refine zD ?_ | refine zB ?_ _)); exact BK3m.out) hb); have n9_ := zA (blk_below (g := gE) (o := .cells #[.int .i64 t235, .int .i64 t236, .slice Ao33 t237.length co33] 24 (0, 0)) (by (with_reducible repeat (first | refine zN ?_ _ | refine zD ?_ | refine zB ?_ _)); exact BK3t.out) hb); have n10_ := zA (blk_below (g := gF) (o := .cells #[.int .i64 t247, .int .i64 t248, .slice Ao79 t249.length co79] 24 (0, 0)) (by (with_reducible repeat (first | refine zN ?_ _ | refine zD ?_ | refine zB ?_ _)); exact BK45.out) hb); have n11_ := zA (blk_below (g := gG) (o := .cells #[.int .i64 t254, .int .i64 t255, .slice Ao93 t256.length co93] 24 (0, 0)) (by (with_reducible repeat (first | refine zN ?_ _ | refine zD ?_ | refine zB ?_ _)); exact BK4C.out) hb); have n12_ := zA (blk_below (g := gH) (o := .cells #[.int .i64 t261, .int .i64 t262, .slice Ao106 t263.length co106] 24 (0, 0)) (by (with_reducible repeat (first | refine zN ?_ _ | refine zD ?_ | refine zB ?_ _)); exact BK4J.out) hb); have n13_ := zA (below_step (by repeat (first | (with_reducible first | exact HB.out | apply zW | apply zX | apply zY | refine zS ?_ GE3d.out | refine zS ?_ GE3e.out | refine zS ?_ GE3f.out | refine zS ?_ GE3m.out | refine zS ?_ GE3t.out | refine zS ?_ GE45.out | refine zS ?_ GE4C.out | refine zS ?_ GE4J.out) | exact HB.out)) hb); clear HO_235002; clear HO_242002; clear HO_254002; clear HO_261002; clear HO_268002; clear BK3d; clear BK3e; clear BK3f; clear BK3m; clear BK3t; clear BK45; clear BK4C; clear BK4J; clear HB; have HO_235002 := n0_; have HO_242002 := n1_; have HO_254002 := n2_; have HO_261002 := n3_; have HO_268002 := n4_; have BK3d := n5_; have BK3e := n6_; have BK3f := n7_; have BK3m := n8_; have BK3t := n9_; have BK45 := n10_; have BK4C := n11_; have BK4J := n12_; have HB := n13_; clear n0_ n1_ n2_ n3_ n4_ n5_ n6_ n7_ n8_ n9_ n10_ n11_ n12_ n13_; (try clear hb); (try clear hb2); (try clear hk); (try clear hi)))
                  go_ret
                  exact ⟨by first | rfl | (simp [errW_none, errW_some] <;> rfl) | (simp [*, errW_none, errW_some] <;> rfl), by repeat (first | (with_reducible first | exact HB.out | apply zW | apply zX | apply zY | refine zS ?_ GE3d.out | refine zS ?_ GE3e.out | refine zS ?_ GE3f.out | refine zS ?_ GE3m.out | refine zS ?_ GE3t.out | refine zS ?_ GE45.out | refine zS ?_ GE4C.out | refine zS ?_ GE4J.out) | exact HB.out)⟩
                 ·
                  replace c194 := Bool.eq_false_iff.mpr c194
                  subst c194
                  have H1 : (none) = some r := by rw [if_neg (show ¬ (false = true) by decide)] at H; exact H
                  clear H
                  have H := H1
                  clear H1
                  exact absurd H (by simp)
                ·
                 rw [if_neg c193] at H
                 exact absurd H (by simp)
               ·
                replace c192 := Bool.eq_false_iff.mpr c192
                subst c192
                have H1 : (none) = some r := by rw [if_neg (show ¬ (false = true) by decide)] at H; exact H
                clear H
                have H := H1
                clear H1
                exact absurd H (by simp)
              ·
               replace c191 := Bool.eq_false_iff.mpr c191
               subst c191
               have H1 : (none) = some r := by rw [if_neg (show ¬ (false = true) by decide)] at H; exact H
               clear H
               have H := H1
               clear H1
               exact absurd H (by simp)
    ·
     rw [if_neg c57] at H
     have c57b0 : (t233 == 0) = false := beq_eq_false_iff_ne.mpr c57
     have c57b1 : (t233 != 0) = true := bne_iff_ne.mpr c57
     replace H := Option.bind_eq_some_iff.mp H
     obtain ⟨t243, A2130, H⟩ := H
     replace H : (if t243 = true then ((curve_Valid.f a1_0 a1_1 l1_2).bind fun t244 => (if ((t233 == 2) == (!t244)) = true then ((kimberlitelaw03_alive.f).bind fun t245 => (some t245)) else (none))) else (if ((t233 == 2) == true) = true then ((kimberlitelaw03_alive.f).bind fun t246 => (some t246)) else (none))) = some r := H
     have A213 := zA A2130
     clear A2130
     by_cases c214 : t243 = true
     ·
      subst c214
      have H1 : ((curve_Valid.f a1_0 a1_1 l1_2).bind fun t244 => (if ((t233 == 2) == (!t244)) = true then ((kimberlitelaw03_alive.f).bind fun t245 => (some t245)) else (none))) = some r := by rw [if_pos rfl] at H; exact H
      clear H
      have H := H1
      clear H1
      replace H := Option.bind_eq_some_iff.mp H
      obtain ⟨t244, A2150, H⟩ := H
      replace H : (if ((t233 == 2) == (!t244)) = true then ((kimberlitelaw03_alive.f).bind fun t245 => (some t245)) else (none)) = some r := H
      have A215 := zA A2150
      clear A2150
      by_cases c216 : ((t233 == 2) == (!t244)) = true
      ·
       rw [if_pos c216] at H
       have c216b0 : ((t233 == 2) == (!t244)) = true := c216
       (try (have c216b1 : decide ((t233 == 2) = (!t244)) = true := by simpa using c216))
       (try (have c216b2 : ((t233 == 2) == (!t244)) = true := by simpa using c216))
       clear c216
       replace H := Option.bind_eq_some_iff.mp H
       obtain ⟨t245, A2170, H⟩ := H
       replace H : (some t245) = some r := H
       have A217 := zA A2170
       clear A2170
       obtain rfl := Option.some.inj H
       have hnb218 := NB225_226.out
       have hnc218 := NB226_225.out
       have hnb219 := NB225_227.out
       have hnc219 := NB227_225.out
       have hnb220 := NB225_234.out
       have hnc220 := NB234_225.out
       have hnb221 := NB225_241.out
       have hnc221 := NB241_225.out
       have hcz222_0 : wc.cell? ⟨gA, 0, none⟩ = some (.int .i64 a0_0) := (blk_cell BK3d.out 0).trans rfl
       have hcz222_1 : wc.cell? ⟨gA, 1, none⟩ = some (.int .i64 a0_1) := (blk_cell BK3d.out 1).trans rfl
       have hcz222_2 : wc.cell? ⟨gA, 2, none⟩ = some (.slice A0_2 l0_2.length c0_2) := (blk_cell BK3d.out 2).trans rfl
       have hfz222_0 := blk_frozen BK3d.out 0
       have hfz222_1 := blk_frozen BK3d.out 1
       have hfz222_2 := blk_frozen BK3d.out 2
       go_wp2_with (first | ((with_reducible refine gate_callee (f := 16) rfl ?_); refine goesL_ (some 57) rfl rfl Try.func16 (by kernel_rfl) rfl #[.agg #[.int .i64 a0_0, .int .i64 a0_1, .slice A0_2 l0_2.length c0_2]] rfl (by (try simp only [List.map_toArray, List.map_cons, List.map_nil]); first | done | rfl | (simp only [List.length_drop, List.length_take]; rfl)) ?_; (with_reducible refine (curve_Valid.calls a0_0 a0_1 _ _ l0_2 true _ ?side1 ?side2 A213.out).mono ?_); (case side1 => repeat (first | exact (Kd.C_below HR0_2.out HB.out) | (with_reducible refine Kd.C_alloc ?_ _) | (with_reducible refine Kd.C_drewN ?_ _) | (with_reducible refine Kd.C_drew ?_))); (case side2 => exact HC0_2.out); rintro e w223 ⟨rfl, hb⟩; refine ⟨_, rfl, ?_⟩; have n0_ := zA (Kd.R_below (by (with_reducible repeat (first | apply Kd.R_alloc | apply Kd.R_drewN | apply Kd.R_drew)); exact HO_235002.out) hb); have n1_ := zA (Kd.R_below (by (with_reducible repeat (first | apply Kd.R_alloc | apply Kd.R_drewN | apply Kd.R_drew)); exact HO_242002.out) hb); have n2_ := zA (blk_below (g := gA) (o := .cells #[.int .i64 a0_0, .int .i64 a0_1, .slice A0_2 l0_2.length c0_2] 24 (0, 0)) (by (with_reducible repeat (first | refine zN ?_ _ | refine zD ?_ | refine zB ?_ _)); exact BK3d.out) hb); have n3_ := zA (blk_below (g := gB) (o := .cells #[.int .i64 a1_0, .int .i64 a1_1, .slice A1_2 l1_2.length c1_2] 24 (0, 0)) (by (with_reducible repeat (first | refine zN ?_ _ | refine zD ?_ | refine zB ?_ _)); exact BK3e.out) hb); have n4_ := zA (blk_below (g := gC) (o := .cells #[.int .i64 a2_0, .int .i64 a2_1, .slice A2_2 l2_2.length c2_2] 24 (0, 0)) (by (with_reducible repeat (first | refine zN ?_ _ | refine zD ?_ | refine zB ?_ _)); exact BK3f.out) hb); have n5_ := zA (blk_below (g := gD) (o := .cells #[.int .i64 t228, .int .i64 t229, .slice Ao23 t230.length co23] 24 (0, 0)) (by (with_reducible repeat (first | refine zN ?_ _ | refine zD ?_ | refine zB ?_ _)); exact BK3m.out) hb); have n6_ := zA (blk_below (g := gE) (o := .cells #[.int .i64 t235, .int .i64 t236, .slice Ao33 t237.length co33] 24 (0, 0)) (by (with_reducible repeat (first | refine zN ?_ _ | refine zD ?_ | refine zB ?_ _)); exact BK3t.out) hb); have n7_ := zA (below_step (by repeat (first | (with_reducible first | exact HB.out | apply zW | apply zX | apply zY | refine zS ?_ GE3d.out | refine zS ?_ GE3e.out | refine zS ?_ GE3f.out | refine zS ?_ GE3m.out | refine zS ?_ GE3t.out) | exact HB.out)) hb); clear HO_235002; clear HO_242002; clear BK3d; clear BK3e; clear BK3f; clear BK3m; clear BK3t; clear HB; have HO_235002 := n0_; have HO_242002 := n1_; have BK3d := n2_; have BK3e := n3_; have BK3f := n4_; have BK3m := n5_; have BK3t := n6_; have HB := n7_; clear n0_ n1_ n2_ n3_ n4_ n5_ n6_ n7_; (try clear hb); (try clear hb2); (try clear hk); (try clear hi); have hnb224 := NB226_227.out; have hnc224 := NB227_226.out; have hnb225 := NB226_234.out; have hnc225 := NB234_226.out; have hnb226 := NB226_241.out; have hnc226 := NB241_226.out; have hcz227_0 : w223.cell? ⟨gB, 0, none⟩ = some (.int .i64 a1_0) := (blk_cell BK3e.out 0).trans rfl; have hcz227_1 : w223.cell? ⟨gB, 1, none⟩ = some (.int .i64 a1_1) := (blk_cell BK3e.out 1).trans rfl; have hcz227_2 : w223.cell? ⟨gB, 2, none⟩ = some (.slice A1_2 l1_2.length c1_2) := (blk_cell BK3e.out 2).trans rfl; have hfz227_0 := blk_frozen BK3e.out 0; have hfz227_1 := blk_frozen BK3e.out 1; have hfz227_2 := blk_frozen BK3e.out 2) | (go_at_call 16; (with_reducible refine (curve_Valid.calls a1_0 a1_1 _ _ l1_2 t244 _ ?side1 ?side2 A215.out).mono ?_); (case side1 => repeat (first | exact (Kd.C_below HR1_2.out HB.out) | (with_reducible refine Kd.C_alloc ?_ _) | (with_reducible refine Kd.C_drewN ?_ _) | (with_reducible refine Kd.C_drew ?_))); (case side2 => exact HC1_2.out); rintro e w228 ⟨rfl, hb⟩; have n0_ := zA (Kd.R_below (by (with_reducible repeat (first | apply Kd.R_alloc | apply Kd.R_drewN | apply Kd.R_drew)); exact HO_235002.out) hb); have n1_ := zA (Kd.R_below (by (with_reducible repeat (first | apply Kd.R_alloc | apply Kd.R_drewN | apply Kd.R_drew)); exact HO_242002.out) hb); have n2_ := zA (blk_below (g := gA) (o := .cells #[.int .i64 a0_0, .int .i64 a0_1, .slice A0_2 l0_2.length c0_2] 24 (0, 0)) (by (with_reducible repeat (first | refine zN ?_ _ | refine zD ?_ | refine zB ?_ _)); exact BK3d.out) hb); have n3_ := zA (blk_below (g := gB) (o := .cells #[.int .i64 a1_0, .int .i64 a1_1, .slice A1_2 l1_2.length c1_2] 24 (0, 0)) (by (with_reducible repeat (first | refine zN ?_ _ | refine zD ?_ | refine zB ?_ _)); exact BK3e.out) hb); have n4_ := zA (blk_below (g := gC) (o := .cells #[.int .i64 a2_0, .int .i64 a2_1, .slice A2_2 l2_2.length c2_2] 24 (0, 0)) (by (with_reducible repeat (first | refine zN ?_ _ | refine zD ?_ | refine zB ?_ _)); exact BK3f.out) hb); have n5_ := zA (blk_below (g := gD) (o := .cells #[.int .i64 t228, .int .i64 t229, .slice Ao23 t230.length co23] 24 (0, 0)) (by (with_reducible repeat (first | refine zN ?_ _ | refine zD ?_ | refine zB ?_ _)); exact BK3m.out) hb); have n6_ := zA (blk_below (g := gE) (o := .cells #[.int .i64 t235, .int .i64 t236, .slice Ao33 t237.length co33] 24 (0, 0)) (by (with_reducible repeat (first | refine zN ?_ _ | refine zD ?_ | refine zB ?_ _)); exact BK3t.out) hb); have n7_ := zA (below_step (by repeat (first | (with_reducible first | exact HB.out | apply zW | apply zX | apply zY | refine zS ?_ GE3d.out | refine zS ?_ GE3e.out | refine zS ?_ GE3f.out | refine zS ?_ GE3m.out | refine zS ?_ GE3t.out) | exact HB.out)) hb); clear HO_235002; clear HO_242002; clear BK3d; clear BK3e; clear BK3f; clear BK3m; clear BK3t; clear HB; have HO_235002 := n0_; have HO_242002 := n1_; have BK3d := n2_; have BK3e := n3_; have BK3f := n4_; have BK3m := n5_; have BK3t := n6_; have HB := n7_; clear n0_ n1_ n2_ n3_ n4_ n5_ n6_ n7_; (try clear hb); (try clear hb2); (try clear hk); (try clear hi)) | (go_at_call 17; (with_reducible refine (kimberlitelaw03_alive.calls  t245 _ A217.out).mono ?_); rintro e w229 ⟨rfl, hb⟩; have n0_ := zA (Kd.R_below (by (with_reducible repeat (first | apply Kd.R_alloc | apply Kd.R_drewN | apply Kd.R_drew)); exact HO_235002.out) hb); have n1_ := zA (Kd.R_below (by (with_reducible repeat (first | apply Kd.R_alloc | apply Kd.R_drewN | apply Kd.R_drew)); exact HO_242002.out) hb); have n2_ := zA (blk_below (g := gA) (o := .cells #[.int .i64 a0_0, .int .i64 a0_1, .slice A0_2 l0_2.length c0_2] 24 (0, 0)) (by (with_reducible repeat (first | refine zN ?_ _ | refine zD ?_ | refine zB ?_ _)); exact BK3d.out) hb); have n3_ := zA (blk_below (g := gB) (o := .cells #[.int .i64 a1_0, .int .i64 a1_1, .slice A1_2 l1_2.length c1_2] 24 (0, 0)) (by (with_reducible repeat (first | refine zN ?_ _ | refine zD ?_ | refine zB ?_ _)); exact BK3e.out) hb); have n4_ := zA (blk_below (g := gC) (o := .cells #[.int .i64 a2_0, .int .i64 a2_1, .slice A2_2 l2_2.length c2_2] 24 (0, 0)) (by (with_reducible repeat (first | refine zN ?_ _ | refine zD ?_ | refine zB ?_ _)); exact BK3f.out) hb); have n5_ := zA (blk_below (g := gD) (o := .cells #[.int .i64 t228, .int .i64 t229, .slice Ao23 t230.length co23] 24 (0, 0)) (by (with_reducible repeat (first | refine zN ?_ _ | refine zD ?_ | refine zB ?_ _)); exact BK3m.out) hb); have n6_ := zA (blk_below (g := gE) (o := .cells #[.int .i64 t235, .int .i64 t236, .slice Ao33 t237.length co33] 24 (0, 0)) (by (with_reducible repeat (first | refine zN ?_ _ | refine zD ?_ | refine zB ?_ _)); exact BK3t.out) hb); have n7_ := zA (below_step (by repeat (first | (with_reducible first | exact HB.out | apply zW | apply zX | apply zY | refine zS ?_ GE3d.out | refine zS ?_ GE3e.out | refine zS ?_ GE3f.out | refine zS ?_ GE3m.out | refine zS ?_ GE3t.out) | exact HB.out)) hb); clear HO_235002; clear HO_242002; clear BK3d; clear BK3e; clear BK3f; clear BK3m; clear BK3t; clear HB; have HO_235002 := n0_; have HO_242002 := n1_; have BK3d := n2_; have BK3e := n3_; have BK3f := n4_; have BK3m := n5_; have BK3t := n6_; have HB := n7_; clear n0_ n1_ n2_ n3_ n4_ n5_ n6_ n7_; (try clear hb); (try clear hb2); (try clear hk); (try clear hi)))
       go_ret
       exact ⟨by first | rfl | (simp [errW_none, errW_some] <;> rfl) | (simp [*, errW_none, errW_some] <;> rfl), by repeat (first | (with_reducible first | exact HB.out | apply zW | apply zX | apply zY | refine zS ?_ GE3d.out | refine zS ?_ GE3e.out | refine zS ?_ GE3f.out | refine zS ?_ GE3m.out | refine zS ?_ GE3t.out) | exact HB.out)⟩
      ·
       rw [if_neg c216] at H
       exact absurd H (by simp)
     ·
      replace c214 := Bool.eq_false_iff.mpr c214
      subst c214
      have H1 : (if ((t233 == 2) == true) = true then ((kimberlitelaw03_alive.f).bind fun t246 => (some t246)) else (none)) = some r := by rw [if_neg (show ¬ (false = true) by decide)] at H; exact H
      clear H
      have H := H1
      clear H1
      by_cases c230 : ((t233 == 2) == true) = true
      ·
       rw [if_pos c230] at H
       have c230b0 : ((t233 == 2) == true) = true := c230
       (try (have c230b1 : decide ((t233 == 2) = true) = true := by simpa using c230))
       (try (have c230b2 : ((t233 == 2) == true) = true := by simpa using c230))
       clear c230
       replace H := Option.bind_eq_some_iff.mp H
       obtain ⟨t246, A2310, H⟩ := H
       replace H : (some t246) = some r := H
       have A231 := zA A2310
       clear A2310
       obtain rfl := Option.some.inj H
       have hnb232 := NB225_226.out
       have hnc232 := NB226_225.out
       have hnb233 := NB225_227.out
       have hnc233 := NB227_225.out
       have hnb234 := NB225_234.out
       have hnc234 := NB234_225.out
       have hnb235 := NB225_241.out
       have hnc235 := NB241_225.out
       have hcz236_0 : wc.cell? ⟨gA, 0, none⟩ = some (.int .i64 a0_0) := (blk_cell BK3d.out 0).trans rfl
       have hcz236_1 : wc.cell? ⟨gA, 1, none⟩ = some (.int .i64 a0_1) := (blk_cell BK3d.out 1).trans rfl
       have hcz236_2 : wc.cell? ⟨gA, 2, none⟩ = some (.slice A0_2 l0_2.length c0_2) := (blk_cell BK3d.out 2).trans rfl
       have hfz236_0 := blk_frozen BK3d.out 0
       have hfz236_1 := blk_frozen BK3d.out 1
       have hfz236_2 := blk_frozen BK3d.out 2
       go_wp2_with (first | ((with_reducible refine gate_callee (f := 16) rfl ?_); refine goesL_ (some 57) rfl rfl Try.func16 (by kernel_rfl) rfl #[.agg #[.int .i64 a0_0, .int .i64 a0_1, .slice A0_2 l0_2.length c0_2]] rfl (by (try simp only [List.map_toArray, List.map_cons, List.map_nil]); first | done | rfl | (simp only [List.length_drop, List.length_take]; rfl)) ?_; (with_reducible refine (curve_Valid.calls a0_0 a0_1 _ _ l0_2 false _ ?side1 ?side2 A213.out).mono ?_); (case side1 => repeat (first | exact (Kd.C_below HR0_2.out HB.out) | (with_reducible refine Kd.C_alloc ?_ _) | (with_reducible refine Kd.C_drewN ?_ _) | (with_reducible refine Kd.C_drew ?_))); (case side2 => exact HC0_2.out); rintro e w237 ⟨rfl, hb⟩; refine ⟨_, rfl, ?_⟩; have n0_ := zA (Kd.R_below (by (with_reducible repeat (first | apply Kd.R_alloc | apply Kd.R_drewN | apply Kd.R_drew)); exact HO_235002.out) hb); have n1_ := zA (Kd.R_below (by (with_reducible repeat (first | apply Kd.R_alloc | apply Kd.R_drewN | apply Kd.R_drew)); exact HO_242002.out) hb); have n2_ := zA (blk_below (g := gA) (o := .cells #[.int .i64 a0_0, .int .i64 a0_1, .slice A0_2 l0_2.length c0_2] 24 (0, 0)) (by (with_reducible repeat (first | refine zN ?_ _ | refine zD ?_ | refine zB ?_ _)); exact BK3d.out) hb); have n3_ := zA (blk_below (g := gB) (o := .cells #[.int .i64 a1_0, .int .i64 a1_1, .slice A1_2 l1_2.length c1_2] 24 (0, 0)) (by (with_reducible repeat (first | refine zN ?_ _ | refine zD ?_ | refine zB ?_ _)); exact BK3e.out) hb); have n4_ := zA (blk_below (g := gC) (o := .cells #[.int .i64 a2_0, .int .i64 a2_1, .slice A2_2 l2_2.length c2_2] 24 (0, 0)) (by (with_reducible repeat (first | refine zN ?_ _ | refine zD ?_ | refine zB ?_ _)); exact BK3f.out) hb); have n5_ := zA (blk_below (g := gD) (o := .cells #[.int .i64 t228, .int .i64 t229, .slice Ao23 t230.length co23] 24 (0, 0)) (by (with_reducible repeat (first | refine zN ?_ _ | refine zD ?_ | refine zB ?_ _)); exact BK3m.out) hb); have n6_ := zA (blk_below (g := gE) (o := .cells #[.int .i64 t235, .int .i64 t236, .slice Ao33 t237.length co33] 24 (0, 0)) (by (with_reducible repeat (first | refine zN ?_ _ | refine zD ?_ | refine zB ?_ _)); exact BK3t.out) hb); have n7_ := zA (below_step (by repeat (first | (with_reducible first | exact HB.out | apply zW | apply zX | apply zY | refine zS ?_ GE3d.out | refine zS ?_ GE3e.out | refine zS ?_ GE3f.out | refine zS ?_ GE3m.out | refine zS ?_ GE3t.out) | exact HB.out)) hb); clear HO_235002; clear HO_242002; clear BK3d; clear BK3e; clear BK3f; clear BK3m; clear BK3t; clear HB; have HO_235002 := n0_; have HO_242002 := n1_; have BK3d := n2_; have BK3e := n3_; have BK3f := n4_; have BK3m := n5_; have BK3t := n6_; have HB := n7_; clear n0_ n1_ n2_ n3_ n4_ n5_ n6_ n7_; (try clear hb); (try clear hb2); (try clear hk); (try clear hi)) | (go_at_call 17; (with_reducible refine (kimberlitelaw03_alive.calls  t246 _ A231.out).mono ?_); rintro e w238 ⟨rfl, hb⟩; have n0_ := zA (Kd.R_below (by (with_reducible repeat (first | apply Kd.R_alloc | apply Kd.R_drewN | apply Kd.R_drew)); exact HO_235002.out) hb); have n1_ := zA (Kd.R_below (by (with_reducible repeat (first | apply Kd.R_alloc | apply Kd.R_drewN | apply Kd.R_drew)); exact HO_242002.out) hb); have n2_ := zA (blk_below (g := gA) (o := .cells #[.int .i64 a0_0, .int .i64 a0_1, .slice A0_2 l0_2.length c0_2] 24 (0, 0)) (by (with_reducible repeat (first | refine zN ?_ _ | refine zD ?_ | refine zB ?_ _)); exact BK3d.out) hb); have n3_ := zA (blk_below (g := gB) (o := .cells #[.int .i64 a1_0, .int .i64 a1_1, .slice A1_2 l1_2.length c1_2] 24 (0, 0)) (by (with_reducible repeat (first | refine zN ?_ _ | refine zD ?_ | refine zB ?_ _)); exact BK3e.out) hb); have n4_ := zA (blk_below (g := gC) (o := .cells #[.int .i64 a2_0, .int .i64 a2_1, .slice A2_2 l2_2.length c2_2] 24 (0, 0)) (by (with_reducible repeat (first | refine zN ?_ _ | refine zD ?_ | refine zB ?_ _)); exact BK3f.out) hb); have n5_ := zA (blk_below (g := gD) (o := .cells #[.int .i64 t228, .int .i64 t229, .slice Ao23 t230.length co23] 24 (0, 0)) (by (with_reducible repeat (first | refine zN ?_ _ | refine zD ?_ | refine zB ?_ _)); exact BK3m.out) hb); have n6_ := zA (blk_below (g := gE) (o := .cells #[.int .i64 t235, .int .i64 t236, .slice Ao33 t237.length co33] 24 (0, 0)) (by (with_reducible repeat (first | refine zN ?_ _ | refine zD ?_ | refine zB ?_ _)); exact BK3t.out) hb); have n7_ := zA (below_step (by repeat (first | (with_reducible first | exact HB.out | apply zW | apply zX | apply zY | refine zS ?_ GE3d.out | refine zS ?_ GE3e.out | refine zS ?_ GE3f.out | refine zS ?_ GE3m.out | refine zS ?_ GE3t.out) | exact HB.out)) hb); clear HO_235002; clear HO_242002; clear BK3d; clear BK3e; clear BK3f; clear BK3m; clear BK3t; clear HB; have HO_235002 := n0_; have HO_242002 := n1_; have BK3d := n2_; have BK3e := n3_; have BK3f := n4_; have BK3m := n5_; have BK3t := n6_; have HB := n7_; clear n0_ n1_ n2_ n3_ n4_ n5_ n6_ n7_; (try clear hb); (try clear hb2); (try clear hk); (try clear hi)))
       go_ret
       exact ⟨by first | rfl | (simp [errW_none, errW_some] <;> rfl) | (simp [*, errW_none, errW_some] <;> rfl), by repeat (first | (with_reducible first | exact HB.out | apply zW | apply zX | apply zY | refine zS ?_ GE3d.out | refine zS ?_ GE3e.out | refine zS ?_ GE3f.out | refine zS ?_ GE3m.out | refine zS ?_ GE3t.out) | exact HB.out)⟩
      ·
       rw [if_neg c230] at H
       exact absurd H (by simp)
end Go.Proofs.Ytfeeaipbmpmpgaa.PX

namespace Go.Proofs.Ytfeeaipbmpmpgaa.PX
open Go.RowKit Go.Proofs.YtfeeaipbmpmpgaaW.PrintWords Go.Proofs.YtfeeaipbmpmpgaaW.PrintLast Go.Proofs.YtfeeaipbmpmpgaaW.PrintMore
open Go.ChangeShapes Go.WideShapes Go.Deep Go.Joins
set_option linter.unusedVariables false
set_option linter.unusedSimpArgs false

section
variable {H : Type} {enc : TypeId × Value → H} {P : Program} {w : World} {base : Nat} {spare : Nat → Bool} {held : Bool}
/-- A slice of structs of one-cell fields, opened to its cells. -/
theorem open_slice_fields {t e : TypeId} {fs : Array Field} {fuel : Nat} {cs : List Value} {x : DataW H × List MemPlace} (ht : P.underlying t = some (.slice e)) (he : P.underlying e = some (.struct fs))
    (hone : oneCellFields P fs = true) (hC : P.cellsOf e = fs.size) (h : DataW.trod enc P w base spare held fuel t cs = some x) :
    (cs = [.slice none 0 0] ∧ x = (.nil, [])) ∨
    ∃ (a : Addr) (len cap m : Nat) (D : Nat → DataW H) (Pl : Nat → List MemPlace), cs = [.slice (some a) len cap] ∧ base ≤ a.block ∧ len ≤ cap ∧ cap ≤ maxLen ∧ m = (if spare a.block then cap else len) ∧
      x = (.slice ((List.range len).map D) ((List.range (m - len)).map fun j => D (len + j)), MemPlace.row a (m * fs.size) ++ (List.range m).flatMap Pl) ∧
      ∀ i, i < m → ∃ (ys : List (DataW H × List MemPlace)) (n : Nat), D i = .agg (ys.map (·.1)) ∧ Pl i = ys.flatMap (·.2) ∧ ys.length = fs.size ∧
        ∀ (j : Nat) (f : Field), fs[j]? = some f → ∃ (v : Value) (y : DataW H × List MemPlace), w.cell? (a.add (i * fs.size + j)) = some v ∧ ys[j]? = some y ∧ DataW.trod enc P w base spare held n f.type [v] = some y := by
  rcases open_slice ht h with h0 | ⟨a, len, cap, m, n, D, Pl, hcs, hb, hl, hm, hmm, hx, hi⟩
  · exact .inl h0
  · refine .inr ⟨a, len, cap, m, D, Pl, hcs, hb, hl, hm, hmm, by rw [hC] at hx; exact hx, fun i him => ?_⟩
    obtain ⟨cs', hc, ht'⟩ := hi i him
    rw [hC] at hc
    obtain ⟨ys, n', hn', hy, hlen, hyl, hf⟩ := DataW.trod_struct he ht'
    obtain ⟨_, hcl, hat⟩ := World.cells?_some hc
    simp only [Prod.mk.injEq] at hy
    refine ⟨ys, n', hy.1, hy.2, hyl, fun j f hj => ?_⟩
    obtain ⟨ho, hk⟩ := hone_of hone j f hj
    have hjl : j < fs.size := (Array.getElem?_eq_some_iff.1 hj).1
    have hcell := hat j hjl
    have hv : cs'[j]? = some (cs'[j]'(by omega)) := List.getElem?_eq_getElem (by omega)
    have h1 := hf j f hj
    rw [ho, hk] at h1
    have hone' : (cs'.drop j).take 1 = [cs'[j]'(by omega)] := by
      rw [List.drop_eq_getElem_cons (by omega)]
      rfl
    rw [hone'] at h1
    have hys : ys[j]? = some (ys[j]'(by omega)) := List.getElem?_eq_getElem (by omega)
    refine ⟨_, _, ?_, hys, h1.trans hys⟩
    rw [← Go.Deep.add_add, hcell, hv]
end
def I64 (x : Int) : Prop := -9223372036854775808 ≤ x ∧ x ≤ 9223372036854775807
theorem i64_of_wf {x : Int} (h : (Lit.int .i64 x).wf = true) : I64 x := by
  simp [Lit.wf, IntKind.min, IntKind.max, IntKind.signed, IntKind.bits] at h
  unfold I64
  omega
section
variable {H : Type} {enc : TypeId × Value → H} {w : World} {base : Nat} {spare : Nat → Bool} {held : Bool}
/-- A slice of ints, as the walk takes it. -/
theorem open_introw {n : Nat} {v : Value} {y : DataW H × List MemPlace} (h : DataW.trod enc Try.prog w base spare held n 22 [v] = some y) :
    ∃ A c l, v = .slice A l.length c ∧ l.length ≤ c ∧ Kd.C (Kd.int .i64) w A l.length l ∧ ∀ x ∈ l, I64 x := by
  rcases open_ints Try.underlying22 Try.underlying3 (by kernel_rfl) h with ⟨hcs, _⟩ | ⟨x, l, c, zs, hcs, _, hl, hm, hz, _, hcell, hwz⟩
  · obtain rfl : v = .slice none 0 0 := by simpa using hcs
    exact ⟨none, 0, [], rfl, by simp, ⟨rfl, by simp, fun h => by simp at h⟩, by simp⟩
  · obtain rfl : v = .slice (some x) l c := by simpa using hcs
    have hzl : l ≤ zs.length := by
      rw [hz]
      split <;> omega
    have hlen : (zs.take l).length = l := by simp; omega
    unfold maxLen at hm
    refine ⟨some x, c, zs.take l, by rw [hlen], by rw [hlen]; exact hl, ?_, fun n hn => i64_of_wf (hwz n (List.mem_of_mem_take hn))⟩
    rw [hlen]
    refine ⟨hlen, by omega, fun _ => ⟨x, rfl, fun j p hj => ⟨[.int .i64 p], rfl, rfl, fun i u hu => ?_⟩⟩⟩
    have hs : (Kd.int .i64).sz = 1 := rfl
    have hjl : j < l := by
      have := (List.getElem?_eq_some_iff.1 hj).1
      omega
    cases i with
    | succ i => simp at hu
    | zero =>
      have hu' : Value.int .i64 p = u := by simpa using hu
      subst hu'
      rw [hs, Nat.mul_one, Nat.add_zero, hcell j (by omega)]
      rw [List.getElem?_take_of_lt hjl] at hj
      rw [List.getD_eq_getElem?_getD, hj]
      rfl
def CurveI (a b : Int) (l : List Int) : Prop := I64 a ∧ I64 b ∧ ∀ x ∈ l, I64 x
set_option maxRecDepth 100000 in
theorem open_curve {r : Reach} {b0 : Nat} {v : Value} {d : DataW H} {p : List MemPlace} (hv : Value.okWide Try.prog w r b0 24 v) (h : DataW.Trod enc Try.prog w base spare held 24 v d p) :
    ∃ a b l A c, v = .agg #[.int .i64 a, .int .i64 b, .slice A l.length c] ∧ l.length ≤ c ∧ Kd.C (Kd.int .i64) w A l.length l ∧ CurveI a b l := by
  obtain ⟨c0, c1, c2, y0, y1, y2, m, rfl, rfl, rfl, hy0, hy1, hy2⟩ := open_agg3 Try.underlying24 (by kernel_rfl) (by kernel_rfl) hv h
  obtain ⟨a, e0, _, wa⟩ := DataW.trod_int Try.underlying3 hy0
  obtain ⟨b, e1, _, wb⟩ := DataW.trod_int Try.underlying3 hy1
  obtain ⟨A, c, l, rfl, hl, hC, hw⟩ := open_introw hy2
  simp at e0 e1
  subst e0 e1
  exact ⟨a, b, l, A, c, rfl, hl, hC, i64_of_wf wa, i64_of_wf wb, hw⟩
set_option maxRecDepth 100000 in
theorem open_curves {r : Reach} {b0 : Nat} {v : Value} {d : DataW H} {p : List MemPlace} (hv : Value.okWide Try.prog w r b0 34 v) (h : DataW.Trod enc Try.prog w base spare held 34 v d p) :
    ∃ A c l, v = .slice A l.length c ∧ l.length ≤ c ∧ Kd.C k24 w A l.length l ∧ ∀ s ∈ l, CurveI s.f0 s.f1 s.f2 := by
  obtain ⟨A, len, cap, rfl⟩ := okWide_slice Try.underlying34 hv
  obtain ⟨fuel, hf⟩ := h
  rcases open_slice_fields Try.underlying34 Try.underlying24 (by kernel_rfl) (by kernel_rfl) hf with ⟨hcs, _⟩ | ⟨a, len', cap', m, D, Pl, hcs, _, hl, hm, hmm, _, hi⟩
  · simp [Value.cells] at hcs
    obtain ⟨rfl, rfl, rfl⟩ := hcs
    exact ⟨none, 0, [], rfl, by simp, ⟨rfl, by simp, fun h => by simp at h⟩, by simp⟩
  · simp [Value.cells] at hcs
    obtain ⟨rfl, rfl, rfl⟩ := hcs
    unfold maxLen at hm
    have hlm : len ≤ m := by rw [hmm]; split <;> omega
    have hs : k24.sz = 3 := rfl
    have key : ∀ n, n ≤ len → ∃ l : List S24, l.length = n ∧ (∀ s ∈ l, CurveI s.f0 s.f1 s.f2) ∧ ∀ j p, l[j]? = some p → ∃ c, c.length = k24.sz ∧ k24.K w p c ∧ ∀ i u, c[i]? = some u → w.cell? (a.add (j * k24.sz + i)) = some u := by
      intro n
      induction n with
      | zero => exact fun _ => ⟨[], rfl, by simp, by simp⟩
      | succ n ih =>
        intro hn
        obtain ⟨l, hll, hlI, hlc⟩ := ih (by omega)
        obtain ⟨ys, n1, _, _, _, hfs⟩ := hi n (by omega)
        obtain ⟨v0, y0, k0, _, t0⟩ := hfs 0 _ rfl
        obtain ⟨v1, y1, k1, _, t1⟩ := hfs 1 _ rfl
        obtain ⟨v2, y2, k2, _, t2⟩ := hfs 2 _ rfl
        obtain ⟨x0, e0, _, wa⟩ := DataW.trod_int Try.underlying3 t0
        obtain ⟨x1, e1, _, wb⟩ := DataW.trod_int Try.underlying3 t1
        obtain ⟨A2, c2, l2, rfl, hl2, hC2, hw2⟩ := open_introw t2
        simp at e0 e1
        subst e0 e1
        refine ⟨l ++ [⟨x0, x1, l2⟩], by simp [hll], fun s hs => ?_, fun j p hj => ?_⟩
        · rcases List.mem_append.1 hs with hs | hs
          · exact hlI s hs
          · rw [List.mem_singleton.1 hs]
            exact ⟨i64_of_wf wa, i64_of_wf wb, hw2⟩
        · by_cases hjn : j < l.length
          · rw [List.getElem?_append_left hjn] at hj
            exact hlc j p hj
          · have hjn' : j = n := by
              have := (List.getElem?_eq_some_iff.1 hj).1
              simp at this
              omega
            subst hjn'
            have hp : p = ⟨x0, x1, l2⟩ := by
              rw [← hll] at hj
              simpa using hj.symm
            subst hp
            refine ⟨_, rfl, k24_mk w ⟨x0, x1, l2⟩ hl2 hC2, fun i u hu => ?_⟩
            rw [hs]
            match i with
            | 0 => obtain rfl : Value.int .i64 x0 = u := by simpa using hu
                   exact k0
            | 1 => obtain rfl : Value.int .i64 x1 = u := by simpa using hu
                   exact k1
            | 2 => obtain rfl : Value.slice A2 l2.length c2 = u := by simpa using hu
                   exact k2
            | i + 3 => simp at hu
    obtain ⟨l, hll, hlI, hlc⟩ := key len (Nat.le_refl _)
    exact ⟨some a, cap, l, by rw [hll], by omega, ⟨rfl, by omega, fun _ => ⟨a, rfl, hlc⟩⟩, hlI⟩
set_option maxRecDepth 100000 in
theorem open_ints22 {r : Reach} {b0 : Nat} {v : Value} {d : DataW H} {p : List MemPlace} (hv : Value.okWide Try.prog w r b0 22 v) (h : DataW.Trod enc Try.prog w base spare held 22 v d p) :
    ∃ A c l, v = .slice A l.length c ∧ l.length ≤ c ∧ Kd.C (Kd.int .i64) w A l.length l ∧ ∀ x ∈ l, I64 x := by
  obtain ⟨A, len, cap, rfl⟩ := okWide_slice Try.underlying22 hv
  obtain ⟨fuel, hf⟩ := h
  exact open_introw (v := .slice A len cap) (by simpa [Value.cells] using hf)
end
end Go.Proofs.Ytfeeaipbmpmpgaa.PX
