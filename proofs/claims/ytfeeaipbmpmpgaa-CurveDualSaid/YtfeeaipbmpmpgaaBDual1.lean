import Derived.Below
import Derived.Deep.Draws
import Derived.Deep.AppendLies
import Derived.Maps.AppendAt
import Derived.OwnWalk
import Derived.Laws.BytesArg
import Derived.Laws.MakeOwn
import Derived.Laws.OwnMore
import Derived.Deep.OwnRows
import Derived.Tactics
import Derived.Lib.ConvBytes
import Derived.Laws.Slices
import Derived.WalkKit
import Derived.KernelRfl
import Derived.RowKit3
import Derived.Deep.LoopGhost
import Derived.Deep.QuietTactic
import Derived.BigQuiet
import Derived.WideLaws
import Derived.Deep.DeepCutAuto
import Derived.Deep.CutBlock
import Derived.Deep.RegionHeld3
import Derived.Laws.Rows
import Derived.Lib.AppendStr
import Derived.ArgAppend
import Derived.Laws.IdiomCopy
import Derived.OrdersHeld
import Derived.Laws.BitsLemmas
import Derived.RowKit
import Derived.Shelf.Sort.Plain
import Derived.Ground.Names2Prog
import Derived.Shelf.Slices.Clone
import Derived.Shelf.Slices.SearchI
import Derived.Shelf.Slices.In.SortNone
import Derived.Sort.OwnSortedInts
import Derived.StillTailTactics
import Derived.Test.YtfeeaipbmpmpgaaProg
import Derived.Test.YtfeeaipbmpmpgaaWWords
import Derived.Test.YtfeeaipbmpmpgaaWLast
import Derived.Test.YtfeeaipbmpmpgaaWTab
import Derived.Test.YtfeeaipbmpmpgaaWQPut
import Derived.Test.YtfeeaipbmpmpgaaWApart
import Derived.Test.YtfeeaipbmpmpgaaWArr
import Derived.Test.YtfeeaipbmpmpgaaWZeros
import Derived.Test.YtfeeaipbmpmpgaaWFoot
import Derived.Test.YtfeeaipbmpmpgaaWKept
import Derived.Test.YtfeeaipbmpmpgaaWShare
import Derived.Test.YtfeeaipbmpmpgaaWN
import Derived.Test.YtfeeaipbmpmpgaaWRepsOne
import Derived.Test.YtfeeaipbmpmpgaaWInv
import Derived.Test.YtfeeaipbmpmpgaaWGuard
import Derived.Test.YtfeeaipbmpmpgaaWNEv
import Derived.Test.YtfeeaipbmpmpgaaWMore
namespace Go.Proofs.Ytfeeaipbmpmpgaa.PX
open Go.RowKit Go.Proofs.YtfeeaipbmpmpgaaW.PrintWords Go.Proofs.YtfeeaipbmpmpgaaW.PrintLast Go.Proofs.YtfeeaipbmpmpgaaW.PrintMore
attribute [local go_sem] max2_int min2_int max_two min_two max_three min_three max_four min_four   -- for this text's walks alone
set_option linter.unusedVariables false
set_option linter.unusedSimpArgs false



def errW : Option Int → Value
  | none => .nilIface
  | some c => .iface 0 (.int .i64 c)
theorem errW_none : errW none = .nilIface := rfl
theorem errW_some (c : Int) : errW (some c) = .iface 0 (.int .i64 c) := rfl

theorem info3 : (Try.prog.info? 3).map (fun i => (i.zero, i.size, i.bytes)) = some (some (.int .i64 0), 1, 8) := by kernel_rfl
theorem info22 : (Try.prog.info? 22).map (fun i => (i.zero, i.size, i.bytes)) = some (some (.slice none 0 0), 1, 24) := by kernel_rfl
theorem info78 : (Try.prog.info? 78).map (fun i => (i.zero, i.size, i.bytes)) = some (some (.agg #[(.int .i64 0), (.slice none 0 0)]), 2, 32) := by kernel_rfl
def rd_L1 (xs : List (List Int)) (i : Int) : (List Int) := xs.getD i.toNat ([] : List Int)
theorem at_L1 {w : World} {A : Option Addr} {n : Nat} {xs : List (List Int)} (h : Kd.C (Kd.slice 3 (Kd.int .i64)) w A n xs) (i : Int) (h0 : 0 ≤ i) (h1 : i < n) : ∃ ad A0 c0, A = some ad ∧ w.cell? (ad.add i.toNat) = some (.slice A0 (rd_L1 xs i).length c0) ∧ (rd_L1 xs i).length ≤ c0 ∧ (Kd.int .i64).C w A0 (rd_L1 xs i).length (rd_L1 xs i) := by
  obtain ⟨ad, c, e, _, hK, hc0⟩ := Kd.C_get h ([] : List Int) i h0 h1
  have hc : ∀ j u, c[j]? = some u → w.cell? (ad.add (i.toNat * 1 + j)) = some u := hc0
  obtain ⟨A0, c0, rfl, l0, g0⟩ := hK
  exact ⟨ad, A0, c0, e, by have hq := hc 0 _ rfl; rwa [Nat.mul_one, Nat.add_zero] at hq, l0, g0⟩

/-! #### struct type 24 -/
structure S24 where
  f0 : Int
  f1 : Int
  f2 : (List Int)
def z24 : S24 := ⟨(0 : Int), (0 : Int), ([] : List Int)⟩
def k24 : Kd S24 := Kd.iso (Kd.pair (Kd.int .i64) (Kd.pair (Kd.int .i64) (Kd.slice 3 (Kd.int .i64)))) (fun x : S24 => (x.f0, x.f1, x.f2))
theorem k24_heap : Kd.Heap k24 := Kd.heap_iso _ (Kd.heap_pair (Kd.heap_int .i64) (Kd.heap_pair (Kd.heap_int .i64) (Kd.heap_slice 3 (Kd.heap_int .i64))))
theorem k24_open {w : World} {x : S24} {cs : List Value} (h : k24.K w x cs) : ∃ A2 c2, cs = [.int .i64 x.f0, .int .i64 x.f1, .slice A2 x.f2.length c2] ∧ x.f2.length ≤ c2 ∧ (Kd.int .i64).C w A2 x.f2.length x.f2 := by
  obtain ⟨_, _, rfl, rfl, ⟨_, _, rfl, rfl, ⟨A2, c2, rfl, l2, g2⟩⟩⟩ := h
  exact ⟨A2, c2, rfl, l2, g2⟩
theorem k24_openM {w : World} {base : Nat} {ok : Nat → Prop} {x : S24} {cs : List Value} (h : k24.M w base ok x cs) : ∃ v2, cs = [.int .i64 x.f0, .int .i64 x.f1, v2] ∧ (Kd.int .i64).R 3 w base ok v2 x.f2 := by
  obtain ⟨_, _, rfl, rfl, ⟨_, _, rfl, rfl, ⟨v2, rfl, g2⟩⟩⟩ := h
  exact ⟨v2, rfl, g2⟩
theorem k24_mk (w : World) (x : S24) {A2 : Option Addr} {c2 : Nat} (l2 : x.f2.length ≤ c2) (g2 : (Kd.int .i64).C w A2 x.f2.length x.f2) : k24.K w x [.int .i64 x.f0, .int .i64 x.f1, .slice A2 x.f2.length c2] := ⟨[.int .i64 x.f0], [.int .i64 x.f1, .slice A2 x.f2.length c2], rfl, rfl, ⟨[.int .i64 x.f1], [.slice A2 x.f2.length c2], rfl, rfl, ⟨A2, c2, rfl, l2, g2⟩⟩⟩
theorem k24_mkM (w : World) (base : Nat) (ok : Nat → Prop) (x : S24) {v2 : Value} (g2 : (Kd.int .i64).R 3 w base ok v2 x.f2) : k24.M w base ok x [.int .i64 x.f0, .int .i64 x.f1, v2] := ⟨[.int .i64 x.f0], [.int .i64 x.f1, v2], rfl, rfl, ⟨[.int .i64 x.f1], [v2], rfl, rfl, ⟨v2, rfl, g2⟩⟩⟩
theorem k24_openF {W : World} {ok : Nat → Prop} {x : S24} {cs : List Value} (h : Kd.FK k24 W ok x cs) : ∃ A2 c2, cs = [.int .i64 x.f0, .int .i64 x.f1, .slice A2 x.f2.length c2] ∧ x.f2.length ≤ c2 ∧ Kd.F (Kd.int .i64) W ok A2 x.f2.length x.f2 := by
  obtain ⟨A2, c2, rfl, l2, _⟩ := k24_open (Kd.FK_now h)
  exact ⟨A2, c2, rfl, l2, (fun W' hW => by obtain ⟨A2_, c2_, he, l2_, g2_⟩ := k24_open (h W' hW); injection (Option.some.inj (show some (Value.slice A2 x.f2.length c2) = some (Value.slice A2_ x.f2.length c2_) from congrArg (fun l => l[2]?) he)) with ha_ _ _; rw [ha_]; exact g2_)⟩
theorem k24_mkF (W : World) (ok : Nat → Prop) (x : S24) {A2 : Option Addr} {c2 : Nat} (l2 : x.f2.length ≤ c2) (g2 : Kd.F (Kd.int .i64) W ok A2 x.f2.length x.f2) : Kd.FK k24 W ok x [.int .i64 x.f0, .int .i64 x.f1, .slice A2 x.f2.length c2] := fun W2 hW => k24_mk W2 x l2 (g2 W2 hW)
def rd_T24 (xs : List S24) (i : Int) : S24 := xs.getD i.toNat z24
theorem at_T24 {w : World} {A : Option Addr} {n : Nat} {xs : List S24} (h : Kd.C k24 w A n xs) (i : Int) (h0 : 0 ≤ i) (h1 : i < n) : ∃ ad A2 c2, A = some ad ∧ w.cell? (ad.add (i.toNat * 3)) = some (.int .i64 (rd_T24 xs i).f0) ∧ w.cell? ⟨(ad.add (i.toNat * 3)).block, (ad.add (i.toNat * 3)).off + 1, none⟩ = some (.int .i64 (rd_T24 xs i).f1) ∧ w.cell? ⟨(ad.add (i.toNat * 3)).block, (ad.add (i.toNat * 3)).off + 2, none⟩ = some (.slice A2 (rd_T24 xs i).f2.length c2) ∧ (rd_T24 xs i).f2.length ≤ c2 ∧ (Kd.int .i64).C w A2 (rd_T24 xs i).f2.length (rd_T24 xs i).f2 := by
  obtain ⟨ad, c, e, _, hK, hc0⟩ := Kd.C_get h z24 i h0 h1
  have hc : ∀ j u, c[j]? = some u → w.cell? (ad.add (i.toNat * 3 + j)) = some u := hc0
  obtain ⟨A2, c2, rfl, l2, g2⟩ := k24_open hK
  exact ⟨ad, A2, c2, e, hc 0 _ rfl, by rw [← add_field _ _ 1 (by omega)]; exact hc 1 _ rfl, by rw [← add_field _ _ 2 (by omega)]; exact hc 2 _ rfl, l2, g2⟩

def rd_L3 (xs : List (List (List Int))) (i : Int) : (List (List Int)) := xs.getD i.toNat ([] : List (List Int))
theorem at_L3 {w : World} {A : Option Addr} {n : Nat} {xs : List (List (List Int))} (h : Kd.C (Kd.slice 22 (Kd.slice 3 (Kd.int .i64))) w A n xs) (i : Int) (h0 : 0 ≤ i) (h1 : i < n) : ∃ ad A0 c0, A = some ad ∧ w.cell? (ad.add i.toNat) = some (.slice A0 (rd_L3 xs i).length c0) ∧ (rd_L3 xs i).length ≤ c0 ∧ (Kd.slice 3 (Kd.int .i64)).C w A0 (rd_L3 xs i).length (rd_L3 xs i) := by
  obtain ⟨ad, c, e, _, hK, hc0⟩ := Kd.C_get h ([] : List (List Int)) i h0 h1
  have hc : ∀ j u, c[j]? = some u → w.cell? (ad.add (i.toNat * 1 + j)) = some u := hc0
  obtain ⟨A0, c0, rfl, l0, g0⟩ := hK
  exact ⟨ad, A0, c0, e, by have hq := hc 0 _ rfl; rwa [Nat.mul_one, Nat.add_zero] at hq, l0, g0⟩

def rd_L4 (xs : List (List S24)) (i : Int) : (List S24) := xs.getD i.toNat ([] : List S24)
theorem at_L4 {w : World} {A : Option Addr} {n : Nat} {xs : List (List S24)} (h : Kd.C (Kd.slice 24 k24) w A n xs) (i : Int) (h0 : 0 ≤ i) (h1 : i < n) : ∃ ad A0 c0, A = some ad ∧ w.cell? (ad.add i.toNat) = some (.slice A0 (rd_L4 xs i).length c0) ∧ (rd_L4 xs i).length ≤ c0 ∧ k24.C w A0 (rd_L4 xs i).length (rd_L4 xs i) := by
  obtain ⟨ad, c, e, _, hK, hc0⟩ := Kd.C_get h ([] : List S24) i h0 h1
  have hc : ∀ j u, c[j]? = some u → w.cell? (ad.add (i.toNat * 1 + j)) = some u := hc0
  obtain ⟨A0, c0, rfl, l0, g0⟩ := hK
  exact ⟨ad, A0, c0, e, by have hq := hc 0 _ rfl; rwa [Nat.mul_one, Nat.add_zero] at hq, l0, g0⟩

/-! #### struct type 78 -/
structure S78 where
  f0 : Int
  f1 : (List Int)
def z78 : S78 := ⟨(0 : Int), ([] : List Int)⟩
def k78 : Kd S78 := Kd.iso (Kd.pair (Kd.int .i64) (Kd.slice 3 (Kd.int .i64))) (fun x : S78 => (x.f0, x.f1))
theorem k78_heap : Kd.Heap k78 := Kd.heap_iso _ (Kd.heap_pair (Kd.heap_int .i64) (Kd.heap_slice 3 (Kd.heap_int .i64)))
theorem k78_open {w : World} {x : S78} {cs : List Value} (h : k78.K w x cs) : ∃ A1 c1, cs = [.int .i64 x.f0, .slice A1 x.f1.length c1] ∧ x.f1.length ≤ c1 ∧ (Kd.int .i64).C w A1 x.f1.length x.f1 := by
  obtain ⟨_, _, rfl, rfl, ⟨A1, c1, rfl, l1, g1⟩⟩ := h
  exact ⟨A1, c1, rfl, l1, g1⟩
theorem k78_openM {w : World} {base : Nat} {ok : Nat → Prop} {x : S78} {cs : List Value} (h : k78.M w base ok x cs) : ∃ v1, cs = [.int .i64 x.f0, v1] ∧ (Kd.int .i64).R 3 w base ok v1 x.f1 := by
  obtain ⟨_, _, rfl, rfl, ⟨v1, rfl, g1⟩⟩ := h
  exact ⟨v1, rfl, g1⟩
theorem k78_mk (w : World) (x : S78) {A1 : Option Addr} {c1 : Nat} (l1 : x.f1.length ≤ c1) (g1 : (Kd.int .i64).C w A1 x.f1.length x.f1) : k78.K w x [.int .i64 x.f0, .slice A1 x.f1.length c1] := ⟨[.int .i64 x.f0], [.slice A1 x.f1.length c1], rfl, rfl, ⟨A1, c1, rfl, l1, g1⟩⟩
theorem k78_mkM (w : World) (base : Nat) (ok : Nat → Prop) (x : S78) {v1 : Value} (g1 : (Kd.int .i64).R 3 w base ok v1 x.f1) : k78.M w base ok x [.int .i64 x.f0, v1] := ⟨[.int .i64 x.f0], [v1], rfl, rfl, ⟨v1, rfl, g1⟩⟩
theorem k78_openF {W : World} {ok : Nat → Prop} {x : S78} {cs : List Value} (h : Kd.FK k78 W ok x cs) : ∃ A1 c1, cs = [.int .i64 x.f0, .slice A1 x.f1.length c1] ∧ x.f1.length ≤ c1 ∧ Kd.F (Kd.int .i64) W ok A1 x.f1.length x.f1 := by
  obtain ⟨A1, c1, rfl, l1, _⟩ := k78_open (Kd.FK_now h)
  exact ⟨A1, c1, rfl, l1, (fun W' hW => by obtain ⟨A1_, c1_, he, l1_, g1_⟩ := k78_open (h W' hW); injection (Option.some.inj (show some (Value.slice A1 x.f1.length c1) = some (Value.slice A1_ x.f1.length c1_) from congrArg (fun l => l[1]?) he)) with ha_ _ _; rw [ha_]; exact g1_)⟩
theorem k78_mkF (W : World) (ok : Nat → Prop) (x : S78) {A1 : Option Addr} {c1 : Nat} (l1 : x.f1.length ≤ c1) (g1 : Kd.F (Kd.int .i64) W ok A1 x.f1.length x.f1) : Kd.FK k78 W ok x [.int .i64 x.f0, .slice A1 x.f1.length c1] := fun W2 hW => k78_mk W2 x l1 (g1 W2 hW)
def rd_T78 (xs : List S78) (i : Int) : S78 := xs.getD i.toNat z78
theorem at_T78 {w : World} {A : Option Addr} {n : Nat} {xs : List S78} (h : Kd.C k78 w A n xs) (i : Int) (h0 : 0 ≤ i) (h1 : i < n) : ∃ ad A1 c1, A = some ad ∧ w.cell? (ad.add (i.toNat * 2)) = some (.int .i64 (rd_T78 xs i).f0) ∧ w.cell? ⟨(ad.add (i.toNat * 2)).block, (ad.add (i.toNat * 2)).off + 1, none⟩ = some (.slice A1 (rd_T78 xs i).f1.length c1) ∧ (rd_T78 xs i).f1.length ≤ c1 ∧ (Kd.int .i64).C w A1 (rd_T78 xs i).f1.length (rd_T78 xs i).f1 := by
  obtain ⟨ad, c, e, _, hK, hc0⟩ := Kd.C_get h z78 i h0 h1
  have hc : ∀ j u, c[j]? = some u → w.cell? (ad.add (i.toNat * 2 + j)) = some u := hc0
  obtain ⟨A1, c1, rfl, l1, g1⟩ := k78_open hK
  exact ⟨ad, A1, c1, e, hc 0 _ rfl, by rw [← add_field _ _ 1 (by omega)]; exact hc 1 _ rfl, l1, g1⟩

abbrev Y : Bool := true
abbrev O : Bool := false
theorem z1 {α : Type} {xs : List α} {i : Nat} {a : α} : xs.toArray.setIfInBounds i a = (xs.set i a).toArray := by simp
theorem z2 {α : Type} {x : α} {xs : List α} {a : α} : (x :: xs).set 0 a = a :: xs := rfl
theorem z3 {α : Type} {x : α} {xs : List α} {n : Nat} {a : α} : (x :: xs).set (n + 1) a = x :: xs.set n a := rfl
theorem zA {p : Prop} (h : p) : Aside0 p := ⟨h⟩
theorem zN {w : World} {g : Nat} {o : Obj} (h : w.heap[g]? = some o) (n : Nat) : (w.drewN n).heap[g]? = some o := blk_drewN h n
theorem zD {w : World} {g : Nat} {o : Obj} (h : w.heap[g]? = some o) : w.drew.heap[g]? = some o := blk_drew h
theorem zB {w : World} {g : Nat} {o : Obj} (h : w.heap[g]? = some o) (o' : Obj) : (w.alloc o').heap[g]? = some o := blk_alloc h o'
theorem zS {w W : World} {g j : Nat} {v : Value} (h : Below w.heap.size w W) (hg : w.heap.size ≤ g) : Below w.heap.size w (W.setCell ⟨g, j, none⟩ v) := below_set h hg
theorem zX {B : Nat} {w W : World} (h : Below B w W) (n : Nat) : Below B w (W.drewN n) := pw_below_drewN h n
theorem zY {B : Nat} {w W : World} (h : Below B w W) : Below B w W.drew := below_drew1 h
theorem zW {w W : World} (h : Below w.heap.size w W) (o : Obj) : Below w.heap.size w (W.alloc o) := below_alloc h o
end Go.Proofs.Ytfeeaipbmpmpgaa.PX

namespace Go.Proofs.Ytfeeaipbmpmpgaa.PX
open Go.RowKit Go.Proofs.YtfeeaipbmpmpgaaW.PrintWords Go.Proofs.YtfeeaipbmpmpgaaW.PrintLast Go.Proofs.YtfeeaipbmpmpgaaW.PrintMore
attribute [local go_sem] max2_int min2_int max_two min_two max_three min_three max_four min_four   -- for this text's walks alone
set_option linter.unusedVariables false
set_option linter.unusedSimpArgs false
/-! ### cmp_isNaN_int: function 98 -/
def cmp_isNaN_int.f (a0 : Int) : Option (Bool) := some (a0 != a0)
set_option maxHeartbeats 8000000 in
set_option maxRecDepth 100000 in
theorem cmp_isNaN_int.calls (a0 : Int) (r : Bool) (w : World) (h : cmp_isNaN_int.f a0 = some r) :
  Calls Try.prog 98 #[.int .i64 a0] w fun e w' => e = .returned (.bool r) ∧ Drawn0 w w' := by
 have H : (some (a0 != a0)) = some r := h
 clear h
 obtain rfl := Option.some.inj H
 go_enter Try.func98, Try.ntmps98
 go_wp2
 go_ret
 exact ⟨by first | rfl | (simp; done) | (simp [*]; done), by repeat (first | exact Drawn0.refl _ | apply Drawn0.step)⟩
end Go.Proofs.Ytfeeaipbmpmpgaa.PX

namespace Go.Proofs.Ytfeeaipbmpmpgaa.PX
open Go.RowKit Go.Proofs.YtfeeaipbmpmpgaaW.PrintWords Go.Proofs.YtfeeaipbmpmpgaaW.PrintLast Go.Proofs.YtfeeaipbmpmpgaaW.PrintMore
attribute [local go_sem] max2_int min2_int max_two min_two max_three min_three max_four min_four   -- for this text's walks alone
set_option linter.unusedVariables false
set_option linter.unusedSimpArgs false
/-! ### cmp_Less_int: function 82 -/
def cmp_Less_int.f (a0 : Int) (a1 : Int) : Option (Bool) := (cmp_isNaN_int.f a0).bind fun t101 => (if t101 = true then ((cmp_isNaN_int.f a1).bind fun t102 => (if t102 = true then (some (decide (a0 < a1))) else (some true))) else (some (decide (a0 < a1))))
set_option maxHeartbeats 8000000 in
set_option maxRecDepth 100000 in
theorem cmp_Less_int.calls (a0 : Int) (a1 : Int) (r : Bool) (w : World) (h : cmp_Less_int.f a0 a1 = some r) :
  Calls Try.prog 82 #[.int .i64 a0, .int .i64 a1] w fun e w' => e = .returned (.bool r) ∧ Drawn0 w w' := by
 have H : ((cmp_isNaN_int.f a0).bind fun t101 => (if t101 = true then ((cmp_isNaN_int.f a1).bind fun t102 => (if t102 = true then (some (decide (a0 < a1))) else (some true))) else (some (decide (a0 < a1))))) = some r := h
 clear h
 replace H := Option.bind_eq_some_iff.mp H
 obtain ⟨t101, A30, H⟩ := H
 replace H : (if t101 = true then ((cmp_isNaN_int.f a1).bind fun t102 => (if t102 = true then (some (decide (a0 < a1))) else (some true))) else (some (decide (a0 < a1)))) = some r := H
 have A3 := zA A30
 clear A30
 by_cases c4 : t101 = true
 ·
  subst c4
  have H1 : ((cmp_isNaN_int.f a1).bind fun t102 => (if t102 = true then (some (decide (a0 < a1))) else (some true))) = some r := by rw [if_pos rfl] at H; exact H
  clear H
  have H := H1
  clear H1
  replace H := Option.bind_eq_some_iff.mp H
  obtain ⟨t102, A50, H⟩ := H
  replace H : (if t102 = true then (some (decide (a0 < a1))) else (some true)) = some r := H
  have A5 := zA A50
  clear A50
  by_cases c6 : t102 = true
  ·
   subst c6
   have H1 : (some (decide (a0 < a1))) = some r := by rw [if_pos rfl] at H; exact H
   clear H
   have H := H1
   clear H1
   obtain rfl := Option.some.inj H
   go_enter Try.func82, Try.ntmps82
   go_wp2_with (first | ((with_reducible refine gate_callee (f := 98) rfl ?_); refine goesL_ (some 6) rfl rfl Try.func98 (by kernel_rfl) rfl #[.int .i64 a0] rfl (by (try simp only [List.map_toArray, List.map_cons, List.map_nil]); first | done | rfl | (simp only [List.length_drop, List.length_take]; rfl)) ?_; (with_reducible refine (cmp_isNaN_int.calls a0 true _ A3.out).mono ?_); rintro e w' ⟨rfl, ⟨nd, rfl⟩⟩; refine ⟨_, rfl, ?_⟩) | (go_at_call 98; (with_reducible refine (cmp_isNaN_int.calls a1 true _ A5.out).mono ?_); rintro e w' ⟨rfl, ⟨nd, rfl⟩⟩))
   go_ret
   exact ⟨by first | rfl | (simp; done) | (simp [*]; done), by repeat (first | exact Drawn0.refl _ | apply Drawn0.step)⟩
  ·
   replace c6 := Bool.eq_false_iff.mpr c6
   subst c6
   have H1 : (some true) = some r := by rw [if_neg (show ¬ (false = true) by decide)] at H; exact H
   clear H
   have H := H1
   clear H1
   obtain rfl := Option.some.inj H
   go_enter Try.func82, Try.ntmps82
   go_wp2_with (first | ((with_reducible refine gate_callee (f := 98) rfl ?_); refine goesL_ (some 6) rfl rfl Try.func98 (by kernel_rfl) rfl #[.int .i64 a0] rfl (by (try simp only [List.map_toArray, List.map_cons, List.map_nil]); first | done | rfl | (simp only [List.length_drop, List.length_take]; rfl)) ?_; (with_reducible refine (cmp_isNaN_int.calls a0 true _ A3.out).mono ?_); rintro e w' ⟨rfl, ⟨nd, rfl⟩⟩; refine ⟨_, rfl, ?_⟩) | (go_at_call 98; (with_reducible refine (cmp_isNaN_int.calls a1 false _ A5.out).mono ?_); rintro e w' ⟨rfl, ⟨nd, rfl⟩⟩))
   go_ret
   exact ⟨by first | rfl | (simp; done) | (simp [*]; done), by repeat (first | exact Drawn0.refl _ | apply Drawn0.step)⟩
 ·
  replace c4 := Bool.eq_false_iff.mpr c4
  subst c4
  have H1 : (some (decide (a0 < a1))) = some r := by rw [if_neg (show ¬ (false = true) by decide)] at H; exact H
  clear H
  have H := H1
  clear H1
  obtain rfl := Option.some.inj H
  go_enter Try.func82, Try.ntmps82
  go_wp2_with (first | ((with_reducible refine gate_callee (f := 98) rfl ?_); refine goesL_ (some 6) rfl rfl Try.func98 (by kernel_rfl) rfl #[.int .i64 a0] rfl (by (try simp only [List.map_toArray, List.map_cons, List.map_nil]); first | done | rfl | (simp only [List.length_drop, List.length_take]; rfl)) ?_; (with_reducible refine (cmp_isNaN_int.calls a0 false _ A3.out).mono ?_); rintro e w' ⟨rfl, ⟨nd, rfl⟩⟩; refine ⟨_, rfl, ?_⟩))
  go_ret
  exact ⟨by first | rfl | (simp; done) | (simp [*]; done), by repeat (first | exact Drawn0.refl _ | apply Drawn0.step)⟩
end Go.Proofs.Ytfeeaipbmpmpgaa.PX

namespace Go.Proofs.Ytfeeaipbmpmpgaa.PX
open Go.RowKit Go.Proofs.YtfeeaipbmpmpgaaW.PrintWords Go.Proofs.YtfeeaipbmpmpgaaW.PrintLast Go.Proofs.YtfeeaipbmpmpgaaW.PrintMore
attribute [local go_sem] max2_int min2_int max_two min_two max_three min_three max_four min_four   -- for this text's walks alone
set_option linter.unusedVariables false
set_option linter.unusedSimpArgs false
/-! ### slices_IsSorted_int_int: function 53 -/
def slices_IsSorted_int_int.l0 : Nat → List Int → Int → Option (Bool)
 | 0, _, _ => none
 | k + 1, x0, x3 => if x3 > 0 then (if 0 ≤ x3 then (if x3 < (x0.length : Int) then (if 0 ≤ (wrap64 (x3 - 1)) then (if (wrap64 (x3 - 1)) < (x0.length : Int) then ((cmp_Less_int.f (rd x0 x3) (rd x0 (wrap64 (x3 - 1)))).bind fun t105 => (if t105 = true then (some false) else (slices_IsSorted_int_int.l0 k x0 (wrap64 (x3 - 1))))) else (none)) else (none)) else (none)) else (none)) else (some true)
def slices_IsSorted_int_int.f (k : Nat) (l0 : List Int) : Option (Bool) := slices_IsSorted_int_int.l0 k l0 (wrap64 ((l0.length : Int) - 1))
theorem slices_IsSorted_int_int.mono_l : ∀ k, (∀ y0 y1, LeO (slices_IsSorted_int_int.l0 k y0 y1) (slices_IsSorted_int_int.l0 (k + 1) y0 y1))
 | 0 => fun _ _ r h => by simp [slices_IsSorted_int_int.l0] at h
 | k + 1 => by
  have ih0 := slices_IsSorted_int_int.mono_l k
  ·
   intro y0 y1
   unfold slices_IsSorted_int_int.l0
   repeat' first
   | (with_reducible exact ih0 _ _)
   | (with_reducible exact LeO.refl _)
   | (with_reducible exact LeO.none _)
   | (with_reducible refine LeO.ite ?_ ?_)
   | (with_reducible refine LeO.bind ?_ (fun _ => ?_))
   | exact ih0 _ _
   | exact LeO.none _
   | refine LeO.ite ?_ ?_
   | refine LeO.bind ?_ (fun _ => ?_)
theorem slices_IsSorted_int_int.mono : ∀ a0 k, LeO (slices_IsSorted_int_int.f k a0) (slices_IsSorted_int_int.f (k + 1) a0) := by
 intro a0 k
 have ih0 := slices_IsSorted_int_int.mono_l k
 unfold slices_IsSorted_int_int.f
 repeat' first
   | (with_reducible exact ih0 _ _)
   | (with_reducible exact LeO.refl _)
   | (with_reducible exact LeO.none _)
   | (with_reducible refine LeO.ite ?_ ?_)
   | (with_reducible refine LeO.bind ?_ (fun _ => ?_))
   | exact ih0 _ _
   | exact LeO.none _
   | refine LeO.ite ?_ ?_
   | refine LeO.bind ?_ (fun _ => ?_)
set_option maxHeartbeats 8000000 in
set_option maxRecDepth 100000 in
theorem slices_IsSorted_int_int.calls (k : Nat) (A0 : Option Addr) (c0 : Nat) (l0 : List Int) (r : Bool) (w : World) (hr0 : Kd.C (Kd.int .i64) w A0 l0.length l0) (hc0 : l0.length ≤ c0) (h : slices_IsSorted_int_int.f k l0 = some r) :
  Calls Try.prog 53 #[.slice A0 l0.length c0] w fun e w' => e = .returned (.bool r) ∧ Drawn0 w w' := by
 have HR0 := zA hr0
 have HC0 := zA hc0
 clear hr0 hc0
 have H : (slices_IsSorted_int_int.l0 k l0 (wrap64 ((l0.length : Int) - 1))) = some r := h
 clear h
 have H' := zA H
 clear H
 go_enter Try.func53, Try.ntmps53
 go_wp2
 repeat (go_quiet (fail); try go_wp2)
 go_loopg [3] k (fun kq v3 w' => ∃ (x3_1 : Int), v3 = .int .i64 x3_1 ∧ Aside0 (slices_IsSorted_int_int.l0 kq l0 x3_1 = some r) ∧ Aside0 (kq ≤ k) ∧ Drawn0 w w')
 case atStart => exact ⟨(wrap64 ((l0.length : Int) - 1)), (by first | rfl | (simp; done) | (simp [*]; done)), H', ⟨Nat.le_refl _⟩, by repeat (first | exact Drawn0.refl _ | apply Drawn0.step)⟩
 case round =>
  clear H'
  obtain ⟨x3_1, rfl, HA, HK1, ⟨m1, rfl⟩⟩ := hrel
  cases gk with
  | zero => exact absurd HA.out (by simp [slices_IsSorted_int_int.l0])
  | succ k1 =>
   have H := HA.out
   clear HA
   simp only [slices_IsSorted_int_int.l0] at H
   by_cases c2 : x3_1 > 0
   ·
    rw [if_pos c2] at H
    have c2b0 : decide (0 < x3_1) = true := decide_eq_true c2
    clear c2
    by_cases c3 : 0 ≤ x3_1
    ·
     rw [if_pos c3] at H
     have c3b0 : decide (0 ≤ x3_1) = true := decide_eq_true c3
     clear c3
     by_cases c4 : x3_1 < (l0.length : Int)
     ·
      rw [if_pos c4] at H
      have c4b0 : decide (x3_1 < (l0.length : Int)) = true := decide_eq_true c4
      clear c4
      obtain ⟨ji5, hji5⟩ : ∃ j_ : Int, (wrap64 (x3_1 - 1)) = j_ := ⟨_, rfl⟩
      replace H : (if 0 ≤ (ji5) then (if (ji5) < (l0.length : Int) then ((cmp_Less_int.f (rd l0 x3_1) (rd l0 (ji5))).bind fun t105 => (if t105 = true then (some false) else (slices_IsSorted_int_int.l0 k1 l0 ji5))) else (none)) else (none)) = some r := by first | (rw [hji5] at H; exact H) | (simp only [hji5] at H ⊢; exact H)
      have hji5w : (IntKind.i64.wrap (x3_1 - 1)) = ji5 := (i64_w _).trans hji5
      by_cases c6 : 0 ≤ (ji5)
      ·
       rw [if_pos c6] at H
       have c6b0 : decide (0 ≤ (ji5)) = true := decide_eq_true c6
       clear c6
       by_cases c7 : (ji5) < (l0.length : Int)
       ·
        rw [if_pos c7] at H
        have c7b0 : decide ((ji5) < (l0.length : Int)) = true := decide_eq_true c7
        clear c7
        replace H := Option.bind_eq_some_iff.mp H
        obtain ⟨t105, A80, H⟩ := H
        replace H : (if t105 = true then (some false) else (slices_IsSorted_int_int.l0 k1 l0 ji5)) = some r := H
        have A8 := zA A80
        clear A80
        by_cases c9 : t105 = true
        ·
         subst c9
         have H1 : (some false) = some r := by rw [if_pos rfl] at H; exact H
         clear H
         have H := H1
         clear H1
         obtain rfl := Option.some.inj H
         have p103 : 0 ≤ (x3_1 : Int) := of_decide_eq_true (by first | (with_reducible assumption) | assumption)
         have q103 : x3_1 < (l0.length : Int) := of_decide_eq_true (by first | (with_reducible assumption) | assumption)
         obtain ⟨ad103, e103, hx103_0⟩ := Kd.at_int HR0.out x3_1 p103 q103
         cases e103
         replace p103 := eq_true p103
         replace q103 := eq_true q103
         have p104 : 0 ≤ ((ji5) : Int) := of_decide_eq_true (by first | (with_reducible assumption) | assumption)
         have q104 : (ji5) < (l0.length : Int) := of_decide_eq_true (by first | (with_reducible assumption) | assumption)
         obtain ⟨ad104, e104, hx104_0⟩ := Kd.at_int HR0.out (ji5) p104 q104
         obtain rfl : ad103 = ad104 := (by injection e104)
         replace p104 := eq_true p104
         replace q104 := eq_true q104
         go_wp2_with (first | (go_at_call 82; (with_reducible refine (cmp_Less_int.calls (rd l0 x3_1) (rd l0 (ji5)) true _ A8.out).mono ?_); rintro e w' ⟨rfl, ⟨nd, rfl⟩⟩; (try first | exact ⟨rfl, _, World.drewN_drewN _ _ _⟩ | exact ⟨rfl, _, Eq.trans (World.drewN_drewN _ _ _) (congrArg (World.drewN _) (Nat.add_assoc _ _ _))⟩)))
         repeat (go_quiet (first | (go_at_call 82; (with_reducible refine (cmp_Less_int.calls (rd l0 x3_1) (rd l0 (ji5)) true _ A8.out).mono ?_); rintro e w' ⟨rfl, ⟨nd, rfl⟩⟩; (try first | exact ⟨rfl, _, World.drewN_drewN _ _ _⟩ | exact ⟨rfl, _, Eq.trans (World.drewN_drewN _ _ _) (congrArg (World.drewN _) (Nat.add_assoc _ _ _))⟩))); try go_wp2_with (first | (go_at_call 82; (with_reducible refine (cmp_Less_int.calls (rd l0 x3_1) (rd l0 (ji5)) true _ A8.out).mono ?_); rintro e w' ⟨rfl, ⟨nd, rfl⟩⟩; (try first | exact ⟨rfl, _, World.drewN_drewN _ _ _⟩ | exact ⟨rfl, _, Eq.trans (World.drewN_drewN _ _ _) (congrArg (World.drewN _) (Nat.add_assoc _ _ _))⟩))))
         go_ret
         exact ⟨by first | rfl | (simp; done) | (simp only [← hji5] <;> (first | rfl | simp)) | (simp [*]; done), by repeat (first | exact Drawn0.refl _ | apply Drawn0.step)⟩
        ·
         replace c9 := Bool.eq_false_iff.mpr c9
         subst c9
         have H1 : (slices_IsSorted_int_int.l0 k1 l0 ji5) = some r := by rw [if_neg (show ¬ (false = true) by decide)] at H; exact H
         clear H
         have H := H1
         clear H1
         have H' := zA H
         clear H
         have p103 : 0 ≤ (x3_1 : Int) := of_decide_eq_true (by first | (with_reducible assumption) | assumption)
         have q103 : x3_1 < (l0.length : Int) := of_decide_eq_true (by first | (with_reducible assumption) | assumption)
         obtain ⟨ad103, e103, hx103_0⟩ := Kd.at_int HR0.out x3_1 p103 q103
         cases e103
         replace p103 := eq_true p103
         replace q103 := eq_true q103
         have p104 : 0 ≤ ((ji5) : Int) := of_decide_eq_true (by first | (with_reducible assumption) | assumption)
         have q104 : (ji5) < (l0.length : Int) := of_decide_eq_true (by first | (with_reducible assumption) | assumption)
         obtain ⟨ad104, e104, hx104_0⟩ := Kd.at_int HR0.out (ji5) p104 q104
         obtain rfl : ad103 = ad104 := (by injection e104)
         replace p104 := eq_true p104
         replace q104 := eq_true q104
         go_wp2_with (first | (go_at_call 82; (with_reducible refine (cmp_Less_int.calls (rd l0 x3_1) (rd l0 (ji5)) false _ A8.out).mono ?_); rintro e w' ⟨rfl, ⟨nd, rfl⟩⟩; (try first | exact ⟨rfl, _, World.drewN_drewN _ _ _⟩ | exact ⟨rfl, _, Eq.trans (World.drewN_drewN _ _ _) (congrArg (World.drewN _) (Nat.add_assoc _ _ _))⟩)))
         repeat (go_quiet (first | (go_at_call 82; (with_reducible refine (cmp_Less_int.calls (rd l0 x3_1) (rd l0 (ji5)) false _ A8.out).mono ?_); rintro e w' ⟨rfl, ⟨nd, rfl⟩⟩; (try first | exact ⟨rfl, _, World.drewN_drewN _ _ _⟩ | exact ⟨rfl, _, Eq.trans (World.drewN_drewN _ _ _) (congrArg (World.drewN _) (Nat.add_assoc _ _ _))⟩))); try go_wp2_with (first | (go_at_call 82; (with_reducible refine (cmp_Less_int.calls (rd l0 x3_1) (rd l0 (ji5)) false _ A8.out).mono ?_); rintro e w' ⟨rfl, ⟨nd, rfl⟩⟩; (try first | exact ⟨rfl, _, World.drewN_drewN _ _ _⟩ | exact ⟨rfl, _, Eq.trans (World.drewN_drewN _ _ _) (congrArg (World.drewN _) (Nat.add_assoc _ _ _))⟩))))
         go_roundg k1
         case measure => have := HK1.out; omega
         case rel => exact ⟨(ji5), (by first | rfl | (simp; done) | (simp only [← hji5] <;> (first | rfl | simp)) | (simp [*]; done)), H', ⟨by have := HK1.out; omega⟩, by repeat (first | exact Drawn0.refl _ | apply Drawn0.step)⟩
       ·
        rw [if_neg c7] at H
        exact absurd H (by simp)
      ·
       rw [if_neg c6] at H
       exact absurd H (by simp)
     ·
      rw [if_neg c4] at H
      exact absurd H (by simp)
    ·
     rw [if_neg c3] at H
     exact absurd H (by simp)
   ·
    rw [if_neg c2] at H
    have c2b0 : decide (0 < x3_1) = false := decide_eq_false c2
    clear c2
    obtain rfl := Option.some.inj H
    go_wp2
    repeat (go_quiet (fail); try go_wp2)
    go_ret
    exact ⟨by first | rfl | (simp; done) | (simp [*]; done), by repeat (first | exact Drawn0.refl _ | apply Drawn0.step)⟩
end Go.Proofs.Ytfeeaipbmpmpgaa.PX

namespace Go.Proofs.Ytfeeaipbmpmpgaa.PX
open Go.RowKit Go.Proofs.YtfeeaipbmpmpgaaW.PrintWords Go.Proofs.YtfeeaipbmpmpgaaW.PrintLast Go.Proofs.YtfeeaipbmpmpgaaW.PrintMore
attribute [local go_sem] max2_int min2_int max_two min_two max_three min_three max_four min_four   -- for this text's walks alone
set_option linter.unusedVariables false
set_option linter.unusedSimpArgs false
/-! ### curve_within: function 52 -/
def curve_within.f (a0 : Int) (a1 : Int) : Option (Bool) := if a0 ≥ (wrap64 (-a1)) then (some (decide (a0 ≤ a1))) else (some false)
set_option maxHeartbeats 8000000 in
set_option maxRecDepth 100000 in
theorem curve_within.calls (a0 : Int) (a1 : Int) (r : Bool) (w : World) (h : curve_within.f a0 a1 = some r) :
  Calls Try.prog 52 #[.int .i64 a0, .int .i64 a1] w fun e w' => e = .returned (.bool r) ∧ Drawn0 w w' := by
 have H : (if a0 ≥ (wrap64 (-a1)) then (some (decide (a0 ≤ a1))) else (some false)) = some r := h
 clear h
 by_cases c3 : a0 ≥ (wrap64 (-a1))
 ·
  rw [if_pos c3] at H
  have c3b0 : decide ((wrap64 (-a1)) ≤ a0) = true := decide_eq_true c3
  clear c3
  obtain rfl := Option.some.inj H
  go_enter Try.func52, Try.ntmps52
  go_wp2
  go_ret
  exact ⟨by first | rfl | (simp; done) | (simp [*]; done), by repeat (first | exact Drawn0.refl _ | apply Drawn0.step)⟩
 ·
  rw [if_neg c3] at H
  have c3b0 : decide ((wrap64 (-a1)) ≤ a0) = false := decide_eq_false c3
  clear c3
  obtain rfl := Option.some.inj H
  go_enter Try.func52, Try.ntmps52
  go_wp2
  go_ret
  exact ⟨by first | rfl | (simp; done) | (simp [*]; done), by repeat (first | exact Drawn0.refl _ | apply Drawn0.step)⟩
end Go.Proofs.Ytfeeaipbmpmpgaa.PX

namespace Go.Proofs.Ytfeeaipbmpmpgaa.PX
open Go.RowKit Go.Proofs.YtfeeaipbmpmpgaaW.PrintWords Go.Proofs.YtfeeaipbmpmpgaaW.PrintLast Go.Proofs.YtfeeaipbmpmpgaaW.PrintMore
set_option linter.unusedVariables false
set_option linter.unusedSimpArgs false

/-- Is a number at most m away from 0? -/
def wi (n m : Int) : Bool := decide (-m ≤ n) && decide (n ≤ m)
def srt (l : List Int) : Bool := decide (l.Pairwise (· ≤ ·))
def valB (a b : Int) (l : List Int) : Bool := wi a 1048576 && (wi b 1099511627776 && (decide (l.length ≤ 64) && (srt l && l.all fun s => wi s 1048576)))
def curve_Valid.f (a b : Int) (l : List Int) : Option Bool := some (valB a b l)

theorem within_calls (a m : Int) (h0 : 0 ≤ m) (h1 : m ≤ 1099511627776) (w : World) :
    Calls Try.prog 52 #[.int .i64 a, .int .i64 m] w fun e w' => e = .returned (.bool (wi a m)) ∧ w = w' := by
  have h2 : -9223372036854775808 ≤ -m := by omega
  have h3 : -m ≤ 9223372036854775807 := by omega
  by_cases c : -m ≤ a
  · have hw : wi a m = decide (a ≤ m) := by unfold wi; simp [c]
    have HW := Aside0.mk hw
    clear hw
    go_enter Try.func52, Try.ntmps52
    go_wp2
    go_ret
    exact ⟨by rw [HW.out]; rfl, rfl⟩
  · have hw : wi a m = false := by unfold wi; simp [c]
    have HW := Aside0.mk hw
    clear hw
    have c' : decide (-m ≤ a) = false := decide_eq_false c
    clear c
    go_enter Try.func52, Try.ntmps52
    go_wp2
    go_ret
    exact ⟨by rw [HW.out]; rfl, rfl⟩

theorem valid1_calls (s : Int) (w : World) :
    Calls Try.prog 55 #[.int .i64 s] w fun e w' => e = .returned (.bool (!wi s 1048576)) ∧ w = w' := by
  go_enter Try.func55, Try.ntmps55
  go_wp2_with (go_at_call 52; (with_reducible refine (within_calls _ _ (by decide) (by decide) _).mono ?_); rintro e w' ⟨rfl, rfl⟩)
  go_ret
  exact ⟨rfl, rfl⟩

theorem any_take_succ (p : Int → Bool) (l : List Int) (k : Nat) (h : k < l.length) : (l.take (k + 1)).any p = ((l.take k).any p || p (rd l (k : Int))) := by
  rw [List.take_succ_eq_append_getElem h, List.any_append]
  simp [rd, List.getD_eq_getElem?_getD, List.getElem?_eq_getElem h]
theorem any_of_take (p : Int → Bool) (l : List Int) (k : Nat) (h : (l.take k).any p = true) : l.any p = true := by
  rw [List.any_eq_true] at h ⊢
  obtain ⟨x, hx, hp⟩ := h
  exact ⟨x, List.mem_of_mem_take hx, hp⟩
/-- The index that IndexFunc tells is from 0 on just if some number is told true. -/
def AnyIdx (p : Int → Bool) (l : List Int) (e : Ending) : Prop := ∃ i : Int, e = .returned (.int .i64 i) ∧ (decide (0 ≤ i)) = l.any p

set_option maxHeartbeats 8000000 in
/-- IndexFunc with a function that tells a number's answer by p. -/
theorem indexFunc_calls (p : Int → Bool) (A : Option Addr) (c : Nat) (l : List Int) (w : World) (hr : Kd.C (Kd.int .i64) w A l.length l) (hc : l.length ≤ c)
    (hp : ∀ s w, Calls Try.prog 55 #[.int .i64 s] w fun e w' => e = .returned (.bool (p s)) ∧ w = w') :
    Calls Try.prog 83 #[.slice A l.length c, .func (.func 55) #[] #[]] w fun e w' => AnyIdx p l e ∧ w = w' := by
  have HR := Aside0.mk hr
  have HP := Aside0.mk hp
  have hmax : l.length ≤ 9223372036854775807 := hr.2.1
  clear hr hp
  go_enter Try.func83, Try.ntmps83
  go_wp2
  go_loop [4, 5, 8] (fun r j i => ∃ k : Nat, k ≤ l.length ∧ r = .int .i64 0 ∧ i = .int .i64 (k : Int) ∧ Aside0 ((l.take k).any p = false)) (fun _ _ i => l.length - (intOf i).toNat)
  case atStart => exact ⟨0, by omega, rfl, rfl, ⟨rfl⟩⟩
  case round =>
    obtain ⟨k, hk, rfl, rfl, HN⟩ := hrel
    by_cases hlt : k < l.length
    · obtain ⟨ad, rfl, hx⟩ := Kd.at_int HR.out (k : Int) (by omega) (by omega)
      rw [Int.toNat_natCast] at hx
      have hn := any_take_succ p l k hlt
      rw [HN.out, Bool.false_or] at hn
      cases hb : p (rd l (k : Int)) with
      | true =>
        have ha : l.any p = true := any_of_take p l (k + 1) (hn.trans hb)
        have HA := Aside0.mk ha
        clear ha hn
        have HE := fun w => (HP.out (rd l (k : Int)) w)
        rw [hb] at HE
        clear hb HP
        go_wp2_with (go_at_call 55; (with_reducible refine (HE _).mono ?_); rintro e w' ⟨rfl, rfl⟩)
        go_ret
        exact ⟨⟨k, rfl, by rw [HA.out]; simp⟩, rfl⟩
      | false =>
        rw [hb] at hn
        have HN' := Aside0.mk hn
        clear hn HN
        have HE := fun w => (HP.out (rd l (k : Int)) w)
        rw [hb] at HE
        clear hb
        go_wp2_with (go_at_call 55; (with_reducible refine (HE _).mono ?_); rintro e w' ⟨rfl, rfl⟩)
        go_round
        case rel => exact ⟨k + 1, by omega, rfl, by go_num, HN'⟩
        case measure => simp [intOf]; omega
    · obtain rfl : k = l.length := by omega
      go_wp2
      go_ret
      exact ⟨⟨-1, rfl, by have := HN.out; rw [List.take_length] at this; rw [this]; rfl⟩, rfl⟩

set_option maxHeartbeats 8000000 in
theorem containsFunc_calls (p : Int → Bool) (A : Option Addr) (c : Nat) (l : List Int) (w : World) (hr : Kd.C (Kd.int .i64) w A l.length l) (hc : l.length ≤ c)
    (hp : ∀ s w, Calls Try.prog 55 #[.int .i64 s] w fun e w' => e = .returned (.bool (p s)) ∧ w = w') :
    Calls Try.prog 54 #[.slice A l.length c, .func (.func 55) #[] #[]] w fun e w' => e = .returned (.bool (l.any p)) ∧ w = w' := by
  have HI := Aside0.mk (fun w1 (h1 : Kd.C (Kd.int .i64) w1 A l.length l) => indexFunc_calls p A c l w1 h1 hc hp)
  have HR := Aside0.mk hr
  clear hr hp
  go_enter Try.func54, Try.ntmps54
  go_wp2_with (go_at_call 83; (with_reducible refine (HI.out _ HR.out).mono ?_); rintro e w' ⟨⟨i, rfl, hi⟩, rfl⟩; have HI2 := Aside0.mk hi; clear hi)
  go_ret
  exact ⟨by rw [← HI2.out]; rfl, rfl⟩

/-! ### sorted -/
theorem srt_snoc (l : List Int) (x y : Int) : srt (l ++ [x, y]) = (srt (l ++ [x]) && decide (x ≤ y)) := by
  unfold srt
  rw [Bool.eq_iff_iff]
  simp only [Bool.and_eq_true, decide_eq_true_eq]
  rw [show l ++ [x, y] = (l ++ [x]) ++ [y] from by simp, List.pairwise_append]
  constructor
  · rintro ⟨h1, _, h3⟩
    exact ⟨h1, h3 x (by simp) y (by simp)⟩
  · rintro ⟨h1, h2⟩
    refine ⟨h1, List.pairwise_singleton _ _, fun a ha b hb => ?_⟩
    have : b = y := by simpa using hb
    subst this
    rcases List.mem_append.1 ha with ha | ha
    · have := (List.pairwise_append.1 h1).2.2 a ha x (by simp)
      omega
    · have : a = x := by simpa using ha
      omega
theorem take_two (l : List Int) (n : Nat) (h : n + 1 < l.length) : l.take (n + 2) = l.take n ++ [l[n], l[n + 1]] := by
  have h1 : l.take (n + 1 + 1) = l.take (n + 1) ++ [l[n + 1]] := List.take_succ_eq_append_getElem h
  have h2 : l.take (n + 1) = l.take n ++ [l[n]] := List.take_succ_eq_append_getElem (by omega)
  show l.take (n + 1 + 1) = _
  rw [h1, h2, List.append_assoc]
  rfl
theorem rd_getElem (l : List Int) (n : Nat) (h : n < l.length) : rd l (n : Int) = l[n] := by
  simp [rd, List.getD_eq_getElem?_getD, List.getElem?_eq_getElem h]
theorem less_some (a b : Int) : cmp_Less_int.f a b = some (decide (a < b)) := by
  unfold cmp_Less_int.f cmp_isNaN_int.f
  simp
theorem isSorted_l0 (l : List Int) (hm : l.length ≤ 9223372036854775807) (n : Nat) : ∀ k, n < l.length → n < k → slices_IsSorted_int_int.l0 k l (n : Int) = some (srt (l.take (n + 1))) := by
  induction n with
  | zero =>
    intro k h0 hk
    obtain ⟨k, rfl⟩ : ∃ m, k = m + 1 := ⟨k - 1, by omega⟩
    simp only [slices_IsSorted_int_int.l0]
    rw [if_neg (by omega)]
    congr 1
    rw [List.take_succ_eq_append_getElem h0]
    simp [srt]
  | succ n ih =>
    intro k h0 hk
    obtain ⟨k, rfl⟩ : ∃ m, k = m + 1 := ⟨k - 1, by omega⟩
    have hw : wrap64 (((n + 1 : Nat) : Int) - 1) = (n : Int) := by unfold wrap64; omega
    simp only [slices_IsSorted_int_int.l0]
    rw [hw, if_pos (by omega), if_pos (by omega), if_pos (by omega), if_pos (by omega), if_pos (by omega), less_some]
    simp only [Option.bind_some]
    have ht : l.take (n + 2) = l.take n ++ [l[n], l[n + 1]] := take_two l n h0
    have ht' : l.take (n + 1) = l.take n ++ [l[n]] := List.take_succ_eq_append_getElem (by omega)
    rw [rd_getElem l n (by omega), rd_getElem l (n + 1) h0]
    by_cases c : l[n + 1] < l[n]
    · rw [if_pos (by simpa using c), ht, srt_snoc]
      simp; intro _; omega
    · rw [if_neg (by simpa using c), ih k (by omega) (by omega), ht, srt_snoc, ht']
      have : l[n] ≤ l[n + 1] := by omega
      simp [this]
theorem isSorted_some (l : List Int) (hm : l.length ≤ 9223372036854775807) : slices_IsSorted_int_int.f (l.length + 1) l = some (srt l) := by
  unfold slices_IsSorted_int_int.f
  cases hl : l.length with
  | zero =>
    have : l = [] := List.length_eq_zero_iff.1 hl
    subst this
    simp [slices_IsSorted_int_int.l0, wrap64, srt]
  | succ n =>
    rw [show wrap64 (((n + 1 : Nat) : Int) - 1) = (n : Int) from by unfold wrap64; omega, isSorted_l0 l hm n _ (by omega) (by omega), ← hl, List.take_length]
theorem isSorted_calls (A : Option Addr) (c : Nat) (l : List Int) (w : World) (hr : Kd.C (Kd.int .i64) w A l.length l) (hc : l.length ≤ c) :
    Calls Try.prog 53 #[.slice A l.length c] w fun e w' => e = .returned (.bool (srt l)) ∧ Drawn0 w w' :=
  slices_IsSorted_int_int.calls _ A c l (srt l) w hr hc (isSorted_some l hr.2.1)

set_option maxHeartbeats 8000000 in
set_option maxRecDepth 100000 in
theorem curve_Valid.calls (a0_0 : Int) (a0_1 : Int) (A0_2 : Option Addr) (c0_2 : Nat) (l0_2 : List Int) (r : Bool) (w : World) (hr0_2 : Kd.C (Kd.int .i64) w A0_2 l0_2.length l0_2) (hc0_2 : l0_2.length ≤ c0_2) (h : curve_Valid.f a0_0 a0_1 l0_2 = some r) :
    Calls Try.prog 16 #[.agg #[.int .i64 a0_0, .int .i64 a0_1, .slice A0_2 l0_2.length c0_2]] w fun e w' => e = .returned (.bool r) ∧ Below w.heap.size w w' := by
  have hu24 := Try.underlying24
  obtain rfl := Option.some.inj h
  clear h
  have hmax : l0_2.length ≤ 9223372036854775807 := hr0_2.2.1
  have HS := Aside0.mk (fun w1 h1 => isSorted_calls A0_2 c0_2 l0_2 w1 h1 hc0_2)
  have HF := Aside0.mk (fun w1 h1 => containsFunc_calls (fun s => !wi s 1048576) A0_2 c0_2 l0_2 w1 h1 hc0_2 valid1_calls)
  have HR := Aside0.mk hr0_2
  have HRa := Aside0.mk (fun (o : Obj) => Kd.C_below hr0_2 (below_alloc (Below.refl _ w) o))
  unfold valB
  cases h1 : wi a0_0 1048576 with
  | false =>
    go_enter Try.func16, Try.ntmps16
    go_wp2_with (go_at_call 52; (with_reducible refine (within_calls _ _ (by decide) (by decide) _).mono ?_); rintro e w' ⟨rfl, rfl⟩)
    go_ret
    exact ⟨rfl, below_alloc (Below.refl _ _) _⟩
  | true =>
  cases h2 : wi a0_1 1099511627776 with
  | false =>
    go_enter Try.func16, Try.ntmps16
    go_wp2_with (go_at_call 52; (with_reducible refine (within_calls _ _ (by decide) (by decide) _).mono ?_); rintro e w' ⟨rfl, rfl⟩)
    go_ret
    exact ⟨rfl, below_alloc (Below.refl _ _) _⟩
  | true =>
  by_cases h3 : l0_2.length ≤ 64
  · have h3' : decide (64 < l0_2.length) = false := decide_eq_false (by omega)
    cases h4 : srt l0_2 with
    | false =>
      rw [h4] at HS
      go_enter Try.func16, Try.ntmps16
      go_wp2_with (first | (go_at_call 52; (with_reducible refine (within_calls _ _ (by decide) (by decide) _).mono ?_); rintro e w' ⟨rfl, rfl⟩) | (go_at_call 53; (with_reducible refine (HS.out _ (HRa.out _)).mono ?_); rintro e w' ⟨rfl, ⟨nd, rfl⟩⟩))
      go_ret
      exact ⟨by simp [h3], pw_below_drewN (below_alloc (Below.refl _ _) _) _⟩
    | true =>
      rw [h4] at HS
      go_enter Try.func16, Try.ntmps16
      go_wp2_with (first | (go_at_call 52; (with_reducible refine (within_calls _ _ (by decide) (by decide) _).mono ?_); rintro e w' ⟨rfl, rfl⟩) | (go_at_call 53; (with_reducible refine (HS.out _ (HRa.out _)).mono ?_); rintro e w' ⟨rfl, ⟨nd, rfl⟩⟩) | (go_at_call 54; (with_reducible refine (HF.out _ (by first | exact HRa.out _ | exact Kd.C_drewN (HRa.out _) _)).mono ?_); rintro e w' ⟨rfl, rfl⟩))
      go_ret
      exact ⟨by simp [h3, List.not_all_eq_any_not], pw_below_drewN (below_alloc (Below.refl _ _) _) _⟩
  · have h3' : decide (64 < l0_2.length) = true := decide_eq_true (by omega)
    go_enter Try.func16, Try.ntmps16
    go_wp2_with (go_at_call 52; (with_reducible refine (within_calls _ _ (by decide) (by decide) _).mono ?_); rintro e w' ⟨rfl, rfl⟩)
    go_ret
    exact ⟨by simp [h3], below_alloc (Below.refl _ _) _⟩
end Go.Proofs.Ytfeeaipbmpmpgaa.PX

namespace Go.Proofs.Ytfeeaipbmpmpgaa.PX
open Go.RowKit Go.Proofs.YtfeeaipbmpmpgaaW.PrintWords Go.Proofs.YtfeeaipbmpmpgaaW.PrintLast Go.Proofs.YtfeeaipbmpmpgaaW.PrintMore
attribute [local go_sem] max2_int min2_int max_two min_two max_three min_three max_four min_four   -- for this text's walks alone
set_option linter.unusedVariables false
set_option linter.unusedSimpArgs false
/-! ### curve_made: function 51 -/
def curve_made.f (a0_0 : Int) (a0_1 : Int) (l0_2 : List Int) : Option (Int × Int × List Int × Int) := (curve_Valid.f a0_0 a0_1 l0_2).bind fun t206 => (if t206 = true then (some (a0_0, a0_1, l0_2, 0)) else (some (0, 0, ([] : List Int), 4)))
set_option maxHeartbeats 8000000 in
set_option maxRecDepth 100000 in
theorem curve_made.calls (a0_0 : Int) (a0_1 : Int) (P0_2_ : Nat → Prop) (u9000_ : Value) (l0_2 : List Int) (r1 : Int) (r2 : Int) (r3 : List Int) (r4 : Int) (w0 w : World) (hB : Below w0.heap.size w0 w) (ho0_2 : Kd.R (Kd.int .i64) 3 w w0.heap.size P0_2_ u9000_ l0_2) (h : curve_made.f a0_0 a0_1 l0_2 = some (r1, r2, r3, r4)) :
  Calls Try.prog 51 #[.agg #[.int .i64 a0_0, .int .i64 a0_1, u9000_]] w fun e w' => ∃ v2_ : Value, e = .returned (.tuple #[.agg #[.int .i64 r1, .int .i64 r2, v2_], .int .i64 r4]) ∧ Kd.R (Kd.int .i64) 3 w' w0.heap.size (fun k_ => (P0_2_ k_ ∨ w.heap.size ≤ k_)) v2_ r3 ∧ Below w0.heap.size w0 w' ∧ Kept w w' (fun k_ => P0_2_ k_) := by
 have hu24 := Try.underlying24
 have HO0_2 := zA (show Kd.R (Kd.int .i64) 3 w w0.heap.size (fun k_ => (P0_2_ k_ ∨ w.heap.size ≤ k_)) u9000_ l0_2 from Kd.R_mono ho0_2 (fun k_ hk => (.inl hk)))
 have HK := zA (Kept.refl w (fun k_ => P0_2_ k_))
 have HW0 := zA hB.size
 have HB := zA hB
 clear hB
 have H : ((curve_Valid.f a0_0 a0_1 l0_2).bind fun t206 => (if t206 = true then (some (a0_0, a0_1, l0_2, 0)) else (some (0, 0, ([] : List Int), 4)))) = some (r1, r2, r3, r4) := h
 clear h
 replace H := Option.bind_eq_some_iff.mp H
 obtain ⟨t206, A20, H⟩ := H
 replace H : (if t206 = true then (some (a0_0, a0_1, l0_2, 0)) else (some (0, 0, ([] : List Int), 4))) = some (r1, r2, r3, r4) := H
 have A2 := zA A20
 clear A20
 by_cases c3 : t206 = true
 ·
  subst c3
  have H1 : (some (a0_0, a0_1, l0_2, 0)) = some (r1, r2, r3, r4) := by rw [if_pos rfl] at H; exact H
  clear H
  have H := H1
  clear H1
  simp only [Option.some.injEq, Prod.mk.injEq] at H
  obtain ⟨rfl, rfl, rfl, rfl⟩ := H
  obtain ⟨Ao4, co4, eo4⟩ := Kd.R_slice HO0_2.out
  subst eo4
  go_enter Try.func51, Try.ntmps51
  go_wp2_with (first | ((with_reducible refine gate_dst (N := 1) rfl ?_); refine box_event ?hg (N := 1) ?hd (cs := #[.int .i64 a0_0, .int .i64 a0_1, .slice Ao4 l0_2.length co4]) (t := 24) ?hr ?_; (case hd => rfl); (case hg => rfl); (case hr => first | (go_simp; done) | (go_simp; rfl)); intro gA hg w5 hbox hb; have n0_ := zA (Kd.R_below (by (with_reducible repeat (first | apply Kd.R_alloc | apply Kd.R_drewN | apply Kd.R_drew)); exact HO0_2.out) hb); have n1_ := zA (Kept.below (S := (fun k_ => P0_2_ k_)) (by repeat (first | (with_reducible first | exact HK.out | apply Kept.alloc | apply Kept.drewN | apply Kept.drew) | exact HK.out)) hb); have n2_ := zA (below_step (by repeat (first | (with_reducible first | exact HB.out | apply zW | apply zX | apply zY) | exact HB.out)) hb); have n3_ := zA (hbox); have n4_ := zA ((by rw [hg]; exact (by first | exact HK.out.1 | exact (show Kept w _ (fun k_ => P0_2_ k_) from by repeat (first | (with_reducible first | exact HK.out | apply Kept.alloc | apply Kept.drewN | apply Kept.drew) | exact HK.out)).1) : w.heap.size ≤ gA)); have n5_ := zA ((by rw [hg]; exact (below_size (by repeat (first | (with_reducible first | exact HB.out | apply zW | apply zX | apply zY) | exact HB.out))) : w0.heap.size ≤ gA)); clear HO0_2; clear HK; clear HB; have HO0_2 := n0_; have HK := n1_; have HB := n2_; have BK3I := n3_; have GW3I := n4_; have GE3I := n5_; clear n0_ n1_ n2_ n3_ n4_ n5_; clear hb hbox hg) | ((with_reducible refine gate_dst (N := 2) rfl ?_); refine box_event ?hg (N := 2) ?hd (cs := #[.int .i64 0, .int .i64 0, .slice none 0 0]) (t := 24) ?hr ?_; (case hd => rfl); (case hg => rfl); (case hr => first | (go_simp; done) | (go_simp; rfl)); intro gB hg w6 hbox hb; have n0_ := zA (Kd.R_below (by (with_reducible repeat (first | apply Kd.R_alloc | apply Kd.R_drewN | apply Kd.R_drew)); exact HO0_2.out) hb); have n1_ := zA (blk_below (g := gA) (o := .cells #[.int .i64 a0_0, .int .i64 a0_1, .slice Ao4 l0_2.length co4] 24 (0, 0)) (by (with_reducible repeat (first | refine zN ?_ _ | refine zD ?_ | refine zB ?_ _)); exact BK3I.out) hb); have n2_ := zA (Kept.below (S := (fun k_ => P0_2_ k_)) (by repeat (first | (with_reducible first | exact HK.out | apply Kept.alloc | apply Kept.drewN | apply Kept.drew | refine Kept.setCell ?_ (.inr GW3I.out) _) | exact HK.out)) hb); have n3_ := zA (below_step (by repeat (first | (with_reducible first | exact HB.out | apply zW | apply zX | apply zY | refine zS ?_ GE3I.out) | exact HB.out)) hb); have n4_ := zA (hbox); have n5_ := zA ((by rw [hg]; exact (by first | exact HK.out.1 | exact (show Kept w _ (fun k_ => P0_2_ k_) from by repeat (first | (with_reducible first | exact HK.out | apply Kept.alloc | apply Kept.drewN | apply Kept.drew | refine Kept.setCell ?_ (.inr GW3I.out) _) | exact HK.out)).1) : w.heap.size ≤ gB)); have n6_ := zA ((by rw [hg]; exact (below_size (by repeat (first | (with_reducible first | exact HB.out | apply zW | apply zX | apply zY | refine zS ?_ GE3I.out) | exact HB.out))) : w0.heap.size ≤ gB)); have n7_ := zA ((by rw [hg]; exact Nat.ne_of_lt (blk_lt (g := gA) (o := .cells #[.int .i64 a0_0, .int .i64 a0_1, .slice Ao4 l0_2.length co4] 24 (0, 0)) (by (with_reducible repeat (first | refine zN ?_ _ | refine zD ?_ | refine zB ?_ _)); exact BK3I.out)) : gA ≠ gB)); have n8_ := zA ((by rw [hg]; exact Nat.ne_of_gt (blk_lt (g := gA) (o := .cells #[.int .i64 a0_0, .int .i64 a0_1, .slice Ao4 l0_2.length co4] 24 (0, 0)) (by (with_reducible repeat (first | refine zN ?_ _ | refine zD ?_ | refine zB ?_ _)); exact BK3I.out)) : gB ≠ gA)); clear HO0_2; clear BK3I; clear HK; clear HB; have HO0_2 := n0_; have BK3I := n1_; have HK := n2_; have HB := n3_; have BK3J := n4_; have GW3J := n5_; have GE3J := n6_; have NB204_205 := n7_; have NB205_204 := n8_; clear n0_ n1_ n2_ n3_ n4_ n5_ n6_ n7_ n8_; clear hb hbox hg; have hnb7 := NB204_205.out; have hnc7 := NB205_204.out; have hcz8_0 : w6.cell? ⟨gA, 0, none⟩ = some (.int .i64 a0_0) := (blk_cell BK3I.out 0).trans rfl; have hcz8_1 : w6.cell? ⟨gA, 1, none⟩ = some (.int .i64 a0_1) := (blk_cell BK3I.out 1).trans rfl; have hcz8_2 : w6.cell? ⟨gA, 2, none⟩ = some (.slice Ao4 l0_2.length co4) := (blk_cell BK3I.out 2).trans rfl; have hfz8_0 := blk_frozen BK3I.out 0; have hfz8_1 := blk_frozen BK3I.out 1; have hfz8_2 := blk_frozen BK3I.out 2) | ((with_reducible refine gate_callee (f := 16) rfl ?_); refine goesL_ (some 5) rfl rfl Try.func16 (by kernel_rfl) rfl #[.agg #[.int .i64 a0_0, .int .i64 a0_1, .slice Ao4 l0_2.length co4]] rfl (by (try simp only [List.map_toArray, List.map_cons, List.map_nil]); first | done | rfl | (simp only [List.length_drop, List.length_take]; rfl)) ?_; (with_reducible refine (curve_Valid.calls a0_0 a0_1 _ _ l0_2 true _ ?side1 ?side2 A2.out).mono ?_); (case side1 => repeat (first | exact (Kd.R_reads' HO0_2.out).2.2 | (with_reducible refine Kd.C_alloc ?_ _) | (with_reducible refine Kd.C_drewN ?_ _) | (with_reducible refine Kd.C_drew ?_))); (case side2 => exact (Kd.R_reads' HO0_2.out).2.1); rintro e w9 ⟨rfl, hb⟩; refine ⟨_, rfl, ?_⟩; have n0_ := zA (Kd.R_below (by (with_reducible repeat (first | apply Kd.R_alloc | apply Kd.R_drewN | apply Kd.R_drew)); exact HO0_2.out) hb); have n1_ := zA (blk_below (g := gA) (o := .cells #[.int .i64 a0_0, .int .i64 a0_1, .slice Ao4 l0_2.length co4] 24 (0, 0)) (by (with_reducible repeat (first | refine zN ?_ _ | refine zD ?_ | refine zB ?_ _)); exact BK3I.out) hb); have n2_ := zA (blk_below (g := gB) (o := .cells #[.int .i64 0, .int .i64 0, .slice none 0 0] 24 (0, 0)) (by (with_reducible repeat (first | refine zN ?_ _ | refine zD ?_ | refine zB ?_ _)); exact BK3J.out) hb); have n3_ := zA (Kept.below (S := (fun k_ => P0_2_ k_)) (by repeat (first | (with_reducible first | exact HK.out | apply Kept.alloc | apply Kept.drewN | apply Kept.drew | refine Kept.setCell ?_ (.inr GW3I.out) _ | refine Kept.setCell ?_ (.inr GW3J.out) _) | exact HK.out)) hb); have n4_ := zA (below_step (by repeat (first | (with_reducible first | exact HB.out | apply zW | apply zX | apply zY | refine zS ?_ GE3I.out | refine zS ?_ GE3J.out) | exact HB.out)) hb); clear HO0_2; clear BK3I; clear BK3J; clear HK; clear HB; have HO0_2 := n0_; have BK3I := n1_; have BK3J := n2_; have HK := n3_; have HB := n4_; clear n0_ n1_ n2_ n3_ n4_; (try clear hb); (try clear hb2); (try clear hk); (try clear hi); have hcz10_0 : w9.cell? ⟨gA, 0, none⟩ = some (.int .i64 a0_0) := (blk_cell BK3I.out 0).trans rfl; have hcz10_1 : w9.cell? ⟨gA, 1, none⟩ = some (.int .i64 a0_1) := (blk_cell BK3I.out 1).trans rfl; have hcz10_2 : w9.cell? ⟨gA, 2, none⟩ = some (.slice Ao4 l0_2.length co4) := (blk_cell BK3I.out 2).trans rfl; have hfz10_0 := blk_frozen BK3I.out 0; have hfz10_1 := blk_frozen BK3I.out 1; have hfz10_2 := blk_frozen BK3I.out 2; have hcz11_0 : w9.cell? ⟨gB, 0, none⟩ = some (.int .i64 0) := (blk_cell BK3J.out 0).trans rfl; have hcz11_1 : w9.cell? ⟨gB, 1, none⟩ = some (.int .i64 0) := (blk_cell BK3J.out 1).trans rfl; have hcz11_2 : w9.cell? ⟨gB, 2, none⟩ = some (.slice none 0 0) := (blk_cell BK3J.out 2).trans rfl; have hfz11_0 := blk_frozen BK3J.out 0; have hfz11_1 := blk_frozen BK3J.out 1; have hfz11_2 := blk_frozen BK3J.out 2))
  refine bodyPost_ret (results_ct rfl _ _ gB 24 #[.int .i64 a0_0, .int .i64 a0_1, .slice Ao4 l0_2.length co4] (0, 0) _ rfl (by (with_reducible repeat (first | refine zN ?_ _ | refine zD ?_ | refine zB ?_ _)); refine blk_put (cs := #[.int .i64 a0_0, .int .i64 a0_1, .slice none 0 0]) ?_ 2 _ rfl; (with_reducible repeat (first | refine zN ?_ _ | refine zD ?_ | refine zB ?_ _)); refine blk_put (cs := #[.int .i64 a0_0, .int .i64 0, .slice none 0 0]) ?_ 1 _ rfl; (with_reducible repeat (first | refine zN ?_ _ | refine zD ?_ | refine zB ?_ _)); refine blk_put (cs := #[.int .i64 0, .int .i64 0, .slice none 0 0]) ?_ 0 _ rfl; (with_reducible repeat (first | refine zN ?_ _ | refine zD ?_ | refine zB ?_ _)); exact BK3J.out) Try.underlying24 rfl (by kernel_rfl)) rfl ?_
  exact ⟨_, by first | rfl | (simp [errW_none, errW_some] <;> rfl) | (simp [*, errW_none, errW_some] <;> rfl), by (with_reducible repeat (first | apply Kd.R_alloc | apply Kd.R_drewN | apply Kd.R_drew)); exact Kd.R_mono (Kd.R_far (p := ⟨gB, 2, none⟩) (Kd.R_far (p := ⟨gB, 1, none⟩) (Kd.R_far (p := ⟨gB, 0, none⟩) (Kd.R_types HO0_2.out BK3J.out (by decide)) (fun _ hk => hk.2) (.int .i64 a0_0)) (fun _ hk => hk.2) (.int .i64 a0_1)) (fun _ hk => hk.2) (.slice Ao4 l0_2.length co4)) (fun _ hk => hk.1), by repeat (first | (with_reducible first | exact HB.out | apply zW | apply zX | apply zY | refine zS ?_ GE3I.out | refine zS ?_ GE3J.out) | exact HB.out), by repeat (first | (with_reducible first | exact HK.out | apply Kept.alloc | apply Kept.drewN | apply Kept.drew | refine Kept.setCell ?_ (.inr GW3I.out) _ | refine Kept.setCell ?_ (.inr GW3J.out) _) | exact HK.out)⟩
 ·
  replace c3 := Bool.eq_false_iff.mpr c3
  subst c3
  have H1 : (some (0, 0, ([] : List Int), 4)) = some (r1, r2, r3, r4) := by rw [if_neg (show ¬ (false = true) by decide)] at H; exact H
  clear H
  have H := H1
  clear H1
  simp only [Option.some.injEq, Prod.mk.injEq] at H
  obtain ⟨rfl, rfl, rfl, rfl⟩ := H
  obtain ⟨Ao12, co12, eo12⟩ := Kd.R_slice HO0_2.out
  subst eo12
  go_enter Try.func51, Try.ntmps51
  go_wp2_with (first | ((with_reducible refine gate_dst (N := 1) rfl ?_); refine box_event ?hg (N := 1) ?hd (cs := #[.int .i64 a0_0, .int .i64 a0_1, .slice Ao12 l0_2.length co12]) (t := 24) ?hr ?_; (case hd => rfl); (case hg => rfl); (case hr => first | (go_simp; done) | (go_simp; rfl)); intro gA hg w13 hbox hb; have n0_ := zA (Kd.R_below (by (with_reducible repeat (first | apply Kd.R_alloc | apply Kd.R_drewN | apply Kd.R_drew)); exact HO0_2.out) hb); have n1_ := zA (Kept.below (S := (fun k_ => P0_2_ k_)) (by repeat (first | (with_reducible first | exact HK.out | apply Kept.alloc | apply Kept.drewN | apply Kept.drew) | exact HK.out)) hb); have n2_ := zA (below_step (by repeat (first | (with_reducible first | exact HB.out | apply zW | apply zX | apply zY) | exact HB.out)) hb); have n3_ := zA (hbox); have n4_ := zA ((by rw [hg]; exact (by first | exact HK.out.1 | exact (show Kept w _ (fun k_ => P0_2_ k_) from by repeat (first | (with_reducible first | exact HK.out | apply Kept.alloc | apply Kept.drewN | apply Kept.drew) | exact HK.out)).1) : w.heap.size ≤ gA)); have n5_ := zA ((by rw [hg]; exact (below_size (by repeat (first | (with_reducible first | exact HB.out | apply zW | apply zX | apply zY) | exact HB.out))) : w0.heap.size ≤ gA)); clear HO0_2; clear HK; clear HB; have HO0_2 := n0_; have HK := n1_; have HB := n2_; have BK3I := n3_; have GW3I := n4_; have GE3I := n5_; clear n0_ n1_ n2_ n3_ n4_ n5_; clear hb hbox hg) | ((with_reducible refine gate_dst (N := 2) rfl ?_); refine box_event ?hg (N := 2) ?hd (cs := #[.int .i64 0, .int .i64 0, .slice none 0 0]) (t := 24) ?hr ?_; (case hd => rfl); (case hg => rfl); (case hr => first | (go_simp; done) | (go_simp; rfl)); intro gB hg w14 hbox hb; have n0_ := zA (Kd.R_below (by (with_reducible repeat (first | apply Kd.R_alloc | apply Kd.R_drewN | apply Kd.R_drew)); exact HO0_2.out) hb); have n1_ := zA (blk_below (g := gA) (o := .cells #[.int .i64 a0_0, .int .i64 a0_1, .slice Ao12 l0_2.length co12] 24 (0, 0)) (by (with_reducible repeat (first | refine zN ?_ _ | refine zD ?_ | refine zB ?_ _)); exact BK3I.out) hb); have n2_ := zA (Kept.below (S := (fun k_ => P0_2_ k_)) (by repeat (first | (with_reducible first | exact HK.out | apply Kept.alloc | apply Kept.drewN | apply Kept.drew | refine Kept.setCell ?_ (.inr GW3I.out) _) | exact HK.out)) hb); have n3_ := zA (below_step (by repeat (first | (with_reducible first | exact HB.out | apply zW | apply zX | apply zY | refine zS ?_ GE3I.out) | exact HB.out)) hb); have n4_ := zA (hbox); have n5_ := zA ((by rw [hg]; exact (by first | exact HK.out.1 | exact (show Kept w _ (fun k_ => P0_2_ k_) from by repeat (first | (with_reducible first | exact HK.out | apply Kept.alloc | apply Kept.drewN | apply Kept.drew | refine Kept.setCell ?_ (.inr GW3I.out) _) | exact HK.out)).1) : w.heap.size ≤ gB)); have n6_ := zA ((by rw [hg]; exact (below_size (by repeat (first | (with_reducible first | exact HB.out | apply zW | apply zX | apply zY | refine zS ?_ GE3I.out) | exact HB.out))) : w0.heap.size ≤ gB)); have n7_ := zA ((by rw [hg]; exact Nat.ne_of_lt (blk_lt (g := gA) (o := .cells #[.int .i64 a0_0, .int .i64 a0_1, .slice Ao12 l0_2.length co12] 24 (0, 0)) (by (with_reducible repeat (first | refine zN ?_ _ | refine zD ?_ | refine zB ?_ _)); exact BK3I.out)) : gA ≠ gB)); have n8_ := zA ((by rw [hg]; exact Nat.ne_of_gt (blk_lt (g := gA) (o := .cells #[.int .i64 a0_0, .int .i64 a0_1, .slice Ao12 l0_2.length co12] 24 (0, 0)) (by (with_reducible repeat (first | refine zN ?_ _ | refine zD ?_ | refine zB ?_ _)); exact BK3I.out)) : gB ≠ gA)); clear HO0_2; clear BK3I; clear HK; clear HB; have HO0_2 := n0_; have BK3I := n1_; have HK := n2_; have HB := n3_; have BK3J := n4_; have GW3J := n5_; have GE3J := n6_; have NB204_205 := n7_; have NB205_204 := n8_; clear n0_ n1_ n2_ n3_ n4_ n5_ n6_ n7_ n8_; clear hb hbox hg; have hnb15 := NB204_205.out; have hnc15 := NB205_204.out; have hcz16_0 : w14.cell? ⟨gA, 0, none⟩ = some (.int .i64 a0_0) := (blk_cell BK3I.out 0).trans rfl; have hcz16_1 : w14.cell? ⟨gA, 1, none⟩ = some (.int .i64 a0_1) := (blk_cell BK3I.out 1).trans rfl; have hcz16_2 : w14.cell? ⟨gA, 2, none⟩ = some (.slice Ao12 l0_2.length co12) := (blk_cell BK3I.out 2).trans rfl; have hfz16_0 := blk_frozen BK3I.out 0; have hfz16_1 := blk_frozen BK3I.out 1; have hfz16_2 := blk_frozen BK3I.out 2) | ((with_reducible refine gate_callee (f := 16) rfl ?_); refine goesL_ (some 5) rfl rfl Try.func16 (by kernel_rfl) rfl #[.agg #[.int .i64 a0_0, .int .i64 a0_1, .slice Ao12 l0_2.length co12]] rfl (by (try simp only [List.map_toArray, List.map_cons, List.map_nil]); first | done | rfl | (simp only [List.length_drop, List.length_take]; rfl)) ?_; (with_reducible refine (curve_Valid.calls a0_0 a0_1 _ _ l0_2 false _ ?side1 ?side2 A2.out).mono ?_); (case side1 => repeat (first | exact (Kd.R_reads' HO0_2.out).2.2 | (with_reducible refine Kd.C_alloc ?_ _) | (with_reducible refine Kd.C_drewN ?_ _) | (with_reducible refine Kd.C_drew ?_))); (case side2 => exact (Kd.R_reads' HO0_2.out).2.1); rintro e w17 ⟨rfl, hb⟩; refine ⟨_, rfl, ?_⟩; have n0_ := zA (Kd.R_below (by (with_reducible repeat (first | apply Kd.R_alloc | apply Kd.R_drewN | apply Kd.R_drew)); exact HO0_2.out) hb); have n1_ := zA (blk_below (g := gA) (o := .cells #[.int .i64 a0_0, .int .i64 a0_1, .slice Ao12 l0_2.length co12] 24 (0, 0)) (by (with_reducible repeat (first | refine zN ?_ _ | refine zD ?_ | refine zB ?_ _)); exact BK3I.out) hb); have n2_ := zA (blk_below (g := gB) (o := .cells #[.int .i64 0, .int .i64 0, .slice none 0 0] 24 (0, 0)) (by (with_reducible repeat (first | refine zN ?_ _ | refine zD ?_ | refine zB ?_ _)); exact BK3J.out) hb); have n3_ := zA (Kept.below (S := (fun k_ => P0_2_ k_)) (by repeat (first | (with_reducible first | exact HK.out | apply Kept.alloc | apply Kept.drewN | apply Kept.drew | refine Kept.setCell ?_ (.inr GW3I.out) _ | refine Kept.setCell ?_ (.inr GW3J.out) _) | exact HK.out)) hb); have n4_ := zA (below_step (by repeat (first | (with_reducible first | exact HB.out | apply zW | apply zX | apply zY | refine zS ?_ GE3I.out | refine zS ?_ GE3J.out) | exact HB.out)) hb); clear HO0_2; clear BK3I; clear BK3J; clear HK; clear HB; have HO0_2 := n0_; have BK3I := n1_; have BK3J := n2_; have HK := n3_; have HB := n4_; clear n0_ n1_ n2_ n3_ n4_; (try clear hb); (try clear hb2); (try clear hk); (try clear hi); have hcz18_0 : w17.cell? ⟨gB, 0, none⟩ = some (.int .i64 0) := (blk_cell BK3J.out 0).trans rfl; have hcz18_1 : w17.cell? ⟨gB, 1, none⟩ = some (.int .i64 0) := (blk_cell BK3J.out 1).trans rfl; have hcz18_2 : w17.cell? ⟨gB, 2, none⟩ = some (.slice none 0 0) := (blk_cell BK3J.out 2).trans rfl; have hfz18_0 := blk_frozen BK3J.out 0; have hfz18_1 := blk_frozen BK3J.out 1; have hfz18_2 := blk_frozen BK3J.out 2))
  refine bodyPost_ret (results_ct rfl _ _ gB 24 #[.int .i64 0, .int .i64 0, .slice none 0 0] (0, 0) _ rfl (by (with_reducible repeat (first | refine zN ?_ _ | refine zD ?_ | refine zB ?_ _)); refine blk_put (cs := #[.int .i64 0, .int .i64 0, .slice none 0 0]) ?_ 2 _ rfl; (with_reducible repeat (first | refine zN ?_ _ | refine zD ?_ | refine zB ?_ _)); refine blk_put (cs := #[.int .i64 0, .int .i64 0, .slice none 0 0]) ?_ 1 _ rfl; (with_reducible repeat (first | refine zN ?_ _ | refine zD ?_ | refine zB ?_ _)); refine blk_put (cs := #[.int .i64 0, .int .i64 0, .slice none 0 0]) ?_ 0 _ rfl; (with_reducible repeat (first | refine zN ?_ _ | refine zD ?_ | refine zB ?_ _)); exact BK3J.out) Try.underlying24 rfl (by kernel_rfl)) rfl ?_
  exact ⟨_, by first | rfl | (simp [errW_none, errW_some] <;> rfl) | (simp [*, errW_none, errW_some] <;> rfl), by first | exact Kd.R_nil _ _ _ _ _ | exact Kd.N_nil _ _ _ _ _ | exact Kd.V_nil _ _ _ _ _ | exact Kd.Q_nil _ _ _ _ _ | exact Kd.S_nil _ _ _ _ _, by repeat (first | (with_reducible first | exact HB.out | apply zW | apply zX | apply zY | refine zS ?_ GE3I.out | refine zS ?_ GE3J.out) | exact HB.out), by repeat (first | (with_reducible first | exact HK.out | apply Kept.alloc | apply Kept.drewN | apply Kept.drew | refine Kept.setCell ?_ (.inr GW3I.out) _ | refine Kept.setCell ?_ (.inr GW3J.out) _) | exact HK.out)⟩
end Go.Proofs.Ytfeeaipbmpmpgaa.PX

namespace Go.Proofs.Ytfeeaipbmpmpgaa.PX
open Go.RowKit Go.Proofs.YtfeeaipbmpmpgaaW.PrintWords Go.Proofs.YtfeeaipbmpmpgaaW.PrintLast Go.Proofs.YtfeeaipbmpmpgaaW.PrintMore
set_option linter.unusedVariables false
set_option linter.unusedSimpArgs false

set_option maxHeartbeats 8000000 in
set_option maxRecDepth 100000 in
/-- slices.Grow of nil. -/
theorem grow_nil (n : Nat) (hn : n ≤ 1000000) (w : World) :
    Calls Try.prog 79 #[.slice none 0 0, .int .i64 (n : Int)] w fun e w' => ∃ v, e = .returned v ∧ Kd.R (Kd.int .i64) 3 w' w.heap.size (fun _ => True) v ([] : List Int) ∧ Below w.heap.size w w' := by
  rcases Nat.eq_zero_or_pos n with rfl | hp
  · go_enter Try.func79, Try.ntmps79
    go_wp2
    go_ret
    exact ⟨_, rfl, Kd.R_nil _ _ _ _ _, Below.refl _ _⟩
  · have hp' : decide (0 < n) = true := decide_eq_true hp
    have hu22 := Try.underlying22
    have hm : n ≤ 9223372036854775807 := by omega
    have HN := Aside0.mk hn
    clear hn
    have HB := Aside0.mk (Below.refl w.heap.size w)
    obtain ⟨i0, hi, _, hsz, _⟩ := info_parts info3
    go_enter Try.func79, Try.ntmps79
    go_wp2_with ((with_reducible refine gate_builtin (b := .append) rfl ?_); refine Kd.R_append_zeros (Kd.int .i64) (w0 := w) w.heap.size rfl (.tmp 20) (.tmp 21) 22 3 3 (.int .i64 0) 8 rfl Try.underlying22 Try.underlying3 info3 rfl (by decide) (by decide) (.slice none 0 0) [] 0 (n : Int) (fun _ => True) rfl rfl rfl (fun _ _ => trivial) (Kd.R_nil _ _ _ _ _) (by omega) HB.out (Nat.le_refl _) (by have := HN.out; simp; omega) ?_; intro v1 w1 hr hb _ _; obtain ⟨A, c, rfl, hl, _⟩ := Kd.R_reads hr; obtain ⟨hcut, _, _⟩ := print_take_of (P := Try.prog) (Value.int .i64) 0 22 3 .i64 Try.underlying22 hi hsz A c ([] ++ List.replicate (n : Int).toNat 0) 0 (by decide) (by simp) hl; have HR1 := Aside0.mk (Kd.R_take (m := 0) hr (by simp)); have HB1 := Aside0.mk hb; clear hr hb hl)
    go_ret
    exact ⟨_, rfl, by simpa using HR1.out, HB1.out⟩
theorem grow_nil' (n : Int) (h0 : 0 ≤ n) (h1 : n ≤ 1000000) (w : World) :
    Calls Try.prog 79 #[.slice none 0 0, .int .i64 n] w fun e w' => ∃ v, e = .returned v ∧ Kd.R (Kd.int .i64) 3 w' w.heap.size (fun _ => True) v ([] : List Int) ∧ Below w.heap.size w w' := by
  obtain ⟨m, rfl⟩ := Int.eq_ofNat_of_zero_le h0
  exact grow_nil m (by omega) w

set_option maxHeartbeats 8000000 in
set_option maxRecDepth 100000 in
/-- slices.Concat of two slices. -/
theorem concat2 (ad : Addr) (c : Nat) (A0 A1 : Option Addr) (c0 c1 : Nat) (l0 l1 : List Int) (w : World) (h0 : w.cell? ad = some (.slice A0 l0.length c0)) (h1 : w.cell? ⟨ad.block, ad.off + 1, none⟩ = some (.slice A1 l1.length c1))
    (hr0 : Kd.C (Kd.int .i64) w A0 l0.length l0) (hr1 : Kd.C (Kd.int .i64) w A1 l1.length l1) (hs0 : l0.length ≤ 1000) (hs1 : l1.length ≤ 1000) :
    Calls Try.prog 49 #[.slice (some ad) 2 c] w fun e w' => ∃ v, e = .returned v ∧ Kd.R (Kd.int .i64) 3 w' w.heap.size (fun _ => True) v (l0 ++ l1) ∧ Below w.heap.size w w' := by
  have HR0 := Aside0.mk hr0
  have HR1 := Aside0.mk hr1
  clear hr0 hr1
  have hu22 := Try.underlying22
  go_enter Try.func49, Try.ntmps49
  go_wp2
  go_loop [3, 11] (fun s i => (i = .int .i64 0 ∧ s = .int .i64 0) ∨ (i = .int .i64 1 ∧ s = .int .i64 (l0.length : Int)) ∨ (i = .int .i64 2 ∧ s = .int .i64 ((l0.length : Int) + (l1.length : Int)))) (fun _ i => 2 - (intOf i).toNat)
  case atStart => exact .inl ⟨rfl, rfl⟩
  case round =>
    rcases hrel with ⟨rfl, rfl⟩ | ⟨rfl, rfl⟩ | ⟨rfl, rfl⟩
    · go_wp2
      go_round
      case rel => exact .inr (.inl ⟨rfl, by simp⟩)
      case measure => simp [intOf]
    · go_wp2
      go_round
      case rel => exact .inr (.inr ⟨rfl, by simp⟩)
      case measure => simp [intOf]
    · go_wp2_with (go_at_call 79; (with_reducible refine (grow_nil' _ (by omega) (by omega) _).mono ?_); rintro e w' ⟨v, rfl, hr, hb⟩; have HR := Aside0.mk hr; have HB := Aside0.mk hb; clear hr hb)
      go_loopw [6, 27] (fun v i wr => ∃ xs : List Int, Aside0 (Kd.R (Kd.int .i64) 3 wr w.heap.size (fun _ => True) v xs) ∧ Aside0 (Below w.heap.size w wr) ∧ ((i = .int .i64 0 ∧ xs = []) ∨ (i = .int .i64 1 ∧ l0 = xs) ∨ (i = .int .i64 2 ∧ xs = l0 ++ l1))) (fun _ i _ => 2 - (intOf i).toNat)
      case atStart => exact ⟨[], HR, HB, .inl ⟨rfl, rfl⟩⟩
      case round =>
        clear HR HB
        obtain ⟨xs, HR, HB, hrel⟩ := hrel
        have hc0 := (HB.out.cell (World.block_lt_of_cell? w _ h0)).trans h0
        have hc1 := (HB.out.cell (World.block_lt_of_cell? w _ h1)).trans h1
        have HS0 := Aside0.mk hs0
        have HS1 := Aside0.mk hs1
        clear h0 h1 hs0 hs1
        rcases hrel with ⟨rfl, rfl⟩ | ⟨rfl, rfl⟩ | ⟨rfl, rfl⟩
        · go_wp2_with ((with_reducible refine gate_builtin (b := .append) rfl ?_); refine Kd.R_append_row (Value.int .i64) 0 (h1 := fun _ => rfl) (w0 := w) w.heap.size rfl (.tmp 31) (.tmp 32) 22 3 (.int .i64 0) 8 rfl Try.underlying22 info3 rfl (by decide) _ [] l0 A0 l0.length c0 (fun _ => True) rfl rfl (fun _ _ => trivial) HR.out (Kd.C_below HR0.out HB.out) HB.out HB.out.size (by have := HS0.out; simp; omega) ?_; intro v1 w1 hr hb _ _; have HR' := Aside0.mk hr; have HB' := Aside0.mk hb; clear hr hb)
          go_roundw
          case rel => exact ⟨l0, ⟨HR'.out⟩, HB', .inr (.inl ⟨rfl, rfl⟩)⟩
          case measure => simp [intOf]
        · go_wp2_with ((with_reducible refine gate_builtin (b := .append) rfl ?_); refine Kd.R_append_row (Value.int .i64) 0 (h1 := fun _ => rfl) (w0 := w) w.heap.size rfl (.tmp 31) (.tmp 32) 22 3 (.int .i64 0) 8 rfl Try.underlying22 info3 rfl (by decide) _ l0 l1 A1 l1.length c1 (fun _ => True) rfl rfl (fun _ _ => trivial) HR.out (Kd.C_below HR1.out HB.out) HB.out HB.out.size (by have := HS0.out; have := HS1.out; omega) ?_; intro v1 w1 hr hb _ _; have HR' := Aside0.mk hr; have HB' := Aside0.mk hb; clear hr hb)
          go_roundw
          case rel => exact ⟨l0 ++ l1, ⟨HR'.out⟩, HB', .inr (.inr ⟨rfl, rfl⟩)⟩
          case measure => simp [intOf]
        · go_wp2
          go_ret
          exact ⟨_, rfl, HR.out, HB.out⟩

def slices_Concat_int_int.f : List (List Int) → Option (List Int)
  | [a, b] => if a.length ≤ 1000 then if b.length ≤ 1000 then some (a ++ b) else none else none
  | _ => none
theorem slices_Concat_int_int.calls (A0 : Option Addr) (c0 : Nat) (l0 : List (List Int)) (r : List Int) (w : World) (hr0 : Kd.C (Kd.slice 3 (Kd.int .i64)) w A0 l0.length l0) (hc0 : l0.length ≤ c0) (h : slices_Concat_int_int.f l0 = some r) :
    Calls Try.prog 49 #[.slice A0 l0.length c0] w fun e w' => ∃ v_ : Value, e = .returned v_ ∧ Kd.R (Kd.int .i64) 3 w' w.heap.size (fun _ => True) v_ r ∧ Below w.heap.size w w' := by
  unfold slices_Concat_int_int.f at h
  split at h
  · rename_i a b
    by_cases c1 : a.length ≤ 1000
    · rw [if_pos c1] at h
      by_cases c2 : b.length ≤ 1000
      · rw [if_pos c2] at h
        obtain rfl := Option.some.inj h
        obtain ⟨ad, A1, d1, rfl, e1, _, k1⟩ := at_L1 hr0 0 (by decide) (by simp)
        obtain ⟨ad', A2, d2, e, e2, _, k2⟩ := at_L1 hr0 1 (by decide) (by simp)
        cases e
        have e2' : w.cell? ⟨ad.block, ad.off + 1, none⟩ = some (.slice A2 b.length d2) := e2
        exact concat2 ad c0 A1 A2 d1 d2 a b w e1 e2 k1 k2 c1 c2
      · rw [if_neg c2] at h
        cases h
    · rw [if_neg c1] at h
      cases h
  · cases h
end Go.Proofs.Ytfeeaipbmpmpgaa.PX

namespace Go.Proofs
open Go.Shelf
def Try.lays189_ren : Go.Shelf.Ren := ⟨fun | 189 => 50 | 125 => 81 | 257 => 80 | 128 => 96 | 129 => 97 | 294 => 88 | 295 => 89 | 296 => 90 | 297 => 91 | 298 => 92 | 299 => 93 | 216 => 82 | 300 => 94 | 301 => 95 | 328 => 100 | 329 => 101 | 330 => 102 | 331 => 103 | 332 => 104 | 215 => 98 | 343 => 105 | n => n, fun | 28 => 22 | 3 => 3 | 46 => 98 | 0 => 0 | 51 => 112 | 53 => 114 | 4 => 4 | 183 => 106 | 182 => 105 | 131 => 31 | 5 => 5 | 9 => 9 | 218 => 115 | 222 => 119 | 228 => 121 | 229 => 74 | n => n, fun | n => n⟩
theorem Try.lays189 : Go.Proofs.Lays.n189 Try.prog Try.lays189_ren := {
  mixed := by kernel_rfl
  f125 := Try.func81.trans (congrArg some (by kernel_rfl))
  f128 := Try.func96.trans (congrArg some (by kernel_rfl))
  f129 := Try.func97.trans (congrArg some (by kernel_rfl))
  f189 := Try.func50.trans (congrArg some (by kernel_rfl))
  f215 := Try.func98.trans (congrArg some (by kernel_rfl))
  f216 := Try.func82.trans (congrArg some (by kernel_rfl))
  f257 := Try.func80.trans (congrArg some (by kernel_rfl))
  f294 := Try.func88.trans (congrArg some (by kernel_rfl))
  f295 := Try.func89.trans (congrArg some (by kernel_rfl))
  f296 := Try.func90.trans (congrArg some (by kernel_rfl))
  f297 := Try.func91.trans (congrArg some (by kernel_rfl))
  f298 := Try.func92.trans (congrArg some (by kernel_rfl))
  f299 := Try.func93.trans (congrArg some (by kernel_rfl))
  f300 := Try.func94.trans (congrArg some (by kernel_rfl))
  f301 := Try.func95.trans (congrArg some (by kernel_rfl))
  f328 := Try.func100.trans (congrArg some (by kernel_rfl))
  f329 := Try.func101.trans (congrArg some (by kernel_rfl))
  f330 := Try.func102.trans (congrArg some (by kernel_rfl))
  f331 := Try.func103.trans (congrArg some (by kernel_rfl))
  f332 := Try.func104.trans (congrArg some (by kernel_rfl))
  f343 := Try.func105.trans (congrArg some (by kernel_rfl))
  t0 := Try.underlying0
  a0 := Try.isAgg0
  z0 := Try.sizeOf0
  v0 := Try.zeroValue0
  t3 := Try.underlying3
  a3 := Try.isAgg3
  z3 := Try.sizeOf3
  v3 := Try.zeroValue3
  t4 := Try.underlying4
  a4 := Try.isAgg4
  z4 := Try.sizeOf4
  v4 := Try.zeroValue4
  t5 := Try.underlying5
  a5 := Try.isAgg5
  z5 := Try.sizeOf5
  v5 := Try.zeroValue5
  t9 := Try.underlying9
  a9 := Try.isAgg9
  z9 := Try.sizeOf9
  v9 := Try.zeroValue9
  t28 := Try.underlying22
  a28 := Try.isAgg22
  z28 := Try.sizeOf22
  v28 := Try.zeroValue22
  t46 := Try.underlying98
  a46 := Try.isAgg98
  z46 := Try.sizeOf98
  v46 := Try.zeroValue98
  t51 := Try.underlying112
  a51 := Try.isAgg112
  z51 := Try.sizeOf112
  v51 := Try.zeroValue112
  t53 := Try.underlying114
  a53 := Try.isAgg114
  z53 := Try.sizeOf114
  v53 := Try.zeroValue114
  t131 := Try.underlying31
  a131 := Try.isAgg31
  z131 := Try.sizeOf31
  v131 := Try.zeroValue31
  t182 := Try.underlying105
  a182 := Try.isAgg105
  z182 := Try.sizeOf105
  v182 := Try.zeroValue105
  t183 := Try.underlying106
  a183 := Try.isAgg106
  z183 := Try.sizeOf106
  v183 := Try.zeroValue106
  t218 := Try.underlying115
  a218 := Try.isAgg115
  z218 := Try.sizeOf115
  v218 := Try.zeroValue115
  t222 := Try.underlying119
  a222 := Try.isAgg119
  z222 := Try.sizeOf119
  v222 := Try.zeroValue119
  t228 := Try.underlying121
  a228 := Try.isAgg121
  z228 := Try.sizeOf121
  v228 := Try.zeroValue121
  t229 := Try.underlying74
  a229 := Try.isAgg74
  z229 := Try.sizeOf74
  v229 := Try.zeroValue74 }
open Go.Sort Go.RowKit in
theorem Try.slices_Sort_int (blk off cap : Nat) (zs : List Int) (w : World) (hH : Holds (Value.int .i64) w blk off zs.toArray) (hblk : blk < w.heap.size) (hsz : zs.length < 4611686018427387904) :
    Calls Try.prog 50 #[.slice (some ⟨blk, off, none⟩) zs.length cap] w fun e w' =>
      e = .returned (.tuple #[]) ∧ ∃ n os, w' = grow (putRow (Value.int .i64) (Sort.ahead w n) blk off (zs.mergeSort fun x y => decide (x ≤ y)).toArray) os := Any.slices_Sort_int Try.lays189 blk off cap zs w hH hblk hsz
def Try.laysNm215_ren : Go.Shelf.Ren := ⟨fun | 15 => 78 | n => n, fun | 22 => 22 | 3 => 3 | 4 => 4 | n => n, fun | n => n⟩
theorem Try.laysNm215 : Go.Proofs.Lays2.n15 Try.prog Try.laysNm215_ren := {
  mixed := by kernel_rfl
  f15 := Try.func78.trans (congrArg some (by kernel_rfl))
  t3 := Try.underlying3
  a3 := Try.isAgg3
  z3 := Try.sizeOf3
  v3 := Try.zeroValue3
  t4 := Try.underlying4
  a4 := Try.isAgg4
  z4 := Try.sizeOf4
  v4 := Try.zeroValue4
  t22 := Try.underlying22
  a22 := Try.isAgg22
  z22 := Try.sizeOf22
  v22 := Try.zeroValue22
  i3 := by kernel_rfl }
open Go.RowKit Go.Lib in
/-- slices.Clone at []int: "Clone returns a copy of the slice. The elements are copied using assignment, so this is a shallow clone. The result may have additional unused capacity. The result preserves the nilness of s.": OF A SLICE THAT IS NOT nil IT RETURNS A SLICE THAT IS NOT nil, OF THE SAME ELEMENTS, IN MEMORY OF THE CALL's OWN: in the how-to's words (6f): 'w'.ownsRow B e 1 v' n cells': v' begins at the head of a row among the blocks from B on (B: the heap's size at the call), not frozen, whose first cells are the elements · 'Below B w w'': below B all is as it was. The capacity is whatever the run-time gives. 'zs': what the cells behind the slice's address hold; 'zs.take n': its elements. (LAID: no walk: one application.) -/
theorem Try.slices_Clone_int (b off n c : Nat) (zs : List Int) (w : World) (hz : n ≤ zs.length) (hbig : n * 8 ≤ 140737488355328) (hc : ∀ j, j < zs.length → w.cell? ⟨b, off + j, none⟩ = some (.int .i64 (zs.getD j 0))) :
    Calls Try.prog 78 #[.slice (some ⟨b, off, none⟩) n c] w fun e w' => ∃ v', e = .returned v' ∧ w'.ownsRow w.heap.size 3 1 v' n ((zs.take n).map (Value.int .i64)) ∧ v' ≠ .slice none 0 0 ∧ Below w.heap.size w w' := Any.slices_Clone_int Try.laysNm215 b off n c zs w hz hbig hc
open Go.RowKit Go.Lib in
/-- The same at nil: nil comes back; the world is as it was. (LAID: no walk: one application.) -/
theorem Try.slices_Clone_int_nil (n c : Nat) (w : World) :
    Calls Try.prog 78 #[.slice none n c] w fun e w' => e = .returned (.slice none 0 0) ∧ w' = w := Any.slices_Clone_int_nil Try.laysNm215 n c w
open Go.RowKit Go.Lib in
/-- The same at a slice of length 0 that is not nil, WHATEVER ITS ADDRESS (no cell is asked for): a slice that is not nil and owns nothing comes back. (LAID: no walk: one application.) -/
theorem Try.slices_Clone_int_zero (a : Addr) (c : Nat) (w : World) :
    Calls Try.prog 78 #[.slice (some a) 0 c] w fun e w' => ∃ v', e = .returned v' ∧ w'.ownsRow w.heap.size 3 1 v' 0 [] ∧ v' ≠ .slice none 0 0 ∧ Below w.heap.size w w' := Any.slices_Clone_int_zero Try.laysNm215 a c w
def Try.laysNm237_ren : Go.Shelf.Ren := ⟨fun | 37 => 98 | n => n, fun | 3 => 3 | 4 => 4 | n => n, fun | n => n⟩
theorem Try.laysNm237 : Go.Proofs.Lays2.n37 Try.prog Try.laysNm237_ren := {
  mixed := by kernel_rfl
  f37 := Try.func98.trans (congrArg some (by kernel_rfl))
  t3 := Try.underlying3
  a3 := Try.isAgg3
  z3 := Try.sizeOf3
  v3 := Try.zeroValue3
  t4 := Try.underlying4
  a4 := Try.isAgg4
  z4 := Try.sizeOf4
  v4 := Try.zeroValue4 }
open Go.RowKit Go.Lib in
/-- cmp.isNaN[int]: 'x != x': false. (LAID: no walk: one application.) -/
theorem Try.cmp_isNaN_int2 (x : Int) (w : World) :
    Calls Try.prog 98 #[.int .i64 x] w fun e w' => e = .returned (.bool false) ∧ w' = w := Any.cmp_isNaN_int2 Try.laysNm237 x w
def Try.laysNm232_ren : Go.Shelf.Ren := ⟨fun | 32 => 99 | n => n, fun | 3 => 3 | 4 => 4 | n => n, fun | n => n⟩
theorem Try.laysNm232 : Go.Proofs.Lays2.n32 Try.prog Try.laysNm232_ren := {
  mixed := by kernel_rfl
  f32 := Try.func99.trans (congrArg some (by kernel_rfl))
  t3 := Try.underlying3
  a3 := Try.isAgg3
  z3 := Try.sizeOf3
  v3 := Try.zeroValue3
  t4 := Try.underlying4
  a4 := Try.isAgg4
  z4 := Try.sizeOf4
  v4 := Try.zeroValue4 }
open Go.RowKit Go.Lib in
/-- slices.isNaN[int]: 'x != x': false. (LAID: no walk: one application.) -/
theorem Try.slices_isNaN_int2 (x : Int) (w : World) :
    Calls Try.prog 99 #[.int .i64 x] w fun e w' => e = .returned (.bool false) ∧ w' = w := Any.slices_isNaN_int2 Try.laysNm232 x w
def Try.laysNm231_ren : Go.Shelf.Ren := ⟨fun | 31 => 82 | 37 => 98 | n => n, fun | 3 => 3 | 4 => 4 | n => n, fun | n => n⟩
theorem Try.laysNm231 : Go.Proofs.Lays2.n31 Try.prog Try.laysNm231_ren := {
  mixed := by kernel_rfl
  f31 := Try.func82.trans (congrArg some (by kernel_rfl))
  f37 := Try.func98.trans (congrArg some (by kernel_rfl))
  t3 := Try.underlying3
  a3 := Try.isAgg3
  z3 := Try.sizeOf3
  v3 := Try.zeroValue3
  t4 := Try.underlying4
  a4 := Try.isAgg4
  z4 := Try.sizeOf4
  v4 := Try.zeroValue4 }
open Go.RowKit Go.Lib in
/-- cmp.Less[int]: "Less reports whether x is less than y.": 'x < y'; the world is as it was. (LAID: no walk: one application.) -/
theorem Try.cmp_Less_int2 (x y : Int) (w : World) :
    Calls Try.prog 82 #[.int .i64 x, .int .i64 y] w fun e w' => e = .returned (.bool (decide (x < y))) ∧ w' = w := Any.cmp_Less_int2 Try.laysNm231 x y w
def Try.laysNm225_ren : Go.Shelf.Ren := ⟨fun | 25 => 86 | 31 => 82 | 32 => 99 | 37 => 98 | n => n, fun | 22 => 22 | 3 => 3 | 4 => 4 | 40 => 98 | 0 => 0 | n => n, fun | n => n⟩
theorem Try.laysNm225 : Go.Proofs.Lays2.n25 Try.prog Try.laysNm225_ren := {
  mixed := by kernel_rfl
  f25 := Try.func86.trans (congrArg some (by kernel_rfl))
  f31 := Try.func82.trans (congrArg some (by kernel_rfl))
  f32 := Try.func99.trans (congrArg some (by kernel_rfl))
  f37 := Try.func98.trans (congrArg some (by kernel_rfl))
  t0 := Try.underlying0
  a0 := Try.isAgg0
  z0 := Try.sizeOf0
  v0 := Try.zeroValue0
  t3 := Try.underlying3
  a3 := Try.isAgg3
  z3 := Try.sizeOf3
  v3 := Try.zeroValue3
  t4 := Try.underlying4
  a4 := Try.isAgg4
  z4 := Try.sizeOf4
  v4 := Try.zeroValue4
  t22 := Try.underlying22
  a22 := Try.isAgg22
  z22 := Try.sizeOf22
  v22 := Try.zeroValue22
  t40 := Try.underlying98
  a40 := Try.isAgg98
  z40 := Try.sizeOf98
  v40 := Try.zeroValue98 }
open Go.RowKit Go.Lib in
/-- slices.BinarySearch at []int: "BinarySearch searches for target in a sorted slice and returns the earliest position where target is found, or the position where target would appear in the sort order; it also returns a bool saying whether the target is really found in the slice. The slice must be sorted in increasing order.": OF A SORTED SLICE IT RETURNS how many elements are less than the target, and whether the target is among the elements; the world is as it was but for the count of draws. 'zs': what the cells behind the slice's address hold; 'zs.take n': its elements. (Of a slice that is not sorted: no contract here.) (LAID: no walk: one application.) -/
theorem Try.slices_BinarySearch_int (b off n c : Nat) (zs : List Int) (x : Int) (w : World) (hz : n ≤ zs.length) (hbig : n < 4611686018427387904) (hc : ∀ j, j < zs.length → w.cell? ⟨b, off + j, none⟩ = some (.int .i64 (zs.getD j 0))) (hs : (zs.take n).Pairwise (· ≤ ·)) :
    Calls Try.prog 86 #[.slice (some ⟨b, off, none⟩) n c, .int .i64 x] w fun e w' => e = .returned (.tuple #[.int .i64 ((zs.take n).countP (· < x) : Nat), .bool ((zs.take n).contains x)]) ∧ ∃ q, w' = w.drewN q := Any.slices_BinarySearch_int Try.laysNm225 b off n c zs x w hz hbig hc hs
open Go.RowKit Go.Sort in
/-- .. and plain. (LAID: no walk: one application.) -/
theorem Try.slices_Sort_int_none (p : Option Addr) (cap : Nat) (w : World) :
    Calls Try.prog 50 #[.slice p 0 cap] w fun e w' => e = .returned (.tuple #[]) ∧ w' = w := Any.slices_Sort_int_none Try.lays189 p cap w
end Go.Proofs

namespace Go.Proofs.Ytfeeaipbmpmpgaa.PX
open Go.RowKit Go.Proofs.YtfeeaipbmpmpgaaW.PrintWords Go.Proofs.YtfeeaipbmpmpgaaW.PrintLast Go.Proofs.YtfeeaipbmpmpgaaW.PrintMore
set_option linter.unusedVariables false
set_option linter.unusedSimpArgs false

def sortI (l : List Int) : List Int := l.mergeSort fun x y => decide (x ≤ y)
theorem sortI_length (l : List Int) : (sortI l).length = l.length := by simp [sortI]
def slices_Sort_int_int.f (l : List Int) : Option (List Int) := if l.length < 4611686018427387904 then some (sortI l) else none
theorem slices_Sort_int_int.calls (P0_ : Nat → Prop) (u9000_ : Value) (l0 : List Int) (r : List Int) (w0 w : World) (hB : Below w0.heap.size w0 w) (ho0 : Kd.R (Kd.int .i64) 3 w w0.heap.size P0_ u9000_ l0) (h : slices_Sort_int_int.f l0 = some r) :
    Calls Try.prog 50 #[u9000_] w fun e w' => e = .returned (.tuple #[]) ∧ Kd.R (Kd.int .i64) 3 w' w0.heap.size (fun k_ => (P0_ k_ ∨ w.heap.size ≤ k_)) u9000_ r ∧ Below w0.heap.size w0 w' ∧ Kept w w' (fun k_ => P0_ k_) := by
  unfold slices_Sort_int_int.f at h
  by_cases hsz : l0.length < 4611686018427387904
  case neg => rw [if_neg hsz] at h; cases h
  rw [if_pos hsz] at h
  obtain rfl := Option.some.inj h
  have hown := Kd.own_of_R ho0
  have hok := ho0.1
  rcases hown.2 with ⟨rfl, hz⟩ | ⟨g, cap, cur, rfl, hg, hh, h1, h2, h3, h4⟩
  · have hl : l0 = [] := List.length_eq_zero_iff.1 hz
    subst hl
    refine (Try.slices_Sort_int_none none 0 w).mono ?_
    rintro e w' ⟨rfl, rfl⟩
    exact ⟨rfl, by rw [show sortI [] = [] from by simp [sortI]]; exact Kd.R_nil _ _ _ _ _, hB, Kept.refl _ _⟩
  · have hgs : g < w.heap.size := (Array.getElem?_eq_some_iff.1 hh).1
    have ht : cur.toList.take l0.length = l0.map (Value.int .i64) := by
      rw [Nat.mul_one] at h4
      exact h4
    refine (Try.slices_Sort_int g 0 cap l0 w (holds_of_blockI hh ht) hgs hsz).mono ?_
    rintro e w' ⟨rfl, n, os, rfl⟩
    have hgb := grownBy_sortedI (w := w) (g := g) (n := n) (os := os) (sortI l0).toArray
    have ho := ownsRow_sortedI (n := n) (os := os) (ts := sortI l0) (sortI_length l0) hg hh h1 h2 h3
    refine ⟨rfl, ?_, hB.grown hgb hB.size (fun k hk => ?_), Kept.of_grown hgb (Kept.refl _ _) (fun k hk => ?_)⟩
    · refine Kd.R_of_own (by rw [sortI_length]; exact ho) (fun k hk => .inl (hok k hk))
    · injection hk with hk
      omega
    · injection hk with hk
      subst hk
      exact .inl (hok g rfl)
end Go.Proofs.Ytfeeaipbmpmpgaa.PX

namespace Go.Proofs.Ytfeeaipbmpmpgaa.PX
open Go.RowKit Go.Proofs.YtfeeaipbmpmpgaaW.PrintWords Go.Proofs.YtfeeaipbmpmpgaaW.PrintLast Go.Proofs.YtfeeaipbmpmpgaaW.PrintMore
attribute [local go_sem] max2_int min2_int max_two min_two max_three min_three max_four min_four   -- for this text's walks alone
set_option linter.unusedVariables false
set_option linter.unusedSimpArgs false
/-! ### curve_JoinP: function 14 -/
def curve_JoinP.j0 : Nat → Bool → Int → Int → List Int → Int → Int → List Int → Option (Int × Int × List Int × Int)
 | 0, _, _, _, _, _, _, _ => none
 | k + 1, x14, x208000, x208001, x208002, x209000, x209001, x209002 => if x14 = true then (some (0, 0, ([] : List Int), 2)) else ((slices_Concat_int_int.f (([x208002, x209002] : List (List Int)))).bind fun t215 => ((slices_Sort_int_int.f t215).bind fun t218 => ((curve_made.f (wrap64 (x208000 + x209000)) (wrap64 (x208001 + x209001)) t218).bind fun bt219 => (some (bt219.1, bt219.2.1, bt219.2.2.1, bt219.2.2.2)))))
def curve_JoinP.f (k : Nat) (a0_0 : Int) (a0_1 : Int) (l0_2 : List Int) (a1_0 : Int) (a1_1 : Int) (l1_2 : List Int) : Option (Int × Int × List Int × Int) := (curve_Valid.f a0_0 a0_1 l0_2).bind fun t210 => (if t210 = true then ((curve_Valid.f a1_0 a1_1 l1_2).bind fun t211 => (curve_JoinP.j0 k (!t211) a0_0 a0_1 l0_2 a1_0 a1_1 l1_2)) else (curve_JoinP.j0 k true a0_0 a0_1 l0_2 a1_0 a1_1 l1_2))
theorem curve_JoinP.mono_l : ∀ k, (∀ y0 y1 y2 y3 y4 y5 y6, LeO (curve_JoinP.j0 k y0 y1 y2 y3 y4 y5 y6) (curve_JoinP.j0 (k + 1) y0 y1 y2 y3 y4 y5 y6))
 | 0 => fun _ _ _ _ _ _ _ r h => by simp [curve_JoinP.j0] at h
 | k + 1 => by
  have ih0 := curve_JoinP.mono_l k
  ·
   intro y0 y1 y2 y3 y4 y5 y6
   unfold curve_JoinP.j0
   repeat' first
   | (with_reducible exact ih0 _ _ _ _ _ _ _)
   | (with_reducible exact LeO.refl _)
   | (with_reducible exact LeO.none _)
   | (with_reducible refine LeO.ite ?_ ?_)
   | (with_reducible refine LeO.bind ?_ (fun _ => ?_))
   | exact ih0 _ _ _ _ _ _ _
   | exact LeO.none _
   | refine LeO.ite ?_ ?_
   | refine LeO.bind ?_ (fun _ => ?_)
theorem curve_JoinP.mono : ∀ a0 a1 a2 a3 a4 a5 k, LeO (curve_JoinP.f k a0 a1 a2 a3 a4 a5) (curve_JoinP.f (k + 1) a0 a1 a2 a3 a4 a5) := by
 intro a0 a1 a2 a3 a4 a5 k
 have ih0 := curve_JoinP.mono_l k
 unfold curve_JoinP.f
 repeat' first
   | (with_reducible exact ih0 _ _ _ _ _ _ _)
   | (with_reducible exact LeO.refl _)
   | (with_reducible exact LeO.none _)
   | (with_reducible refine LeO.ite ?_ ?_)
   | (with_reducible refine LeO.bind ?_ (fun _ => ?_))
   | exact ih0 _ _ _ _ _ _ _
   | exact LeO.none _
   | refine LeO.ite ?_ ?_
   | refine LeO.bind ?_ (fun _ => ?_)
set_option maxHeartbeats 8000000 in
set_option maxRecDepth 100000 in
theorem curve_JoinP.calls (k : Nat) (a0_0 : Int) (a0_1 : Int) (P0_2_ : Nat → Prop) (A0_2 : Option Addr) (c0_2 : Nat) (l0_2 : List Int) (a1_0 : Int) (a1_1 : Int) (P1_2_ : Nat → Prop) (A1_2 : Option Addr) (c1_2 : Nat) (l1_2 : List Int) (r1 : Int) (r2 : Int) (r3 : List Int) (r4 : Int) (w : World) (hs0_2 : Kd.V (Kd.int .i64) 3 w w.heap.size (fun k_ => P0_2_ k_) (.slice A0_2 l0_2.length c0_2) l0_2) (hs1_2 : Kd.V (Kd.int .i64) 3 w w.heap.size (fun k_ => P1_2_ k_) (.slice A1_2 l1_2.length c1_2) l1_2) (h : curve_JoinP.f k a0_0 a0_1 l0_2 a1_0 a1_1 l1_2 = some (r1, r2, r3, r4)) :
  Calls Try.prog 14 #[.agg #[.int .i64 a0_0, .int .i64 a0_1, .slice A0_2 l0_2.length c0_2], .agg #[.int .i64 a1_0, .int .i64 a1_1, .slice A1_2 l1_2.length c1_2]] w fun e w' => ∃ v2_ : Value, e = .returned (.tuple #[.agg #[.int .i64 r1, .int .i64 r2, v2_], .int .i64 r4]) ∧ Kd.R (Kd.int .i64) 3 w' w.heap.size (fun k_ => (w.heap.size ≤ k_)) v2_ r3 ∧ Below w.heap.size w w' := by
 have hu24 := Try.underlying24
 have HO0_2 := Aside0.mk (show Kd.V (Kd.int .i64) 3 w w.heap.size (fun k_ => ((P0_2_ k_ ∨ P1_2_ k_) ∨ w.heap.size ≤ k_)) (.slice A0_2 l0_2.length c0_2) l0_2 from Kd.V_mono hs0_2 (fun k_ hk => .inl (.inl hk)))
 have HO1_2 := Aside0.mk (show Kd.V (Kd.int .i64) 3 w w.heap.size (fun k_ => ((P0_2_ k_ ∨ P1_2_ k_) ∨ w.heap.size ≤ k_)) (.slice A1_2 l1_2.length c1_2) l1_2 from Kd.V_mono hs1_2 (fun k_ hk => .inl (.inr hk)))
 have HB := Aside0.mk (Below.refl w.heap.size w)
 have H : ((curve_Valid.f a0_0 a0_1 l0_2).bind fun t210 => (if t210 = true then ((curve_Valid.f a1_0 a1_1 l1_2).bind fun t211 => (curve_JoinP.j0 k (!t211) a0_0 a0_1 l0_2 a1_0 a1_1 l1_2)) else (curve_JoinP.j0 k true a0_0 a0_1 l0_2 a1_0 a1_1 l1_2))) = some (r1, r2, r3, r4) := h
 clear h
 have HC3 := Aside0.mk H
 clear H
 go_enter Try.func14, Try.ntmps14
 go_upto_region 1 with (first | ((with_reducible refine gate_dst (N := 2) rfl ?_); refine box_event ?hg (N := 2) ?hd (cs := #[.int .i64 a0_0, .int .i64 a0_1, .slice A0_2 l0_2.length c0_2]) (t := 24) ?hr ?_; (case hd => rfl); (case hg => rfl); (case hr => first | (go_simp; done) | (go_simp; rfl)); intro gb207 hg w4 hbox hb; have n0_ := Aside0.mk (Kd.V_below (Kd.V_elderB (by (with_reducible repeat (first | apply Kd.V_alloc | apply Kd.V_drewN | apply Kd.V_drew)); exact HO0_2.out) gb207 (Nat.le_of_eq hg.symm)) hb); have n1_ := Aside0.mk (Kd.V_below (Kd.V_elderB (by (with_reducible repeat (first | apply Kd.V_alloc | apply Kd.V_drewN | apply Kd.V_drew)); exact HO1_2.out) gb207 (Nat.le_of_eq hg.symm)) hb); have n2_ := Aside0.mk (below_step (by repeat (first | (with_reducible first | exact HB.out | apply below_alloc | apply pw_below_drewN | apply below_drew1) | exact HB.out)) hb); have n3_ := Aside0.mk (hbox); have n4_ := Aside0.mk ((by rw [hg]; exact (below_size (by repeat (first | (with_reducible first | exact HB.out | apply below_alloc | apply pw_below_drewN | apply below_drew1) | exact HB.out))) : w.heap.size ≤ gb207)); have n5_ := Aside0.mk ((by rw [hg]; exact (below_size (by repeat (first | (with_reducible first | exact HB.out | apply below_alloc | apply pw_below_drewN | apply below_drew1) | exact HB.out))) : w.heap.size ≤ gb207)); clear HO0_2; clear HO1_2; clear HB; have HO0_2 := n0_; have HO1_2 := n1_; have HB := n2_; have BK207 := n3_; have GW207 := n4_; have GE207 := n5_; clear n0_ n1_ n2_ n3_ n4_ n5_; clear hb hbox hg) | ((with_reducible refine gate_dst (N := 3) rfl ?_); refine box_event ?hg (N := 3) ?hd (cs := #[.int .i64 a1_0, .int .i64 a1_1, .slice A1_2 l1_2.length c1_2]) (t := 24) ?hr ?_; (case hd => rfl); (case hg => rfl); (case hr => first | (go_simp; done) | (go_simp; rfl)); intro gb208 hg w5 hbox hb; have n0_ := Aside0.mk (Kd.V_below (Kd.V_elderB (by (with_reducible repeat (first | apply Kd.V_alloc | apply Kd.V_drewN | apply Kd.V_drew)); exact HO0_2.out) gb208 (Nat.le_of_eq hg.symm)) hb); have n1_ := Aside0.mk (Kd.V_below (Kd.V_elderB (by (with_reducible repeat (first | apply Kd.V_alloc | apply Kd.V_drewN | apply Kd.V_drew)); exact HO1_2.out) gb208 (Nat.le_of_eq hg.symm)) hb); have n2_ := Aside0.mk (blk_below (g := gb207) (o := .cells #[.int .i64 a0_0, .int .i64 a0_1, .slice A0_2 l0_2.length c0_2] 24 (0, 0)) (by (with_reducible repeat (first | refine blk_drewN ?_ _ | refine blk_drew ?_ | refine blk_alloc ?_ _)); exact BK207.out) hb); have n3_ := Aside0.mk (below_step (by repeat (first | (with_reducible first | exact HB.out | apply below_alloc | apply pw_below_drewN | apply below_drew1 | refine below_set ?_ GE207.out) | exact HB.out)) hb); have n4_ := Aside0.mk (hbox); have n5_ := Aside0.mk ((by rw [hg]; exact (below_size (by repeat (first | (with_reducible first | exact HB.out | apply below_alloc | apply pw_below_drewN | apply below_drew1 | refine below_set ?_ GE207.out) | exact HB.out))) : w.heap.size ≤ gb208)); have n6_ := Aside0.mk ((by rw [hg]; exact (below_size (by repeat (first | (with_reducible first | exact HB.out | apply below_alloc | apply pw_below_drewN | apply below_drew1 | refine below_set ?_ GE207.out) | exact HB.out))) : w.heap.size ≤ gb208)); have n7_ := Aside0.mk ((by rw [hg]; exact Nat.ne_of_lt (blk_lt (g := gb207) (o := .cells #[.int .i64 a0_0, .int .i64 a0_1, .slice A0_2 l0_2.length c0_2] 24 (0, 0)) (by (with_reducible repeat (first | refine blk_drewN ?_ _ | refine blk_drew ?_ | refine blk_alloc ?_ _)); exact BK207.out)) : gb207 ≠ gb208)); have n8_ := Aside0.mk ((by rw [hg]; exact Nat.ne_of_gt (blk_lt (g := gb207) (o := .cells #[.int .i64 a0_0, .int .i64 a0_1, .slice A0_2 l0_2.length c0_2] 24 (0, 0)) (by (with_reducible repeat (first | refine blk_drewN ?_ _ | refine blk_drew ?_ | refine blk_alloc ?_ _)); exact BK207.out)) : gb208 ≠ gb207)); clear HO0_2; clear HO1_2; clear BK207; clear HB; have HO0_2 := n0_; have HO1_2 := n1_; have BK207 := n2_; have HB := n3_; have BK208 := n4_; have GW208 := n5_; have GE208 := n6_; have NB207_208 := n7_; have NB208_207 := n8_; clear n0_ n1_ n2_ n3_ n4_ n5_ n6_ n7_ n8_; clear hb hbox hg) | ((with_reducible refine gate_dst (N := 4) rfl ?_); refine box_event ?hg (N := 4) ?hd (cs := #[.int .i64 0, .int .i64 0, .slice none 0 0]) (t := 24) ?hr ?_; (case hd => rfl); (case hg => rfl); (case hr => first | (go_simp; done) | (go_simp; rfl)); intro gb209 hg w6 hbox hb; have n0_ := Aside0.mk (Kd.V_below (Kd.V_elderB (by (with_reducible repeat (first | apply Kd.V_alloc | apply Kd.V_drewN | apply Kd.V_drew)); exact HO0_2.out) gb209 (Nat.le_of_eq hg.symm)) hb); have n1_ := Aside0.mk (Kd.V_below (Kd.V_elderB (by (with_reducible repeat (first | apply Kd.V_alloc | apply Kd.V_drewN | apply Kd.V_drew)); exact HO1_2.out) gb209 (Nat.le_of_eq hg.symm)) hb); have n2_ := Aside0.mk (blk_below (g := gb207) (o := .cells #[.int .i64 a0_0, .int .i64 a0_1, .slice A0_2 l0_2.length c0_2] 24 (0, 0)) (by (with_reducible repeat (first | refine blk_drewN ?_ _ | refine blk_drew ?_ | refine blk_alloc ?_ _)); exact BK207.out) hb); have n3_ := Aside0.mk (blk_below (g := gb208) (o := .cells #[.int .i64 a1_0, .int .i64 a1_1, .slice A1_2 l1_2.length c1_2] 24 (0, 0)) (by (with_reducible repeat (first | refine blk_drewN ?_ _ | refine blk_drew ?_ | refine blk_alloc ?_ _)); exact BK208.out) hb); have n4_ := Aside0.mk (below_step (by repeat (first | (with_reducible first | exact HB.out | apply below_alloc | apply pw_below_drewN | apply below_drew1 | refine below_set ?_ GE207.out | refine below_set ?_ GE208.out) | exact HB.out)) hb); have n5_ := Aside0.mk (hbox); have n6_ := Aside0.mk ((by rw [hg]; exact (below_size (by repeat (first | (with_reducible first | exact HB.out | apply below_alloc | apply pw_below_drewN | apply below_drew1 | refine below_set ?_ GE207.out | refine below_set ?_ GE208.out) | exact HB.out))) : w.heap.size ≤ gb209)); have n7_ := Aside0.mk ((by rw [hg]; exact (below_size (by repeat (first | (with_reducible first | exact HB.out | apply below_alloc | apply pw_below_drewN | apply below_drew1 | refine below_set ?_ GE207.out | refine below_set ?_ GE208.out) | exact HB.out))) : w.heap.size ≤ gb209)); have n8_ := Aside0.mk ((by rw [hg]; exact Nat.ne_of_lt (blk_lt (g := gb207) (o := .cells #[.int .i64 a0_0, .int .i64 a0_1, .slice A0_2 l0_2.length c0_2] 24 (0, 0)) (by (with_reducible repeat (first | refine blk_drewN ?_ _ | refine blk_drew ?_ | refine blk_alloc ?_ _)); exact BK207.out)) : gb207 ≠ gb209)); have n9_ := Aside0.mk ((by rw [hg]; exact Nat.ne_of_gt (blk_lt (g := gb207) (o := .cells #[.int .i64 a0_0, .int .i64 a0_1, .slice A0_2 l0_2.length c0_2] 24 (0, 0)) (by (with_reducible repeat (first | refine blk_drewN ?_ _ | refine blk_drew ?_ | refine blk_alloc ?_ _)); exact BK207.out)) : gb209 ≠ gb207)); have n10_ := Aside0.mk ((by rw [hg]; exact Nat.ne_of_lt (blk_lt (g := gb208) (o := .cells #[.int .i64 a1_0, .int .i64 a1_1, .slice A1_2 l1_2.length c1_2] 24 (0, 0)) (by (with_reducible repeat (first | refine blk_drewN ?_ _ | refine blk_drew ?_ | refine blk_alloc ?_ _)); exact BK208.out)) : gb208 ≠ gb209)); have n11_ := Aside0.mk ((by rw [hg]; exact Nat.ne_of_gt (blk_lt (g := gb208) (o := .cells #[.int .i64 a1_0, .int .i64 a1_1, .slice A1_2 l1_2.length c1_2] 24 (0, 0)) (by (with_reducible repeat (first | refine blk_drewN ?_ _ | refine blk_drew ?_ | refine blk_alloc ?_ _)); exact BK208.out)) : gb209 ≠ gb208)); clear HO0_2; clear HO1_2; clear BK207; clear BK208; clear HB; have HO0_2 := n0_; have HO1_2 := n1_; have BK207 := n2_; have BK208 := n3_; have HB := n4_; have BK209 := n5_; have GW209 := n6_; have GE209 := n7_; have NB207_209 := n8_; have NB209_207 := n9_; have NB208_209 := n10_; have NB209_208 := n11_; clear n0_ n1_ n2_ n3_ n4_ n5_ n6_ n7_ n8_ n9_ n10_ n11_; clear hb hbox hg))
 (try simp only [Act.put, List.setIfInBounds_toArray, List.set_cons_zero, List.set_cons_succ])
 go_cut [14] (fun v14 wc => ∃ (kq : Nat) (x14_2 : Bool), v14 = .bool x14_2 ∧ Aside0 (curve_JoinP.j0 kq x14_2 a0_0 a0_1 l0_2 a1_0 a1_1 l1_2 = some (r1, r2, r3, r4)) ∧ Aside0 (kq ≤ k) ∧ Aside0 (Kd.V (Kd.int .i64) 3 wc w.heap.size (fun k_ => ((P0_2_ k_ ∨ P1_2_ k_) ∨ w.heap.size ≤ k_) ∧ k_ ≠ gb207 ∧ k_ ≠ gb208 ∧ k_ ≠ gb209) (.slice A0_2 l0_2.length c0_2) l0_2) ∧ Aside0 (Kd.V (Kd.int .i64) 3 wc w.heap.size (fun k_ => ((P0_2_ k_ ∨ P1_2_ k_) ∨ w.heap.size ≤ k_) ∧ k_ ≠ gb207 ∧ k_ ≠ gb208 ∧ k_ ≠ gb209) (.slice A1_2 l1_2.length c1_2) l1_2) ∧ Aside0 (wc.heap[gb207]? = some (.cells #[.int .i64 a0_0, .int .i64 a0_1, (.slice A0_2 l0_2.length c0_2)] 24 (0, 0))) ∧ Aside0 (wc.heap[gb208]? = some (.cells #[.int .i64 a1_0, .int .i64 a1_1, (.slice A1_2 l1_2.length c1_2)] 24 (0, 0))) ∧ Aside0 (wc.heap[gb209]? = some (.cells #[.int .i64 0, .int .i64 0, (.slice none 0 0)] 24 (0, 0))) ∧ Aside0 (Below w.heap.size w wc))
 case first =>
  have H := HC3.out
  clear HC3
  replace H := Option.bind_eq_some_iff.mp H
  obtain ⟨t210, A70, H⟩ := H
  replace H : (if t210 = true then ((curve_Valid.f a1_0 a1_1 l1_2).bind fun t211 => (curve_JoinP.j0 k (!t211) a0_0 a0_1 l0_2 a1_0 a1_1 l1_2)) else (curve_JoinP.j0 k true a0_0 a0_1 l0_2 a1_0 a1_1 l1_2)) = some (r1, r2, r3, r4) := H
  have A7 := Aside0.mk A70
  clear A70
  by_cases c8 : t210 = true
  ·
   subst c8
   have H1 : ((curve_Valid.f a1_0 a1_1 l1_2).bind fun t211 => (curve_JoinP.j0 k (!t211) a0_0 a0_1 l0_2 a1_0 a1_1 l1_2)) = some (r1, r2, r3, r4) := by rw [if_pos rfl] at H; exact H
   clear H
   have H := H1
   clear H1
   replace H := Option.bind_eq_some_iff.mp H
   obtain ⟨t211, A90, H⟩ := H
   replace H : (curve_JoinP.j0 k (!t211) a0_0 a0_1 l0_2 a1_0 a1_1 l1_2) = some (r1, r2, r3, r4) := H
   have A9 := Aside0.mk A90
   clear A90
   have H' := Aside0.mk H
   clear H
   have hnb10 := NB207_208.out
   have hnc10 := NB208_207.out
   have hnb11 := NB207_209.out
   have hnc11 := NB209_207.out
   have hcz12_0 : w6.cell? ⟨gb207, 0, none⟩ = some (.int .i64 a0_0) := (blk_cell BK207.out 0).trans rfl
   have hcz12_1 : w6.cell? ⟨gb207, 1, none⟩ = some (.int .i64 a0_1) := (blk_cell BK207.out 1).trans rfl
   have hcz12_2 : w6.cell? ⟨gb207, 2, none⟩ = some (.slice A0_2 l0_2.length c0_2) := (blk_cell BK207.out 2).trans rfl
   have hfz12_0 := blk_frozen BK207.out 0
   have hfz12_1 := blk_frozen BK207.out 1
   have hfz12_2 := blk_frozen BK207.out 2
   go_wp2_with (first | ((with_reducible refine gate_callee (f := 16) rfl ?_); refine goesL_ (some 8) rfl rfl Try.func16 (by kernel_rfl) rfl #[.agg #[.int .i64 a0_0, .int .i64 a0_1, .slice A0_2 l0_2.length c0_2]] rfl (by (try simp only [List.map_toArray, List.map_cons, List.map_nil]); first | done | rfl | (simp only [List.length_drop, List.length_take]; rfl)) ?_; (with_reducible refine (curve_Valid.calls a0_0 a0_1 _ _ l0_2 true _ ?side1 ?side2 A7.out).mono ?_); (case side1 => repeat (first | exact (Kd.V_reads' HO0_2.out).2.2 | (with_reducible refine Kd.C_alloc ?_ _) | (with_reducible refine Kd.C_drewN ?_ _) | (with_reducible refine Kd.C_drew ?_))); (case side2 => exact (Kd.V_reads' HO0_2.out).2.1); rintro e w13 ⟨rfl, hb⟩; refine ⟨_, rfl, ?_⟩; have n0_ := Aside0.mk (Kd.V_below (by (with_reducible repeat (first | apply Kd.V_alloc | apply Kd.V_drewN | apply Kd.V_drew)); exact HO0_2.out) hb); have n1_ := Aside0.mk (Kd.V_below (by (with_reducible repeat (first | apply Kd.V_alloc | apply Kd.V_drewN | apply Kd.V_drew)); exact HO1_2.out) hb); have n2_ := Aside0.mk (blk_below (g := gb207) (o := .cells #[.int .i64 a0_0, .int .i64 a0_1, .slice A0_2 l0_2.length c0_2] 24 (0, 0)) (by (with_reducible repeat (first | refine blk_drewN ?_ _ | refine blk_drew ?_ | refine blk_alloc ?_ _)); exact BK207.out) hb); have n3_ := Aside0.mk (blk_below (g := gb208) (o := .cells #[.int .i64 a1_0, .int .i64 a1_1, .slice A1_2 l1_2.length c1_2] 24 (0, 0)) (by (with_reducible repeat (first | refine blk_drewN ?_ _ | refine blk_drew ?_ | refine blk_alloc ?_ _)); exact BK208.out) hb); have n4_ := Aside0.mk (blk_below (g := gb209) (o := .cells #[.int .i64 0, .int .i64 0, .slice none 0 0] 24 (0, 0)) (by (with_reducible repeat (first | refine blk_drewN ?_ _ | refine blk_drew ?_ | refine blk_alloc ?_ _)); exact BK209.out) hb); have n5_ := Aside0.mk (below_step (by repeat (first | (with_reducible first | exact HB.out | apply below_alloc | apply pw_below_drewN | apply below_drew1 | refine below_set ?_ GE207.out | refine below_set ?_ GE208.out | refine below_set ?_ GE209.out) | exact HB.out)) hb); clear HO0_2; clear HO1_2; clear BK207; clear BK208; clear BK209; clear HB; have HO0_2 := n0_; have HO1_2 := n1_; have BK207 := n2_; have BK208 := n3_; have BK209 := n4_; have HB := n5_; clear n0_ n1_ n2_ n3_ n4_ n5_; (try clear hb); (try clear hb2); (try clear hk); (try clear hi); have hnb14 := NB208_209.out; have hnc14 := NB209_208.out; have hcz15_0 : w13.cell? ⟨gb208, 0, none⟩ = some (.int .i64 a1_0) := (blk_cell BK208.out 0).trans rfl; have hcz15_1 : w13.cell? ⟨gb208, 1, none⟩ = some (.int .i64 a1_1) := (blk_cell BK208.out 1).trans rfl; have hcz15_2 : w13.cell? ⟨gb208, 2, none⟩ = some (.slice A1_2 l1_2.length c1_2) := (blk_cell BK208.out 2).trans rfl; have hfz15_0 := blk_frozen BK208.out 0; have hfz15_1 := blk_frozen BK208.out 1; have hfz15_2 := blk_frozen BK208.out 2) | (go_at_call 16; (with_reducible refine (curve_Valid.calls a1_0 a1_1 _ _ l1_2 t211 _ ?side1 ?side2 A9.out).mono ?_); (case side1 => repeat (first | exact (Kd.V_reads' HO1_2.out).2.2 | (with_reducible refine Kd.C_alloc ?_ _) | (with_reducible refine Kd.C_drewN ?_ _) | (with_reducible refine Kd.C_drew ?_))); (case side2 => exact (Kd.V_reads' HO1_2.out).2.1); rintro e w16 ⟨rfl, hb⟩; have n0_ := Aside0.mk (Kd.V_below (by (with_reducible repeat (first | apply Kd.V_alloc | apply Kd.V_drewN | apply Kd.V_drew)); exact HO0_2.out) hb); have n1_ := Aside0.mk (Kd.V_below (by (with_reducible repeat (first | apply Kd.V_alloc | apply Kd.V_drewN | apply Kd.V_drew)); exact HO1_2.out) hb); have n2_ := Aside0.mk (blk_below (g := gb207) (o := .cells #[.int .i64 a0_0, .int .i64 a0_1, .slice A0_2 l0_2.length c0_2] 24 (0, 0)) (by (with_reducible repeat (first | refine blk_drewN ?_ _ | refine blk_drew ?_ | refine blk_alloc ?_ _)); exact BK207.out) hb); have n3_ := Aside0.mk (blk_below (g := gb208) (o := .cells #[.int .i64 a1_0, .int .i64 a1_1, .slice A1_2 l1_2.length c1_2] 24 (0, 0)) (by (with_reducible repeat (first | refine blk_drewN ?_ _ | refine blk_drew ?_ | refine blk_alloc ?_ _)); exact BK208.out) hb); have n4_ := Aside0.mk (blk_below (g := gb209) (o := .cells #[.int .i64 0, .int .i64 0, .slice none 0 0] 24 (0, 0)) (by (with_reducible repeat (first | refine blk_drewN ?_ _ | refine blk_drew ?_ | refine blk_alloc ?_ _)); exact BK209.out) hb); have n5_ := Aside0.mk (below_step (by repeat (first | (with_reducible first | exact HB.out | apply below_alloc | apply pw_below_drewN | apply below_drew1 | refine below_set ?_ GE207.out | refine below_set ?_ GE208.out | refine below_set ?_ GE209.out) | exact HB.out)) hb); clear HO0_2; clear HO1_2; clear BK207; clear BK208; clear BK209; clear HB; have HO0_2 := n0_; have HO1_2 := n1_; have BK207 := n2_; have BK208 := n3_; have BK209 := n4_; have HB := n5_; clear n0_ n1_ n2_ n3_ n4_ n5_; (try clear hb); (try clear hb2); (try clear hk); (try clear hi)))
   go_meet
   case rel => exact ⟨_, (!t211), (by first | rfl | (simp; done) | (simp [*]; done)), H', ⟨by first | omega | exact Nat.le_refl _⟩, ⟨by (with_reducible repeat (first | apply Kd.V_alloc | apply Kd.V_drewN | apply Kd.V_drew)); exact Kd.V_mono HO0_2.out (fun _ hk => ⟨hk.1.1.1, ⟨hk.1.1.2, ⟨hk.1.2, hk.2⟩⟩⟩)⟩, ⟨by (with_reducible repeat (first | apply Kd.V_alloc | apply Kd.V_drewN | apply Kd.V_drew)); exact Kd.V_mono HO1_2.out (fun _ hk => ⟨hk.1.1.1, ⟨hk.1.1.2, ⟨hk.1.2, hk.2⟩⟩⟩)⟩, ⟨by (with_reducible repeat (first | refine blk_drewN ?_ _ | refine blk_drew ?_ | refine blk_alloc ?_ _)); exact BK207.out⟩, ⟨by (with_reducible repeat (first | refine blk_drewN ?_ _ | refine blk_drew ?_ | refine blk_alloc ?_ _)); exact BK208.out⟩, ⟨by (with_reducible repeat (first | refine blk_drewN ?_ _ | refine blk_drew ?_ | refine blk_alloc ?_ _)); exact BK209.out⟩, ⟨by repeat (first | (with_reducible first | exact HB.out | apply below_alloc | apply pw_below_drewN | apply below_drew1 | refine below_set ?_ GE207.out | refine below_set ?_ GE208.out | refine below_set ?_ GE209.out) | exact HB.out)⟩⟩
  ·
   replace c8 := Bool.eq_false_iff.mpr c8
   subst c8
   have H1 : (curve_JoinP.j0 k true a0_0 a0_1 l0_2 a1_0 a1_1 l1_2) = some (r1, r2, r3, r4) := by rw [if_neg (show ¬ (false = true) by decide)] at H; exact H
   clear H
   have H := H1
   clear H1
   have H' := Aside0.mk H
   clear H
   have hnb17 := NB207_208.out
   have hnc17 := NB208_207.out
   have hnb18 := NB207_209.out
   have hnc18 := NB209_207.out
   have hcz19_0 : w6.cell? ⟨gb207, 0, none⟩ = some (.int .i64 a0_0) := (blk_cell BK207.out 0).trans rfl
   have hcz19_1 : w6.cell? ⟨gb207, 1, none⟩ = some (.int .i64 a0_1) := (blk_cell BK207.out 1).trans rfl
   have hcz19_2 : w6.cell? ⟨gb207, 2, none⟩ = some (.slice A0_2 l0_2.length c0_2) := (blk_cell BK207.out 2).trans rfl
   have hfz19_0 := blk_frozen BK207.out 0
   have hfz19_1 := blk_frozen BK207.out 1
   have hfz19_2 := blk_frozen BK207.out 2
   go_wp2_with (first | ((with_reducible refine gate_callee (f := 16) rfl ?_); refine goesL_ (some 8) rfl rfl Try.func16 (by kernel_rfl) rfl #[.agg #[.int .i64 a0_0, .int .i64 a0_1, .slice A0_2 l0_2.length c0_2]] rfl (by (try simp only [List.map_toArray, List.map_cons, List.map_nil]); first | done | rfl | (simp only [List.length_drop, List.length_take]; rfl)) ?_; (with_reducible refine (curve_Valid.calls a0_0 a0_1 _ _ l0_2 false _ ?side1 ?side2 A7.out).mono ?_); (case side1 => repeat (first | exact (Kd.V_reads' HO0_2.out).2.2 | (with_reducible refine Kd.C_alloc ?_ _) | (with_reducible refine Kd.C_drewN ?_ _) | (with_reducible refine Kd.C_drew ?_))); (case side2 => exact (Kd.V_reads' HO0_2.out).2.1); rintro e w20 ⟨rfl, hb⟩; refine ⟨_, rfl, ?_⟩; have n0_ := Aside0.mk (Kd.V_below (by (with_reducible repeat (first | apply Kd.V_alloc | apply Kd.V_drewN | apply Kd.V_drew)); exact HO0_2.out) hb); have n1_ := Aside0.mk (Kd.V_below (by (with_reducible repeat (first | apply Kd.V_alloc | apply Kd.V_drewN | apply Kd.V_drew)); exact HO1_2.out) hb); have n2_ := Aside0.mk (blk_below (g := gb207) (o := .cells #[.int .i64 a0_0, .int .i64 a0_1, .slice A0_2 l0_2.length c0_2] 24 (0, 0)) (by (with_reducible repeat (first | refine blk_drewN ?_ _ | refine blk_drew ?_ | refine blk_alloc ?_ _)); exact BK207.out) hb); have n3_ := Aside0.mk (blk_below (g := gb208) (o := .cells #[.int .i64 a1_0, .int .i64 a1_1, .slice A1_2 l1_2.length c1_2] 24 (0, 0)) (by (with_reducible repeat (first | refine blk_drewN ?_ _ | refine blk_drew ?_ | refine blk_alloc ?_ _)); exact BK208.out) hb); have n4_ := Aside0.mk (blk_below (g := gb209) (o := .cells #[.int .i64 0, .int .i64 0, .slice none 0 0] 24 (0, 0)) (by (with_reducible repeat (first | refine blk_drewN ?_ _ | refine blk_drew ?_ | refine blk_alloc ?_ _)); exact BK209.out) hb); have n5_ := Aside0.mk (below_step (by repeat (first | (with_reducible first | exact HB.out | apply below_alloc | apply pw_below_drewN | apply below_drew1 | refine below_set ?_ GE207.out | refine below_set ?_ GE208.out | refine below_set ?_ GE209.out) | exact HB.out)) hb); clear HO0_2; clear HO1_2; clear BK207; clear BK208; clear BK209; clear HB; have HO0_2 := n0_; have HO1_2 := n1_; have BK207 := n2_; have BK208 := n3_; have BK209 := n4_; have HB := n5_; clear n0_ n1_ n2_ n3_ n4_ n5_; (try clear hb); (try clear hb2); (try clear hk); (try clear hi)))
   go_meet
   case rel => exact ⟨_, (true), (by first | rfl | (simp; done) | (simp [*]; done)), H', ⟨by first | omega | exact Nat.le_refl _⟩, ⟨by (with_reducible repeat (first | apply Kd.V_alloc | apply Kd.V_drewN | apply Kd.V_drew)); exact Kd.V_mono HO0_2.out (fun _ hk => ⟨hk.1.1.1, ⟨hk.1.1.2, ⟨hk.1.2, hk.2⟩⟩⟩)⟩, ⟨by (with_reducible repeat (first | apply Kd.V_alloc | apply Kd.V_drewN | apply Kd.V_drew)); exact Kd.V_mono HO1_2.out (fun _ hk => ⟨hk.1.1.1, ⟨hk.1.1.2, ⟨hk.1.2, hk.2⟩⟩⟩)⟩, ⟨by (with_reducible repeat (first | refine blk_drewN ?_ _ | refine blk_drew ?_ | refine blk_alloc ?_ _)); exact BK207.out⟩, ⟨by (with_reducible repeat (first | refine blk_drewN ?_ _ | refine blk_drew ?_ | refine blk_alloc ?_ _)); exact BK208.out⟩, ⟨by (with_reducible repeat (first | refine blk_drewN ?_ _ | refine blk_drew ?_ | refine blk_alloc ?_ _)); exact BK209.out⟩, ⟨by repeat (first | (with_reducible first | exact HB.out | apply below_alloc | apply pw_below_drewN | apply below_drew1 | refine below_set ?_ GE207.out | refine below_set ?_ GE208.out | refine below_set ?_ GE209.out) | exact HB.out)⟩⟩
 case rest =>
  clear HC3
  try clear c1
  try clear p2
  try clear c8
  try clear c10
  try clear c11
  try clear c14
  try clear c16
  try clear c17
  try clear c18
  try clear hcz12_0
  try clear hcz12_1
  try clear hcz12_2
  try clear hcz15_0
  try clear hcz15_1
  try clear hcz15_2
  try clear hcz19_0
  try clear hcz19_1
  try clear hcz19_2
  try clear hfz12_0
  try clear hfz12_1
  try clear hfz12_2
  try clear hfz15_0
  try clear hfz15_1
  try clear hfz15_2
  try clear hfz19_0
  try clear hfz19_1
  try clear hfz19_2
  obtain ⟨kq, x14_2, rfl, HA, HJ2, HO_208002, HO_209002, BK207, BK208, BK209, HB⟩ := hcut
  cases kq with
  | zero => exact absurd HA.out (by simp [curve_JoinP.j0])
  | succ kj2 =>
   have H := HA.out
   clear HA
   simp only [curve_JoinP.j0] at H
   by_cases c21 : x14_2 = true
   ·
    subst c21
    have H1 : (some (0, 0, ([] : List Int), 2)) = some (r1, r2, r3, r4) := by rw [if_pos rfl] at H; exact H
    clear H
    have H := H1
    clear H1
    simp only [Option.some.injEq, Prod.mk.injEq] at H
    obtain ⟨rfl, rfl, rfl, rfl⟩ := H
    have hnb22 := NB209_207.out
    have hnc22 := NB207_209.out
    have hnb23 := NB209_208.out
    have hnc23 := NB208_209.out
    have hcz24_0 : wc.cell? ⟨gb209, 0, none⟩ = some (.int .i64 0) := (blk_cell BK209.out 0).trans rfl
    have hcz24_1 : wc.cell? ⟨gb209, 1, none⟩ = some (.int .i64 0) := (blk_cell BK209.out 1).trans rfl
    have hcz24_2 : wc.cell? ⟨gb209, 2, none⟩ = some (.slice none 0 0) := (blk_cell BK209.out 2).trans rfl
    have hfz24_0 := blk_frozen BK209.out 0
    have hfz24_1 := blk_frozen BK209.out 1
    have hfz24_2 := blk_frozen BK209.out 2
    go_wp2
    refine bodyPost_ret (results_ct rfl _ _ gb209 24 #[.int .i64 0, .int .i64 0, .slice none 0 0] (0, 0) _ rfl (by (with_reducible repeat (first | refine blk_drewN ?_ _ | refine blk_drew ?_ | refine blk_alloc ?_ _)); refine blk_put (cs := #[.int .i64 0, .int .i64 0, .slice none 0 0]) ?_ 2 _ rfl; (with_reducible repeat (first | refine blk_drewN ?_ _ | refine blk_drew ?_ | refine blk_alloc ?_ _)); refine blk_put (cs := #[.int .i64 0, .int .i64 0, .slice none 0 0]) ?_ 1 _ rfl; (with_reducible repeat (first | refine blk_drewN ?_ _ | refine blk_drew ?_ | refine blk_alloc ?_ _)); refine blk_put (cs := #[.int .i64 0, .int .i64 0, .slice none 0 0]) ?_ 0 _ rfl; (with_reducible repeat (first | refine blk_drewN ?_ _ | refine blk_drew ?_ | refine blk_alloc ?_ _)); exact BK209.out) Try.underlying24 rfl (by kernel_rfl)) rfl ?_
    exact ⟨_, by first | rfl | (simp [errW_none, errW_some] <;> rfl) | (simp [*, errW_none, errW_some] <;> rfl), by first | exact Kd.R_nil _ _ _ _ _ | exact Kd.N_nil _ _ _ _ _ | exact Kd.V_nil _ _ _ _ _ | exact Kd.Q_nil _ _ _ _ _ | exact Kd.S_nil _ _ _ _ _, by repeat (first | (with_reducible first | exact HB.out | apply below_alloc | apply pw_below_drewN | apply below_drew1 | refine below_set ?_ GE207.out | refine below_set ?_ GE208.out | refine below_set ?_ GE209.out) | exact HB.out)⟩
   ·
    replace c21 := Bool.eq_false_iff.mpr c21
    subst c21
    have H1 : ((slices_Concat_int_int.f (([l0_2, l1_2] : List (List Int)))).bind fun t215 => ((slices_Sort_int_int.f t215).bind fun t218 => ((curve_made.f (wrap64 (a0_0 + a1_0)) (wrap64 (a0_1 + a1_1)) t218).bind fun bt219 => (some (bt219.1, bt219.2.1, bt219.2.2.1, bt219.2.2.2))))) = some (r1, r2, r3, r4) := by rw [if_neg (show ¬ (false = true) by decide)] at H; exact H
    clear H
    have H := H1
    clear H1
    obtain ⟨y212, hy212⟩ : ∃ y_ : List (List Int), y_ = (([l0_2, l1_2] : List (List Int))) := ⟨_, rfl⟩
    replace H : ((slices_Concat_int_int.f y212).bind fun t215 => ((slices_Sort_int_int.f t215).bind fun t218 => ((curve_made.f (wrap64 (a0_0 + a1_0)) (wrap64 (a0_1 + a1_1)) t218).bind fun bt219 => (some (bt219.1, bt219.2.1, bt219.2.2.1, bt219.2.2.2))))) = some (r1, r2, r3, r4) := by first | (rw [hy212]; with_reducible exact H) | (have H2_ := (Option.bind_some _ _).symm.trans H; rw [hy212]; with_reducible exact H2_) | (have H2_ := (Option.bind_some _ _).symm.trans H; with_reducible exact H2_) | with_reducible exact H | (rw [hy212]; exact H) | exact H
    have Ny212 := Aside0.mk hy212
    clear hy212
    replace H := Option.bind_eq_some_iff.mp H
    obtain ⟨t215, A250, H⟩ := H
    replace H : ((slices_Sort_int_int.f t215).bind fun t218 => ((curve_made.f (wrap64 (a0_0 + a1_0)) (wrap64 (a0_1 + a1_1)) t218).bind fun bt219 => (some (bt219.1, bt219.2.1, bt219.2.2.1, bt219.2.2.2)))) = some (r1, r2, r3, r4) := H
    have A25 := Aside0.mk A250
    clear A250
    replace H := Option.bind_eq_some_iff.mp H
    obtain ⟨t218, A260, H⟩ := H
    replace H : ((curve_made.f (wrap64 (a0_0 + a1_0)) (wrap64 (a0_1 + a1_1)) t218).bind fun bt219 => (some (bt219.1, bt219.2.1, bt219.2.2.1, bt219.2.2.2))) = some (r1, r2, r3, r4) := H
    have A26 := Aside0.mk A260
    clear A260
    replace H := Option.bind_eq_some_iff.mp H
    obtain ⟨⟨t219, t220, t221, t224⟩, A270, H⟩ := H
    replace H : (some (t219, t220, t221, t224)) = some (r1, r2, r3, r4) := H
    have A27 := Aside0.mk A270
    clear A270
    simp only [Option.some.injEq, Prod.mk.injEq] at H
    obtain ⟨rfl, rfl, rfl, rfl⟩ := H
    have hnb28 := NB207_208.out
    have hnc28 := NB208_207.out
    have hnb29 := NB207_209.out
    have hnc29 := NB209_207.out
    have hcz30_0 : wc.cell? ⟨gb207, 0, none⟩ = some (.int .i64 a0_0) := (blk_cell BK207.out 0).trans rfl
    have hcz30_1 : wc.cell? ⟨gb207, 1, none⟩ = some (.int .i64 a0_1) := (blk_cell BK207.out 1).trans rfl
    have hcz30_2 : wc.cell? ⟨gb207, 2, none⟩ = some (.slice A0_2 l0_2.length c0_2) := (blk_cell BK207.out 2).trans rfl
    have hfz30_0 := blk_frozen BK207.out 0
    have hfz30_1 := blk_frozen BK207.out 1
    have hfz30_2 := blk_frozen BK207.out 2
    have hnb31 := NB208_209.out
    have hnc31 := NB209_208.out
    have hcz32_0 : wc.cell? ⟨gb208, 0, none⟩ = some (.int .i64 a1_0) := (blk_cell BK208.out 0).trans rfl
    have hcz32_1 : wc.cell? ⟨gb208, 1, none⟩ = some (.int .i64 a1_1) := (blk_cell BK208.out 1).trans rfl
    have hcz32_2 : wc.cell? ⟨gb208, 2, none⟩ = some (.slice A1_2 l1_2.length c1_2) := (blk_cell BK208.out 2).trans rfl
    have hfz32_0 := blk_frozen BK208.out 0
    have hfz32_1 := blk_frozen BK208.out 1
    have hfz32_2 := blk_frozen BK208.out 2
    go_wp2_with (first | ((with_reducible refine gate_dst (N := 20) rfl ?_); refine Kd.N_lit (Kd.slice 3 (Kd.int .i64)) _ 22 ?hg (N' := 20) ?hd (xs := ([l0_2, l1_2] : List (List Int))) (inner := [.slice A0_2 l0_2.length c0_2, .slice A1_2 l1_2.length c1_2]) (ok := (fun k_ => ((P0_2_ k_ ∨ P1_2_ k_) ∨ w.heap.size ≤ k_) ∧ k_ ≠ gb207 ∧ k_ ≠ gb208 ∧ k_ ≠ gb209)) (okp := (fun k_ => ((P0_2_ k_ ∨ P1_2_ k_) ∨ w.heap.size ≤ k_) ∧ k_ ≠ gb207 ∧ k_ ≠ gb208 ∧ k_ ≠ gb209)) ?hr ?hp (fun _ hk => hk) ((show ∀ k_, wc.heap.size ≤ k_ → (fun k_ => ((P0_2_ k_ ∨ P1_2_ k_) ∨ w.heap.size ≤ k_) ∧ k_ ≠ gb207 ∧ k_ ≠ gb208 ∧ k_ ≠ gb209) k_ from fun k_ hk => ⟨(.inr (Nat.le_trans (below_size (by repeat (first | (with_reducible first | exact HB.out | apply below_alloc | apply pw_below_drewN | apply below_drew1 | refine below_set ?_ GE207.out | refine below_set ?_ GE208.out | refine below_set ?_ GE209.out) | exact HB.out))) hk)), Kd.freshB (g := gb207) (o := .cells #[.int .i64 a0_0, .int .i64 a0_1, .slice A0_2 l0_2.length c0_2] 24 (0, 0)) (by (with_reducible repeat (first | refine blk_drewN ?_ _ | refine blk_drew ?_ | refine blk_alloc ?_ _)); exact BK207.out) k_ hk, Kd.freshB (g := gb208) (o := .cells #[.int .i64 a1_0, .int .i64 a1_1, .slice A1_2 l1_2.length c1_2] 24 (0, 0)) (by (with_reducible repeat (first | refine blk_drewN ?_ _ | refine blk_drew ?_ | refine blk_alloc ?_ _)); exact BK208.out) k_ hk, Kd.freshB (g := gb209) (o := .cells #[.int .i64 0, .int .i64 0, .slice none 0 0] 24 (0, 0)) (by (with_reducible repeat (first | refine blk_drewN ?_ _ | refine blk_drew ?_ | refine blk_alloc ?_ _)); exact BK209.out) k_ hk⟩) _ (Nat.le_refl _)) (Below.refl _ _) (Nat.le_refl _) (by simp) ?_; (case hd => rfl); (case hg => rfl); (case hr => first | (go_simp; done) | (go_simp; rfl)); (case hp => exact (Reps.one (show Kd.FK (Kd.slice 3 (Kd.int .i64)) _ _ l0_2 [.slice A0_2 l0_2.length c0_2] from (Kd.FK_slice_mk (Kd.V_reads' (Kd.V_mono (ok' := (fun k_ => ((P0_2_ k_ ∨ P1_2_ k_) ∨ w.heap.size ≤ k_) ∧ k_ ≠ gb207 ∧ k_ ≠ gb208 ∧ k_ ≠ gb209)) (HO_208002.out) (fun k_ hk => ⟨hk.1, ⟨hk.2.1, ⟨hk.2.2.1, hk.2.2.2⟩⟩⟩))).2.1 (Kd.V_F (Kd.V_mono (ok' := (fun k_ => ((P0_2_ k_ ∨ P1_2_ k_) ∨ w.heap.size ≤ k_) ∧ k_ ≠ gb207 ∧ k_ ≠ gb208 ∧ k_ ≠ gb209)) (HO_208002.out) (fun k_ hk => ⟨hk.1, ⟨hk.2.1, ⟨hk.2.2.1, hk.2.2.2⟩⟩⟩))))) (Reps.one (show Kd.FK (Kd.slice 3 (Kd.int .i64)) _ _ l1_2 [.slice A1_2 l1_2.length c1_2] from (Kd.FK_slice_mk (Kd.V_reads' (Kd.V_mono (ok' := (fun k_ => ((P0_2_ k_ ∨ P1_2_ k_) ∨ w.heap.size ≤ k_) ∧ k_ ≠ gb207 ∧ k_ ≠ gb208 ∧ k_ ≠ gb209)) (HO_209002.out) (fun k_ hk => ⟨hk.1, ⟨hk.2.1, ⟨hk.2.2.1, hk.2.2.2⟩⟩⟩))).2.1 (Kd.V_F (Kd.V_mono (ok' := (fun k_ => ((P0_2_ k_ ∨ P1_2_ k_) ∨ w.heap.size ≤ k_) ∧ k_ ≠ gb207 ∧ k_ ≠ gb208 ∧ k_ ≠ gb209)) (HO_209002.out) (fun k_ hk => ⟨hk.1, ⟨hk.2.1, ⟨hk.2.2.1, hk.2.2.2⟩⟩⟩))))) (Reps.none _ _)))); intro v213 w33 ho34 hb hg_ hnew_; clear hg_ hnew_; (first | rw [← Ny212.out] at ho34 | (simp only [Int.reduceToNat] at ho34; rw [← Ny212.out] at ho34)); have n0_ := Aside0.mk (Kd.V_elder' (by (with_reducible repeat (first | apply Kd.V_alloc | apply Kd.V_drewN | apply Kd.V_drew)); exact HO_208002.out) (Kd.N_base ho34) hb); have n1_ := Aside0.mk (Kd.V_elder' (by (with_reducible repeat (first | apply Kd.V_alloc | apply Kd.V_drewN | apply Kd.V_drew)); exact HO_209002.out) (Kd.N_base ho34) hb); have n2_ := Aside0.mk (Kd.N_lower ho34 (below_size (by repeat (first | (with_reducible first | exact HB.out | apply below_alloc | apply pw_below_drewN | apply below_drew1 | refine below_set ?_ GE207.out | refine below_set ?_ GE208.out | refine below_set ?_ GE209.out) | exact HB.out)))); have n3_ := Aside0.mk (blk_below (g := gb207) (o := .cells #[.int .i64 a0_0, .int .i64 a0_1, .slice A0_2 l0_2.length c0_2] 24 (0, 0)) (by (with_reducible repeat (first | refine blk_drewN ?_ _ | refine blk_drew ?_ | refine blk_alloc ?_ _)); exact BK207.out) hb); have n4_ := Aside0.mk (blk_below (g := gb208) (o := .cells #[.int .i64 a1_0, .int .i64 a1_1, .slice A1_2 l1_2.length c1_2] 24 (0, 0)) (by (with_reducible repeat (first | refine blk_drewN ?_ _ | refine blk_drew ?_ | refine blk_alloc ?_ _)); exact BK208.out) hb); have n5_ := Aside0.mk (blk_below (g := gb209) (o := .cells #[.int .i64 0, .int .i64 0, .slice none 0 0] 24 (0, 0)) (by (with_reducible repeat (first | refine blk_drewN ?_ _ | refine blk_drew ?_ | refine blk_alloc ?_ _)); exact BK209.out) hb); have n6_ := Aside0.mk (below_step (by repeat (first | (with_reducible first | exact HB.out | apply below_alloc | apply pw_below_drewN | apply below_drew1 | refine below_set ?_ GE207.out | refine below_set ?_ GE208.out | refine below_set ?_ GE209.out) | exact HB.out)) hb); clear HO_208002; clear HO_209002; clear BK207; clear BK208; clear BK209; clear HB; have HO_208002 := n0_; have HO_209002 := n1_; have HO214 := n2_; have BK207 := n3_; have BK208 := n4_; have BK209 := n5_; have HB := n6_; clear n0_ n1_ n2_ n3_ n4_ n5_ n6_; clear hb ho34; obtain ⟨Ao35, co35, eo35⟩ := Kd.N_slice HO214.out; subst eo35) | ((with_reducible refine gate_callee (f := 49) rfl ?_); refine goesL_ (some 21) rfl rfl Try.func49 (by kernel_rfl) rfl #[.slice Ao35 y212.length co35] rfl (by (try simp only [List.map_toArray, List.map_cons, List.map_nil]); first | done | rfl | (simp only [List.length_drop, List.length_take]; rfl)) ?_; (with_reducible refine (slices_Concat_int_int.calls _ _ y212 t215 _ ?side1 ?side2 A25.out).mono ?_); (case side1 => repeat (first | exact (Kd.N_reads' HO214.out).2.2 | (with_reducible refine Kd.C_alloc ?_ _) | (with_reducible refine Kd.C_drewN ?_ _) | (with_reducible refine Kd.C_drew ?_))); (case side2 => exact (Kd.N_reads' HO214.out).2.1); rintro e w36 ⟨v216, rfl, ho0, hb⟩; refine ⟨_, rfl, ?_⟩; have n0_ := Aside0.mk (Kd.V_elder' (by (with_reducible repeat (first | apply Kd.V_alloc | apply Kd.V_drewN | apply Kd.V_drew)); exact HO_208002.out) (Kd.R_base ho0) hb); have n1_ := Aside0.mk (Kd.V_elder' (by (with_reducible repeat (first | apply Kd.V_alloc | apply Kd.V_drewN | apply Kd.V_drew)); exact HO_209002.out) (Kd.R_base ho0) hb); have n2_ := Aside0.mk (Kd.N_elder' (by (with_reducible repeat (first | apply Kd.N_alloc | apply Kd.N_drewN | apply Kd.N_drew)); exact HO214.out) (Kd.R_base ho0) hb); have n3_ := Aside0.mk (Kd.R_lower (Kd.R_newM (M := fun k_ => (w.heap.size ≤ k_)) ho0 (below_size (by repeat (first | (with_reducible first | exact HB.out | apply below_alloc | apply pw_below_drewN | apply below_drew1 | refine below_set ?_ GE207.out | refine below_set ?_ GE208.out | refine below_set ?_ GE209.out) | exact HB.out))) (fun k_ h_ => h_)) (below_size (by repeat (first | (with_reducible first | exact HB.out | apply below_alloc | apply pw_below_drewN | apply below_drew1 | refine below_set ?_ GE207.out | refine below_set ?_ GE208.out | refine below_set ?_ GE209.out) | exact HB.out)))); have n4_ := Aside0.mk (blk_below (g := gb207) (o := .cells #[.int .i64 a0_0, .int .i64 a0_1, .slice A0_2 l0_2.length c0_2] 24 (0, 0)) (by (with_reducible repeat (first | refine blk_drewN ?_ _ | refine blk_drew ?_ | refine blk_alloc ?_ _)); exact BK207.out) hb); have n5_ := Aside0.mk (blk_below (g := gb208) (o := .cells #[.int .i64 a1_0, .int .i64 a1_1, .slice A1_2 l1_2.length c1_2] 24 (0, 0)) (by (with_reducible repeat (first | refine blk_drewN ?_ _ | refine blk_drew ?_ | refine blk_alloc ?_ _)); exact BK208.out) hb); have n6_ := Aside0.mk (blk_below (g := gb209) (o := .cells #[.int .i64 0, .int .i64 0, .slice none 0 0] 24 (0, 0)) (by (with_reducible repeat (first | refine blk_drewN ?_ _ | refine blk_drew ?_ | refine blk_alloc ?_ _)); exact BK209.out) hb); have n7_ := Aside0.mk (below_step (by repeat (first | (with_reducible first | exact HB.out | apply below_alloc | apply pw_below_drewN | apply below_drew1 | refine below_set ?_ GE207.out | refine below_set ?_ GE208.out | refine below_set ?_ GE209.out) | exact HB.out)) hb); clear HO_208002; clear HO_209002; clear HO214; clear BK207; clear BK208; clear BK209; clear HB; have HO_208002 := n0_; have HO_209002 := n1_; have HO214 := n2_; have HO217 := n3_; have BK207 := n4_; have BK208 := n5_; have BK209 := n6_; have HB := n7_; clear n0_ n1_ n2_ n3_ n4_ n5_ n6_ n7_; (try clear hb); (try clear hb2); (try clear hk); (try clear hi); (try clear ho0); obtain ⟨Ao37, co37, eo37⟩ := Kd.R_slice HO217.out; subst eo37) | ((with_reducible refine gate_callee (f := 50) rfl ?_); refine goesL_ (some 23) rfl rfl Try.func50 (by kernel_rfl) rfl #[.slice Ao37 t215.length co37] rfl (by (try simp only [List.map_toArray, List.map_cons, List.map_nil]); first | done | rfl | (simp only [List.length_drop, List.length_take]; rfl)) ?_; (with_reducible refine (slices_Sort_int_int.calls (fun k_ => some k_ = (.slice Ao37 t215.length co37 : Value).ownBlock) (.slice Ao37 t215.length co37) t215 t218 w _ ?side1 ?side2 A26.out).mono ?_); (case side1 => repeat (first | (with_reducible first | exact HB.out | apply below_alloc | apply pw_below_drewN | apply below_drew1 | refine below_set ?_ GE207.out | refine below_set ?_ GE208.out | refine below_set ?_ GE209.out) | exact HB.out)); (case side2 => exact Kd.R_tight rfl HO217.out); rintro e w38 ⟨rfl, hy0, hb, hkp⟩; refine ⟨_, rfl, ?_⟩; have n0_ := Aside0.mk (Kd.V_mono (ok' := fun k_ => ((P0_2_ k_ ∨ P1_2_ k_) ∨ w.heap.size ≤ k_) ∧ some k_ ≠ (.slice Ao35 y212.length co35 : Value).ownBlock ∧ some k_ ≠ (.slice Ao37 t215.length co37 : Value).ownBlock ∧ k_ ≠ gb207 ∧ k_ ≠ gb208 ∧ k_ ≠ gb209) (Kd.V_keptB (HO_208002.out) hkp (fun k_ hk_ hs_ => (hk_.2) hs_)) (fun k_ hk_ => ⟨hk_.1.1.1.1, hk_.1.1.2, hk_.1.2, hk_.1.1.1.2.1, hk_.1.1.1.2.2.1, hk_.1.1.1.2.2.2⟩)); have n1_ := Aside0.mk (Kd.V_mono (ok' := fun k_ => ((P0_2_ k_ ∨ P1_2_ k_) ∨ w.heap.size ≤ k_) ∧ some k_ ≠ (.slice Ao35 y212.length co35 : Value).ownBlock ∧ some k_ ≠ (.slice Ao37 t215.length co37 : Value).ownBlock ∧ k_ ≠ gb207 ∧ k_ ≠ gb208 ∧ k_ ≠ gb209) (Kd.V_keptB (HO_209002.out) hkp (fun k_ hk_ hs_ => (hk_.2) hs_)) (fun k_ hk_ => ⟨hk_.1.1.1.1, hk_.1.1.2, hk_.1.2, hk_.1.1.1.2.1, hk_.1.1.1.2.2.1, hk_.1.1.1.2.2.2⟩)); have n2_ := Aside0.mk (blk_kept (by (with_reducible repeat (first | refine blk_drewN ?_ _ | refine blk_drew ?_ | refine blk_alloc ?_ _)); exact BK207.out) hkp (fun hs_ => (fun e_ => (Kd.R_ne HO217.out BK207.out (by decide)) e_) hs_)); have n3_ := Aside0.mk (blk_kept (by (with_reducible repeat (first | refine blk_drewN ?_ _ | refine blk_drew ?_ | refine blk_alloc ?_ _)); exact BK208.out) hkp (fun hs_ => (fun e_ => (Kd.R_ne HO217.out BK208.out (by decide)) e_) hs_)); have n4_ := Aside0.mk (blk_kept (by (with_reducible repeat (first | refine blk_drewN ?_ _ | refine blk_drew ?_ | refine blk_alloc ?_ _)); exact BK209.out) hkp (fun hs_ => (fun e_ => (Kd.R_ne HO217.out BK209.out (by decide)) e_) hs_)); have n5_ := Aside0.mk (Kd.N_mono (ok' := fun k_ => ((P0_2_ k_ ∨ P1_2_ k_) ∨ w.heap.size ≤ k_) ∧ some k_ ≠ (.slice Ao37 t215.length co37 : Value).ownBlock ∧ k_ ≠ gb207 ∧ k_ ≠ gb208 ∧ k_ ≠ gb209) (Kd.N_keptB (HO214.out) hkp (fun k_ hk_ hs_ => (hk_.2) hs_)) (fun k_ hk_ => ⟨hk_.1.1.1, hk_.1.2, hk_.1.1.2.1, hk_.1.1.2.2.1, hk_.1.1.2.2.2⟩)); have n6_ := Aside0.mk (Kd.R_reok rfl hy0 (fun k_ e_ => HO217.out.1 k_ e_)); have n7_ := Aside0.mk (hb); clear HO_208002; clear HO_209002; clear BK207; clear BK208; clear BK209; clear HO214; clear HO217; clear HB; have HO_208002 := n0_; have HO_209002 := n1_; have BK207 := n2_; have BK208 := n3_; have BK209 := n4_; have HO214 := n5_; have HO217 := n6_; have HB := n7_; clear n0_ n1_ n2_ n3_ n4_ n5_ n6_ n7_; (try clear hb); (try clear hkp); (try clear hy0); have hcz39_0 : w38.cell? ⟨gb207, 0, none⟩ = some (.int .i64 a0_0) := (blk_cell BK207.out 0).trans rfl; have hcz39_1 : w38.cell? ⟨gb207, 1, none⟩ = some (.int .i64 a0_1) := (blk_cell BK207.out 1).trans rfl; have hcz39_2 : w38.cell? ⟨gb207, 2, none⟩ = some (.slice A0_2 l0_2.length c0_2) := (blk_cell BK207.out 2).trans rfl; have hfz39_0 := blk_frozen BK207.out 0; have hfz39_1 := blk_frozen BK207.out 1; have hfz39_2 := blk_frozen BK207.out 2; have hcz40_0 : w38.cell? ⟨gb208, 0, none⟩ = some (.int .i64 a1_0) := (blk_cell BK208.out 0).trans rfl; have hcz40_1 : w38.cell? ⟨gb208, 1, none⟩ = some (.int .i64 a1_1) := (blk_cell BK208.out 1).trans rfl; have hcz40_2 : w38.cell? ⟨gb208, 2, none⟩ = some (.slice A1_2 l1_2.length c1_2) := (blk_cell BK208.out 2).trans rfl; have hfz40_0 := blk_frozen BK208.out 0; have hfz40_1 := blk_frozen BK208.out 1; have hfz40_2 := blk_frozen BK208.out 2) | ((with_reducible refine gate_callee (f := 51) rfl ?_); refine goesL_ (some 36) rfl rfl Try.func51 (by kernel_rfl) rfl #[.agg #[.int .i64 (wrap64 (a0_0 + a1_0)), .int .i64 (wrap64 (a0_1 + a1_1)), .slice Ao37 t215.length co37]] rfl (by (try simp only [List.map_toArray, List.map_cons, List.map_nil]); first | done | rfl | (simp only [List.length_drop, List.length_take]; rfl)) ?_; (with_reducible refine (curve_made.calls (wrap64 (a0_0 + a1_0)) (wrap64 (a0_1 + a1_1)) (fun k_ => some k_ = (.slice Ao37 t215.length co37 : Value).ownBlock) (.slice Ao37 t215.length co37) t218 t219 t220 t221 t224 w _ ?side1 ?side2 A27.out).mono ?_); (case side1 => repeat (first | (with_reducible first | exact HB.out | apply below_alloc | apply pw_below_drewN | apply below_drew1 | refine below_set ?_ GE207.out | refine below_set ?_ GE208.out | refine below_set ?_ GE209.out) | exact HB.out)); (case side2 => exact Kd.R_tight rfl HO217.out); rintro e w41 ⟨v222, rfl, ho0, hb, hkp⟩; refine ⟨_, rfl, ?_⟩; have n0_ := Aside0.mk (Kd.V_mono (ok' := fun k_ => ((P0_2_ k_ ∨ P1_2_ k_) ∨ w.heap.size ≤ k_) ∧ some k_ ≠ (.slice Ao35 y212.length co35 : Value).ownBlock ∧ k_ ≠ gb207 ∧ k_ ≠ gb208 ∧ k_ ≠ gb209 ∧ some k_ ≠ (v222 : Value).ownBlock) (Kd.V_keptB (HO_208002.out) hkp (fun k_ hk_ hs_ => (hk_.2.2.1) hs_)) (fun k_ hk_ => ⟨hk_.1.1, hk_.1.2.1, hk_.1.2.2.2.1, hk_.1.2.2.2.2.1, hk_.1.2.2.2.2.2, fun e_ => Or.elim (ho0.1 k_ e_.symm) (fun hs_ => hk_.2.1 hs_) (fun hn_ => Nat.not_le.2 hk_.2.2 hn_)⟩)); have n1_ := Aside0.mk (Kd.V_mono (ok' := fun k_ => ((P0_2_ k_ ∨ P1_2_ k_) ∨ w.heap.size ≤ k_) ∧ some k_ ≠ (.slice Ao35 y212.length co35 : Value).ownBlock ∧ k_ ≠ gb207 ∧ k_ ≠ gb208 ∧ k_ ≠ gb209 ∧ some k_ ≠ (v222 : Value).ownBlock) (Kd.V_keptB (HO_209002.out) hkp (fun k_ hk_ hs_ => (hk_.2.2.1) hs_)) (fun k_ hk_ => ⟨hk_.1.1, hk_.1.2.1, hk_.1.2.2.2.1, hk_.1.2.2.2.2.1, hk_.1.2.2.2.2.2, fun e_ => Or.elim (ho0.1 k_ e_.symm) (fun hs_ => hk_.2.1 hs_) (fun hn_ => Nat.not_le.2 hk_.2.2 hn_)⟩)); have n2_ := Aside0.mk (blk_kept (by (with_reducible repeat (first | refine blk_drewN ?_ _ | refine blk_drew ?_ | refine blk_alloc ?_ _)); exact BK207.out) hkp (fun hs_ => (fun e_ => (Kd.R_ne HO217.out BK207.out (by decide)) e_) hs_)); have n3_ := Aside0.mk (blk_kept (by (with_reducible repeat (first | refine blk_drewN ?_ _ | refine blk_drew ?_ | refine blk_alloc ?_ _)); exact BK208.out) hkp (fun hs_ => (fun e_ => (Kd.R_ne HO217.out BK208.out (by decide)) e_) hs_)); have n4_ := Aside0.mk (blk_kept (by (with_reducible repeat (first | refine blk_drewN ?_ _ | refine blk_drew ?_ | refine blk_alloc ?_ _)); exact BK209.out) hkp (fun hs_ => (fun e_ => (Kd.R_ne HO217.out BK209.out (by decide)) e_) hs_)); have n5_ := Aside0.mk (Kd.N_mono (ok' := fun k_ => ((P0_2_ k_ ∨ P1_2_ k_) ∨ w.heap.size ≤ k_) ∧ k_ ≠ gb207 ∧ k_ ≠ gb208 ∧ k_ ≠ gb209 ∧ some k_ ≠ (v222 : Value).ownBlock) (Kd.N_keptB (HO214.out) hkp (fun k_ hk_ hs_ => (hk_.2.1) hs_)) (fun k_ hk_ => ⟨hk_.1.1, hk_.1.2.2.1, hk_.1.2.2.2.1, hk_.1.2.2.2.2, fun e_ => Or.elim (ho0.1 k_ e_.symm) (fun hs_ => hk_.2.1 hs_) (fun hn_ => Nat.not_le.2 hk_.2.2 hn_)⟩)); have n6_ := Aside0.mk (Kd.R_mono (ok' := fun k_ => (w.heap.size ≤ k_)) ho0 (fun k_ hk_ => Or.elim hk_ (fun hs_ => (HO217.out.1 k_ (hs_).symm).1) (fun hn_ => (Nat.le_trans (below_size (by repeat (first | (with_reducible first | exact HB.out | apply below_alloc | apply pw_below_drewN | apply below_drew1 | refine below_set ?_ GE207.out | refine below_set ?_ GE208.out | refine below_set ?_ GE209.out) | exact HB.out))) hn_)))); have n7_ := Aside0.mk (hb); clear HO_208002; clear HO_209002; clear BK207; clear BK208; clear BK209; clear HO214; clear HB; clear HO217; have HO_208002 := n0_; have HO_209002 := n1_; have BK207 := n2_; have BK208 := n3_; have BK209 := n4_; have HO214 := n5_; have HO223 := n6_; have HB := n7_; clear n0_ n1_ n2_ n3_ n4_ n5_ n6_ n7_; (try clear hb); (try clear hkp); (try clear ho0); have hcz42_0 : w41.cell? ⟨gb209, 0, none⟩ = some (.int .i64 0) := (blk_cell BK209.out 0).trans rfl; have hcz42_1 : w41.cell? ⟨gb209, 1, none⟩ = some (.int .i64 0) := (blk_cell BK209.out 1).trans rfl; have hcz42_2 : w41.cell? ⟨gb209, 2, none⟩ = some (.slice none 0 0) := (blk_cell BK209.out 2).trans rfl; have hfz42_0 := blk_frozen BK209.out 0; have hfz42_1 := blk_frozen BK209.out 1; have hfz42_2 := blk_frozen BK209.out 2; obtain ⟨Ao43, co43, eo43⟩ := Kd.R_slice HO223.out; subst eo43))
    refine bodyPost_ret (results_ct rfl _ _ gb209 24 #[.int .i64 t219, .int .i64 t220, .slice Ao43 t221.length co43] (0, 0) _ rfl (by (with_reducible repeat (first | refine blk_drewN ?_ _ | refine blk_drew ?_ | refine blk_alloc ?_ _)); refine blk_put (cs := #[.int .i64 t219, .int .i64 t220, .slice none 0 0]) ?_ 2 _ rfl; (with_reducible repeat (first | refine blk_drewN ?_ _ | refine blk_drew ?_ | refine blk_alloc ?_ _)); refine blk_put (cs := #[.int .i64 t219, .int .i64 0, .slice none 0 0]) ?_ 1 _ rfl; (with_reducible repeat (first | refine blk_drewN ?_ _ | refine blk_drew ?_ | refine blk_alloc ?_ _)); refine blk_put (cs := #[.int .i64 0, .int .i64 0, .slice none 0 0]) ?_ 0 _ rfl; (with_reducible repeat (first | refine blk_drewN ?_ _ | refine blk_drew ?_ | refine blk_alloc ?_ _)); exact BK209.out) Try.underlying24 rfl (by kernel_rfl)) rfl ?_
    exact ⟨_, by first | rfl | (simp [errW_none, errW_some] <;> rfl) | (simp [*, errW_none, errW_some] <;> rfl), by (with_reducible repeat (first | apply Kd.R_alloc | apply Kd.R_drewN | apply Kd.R_drew)); exact Kd.R_mono (Kd.R_far (p := ⟨gb209, 2, none⟩) (Kd.R_far (p := ⟨gb209, 1, none⟩) (Kd.R_far (p := ⟨gb209, 0, none⟩) (Kd.R_types HO223.out BK209.out (by decide)) (fun _ hk => hk.2) (.int .i64 t219)) (fun _ hk => hk.2) (.int .i64 t220)) (fun _ hk => hk.2) (.slice Ao43 t221.length co43)) (fun _ hk => hk.1), by repeat (first | (with_reducible first | exact HB.out | apply below_alloc | apply pw_below_drewN | apply below_drew1 | refine below_set ?_ GE207.out | refine below_set ?_ GE208.out | refine below_set ?_ GE209.out) | exact HB.out)⟩
end Go.Proofs.Ytfeeaipbmpmpgaa.PX

namespace Go.Proofs.Ytfeeaipbmpmpgaa.PX
open Go.RowKit Go.Proofs.YtfeeaipbmpmpgaaW.PrintWords Go.Proofs.YtfeeaipbmpmpgaaW.PrintLast Go.Proofs.YtfeeaipbmpmpgaaW.PrintMore
set_option linter.unusedVariables false
set_option linter.unusedSimpArgs false

/-- What a row of whole numbers reads as lies in memory alone. -/
theorem F_int {w : World} {A : Option Addr} {n : Nat} {xs : List Int} (h : Kd.C (Kd.int .i64) w A n xs) : Kd.F (Kd.int .i64) w (fun _ => True) A n xs := fun W' hW =>
  ⟨h.1, h.2.1, fun hn => by
    obtain ⟨ad, e, hc⟩ := h.2.2 hn
    refine ⟨ad, e, fun j p hj => ?_⟩
    obtain ⟨c, hs, hr, hcell⟩ := hc j p hj
    refine ⟨c, hs, hr, fun i u hu => ?_⟩
    have h1 := hcell i u hu
    have h2 := hW _ trivial (World.block_lt_of_cell? w _ h1)
    rw [← h1]
    unfold World.cell?
    rw [h2]⟩
def madeR (x y : Int) (l : List Int) : Int × Int × List Int × Int := if valB x y l = true then (x, y, l, 0) else (0, 0, [], 4)
def joinR (a0 a1 : Int) (la : List Int) (b0 b1 : Int) (lb : List Int) : Int × Int × List Int × Int :=
  if valB a0 a1 la = true then if valB b0 b1 lb = true then madeR (a0 + b0) (a1 + b1) (sortI (la ++ lb)) else (0, 0, [], 2) else (0, 0, [], 2)
def curve_Join.f (a0_0 : Int) (a0_1 : Int) (l0_2 : List Int) (a1_0 : Int) (a1_1 : Int) (l1_2 : List Int) : Option (Int × Int × List Int × Int) := some (joinR a0_0 a0_1 l0_2 a1_0 a1_1 l1_2)
theorem wi_iff {n m : Int} : wi n m = true ↔ -m ≤ n ∧ n ≤ m := by unfold wi; simp
theorem val_from {a b : Int} {l : List Int} (h : valB a b l = true) : -1048576 ≤ a ∧ a ≤ 1048576 ∧ -1099511627776 ≤ b ∧ b ≤ 1099511627776 ∧ l.length ≤ 64 := by
  unfold valB at h
  simp only [Bool.and_eq_true, decide_eq_true_eq, wi_iff] at h
  omega
theorem w64 {x : Int} (h0 : -9223372036854775808 ≤ x) (h1 : x ≤ 9223372036854775807) : wrap64 x = x := by unfold wrap64; omega
theorem made_some (x y : Int) (l : List Int) : curve_made.f x y l = some (madeR x y l) := by
  unfold curve_made.f curve_Valid.f madeR
  simp only [Option.bind_some]
  split <;> rfl
theorem joinP_some (a0_0 : Int) (a0_1 : Int) (l0_2 : List Int) (a1_0 : Int) (a1_1 : Int) (l1_2 : List Int) : curve_JoinP.f 1 a0_0 a0_1 l0_2 a1_0 a1_1 l1_2 = some (joinR a0_0 a0_1 l0_2 a1_0 a1_1 l1_2) := by
  unfold curve_JoinP.f joinR curve_Valid.f
  simp only [Option.bind_some]
  by_cases h1 : valB a0_0 a0_1 l0_2 = true
  · rw [if_pos h1, if_pos h1]
    by_cases h2 : valB a1_0 a1_1 l1_2 = true
    · obtain ⟨p1, p2, p3, p4, p5⟩ := val_from h1
      obtain ⟨q1, q2, q3, q4, q5⟩ := val_from h2
      have hlen : (l0_2 ++ l1_2).length ≤ 128 := by rw [List.length_append]; omega
      rw [if_pos h2, h2]
      simp only [curve_JoinP.j0, slices_Concat_int_int.f, slices_Sort_int_int.f]
      simp [show l0_2.length ≤ 1000 from by omega, show l1_2.length ≤ 1000 from by omega, show l0_2.length + l1_2.length < 4611686018427387904 from by omega, w64 (x := a0_0 + a1_0) (by omega) (by omega), w64 (x := a0_1 + a1_1) (by omega) (by omega), made_some]
    · rw [if_neg h2, Bool.eq_false_iff.2 h2]
      simp [curve_JoinP.j0]
  · rw [if_neg h1, if_neg h1]
    simp [curve_JoinP.j0]
theorem curve_Join.calls (a0_0 : Int) (a0_1 : Int) (A0_2 : Option Addr) (c0_2 : Nat) (l0_2 : List Int) (a1_0 : Int) (a1_1 : Int) (A1_2 : Option Addr) (c1_2 : Nat) (l1_2 : List Int) (r1 : Int) (r2 : Int) (r3 : List Int) (r4 : Int) (w : World) (hr0_2 : Kd.C (Kd.int .i64) w A0_2 l0_2.length l0_2) (hc0_2 : l0_2.length ≤ c0_2) (hr1_2 : Kd.C (Kd.int .i64) w A1_2 l1_2.length l1_2) (hc1_2 : l1_2.length ≤ c1_2) (h : curve_Join.f a0_0 a0_1 l0_2 a1_0 a1_1 l1_2 = some (r1, r2, r3, r4)) :
    Calls Try.prog 14 #[.agg #[.int .i64 a0_0, .int .i64 a0_1, .slice A0_2 l0_2.length c0_2], .agg #[.int .i64 a1_0, .int .i64 a1_1, .slice A1_2 l1_2.length c1_2]] w fun e w' => ∃ v2_ : Value, e = .returned (.tuple #[.agg #[.int .i64 r1, .int .i64 r2, v2_], .int .i64 r4]) ∧ Kd.R (Kd.int .i64) 3 w' w.heap.size (fun _ => True) v2_ r3 ∧ Below w.heap.size w w' := by
  refine (curve_JoinP.calls 1 a0_0 a0_1 (fun _ => True) A0_2 c0_2 l0_2 a1_0 a1_1 (fun _ => True) A1_2 c1_2 l1_2 r1 r2 r3 r4 w (Kd.V_mk hc0_2 (F_int hr0_2)) (Kd.V_mk hc1_2 (F_int hr1_2)) ((joinP_some _ _ _ _ _ _).trans h)).mono ?_
  rintro e w' ⟨v, rfl, hR, hB⟩
  exact ⟨v, rfl, Kd.R_mono hR (fun _ _ => trivial), hB⟩
end Go.Proofs.Ytfeeaipbmpmpgaa.PX

namespace Go.Proofs.Ytfeeaipbmpmpgaa.PX
open Go.RowKit Go.Proofs.YtfeeaipbmpmpgaaW.PrintWords Go.Proofs.YtfeeaipbmpmpgaaW.PrintLast Go.Proofs.YtfeeaipbmpmpgaaW.PrintMore
set_option linter.unusedVariables false
set_option linter.unusedSimpArgs false

/-- What curve.at computes: the first value, plus the slopes up to the place, each sum as Go's int has it. -/
def addup (v : Int) (l : List Int) : Int := l.foldl (fun v s => wrap64 (v + s)) v
def curve_at.f (a0_0 : Int) (a0_1 : Int) (l : List Int) (a1 : Int) : Option Int :=
  if 0 ≤ wrap64 (a1 - a0_0) then if wrap64 (a1 - a0_0) ≤ (l.length : Int) then some (addup a0_1 (l.take (wrap64 (a1 - a0_0)).toNat)) else none else none
theorem addup_snoc (v : Int) (l : List Int) (i : Nat) (h : i < l.length) : addup v (l.take (i + 1)) = wrap64 (addup v (l.take i) + rd l (i : Int)) := by
  unfold addup
  rw [List.take_succ_eq_append_getElem h, List.foldl_append]
  simp [rd, List.getD_eq_getElem?_getD, List.getElem?_eq_getElem h]
set_option maxHeartbeats 8000000 in
set_option maxRecDepth 100000 in
theorem curve_at.calls (a0_0 : Int) (a0_1 : Int) (A0_2 : Option Addr) (c0_2 : Nat) (l0_2 : List Int) (a1 : Int) (r : Int) (w : World) (hr0_2 : Kd.C (Kd.int .i64) w A0_2 l0_2.length l0_2) (hc0_2 : l0_2.length ≤ c0_2) (h : curve_at.f a0_0 a0_1 l0_2 a1 = some r) :
    Calls Try.prog 61 #[.agg #[.int .i64 a0_0, .int .i64 a0_1, .slice A0_2 l0_2.length c0_2], .int .i64 a1] w fun e w' => e = .returned (.int .i64 r) ∧ Below w.heap.size w w' := by
  have hu24 := Try.underlying24
  have hu22 := Try.underlying22
  unfold curve_at.f at h
  by_cases c1 : 0 ≤ wrap64 (a1 - a0_0)
  · rw [if_pos c1] at h
    by_cases c2 : wrap64 (a1 - a0_0) ≤ (l0_2.length : Int)
    · rw [if_pos c2] at h
      obtain ⟨n, hn⟩ : ∃ n : Nat, wrap64 (a1 - a0_0) = (n : Int) := Int.eq_ofNat_of_zero_le c1
      rw [hn] at h c2
      clear c1
      have hnl : n ≤ l0_2.length := by omega
      obtain rfl := Option.some.inj h
      clear h c2
      rw [Int.toNat_natCast]
      have hmax : l0_2.length ≤ 9223372036854775807 := hr0_2.2.1
      have HR := Aside0.mk hr0_2
      have HN := Aside0.mk hnl
      have HS := Aside0.mk (addup_snoc a0_1 l0_2)
      have hnc : n ≤ c0_2 := Nat.le_trans hnl hc0_2
      have hnm : n ≤ 9223372036854775807 := Nat.le_trans hnl hmax
      clear hr0_2 hmax hnl hc0_2
      go_enter Try.func61, Try.ntmps61
      go_wp2
      go_loop [5, 18] (fun v i => ∃ k : Nat, k ≤ n ∧ v = .int .i64 (addup a0_1 (l0_2.take k)) ∧ i = .int .i64 (k : Int)) (fun _ i => n - (intOf i).toNat)
      case atStart => exact ⟨0, by omega, rfl, rfl⟩
      case round =>
        obtain ⟨k, hk, rfl, rfl⟩ := hrel
        by_cases hlt : k < n
        · obtain ⟨ad, rfl, hx⟩ := Kd.at_int HR.out (k : Int) (by omega) (by have := HN.out; omega)
          rw [Int.toNat_natCast] at hx
          have hx2 := fun (o : Obj) => ((below_alloc (Below.refl _ w) o).cell (World.block_lt_of_cell? w _ hx)).trans hx
          have hs := HS.out k (by have := HN.out; omega)
          have HS1 := Aside0.mk hs
          clear hx hs
          go_wp2
          go_round
          case rel => exact ⟨k + 1, by omega, by rw [HS1.out], by go_num⟩
          case measure => simp [intOf]; omega
        · obtain rfl : k = n := by omega
          go_wp2
          go_ret
          exact ⟨rfl, below_alloc (Below.refl _ _) _⟩
    · rw [if_neg c2] at h
      exact absurd h (by simp)
  · rw [if_neg c1] at h
    exact absurd h (by simp)
end Go.Proofs.Ytfeeaipbmpmpgaa.PX

namespace Go.Proofs.Ytfeeaipbmpmpgaa.PX
open Go.RowKit Go.Proofs.YtfeeaipbmpmpgaaW.PrintWords Go.Proofs.YtfeeaipbmpmpgaaW.PrintLast Go.Proofs.YtfeeaipbmpmpgaaW.PrintMore
set_option linter.unusedVariables false
set_option linter.unusedSimpArgs false

/-! ### sums of the first slopes -/
def sm (l : List Int) (i : Nat) : Int := (l.take i).sum
theorem sm_zero (l : List Int) : sm l 0 = 0 := rfl
theorem sm_nil (i : Nat) : sm [] i = 0 := by simp [sm]
theorem sm_cons (x : Int) (l : List Int) (i : Nat) : sm (x :: l) (i + 1) = x + sm l i := by simp [sm]
theorem sm_succ (l : List Int) (i : Nat) (h : i < l.length) : sm l (i + 1) = sm l i + l[i] := by
  unfold sm
  rw [List.take_succ_eq_append_getElem h, List.sum_append]
  simp
theorem sm_bound (l : List Int) (B : Int) (hB : 0 ≤ B) (h : ∀ s ∈ l, -B ≤ s ∧ s ≤ B) (i : Nat) : -(B * l.length) ≤ sm l i ∧ sm l i ≤ B * l.length := by
  induction l generalizing i with
  | nil => simp [sm]
  | cons x l ih =>
    cases i with
    | zero => simp only [sm_zero]; have : 0 ≤ B * ((x :: l).length : Int) := Int.mul_nonneg hB (by omega); omega
    | succ i =>
      rw [sm_cons]
      have h1 := h x List.mem_cons_self
      have h2 := ih (fun s hs => h s (List.mem_cons_of_mem _ hs)) i
      have e : B * ((x :: l).length : Int) = B * (l.length : Int) + B := by simp [Int.mul_add]
      omega
theorem addup_eq (b : Int) (l : List Int) (hl : l.length ≤ 100) (hb : -4398046511104 ≤ b ∧ b ≤ 4398046511104) (h : ∀ s ∈ l, -2097152 ≤ s ∧ s ≤ 2097152) : addup b l = b + l.sum := by
  have key : ∀ n, n ≤ l.length → addup b (l.take n) = b + sm l n := by
    intro n
    induction n with
    | zero => intro _; simp [addup, sm]
    | succ n ih =>
      intro hn
      have h1 := ih (by omega)
      rw [addup_snoc b l n (by omega), h1, sm_succ l n (by omega), rd_getElem l n (by omega)]
      have h2 := sm_bound l 2097152 (by omega) h n
      have h3 := h _ (List.getElem_mem (by omega : n < l.length))
      rw [w64 (by omega) (by omega)]
      omega
  have := key l.length (Nat.le_refl _)
  rw [List.take_length] at this
  rw [this]
  simp [sm]
theorem addup_take (b : Int) (l : List Int) (n : Nat) (hl : l.length ≤ 100) (hb : -4398046511104 ≤ b ∧ b ≤ 4398046511104) (h : ∀ s ∈ l, -2097152 ≤ s ∧ s ≤ 2097152) : addup b (l.take n) = b + sm l n :=
  addup_eq b (l.take n) (by simp; omega) hb (fun s hs => h s (List.mem_of_mem_take hs))

/-! ### merged -/
def mrg : List Int → List Int → List Int
  | [], m => m
  | x :: l, [] => x :: l
  | x :: l, y :: m => if x ≤ y then x :: mrg l (y :: m) else y :: mrg (x :: l) m
theorem mrg_nil_right (l : List Int) : mrg l [] = l := by cases l <;> simp [mrg]
theorem mrg_perm (l m : List Int) : (mrg l m).Perm (l ++ m) := by
  induction l, m using mrg.induct with
  | case1 m => simp [mrg]
  | case2 x l => simp [mrg]
  | case3 x l y m h ih => simp only [mrg, if_pos h]; exact ih.cons x
  | case4 x l y m h ih =>
    simp only [mrg, if_neg h]
    exact (ih.cons y).trans (List.perm_middle.symm)
theorem mrg_length (l m : List Int) : (mrg l m).length = l.length + m.length := by rw [(mrg_perm l m).length_eq, List.length_append]
theorem mrg_sorted (l m : List Int) (hl : l.Pairwise (· ≤ ·)) (hm : m.Pairwise (· ≤ ·)) : (mrg l m).Pairwise (· ≤ ·) := by
  induction l, m using mrg.induct with
  | case1 m => simpa [mrg] using hm
  | case2 x l => simpa [mrg] using hl
  | case3 x l y m h ih =>
    simp only [mrg, if_pos h]
    rw [List.pairwise_cons] at hl ⊢
    refine ⟨fun z hz => ?_, ih hl.2 hm⟩
    rcases List.mem_append.1 ((mrg_perm l (y :: m)).mem_iff.1 hz) with hz | hz
    · exact hl.1 z hz
    · rcases List.mem_cons.1 hz with rfl | hz
      · exact h
      · have := (List.pairwise_cons.1 hm).1 z hz
        omega
  | case4 x l y m h ih =>
    simp only [mrg, if_neg h]
    rw [List.pairwise_cons] at hm ⊢
    refine ⟨fun z hz => ?_, ih hl hm.2⟩
    rcases List.mem_append.1 ((mrg_perm (x :: l) m).mem_iff.1 hz) with hz | hz
    · rcases List.mem_cons.1 hz with rfl | hz
      · omega
      · have := (List.pairwise_cons.1 hl).1 z hz
        omega
    · exact hm.1 z hz
theorem sortI_sorted (l : List Int) : (sortI l).Pairwise (· ≤ ·) := by
  have h := List.pairwise_mergeSort (le := fun x y : Int => decide (x ≤ y)) (fun a b c h1 h2 => by simp at *; omega) (fun a b => by simp; omega) l
  exact h.imp (fun h => by simpa using h)
theorem sortI_perm (l : List Int) : (sortI l).Perm l := List.mergeSort_perm l _
theorem sorted_eq {l m : List Int} (hl : l.Pairwise (· ≤ ·)) (hm : m.Pairwise (· ≤ ·)) (h : l.Perm m) : l = m :=
  h.eq_of_pairwise (le := (· ≤ ·)) (fun a b _ _ h1 h2 => Int.le_antisymm h1 h2) hl hm
theorem sortI_congr {l m : List Int} (h : l.Perm m) : sortI l = sortI m := sorted_eq (sortI_sorted _) (sortI_sorted _) ((sortI_perm l).trans (h.trans (sortI_perm m).symm))
theorem sortI_append (l m : List Int) (hl : l.Pairwise (· ≤ ·)) (hm : m.Pairwise (· ≤ ·)) : sortI (l ++ m) = mrg l m :=
  sorted_eq (sortI_sorted _) (mrg_sorted l m hl hm) ((sortI_perm _).trans (mrg_perm l m).symm)

/-- Every division of n has at least the first n slopes of both, in order. -/
theorem sm_shift (x : Int) (l : List Int) (h : ∀ y ∈ l, x ≤ y) (hl : l.Pairwise (· ≤ ·)) (n : Nat) (hn : n ≤ l.length) : sm (x :: l) n ≤ sm l n := by
  induction l generalizing x n with
  | nil => have : n = 0 := by simpa using hn
           subst this
           simp [sm]
  | cons y l ih =>
    cases n with
    | zero => simp [sm]
    | succ n =>
      rw [sm_cons, sm_cons y l]
      have h1 := ih y (List.pairwise_cons.1 hl).1 (List.pairwise_cons.1 hl).2 n (by simpa using hn)
      have h2 := h y List.mem_cons_self
      omega
theorem sm_mrg_le (l m : List Int) (hl : l.Pairwise (· ≤ ·)) (hm : m.Pairwise (· ≤ ·)) (i j : Nat) (hi : i ≤ l.length) (hj : j ≤ m.length) : sm (mrg l m) (i + j) ≤ sm l i + sm m j := by
  induction l, m using mrg.induct generalizing i j with
  | case1 m =>
    have : i = 0 := by simpa using hi
    subst this
    simp [mrg, sm]
  | case2 x l =>
    have : j = 0 := by simpa using hj
    subst this
    simp [mrg, sm]
  | case3 x l y m h ih =>
    simp only [mrg, if_pos h]
    have hl' := List.pairwise_cons.1 hl
    cases i with
    | succ i =>
      rw [show i + 1 + j = (i + j) + 1 from by omega, sm_cons, sm_cons]
      have := ih hl'.2 hm i j (by simpa using hi) hj
      omega
    | zero =>
      have h1 := ih hl'.2 hm 0 j (by omega) hj
      have h2 := sm_shift x (mrg l (y :: m)) (fun z hz => ?_) (mrg_sorted _ _ hl'.2 hm) (0 + j) (by rw [mrg_length]; omega)
      · have e : sm (x :: l) 0 = 0 := rfl
        have e' : sm l 0 = 0 := rfl
        omega
      · rcases List.mem_append.1 ((mrg_perm l (y :: m)).mem_iff.1 hz) with hz | hz
        · exact hl'.1 z hz
        · rcases List.mem_cons.1 hz with rfl | hz
          · exact h
          · have := (List.pairwise_cons.1 hm).1 z hz
            omega
  | case4 x l y m h ih =>
    simp only [mrg, if_neg h]
    have hm' := List.pairwise_cons.1 hm
    cases j with
    | succ j =>
      rw [show i + (j + 1) = (i + j) + 1 from by omega, sm_cons, sm_cons]
      have := ih hl hm'.2 i j hi (by simpa using hj)
      omega
    | zero =>
      have h1 := ih hl hm'.2 i 0 hi (by omega)
      have h2 := sm_shift y (mrg (x :: l) m) (fun z hz => ?_) (mrg_sorted _ _ hl hm'.2) (i + 0) (by rw [mrg_length]; omega)
      · have e : sm (y :: m) 0 = 0 := rfl
        have e' : sm m 0 = 0 := rfl
        omega
      · rcases List.mem_append.1 ((mrg_perm (x :: l) m).mem_iff.1 hz) with hz | hz
        · rcases List.mem_cons.1 hz with rfl | hz
          · omega
          · have := (List.pairwise_cons.1 hl).1 z hz
            omega
        · exact hm'.1 z hz
/-- And one division has just that. -/
theorem sm_mrg_ex (l m : List Int) (n : Nat) (hn : n ≤ l.length + m.length) : ∃ i j, i + j = n ∧ i ≤ l.length ∧ j ≤ m.length ∧ sm (mrg l m) n = sm l i + sm m j := by
  induction l, m using mrg.induct generalizing n with
  | case1 m => exact ⟨0, n, by omega, by omega, by simpa using hn, by simp [mrg, sm]⟩
  | case2 x l => exact ⟨n, 0, by omega, by simpa using hn, by omega, by simp [mrg, sm]⟩
  | case3 x l y m h ih =>
    simp only [mrg, if_pos h]
    cases n with
    | zero => exact ⟨0, 0, rfl, by omega, by omega, by simp [sm]⟩
    | succ n =>
      obtain ⟨i, j, h1, h2, h3, h4⟩ := ih n (by simp at hn ⊢; omega)
      exact ⟨i + 1, j, by omega, by simpa using h2, h3, by rw [sm_cons, sm_cons]; omega⟩
  | case4 x l y m h ih =>
    simp only [mrg, if_neg h]
    cases n with
    | zero => exact ⟨0, 0, rfl, by omega, by omega, by simp [sm]⟩
    | succ n =>
      obtain ⟨i, j, h1, h2, h3, h4⟩ := ih n (by simp at hn ⊢; omega)
      exact ⟨i, j + 1, by omega, h2, by simpa using h3, by rw [sm_cons, sm_cons]; omega⟩
end Go.Proofs.Ytfeeaipbmpmpgaa.PX

namespace Go.Proofs.Ytfeeaipbmpmpgaa.PX
open Go.RowKit Go.Proofs.YtfeeaipbmpmpgaaW.PrintWords Go.Proofs.YtfeeaipbmpmpgaaW.PrintLast Go.Proofs.YtfeeaipbmpmpgaaW.PrintMore
attribute [local go_sem] max2_int min2_int max_two min_two max_three min_three max_four min_four   -- for this text's walks alone
set_option linter.unusedVariables false
set_option linter.unusedSimpArgs false
/-! ### curve_to: function 58 -/
def curve_to.f (a0_0 : Int) (a0_1 : Int) (l0_2 : List Int) : Option (Int) := some (wrap64 (a0_0 + (l0_2.length : Int)))
set_option maxHeartbeats 8000000 in
set_option maxRecDepth 100000 in
theorem curve_to.calls (a0_0 : Int) (a0_1 : Int) (A0_2 : Option Addr) (c0_2 : Nat) (l0_2 : List Int) (r : Int) (w : World) (hr0_2 : Kd.C (Kd.int .i64) w A0_2 l0_2.length l0_2) (hc0_2 : l0_2.length ≤ c0_2) (h : curve_to.f a0_0 a0_1 l0_2 = some r) :
  Calls Try.prog 58 #[.agg #[.int .i64 a0_0, .int .i64 a0_1, .slice A0_2 l0_2.length c0_2]] w fun e w' => e = .returned (.int .i64 r) ∧ Below w.heap.size w w' := by
 have hu24 := Try.underlying24
 have HR0_2 := zA hr0_2
 have HC0_2 := zA hc0_2
 clear hr0_2 hc0_2
 have HB := zA (Below.refl w.heap.size w)
 have H : (some (wrap64 (a0_0 + (l0_2.length : Int)))) = some r := h
 clear h
 obtain rfl := Option.some.inj H
 go_enter Try.func58, Try.ntmps58
 go_wp2_with (first | ((with_reducible refine gate_dst (N := 1) rfl ?_); refine box_event ?hg (N := 1) ?hd (cs := #[.int .i64 a0_0, .int .i64 a0_1, .slice A0_2 l0_2.length c0_2]) (t := 24) ?hr ?_; (case hd => rfl); (case hg => rfl); (case hr => first | (go_simp; done) | (go_simp; rfl)); intro gA hg w2 hbox hb; have n0_ := zA (below_step (by repeat (first | (with_reducible first | exact HB.out | apply zW | apply zX | apply zY) | exact HB.out)) hb); have n1_ := zA (hbox); have n2_ := zA ((by rw [hg]; exact (below_size (by repeat (first | (with_reducible first | exact HB.out | apply zW | apply zX | apply zY) | exact HB.out))) : w.heap.size ≤ gA)); have n3_ := zA ((by rw [hg]; exact (below_size (by repeat (first | (with_reducible first | exact HB.out | apply zW | apply zX | apply zY) | exact HB.out))) : w.heap.size ≤ gA)); clear HB; have HB := n0_; have BK3Q := n1_; have GW3Q := n2_; have GE3Q := n3_; clear n0_ n1_ n2_ n3_; clear hb hbox hg; have hcz3_0 : w2.cell? ⟨gA, 0, none⟩ = some (.int .i64 a0_0) := (blk_cell BK3Q.out 0).trans rfl; have hcz3_1 : w2.cell? ⟨gA, 1, none⟩ = some (.int .i64 a0_1) := (blk_cell BK3Q.out 1).trans rfl; have hcz3_2 : w2.cell? ⟨gA, 2, none⟩ = some (.slice A0_2 l0_2.length c0_2) := (blk_cell BK3Q.out 2).trans rfl; have hfz3_0 := blk_frozen BK3Q.out 0; have hfz3_1 := blk_frozen BK3Q.out 1; have hfz3_2 := blk_frozen BK3Q.out 2))
 go_ret
 exact ⟨by first | rfl | (simp [errW_none, errW_some] <;> rfl) | (simp [*, errW_none, errW_some] <;> rfl), by repeat (first | (with_reducible first | exact HB.out | apply zW | apply zX | apply zY | refine zS ?_ GE3Q.out) | exact HB.out)⟩
end Go.Proofs.Ytfeeaipbmpmpgaa.PX

namespace Go.Proofs.Ytfeeaipbmpmpgaa.PX
open Go.RowKit Go.Proofs.YtfeeaipbmpmpgaaW.PrintWords Go.Proofs.YtfeeaipbmpmpgaaW.PrintLast Go.Proofs.YtfeeaipbmpmpgaaW.PrintMore
attribute [local go_sem] max2_int min2_int max_two min_two max_three min_three max_four min_four   -- for this text's walks alone
set_option linter.unusedVariables false
set_option linter.unusedSimpArgs false
/-! ### curve_has: function 69 -/
def curve_has.f (a0_0 : Int) (a0_1 : Int) (l0_2 : List Int) (a1 : Int) : Option (Bool) := if a1 ≥ a0_0 then ((curve_to.f a0_0 a0_1 l0_2).bind fun t217 => (some (decide (a1 ≤ t217)))) else (some false)
set_option maxHeartbeats 8000000 in
set_option maxRecDepth 100000 in
theorem curve_has.calls (a0_0 : Int) (a0_1 : Int) (A0_2 : Option Addr) (c0_2 : Nat) (l0_2 : List Int) (a1 : Int) (r : Bool) (w : World) (hr0_2 : Kd.C (Kd.int .i64) w A0_2 l0_2.length l0_2) (hc0_2 : l0_2.length ≤ c0_2) (h : curve_has.f a0_0 a0_1 l0_2 a1 = some r) :
  Calls Try.prog 69 #[.agg #[.int .i64 a0_0, .int .i64 a0_1, .slice A0_2 l0_2.length c0_2], .int .i64 a1] w fun e w' => e = .returned (.bool r) ∧ Below w.heap.size w w' := by
 have hu24 := Try.underlying24
 have HR0_2 := zA hr0_2
 have HC0_2 := zA hc0_2
 clear hr0_2 hc0_2
 have HB := zA (Below.refl w.heap.size w)
 have H : (if a1 ≥ a0_0 then ((curve_to.f a0_0 a0_1 l0_2).bind fun t217 => (some (decide (a1 ≤ t217)))) else (some false)) = some r := h
 clear h
 by_cases c3 : a1 ≥ a0_0
 ·
  rw [if_pos c3] at H
  have c3b0 : decide (a0_0 ≤ a1) = true := decide_eq_true c3
  clear c3
  replace H := Option.bind_eq_some_iff.mp H
  obtain ⟨t217, A40, H⟩ := H
  replace H : (some (decide (a1 ≤ t217))) = some r := H
  have A4 := zA A40
  clear A40
  obtain rfl := Option.some.inj H
  go_enter Try.func69, Try.ntmps69
  go_wp2_with (first | ((with_reducible refine gate_dst (N := 2) rfl ?_); refine box_event ?hg (N := 2) ?hd (cs := #[.int .i64 a0_0, .int .i64 a0_1, .slice A0_2 l0_2.length c0_2]) (t := 24) ?hr ?_; (case hd => rfl); (case hg => rfl); (case hr => first | (go_simp; done) | (go_simp; rfl)); intro gA hg w5 hbox hb; have n0_ := zA (below_step (by repeat (first | (with_reducible first | exact HB.out | apply zW | apply zX | apply zY) | exact HB.out)) hb); have n1_ := zA (hbox); have n2_ := zA ((by rw [hg]; exact (below_size (by repeat (first | (with_reducible first | exact HB.out | apply zW | apply zX | apply zY) | exact HB.out))) : w.heap.size ≤ gA)); have n3_ := zA ((by rw [hg]; exact (below_size (by repeat (first | (with_reducible first | exact HB.out | apply zW | apply zX | apply zY) | exact HB.out))) : w.heap.size ≤ gA)); clear HB; have HB := n0_; have BK3U := n1_; have GW3U := n2_; have GE3U := n3_; clear n0_ n1_ n2_ n3_; clear hb hbox hg; have hcz6_0 : w5.cell? ⟨gA, 0, none⟩ = some (.int .i64 a0_0) := (blk_cell BK3U.out 0).trans rfl; have hcz6_1 : w5.cell? ⟨gA, 1, none⟩ = some (.int .i64 a0_1) := (blk_cell BK3U.out 1).trans rfl; have hcz6_2 : w5.cell? ⟨gA, 2, none⟩ = some (.slice A0_2 l0_2.length c0_2) := (blk_cell BK3U.out 2).trans rfl; have hfz6_0 := blk_frozen BK3U.out 0; have hfz6_1 := blk_frozen BK3U.out 1; have hfz6_2 := blk_frozen BK3U.out 2) | (go_at_call 58; (with_reducible refine (curve_to.calls a0_0 a0_1 _ _ l0_2 t217 _ ?side1 ?side2 A4.out).mono ?_); (case side1 => repeat (first | exact (Kd.C_below HR0_2.out HB.out) | (with_reducible refine Kd.C_alloc ?_ _) | (with_reducible refine Kd.C_drewN ?_ _) | (with_reducible refine Kd.C_drew ?_))); (case side2 => exact HC0_2.out); rintro e w7 ⟨rfl, hb⟩; have n0_ := zA (blk_below (g := gA) (o := .cells #[.int .i64 a0_0, .int .i64 a0_1, .slice A0_2 l0_2.length c0_2] 24 (0, 0)) (by (with_reducible repeat (first | refine zN ?_ _ | refine zD ?_ | refine zB ?_ _)); exact BK3U.out) hb); have n1_ := zA (below_step (by repeat (first | (with_reducible first | exact HB.out | apply zW | apply zX | apply zY | refine zS ?_ GE3U.out) | exact HB.out)) hb); clear BK3U; clear HB; have BK3U := n0_; have HB := n1_; clear n0_ n1_; (try clear hb); (try clear hb2); (try clear hk); (try clear hi)))
  go_ret
  exact ⟨by first | rfl | (simp [errW_none, errW_some] <;> rfl) | (simp [*, errW_none, errW_some] <;> rfl), by repeat (first | (with_reducible first | exact HB.out | apply zW | apply zX | apply zY | refine zS ?_ GE3U.out) | exact HB.out)⟩
 ·
  rw [if_neg c3] at H
  have c3b0 : decide (a0_0 ≤ a1) = false := decide_eq_false c3
  clear c3
  obtain rfl := Option.some.inj H
  go_enter Try.func69, Try.ntmps69
  go_wp2_with (first | ((with_reducible refine gate_dst (N := 2) rfl ?_); refine box_event ?hg (N := 2) ?hd (cs := #[.int .i64 a0_0, .int .i64 a0_1, .slice A0_2 l0_2.length c0_2]) (t := 24) ?hr ?_; (case hd => rfl); (case hg => rfl); (case hr => first | (go_simp; done) | (go_simp; rfl)); intro gA hg w8 hbox hb; have n0_ := zA (below_step (by repeat (first | (with_reducible first | exact HB.out | apply zW | apply zX | apply zY) | exact HB.out)) hb); have n1_ := zA (hbox); have n2_ := zA ((by rw [hg]; exact (below_size (by repeat (first | (with_reducible first | exact HB.out | apply zW | apply zX | apply zY) | exact HB.out))) : w.heap.size ≤ gA)); have n3_ := zA ((by rw [hg]; exact (below_size (by repeat (first | (with_reducible first | exact HB.out | apply zW | apply zX | apply zY) | exact HB.out))) : w.heap.size ≤ gA)); clear HB; have HB := n0_; have BK3U := n1_; have GW3U := n2_; have GE3U := n3_; clear n0_ n1_ n2_ n3_; clear hb hbox hg; have hcz9_0 : w8.cell? ⟨gA, 0, none⟩ = some (.int .i64 a0_0) := (blk_cell BK3U.out 0).trans rfl; have hcz9_1 : w8.cell? ⟨gA, 1, none⟩ = some (.int .i64 a0_1) := (blk_cell BK3U.out 1).trans rfl; have hcz9_2 : w8.cell? ⟨gA, 2, none⟩ = some (.slice A0_2 l0_2.length c0_2) := (blk_cell BK3U.out 2).trans rfl; have hfz9_0 := blk_frozen BK3U.out 0; have hfz9_1 := blk_frozen BK3U.out 1; have hfz9_2 := blk_frozen BK3U.out 2))
  go_ret
  exact ⟨by first | rfl | (simp [errW_none, errW_some] <;> rfl) | (simp [*, errW_none, errW_some] <;> rfl), by repeat (first | (with_reducible first | exact HB.out | apply zW | apply zX | apply zY | refine zS ?_ GE3U.out) | exact HB.out)⟩
end Go.Proofs.Ytfeeaipbmpmpgaa.PX

namespace Go.Proofs.Ytfeeaipbmpmpgaa.PX
open Go.RowKit Go.Proofs.YtfeeaipbmpmpgaaW.PrintWords Go.Proofs.YtfeeaipbmpmpgaaW.PrintLast Go.Proofs.YtfeeaipbmpmpgaaW.PrintMore
attribute [local go_sem] max2_int min2_int max_two min_two max_three min_three max_four min_four   -- for this text's walks alone
set_option linter.unusedVariables false
set_option linter.unusedSimpArgs false
/-! ### curve_At: function 28 -/
def curve_At.f (a0_0 : Int) (a0_1 : Int) (l0_2 : List Int) (a1 : Int) : Option (Int × Int) := (curve_Valid.f a0_0 a0_1 l0_2).bind fun t219 => (if t219 = true then ((curve_has.f a0_0 a0_1 l0_2 a1).bind fun t220 => (if t220 = true then ((curve_at.f a0_0 a0_1 l0_2 a1).bind fun t221 => (some (t221, 0))) else (some (0, 6)))) else (some (0, 2)))
set_option maxHeartbeats 8000000 in
set_option maxRecDepth 100000 in
theorem curve_At.calls (a0_0 : Int) (a0_1 : Int) (A0_2 : Option Addr) (c0_2 : Nat) (l0_2 : List Int) (a1 : Int) (r1 : Int) (r2 : Int) (w : World) (hr0_2 : Kd.C (Kd.int .i64) w A0_2 l0_2.length l0_2) (hc0_2 : l0_2.length ≤ c0_2) (h : curve_At.f a0_0 a0_1 l0_2 a1 = some (r1, r2)) :
  Calls Try.prog 28 #[.agg #[.int .i64 a0_0, .int .i64 a0_1, .slice A0_2 l0_2.length c0_2], .int .i64 a1] w fun e w' => e = .returned (.tuple #[.int .i64 r1, .int .i64 r2]) ∧ Below w.heap.size w w' := by
 have hu24 := Try.underlying24
 have HR0_2 := zA hr0_2
 have HC0_2 := zA hc0_2
 clear hr0_2 hc0_2
 have HB := zA (Below.refl w.heap.size w)
 have H : ((curve_Valid.f a0_0 a0_1 l0_2).bind fun t219 => (if t219 = true then ((curve_has.f a0_0 a0_1 l0_2 a1).bind fun t220 => (if t220 = true then ((curve_at.f a0_0 a0_1 l0_2 a1).bind fun t221 => (some (t221, 0))) else (some (0, 6)))) else (some (0, 2)))) = some (r1, r2) := h
 clear h
 replace H := Option.bind_eq_some_iff.mp H
 obtain ⟨t219, A30, H⟩ := H
 replace H : (if t219 = true then ((curve_has.f a0_0 a0_1 l0_2 a1).bind fun t220 => (if t220 = true then ((curve_at.f a0_0 a0_1 l0_2 a1).bind fun t221 => (some (t221, 0))) else (some (0, 6)))) else (some (0, 2))) = some (r1, r2) := H
 have A3 := zA A30
 clear A30
 by_cases c4 : t219 = true
 ·
  subst c4
  have H1 : ((curve_has.f a0_0 a0_1 l0_2 a1).bind fun t220 => (if t220 = true then ((curve_at.f a0_0 a0_1 l0_2 a1).bind fun t221 => (some (t221, 0))) else (some (0, 6)))) = some (r1, r2) := by rw [if_pos rfl] at H; exact H
  clear H
  have H := H1
  clear H1
  replace H := Option.bind_eq_some_iff.mp H
  obtain ⟨t220, A50, H⟩ := H
  replace H : (if t220 = true then ((curve_at.f a0_0 a0_1 l0_2 a1).bind fun t221 => (some (t221, 0))) else (some (0, 6))) = some (r1, r2) := H
  have A5 := zA A50
  clear A50
  by_cases c6 : t220 = true
  ·
   subst c6
   have H1 : ((curve_at.f a0_0 a0_1 l0_2 a1).bind fun t221 => (some (t221, 0))) = some (r1, r2) := by rw [if_pos rfl] at H; exact H
   clear H
   have H := H1
   clear H1
   replace H := Option.bind_eq_some_iff.mp H
   obtain ⟨t221, A70, H⟩ := H
   replace H : (some (t221, 0)) = some (r1, r2) := H
   have A7 := zA A70
   clear A70
   simp only [Option.some.injEq, Prod.mk.injEq] at H
   obtain ⟨rfl, rfl⟩ := H
   go_enter Try.func28, Try.ntmps28
   go_wp2_with (first | ((with_reducible refine gate_dst (N := 2) rfl ?_); refine box_event ?hg (N := 2) ?hd (cs := #[.int .i64 a0_0, .int .i64 a0_1, .slice A0_2 l0_2.length c0_2]) (t := 24) ?hr ?_; (case hd => rfl); (case hg => rfl); (case hr => first | (go_simp; done) | (go_simp; rfl)); intro gA hg w8 hbox hb; have n0_ := zA (below_step (by repeat (first | (with_reducible first | exact HB.out | apply zW | apply zX | apply zY) | exact HB.out)) hb); have n1_ := zA (hbox); have n2_ := zA ((by rw [hg]; exact (below_size (by repeat (first | (with_reducible first | exact HB.out | apply zW | apply zX | apply zY) | exact HB.out))) : w.heap.size ≤ gA)); have n3_ := zA ((by rw [hg]; exact (below_size (by repeat (first | (with_reducible first | exact HB.out | apply zW | apply zX | apply zY) | exact HB.out))) : w.heap.size ≤ gA)); clear HB; have HB := n0_; have BK3W := n1_; have GW3W := n2_; have GE3W := n3_; clear n0_ n1_ n2_ n3_; clear hb hbox hg; have hcz9_0 : w8.cell? ⟨gA, 0, none⟩ = some (.int .i64 a0_0) := (blk_cell BK3W.out 0).trans rfl; have hcz9_1 : w8.cell? ⟨gA, 1, none⟩ = some (.int .i64 a0_1) := (blk_cell BK3W.out 1).trans rfl; have hcz9_2 : w8.cell? ⟨gA, 2, none⟩ = some (.slice A0_2 l0_2.length c0_2) := (blk_cell BK3W.out 2).trans rfl; have hfz9_0 := blk_frozen BK3W.out 0; have hfz9_1 := blk_frozen BK3W.out 1; have hfz9_2 := blk_frozen BK3W.out 2) | ((with_reducible refine gate_callee (f := 16) rfl ?_); refine goesL_ (some 8) rfl rfl Try.func16 (by kernel_rfl) rfl #[.agg #[.int .i64 a0_0, .int .i64 a0_1, .slice A0_2 l0_2.length c0_2]] rfl (by (try simp only [List.map_toArray, List.map_cons, List.map_nil]); first | done | rfl | (simp only [List.length_drop, List.length_take]; rfl)) ?_; (with_reducible refine (curve_Valid.calls a0_0 a0_1 _ _ l0_2 true _ ?side1 ?side2 A3.out).mono ?_); (case side1 => repeat (first | exact (Kd.C_below HR0_2.out HB.out) | (with_reducible refine Kd.C_alloc ?_ _) | (with_reducible refine Kd.C_drewN ?_ _) | (with_reducible refine Kd.C_drew ?_))); (case side2 => exact HC0_2.out); rintro e w10 ⟨rfl, hb⟩; refine ⟨_, rfl, ?_⟩; have n0_ := zA (blk_below (g := gA) (o := .cells #[.int .i64 a0_0, .int .i64 a0_1, .slice A0_2 l0_2.length c0_2] 24 (0, 0)) (by (with_reducible repeat (first | refine zN ?_ _ | refine zD ?_ | refine zB ?_ _)); exact BK3W.out) hb); have n1_ := zA (below_step (by repeat (first | (with_reducible first | exact HB.out | apply zW | apply zX | apply zY | refine zS ?_ GE3W.out) | exact HB.out)) hb); clear BK3W; clear HB; have BK3W := n0_; have HB := n1_; clear n0_ n1_; (try clear hb); (try clear hb2); (try clear hk); (try clear hi); have hcz11_0 : w10.cell? ⟨gA, 0, none⟩ = some (.int .i64 a0_0) := (blk_cell BK3W.out 0).trans rfl; have hcz11_1 : w10.cell? ⟨gA, 1, none⟩ = some (.int .i64 a0_1) := (blk_cell BK3W.out 1).trans rfl; have hcz11_2 : w10.cell? ⟨gA, 2, none⟩ = some (.slice A0_2 l0_2.length c0_2) := (blk_cell BK3W.out 2).trans rfl; have hfz11_0 := blk_frozen BK3W.out 0; have hfz11_1 := blk_frozen BK3W.out 1; have hfz11_2 := blk_frozen BK3W.out 2) | ((with_reducible refine gate_callee (f := 69) rfl ?_); refine goesL_ (some 13) rfl rfl Try.func69 (by kernel_rfl) rfl #[.agg #[.int .i64 a0_0, .int .i64 a0_1, .slice A0_2 l0_2.length c0_2], .int .i64 a1] rfl (by (try simp only [List.map_toArray, List.map_cons, List.map_nil]); first | done | rfl | (simp only [List.length_drop, List.length_take]; rfl)) ?_; (with_reducible refine (curve_has.calls a0_0 a0_1 _ _ l0_2 a1 true _ ?side1 ?side2 A5.out).mono ?_); (case side1 => repeat (first | exact (Kd.C_below HR0_2.out HB.out) | (with_reducible refine Kd.C_alloc ?_ _) | (with_reducible refine Kd.C_drewN ?_ _) | (with_reducible refine Kd.C_drew ?_))); (case side2 => exact HC0_2.out); rintro e w12 ⟨rfl, hb⟩; refine ⟨_, rfl, ?_⟩; have n0_ := zA (blk_below (g := gA) (o := .cells #[.int .i64 a0_0, .int .i64 a0_1, .slice A0_2 l0_2.length c0_2] 24 (0, 0)) (by (with_reducible repeat (first | refine zN ?_ _ | refine zD ?_ | refine zB ?_ _)); exact BK3W.out) hb); have n1_ := zA (below_step (by repeat (first | (with_reducible first | exact HB.out | apply zW | apply zX | apply zY | refine zS ?_ GE3W.out) | exact HB.out)) hb); clear BK3W; clear HB; have BK3W := n0_; have HB := n1_; clear n0_ n1_; (try clear hb); (try clear hb2); (try clear hk); (try clear hi); have hcz13_0 : w12.cell? ⟨gA, 0, none⟩ = some (.int .i64 a0_0) := (blk_cell BK3W.out 0).trans rfl; have hcz13_1 : w12.cell? ⟨gA, 1, none⟩ = some (.int .i64 a0_1) := (blk_cell BK3W.out 1).trans rfl; have hcz13_2 : w12.cell? ⟨gA, 2, none⟩ = some (.slice A0_2 l0_2.length c0_2) := (blk_cell BK3W.out 2).trans rfl; have hfz13_0 := blk_frozen BK3W.out 0; have hfz13_1 := blk_frozen BK3W.out 1; have hfz13_2 := blk_frozen BK3W.out 2) | ((with_reducible refine gate_callee (f := 61) rfl ?_); refine goesL_ (some 17) rfl rfl Try.func61 (by kernel_rfl) rfl #[.agg #[.int .i64 a0_0, .int .i64 a0_1, .slice A0_2 l0_2.length c0_2], .int .i64 a1] rfl (by (try simp only [List.map_toArray, List.map_cons, List.map_nil]); first | done | rfl | (simp only [List.length_drop, List.length_take]; rfl)) ?_; (with_reducible refine (curve_at.calls a0_0 a0_1 _ _ l0_2 a1 t221 _ ?side1 ?side2 A7.out).mono ?_); (case side1 => repeat (first | exact (Kd.C_below HR0_2.out HB.out) | (with_reducible refine Kd.C_alloc ?_ _) | (with_reducible refine Kd.C_drewN ?_ _) | (with_reducible refine Kd.C_drew ?_))); (case side2 => exact HC0_2.out); rintro e w14 ⟨rfl, hb⟩; refine ⟨_, rfl, ?_⟩; have n0_ := zA (blk_below (g := gA) (o := .cells #[.int .i64 a0_0, .int .i64 a0_1, .slice A0_2 l0_2.length c0_2] 24 (0, 0)) (by (with_reducible repeat (first | refine zN ?_ _ | refine zD ?_ | refine zB ?_ _)); exact BK3W.out) hb); have n1_ := zA (below_step (by repeat (first | (with_reducible first | exact HB.out | apply zW | apply zX | apply zY | refine zS ?_ GE3W.out) | exact HB.out)) hb); clear BK3W; clear HB; have BK3W := n0_; have HB := n1_; clear n0_ n1_; (try clear hb); (try clear hb2); (try clear hk); (try clear hi)))
   go_ret2
   exact ⟨by first | rfl | (simp [errW_none, errW_some] <;> rfl) | (simp [*, errW_none, errW_some] <;> rfl), by repeat (first | (with_reducible first | exact HB.out | apply zW | apply zX | apply zY | refine zS ?_ GE3W.out) | exact HB.out)⟩
  ·
   replace c6 := Bool.eq_false_iff.mpr c6
   subst c6
   have H1 : (some (0, 6)) = some (r1, r2) := by rw [if_neg (show ¬ (false = true) by decide)] at H; exact H
   clear H
   have H := H1
   clear H1
   simp only [Option.some.injEq, Prod.mk.injEq] at H
   obtain ⟨rfl, rfl⟩ := H
   go_enter Try.func28, Try.ntmps28
   go_wp2_with (first | ((with_reducible refine gate_dst (N := 2) rfl ?_); refine box_event ?hg (N := 2) ?hd (cs := #[.int .i64 a0_0, .int .i64 a0_1, .slice A0_2 l0_2.length c0_2]) (t := 24) ?hr ?_; (case hd => rfl); (case hg => rfl); (case hr => first | (go_simp; done) | (go_simp; rfl)); intro gA hg w15 hbox hb; have n0_ := zA (below_step (by repeat (first | (with_reducible first | exact HB.out | apply zW | apply zX | apply zY) | exact HB.out)) hb); have n1_ := zA (hbox); have n2_ := zA ((by rw [hg]; exact (below_size (by repeat (first | (with_reducible first | exact HB.out | apply zW | apply zX | apply zY) | exact HB.out))) : w.heap.size ≤ gA)); have n3_ := zA ((by rw [hg]; exact (below_size (by repeat (first | (with_reducible first | exact HB.out | apply zW | apply zX | apply zY) | exact HB.out))) : w.heap.size ≤ gA)); clear HB; have HB := n0_; have BK3W := n1_; have GW3W := n2_; have GE3W := n3_; clear n0_ n1_ n2_ n3_; clear hb hbox hg; have hcz16_0 : w15.cell? ⟨gA, 0, none⟩ = some (.int .i64 a0_0) := (blk_cell BK3W.out 0).trans rfl; have hcz16_1 : w15.cell? ⟨gA, 1, none⟩ = some (.int .i64 a0_1) := (blk_cell BK3W.out 1).trans rfl; have hcz16_2 : w15.cell? ⟨gA, 2, none⟩ = some (.slice A0_2 l0_2.length c0_2) := (blk_cell BK3W.out 2).trans rfl; have hfz16_0 := blk_frozen BK3W.out 0; have hfz16_1 := blk_frozen BK3W.out 1; have hfz16_2 := blk_frozen BK3W.out 2) | ((with_reducible refine gate_callee (f := 16) rfl ?_); refine goesL_ (some 8) rfl rfl Try.func16 (by kernel_rfl) rfl #[.agg #[.int .i64 a0_0, .int .i64 a0_1, .slice A0_2 l0_2.length c0_2]] rfl (by (try simp only [List.map_toArray, List.map_cons, List.map_nil]); first | done | rfl | (simp only [List.length_drop, List.length_take]; rfl)) ?_; (with_reducible refine (curve_Valid.calls a0_0 a0_1 _ _ l0_2 true _ ?side1 ?side2 A3.out).mono ?_); (case side1 => repeat (first | exact (Kd.C_below HR0_2.out HB.out) | (with_reducible refine Kd.C_alloc ?_ _) | (with_reducible refine Kd.C_drewN ?_ _) | (with_reducible refine Kd.C_drew ?_))); (case side2 => exact HC0_2.out); rintro e w17 ⟨rfl, hb⟩; refine ⟨_, rfl, ?_⟩; have n0_ := zA (blk_below (g := gA) (o := .cells #[.int .i64 a0_0, .int .i64 a0_1, .slice A0_2 l0_2.length c0_2] 24 (0, 0)) (by (with_reducible repeat (first | refine zN ?_ _ | refine zD ?_ | refine zB ?_ _)); exact BK3W.out) hb); have n1_ := zA (below_step (by repeat (first | (with_reducible first | exact HB.out | apply zW | apply zX | apply zY | refine zS ?_ GE3W.out) | exact HB.out)) hb); clear BK3W; clear HB; have BK3W := n0_; have HB := n1_; clear n0_ n1_; (try clear hb); (try clear hb2); (try clear hk); (try clear hi); have hcz18_0 : w17.cell? ⟨gA, 0, none⟩ = some (.int .i64 a0_0) := (blk_cell BK3W.out 0).trans rfl; have hcz18_1 : w17.cell? ⟨gA, 1, none⟩ = some (.int .i64 a0_1) := (blk_cell BK3W.out 1).trans rfl; have hcz18_2 : w17.cell? ⟨gA, 2, none⟩ = some (.slice A0_2 l0_2.length c0_2) := (blk_cell BK3W.out 2).trans rfl; have hfz18_0 := blk_frozen BK3W.out 0; have hfz18_1 := blk_frozen BK3W.out 1; have hfz18_2 := blk_frozen BK3W.out 2) | ((with_reducible refine gate_callee (f := 69) rfl ?_); refine goesL_ (some 13) rfl rfl Try.func69 (by kernel_rfl) rfl #[.agg #[.int .i64 a0_0, .int .i64 a0_1, .slice A0_2 l0_2.length c0_2], .int .i64 a1] rfl (by (try simp only [List.map_toArray, List.map_cons, List.map_nil]); first | done | rfl | (simp only [List.length_drop, List.length_take]; rfl)) ?_; (with_reducible refine (curve_has.calls a0_0 a0_1 _ _ l0_2 a1 false _ ?side1 ?side2 A5.out).mono ?_); (case side1 => repeat (first | exact (Kd.C_below HR0_2.out HB.out) | (with_reducible refine Kd.C_alloc ?_ _) | (with_reducible refine Kd.C_drewN ?_ _) | (with_reducible refine Kd.C_drew ?_))); (case side2 => exact HC0_2.out); rintro e w19 ⟨rfl, hb⟩; refine ⟨_, rfl, ?_⟩; have n0_ := zA (blk_below (g := gA) (o := .cells #[.int .i64 a0_0, .int .i64 a0_1, .slice A0_2 l0_2.length c0_2] 24 (0, 0)) (by (with_reducible repeat (first | refine zN ?_ _ | refine zD ?_ | refine zB ?_ _)); exact BK3W.out) hb); have n1_ := zA (below_step (by repeat (first | (with_reducible first | exact HB.out | apply zW | apply zX | apply zY | refine zS ?_ GE3W.out) | exact HB.out)) hb); clear BK3W; clear HB; have BK3W := n0_; have HB := n1_; clear n0_ n1_; (try clear hb); (try clear hb2); (try clear hk); (try clear hi)))
   go_ret2
   exact ⟨by first | rfl | (simp [errW_none, errW_some] <;> rfl) | (simp [*, errW_none, errW_some] <;> rfl), by repeat (first | (with_reducible first | exact HB.out | apply zW | apply zX | apply zY | refine zS ?_ GE3W.out) | exact HB.out)⟩
 ·
  replace c4 := Bool.eq_false_iff.mpr c4
  subst c4
  have H1 : (some (0, 2)) = some (r1, r2) := by rw [if_neg (show ¬ (false = true) by decide)] at H; exact H
  clear H
  have H := H1
  clear H1
  simp only [Option.some.injEq, Prod.mk.injEq] at H
  obtain ⟨rfl, rfl⟩ := H
  go_enter Try.func28, Try.ntmps28
  go_wp2_with (first | ((with_reducible refine gate_dst (N := 2) rfl ?_); refine box_event ?hg (N := 2) ?hd (cs := #[.int .i64 a0_0, .int .i64 a0_1, .slice A0_2 l0_2.length c0_2]) (t := 24) ?hr ?_; (case hd => rfl); (case hg => rfl); (case hr => first | (go_simp; done) | (go_simp; rfl)); intro gA hg w20 hbox hb; have n0_ := zA (below_step (by repeat (first | (with_reducible first | exact HB.out | apply zW | apply zX | apply zY) | exact HB.out)) hb); have n1_ := zA (hbox); have n2_ := zA ((by rw [hg]; exact (below_size (by repeat (first | (with_reducible first | exact HB.out | apply zW | apply zX | apply zY) | exact HB.out))) : w.heap.size ≤ gA)); have n3_ := zA ((by rw [hg]; exact (below_size (by repeat (first | (with_reducible first | exact HB.out | apply zW | apply zX | apply zY) | exact HB.out))) : w.heap.size ≤ gA)); clear HB; have HB := n0_; have BK3W := n1_; have GW3W := n2_; have GE3W := n3_; clear n0_ n1_ n2_ n3_; clear hb hbox hg; have hcz21_0 : w20.cell? ⟨gA, 0, none⟩ = some (.int .i64 a0_0) := (blk_cell BK3W.out 0).trans rfl; have hcz21_1 : w20.cell? ⟨gA, 1, none⟩ = some (.int .i64 a0_1) := (blk_cell BK3W.out 1).trans rfl; have hcz21_2 : w20.cell? ⟨gA, 2, none⟩ = some (.slice A0_2 l0_2.length c0_2) := (blk_cell BK3W.out 2).trans rfl; have hfz21_0 := blk_frozen BK3W.out 0; have hfz21_1 := blk_frozen BK3W.out 1; have hfz21_2 := blk_frozen BK3W.out 2) | ((with_reducible refine gate_callee (f := 16) rfl ?_); refine goesL_ (some 8) rfl rfl Try.func16 (by kernel_rfl) rfl #[.agg #[.int .i64 a0_0, .int .i64 a0_1, .slice A0_2 l0_2.length c0_2]] rfl (by (try simp only [List.map_toArray, List.map_cons, List.map_nil]); first | done | rfl | (simp only [List.length_drop, List.length_take]; rfl)) ?_; (with_reducible refine (curve_Valid.calls a0_0 a0_1 _ _ l0_2 false _ ?side1 ?side2 A3.out).mono ?_); (case side1 => repeat (first | exact (Kd.C_below HR0_2.out HB.out) | (with_reducible refine Kd.C_alloc ?_ _) | (with_reducible refine Kd.C_drewN ?_ _) | (with_reducible refine Kd.C_drew ?_))); (case side2 => exact HC0_2.out); rintro e w22 ⟨rfl, hb⟩; refine ⟨_, rfl, ?_⟩; have n0_ := zA (blk_below (g := gA) (o := .cells #[.int .i64 a0_0, .int .i64 a0_1, .slice A0_2 l0_2.length c0_2] 24 (0, 0)) (by (with_reducible repeat (first | refine zN ?_ _ | refine zD ?_ | refine zB ?_ _)); exact BK3W.out) hb); have n1_ := zA (below_step (by repeat (first | (with_reducible first | exact HB.out | apply zW | apply zX | apply zY | refine zS ?_ GE3W.out) | exact HB.out)) hb); clear BK3W; clear HB; have BK3W := n0_; have HB := n1_; clear n0_ n1_; (try clear hb); (try clear hb2); (try clear hk); (try clear hi)))
  go_ret2
  exact ⟨by first | rfl | (simp [errW_none, errW_some] <;> rfl) | (simp [*, errW_none, errW_some] <;> rfl), by repeat (first | (with_reducible first | exact HB.out | apply zW | apply zX | apply zY | refine zS ?_ GE3W.out) | exact HB.out)⟩
end Go.Proofs.Ytfeeaipbmpmpgaa.PX

namespace Go.Proofs.Ytfeeaipbmpmpgaa.PX
open Go.RowKit Go.Proofs.YtfeeaipbmpmpgaaW.PrintWords Go.Proofs.YtfeeaipbmpmpgaaW.PrintLast Go.Proofs.YtfeeaipbmpmpgaaW.PrintMore
attribute [local go_sem] max2_int min2_int max_two min_two max_three min_three max_four min_four   -- for this text's walks alone
set_option linter.unusedVariables false
set_option linter.unusedSimpArgs false
/-! ### kimberlitelaw03_at: function 18 -/
def kimberlitelaw03_at.f (a0_0 : Int) (a0_1 : Int) (l0_2 : List Int) (a1 : Int) : Option (Int × Bool) := (curve_At.f a0_0 a0_1 l0_2 a1).bind fun bt223 => (some (bt223.1, (bt223.2 == 0)))
set_option maxHeartbeats 8000000 in
set_option maxRecDepth 100000 in
theorem kimberlitelaw03_at.calls (a0_0 : Int) (a0_1 : Int) (A0_2 : Option Addr) (c0_2 : Nat) (l0_2 : List Int) (a1 : Int) (r1 : Int) (r2 : Bool) (w : World) (hr0_2 : Kd.C (Kd.int .i64) w A0_2 l0_2.length l0_2) (hc0_2 : l0_2.length ≤ c0_2) (h : kimberlitelaw03_at.f a0_0 a0_1 l0_2 a1 = some (r1, r2)) :
  Calls Try.prog 18 #[.agg #[.int .i64 a0_0, .int .i64 a0_1, .slice A0_2 l0_2.length c0_2], .int .i64 a1] w fun e w' => e = .returned (.tuple #[.int .i64 r1, .bool r2]) ∧ Below w.heap.size w w' := by
 have hu24 := Try.underlying24
 have HR0_2 := zA hr0_2
 have HC0_2 := zA hc0_2
 clear hr0_2 hc0_2
 have HB := zA (Below.refl w.heap.size w)
 have H : ((curve_At.f a0_0 a0_1 l0_2 a1).bind fun bt223 => (some (bt223.1, (bt223.2 == 0)))) = some (r1, r2) := h
 clear h
 replace H := Option.bind_eq_some_iff.mp H
 obtain ⟨⟨t223, t224⟩, A30, H⟩ := H
 replace H : (some (t223, (t224 == 0))) = some (r1, r2) := H
 have A3 := zA A30
 clear A30
 simp only [Option.some.injEq, Prod.mk.injEq] at H
 obtain ⟨rfl, rfl⟩ := H
 go_enter Try.func18, Try.ntmps18
 go_wp2_with (first | ((with_reducible refine gate_dst (N := 2) rfl ?_); refine box_event ?hg (N := 2) ?hd (cs := #[.int .i64 a0_0, .int .i64 a0_1, .slice A0_2 l0_2.length c0_2]) (t := 24) ?hr ?_; (case hd => rfl); (case hg => rfl); (case hr => first | (go_simp; done) | (go_simp; rfl)); intro gA hg w4 hbox hb; have n0_ := zA (below_step (by repeat (first | (with_reducible first | exact HB.out | apply zW | apply zX | apply zY) | exact HB.out)) hb); have n1_ := zA (hbox); have n2_ := zA ((by rw [hg]; exact (below_size (by repeat (first | (with_reducible first | exact HB.out | apply zW | apply zX | apply zY) | exact HB.out))) : w.heap.size ≤ gA)); have n3_ := zA ((by rw [hg]; exact (below_size (by repeat (first | (with_reducible first | exact HB.out | apply zW | apply zX | apply zY) | exact HB.out))) : w.heap.size ≤ gA)); clear HB; have HB := n0_; have BK3a := n1_; have GW3a := n2_; have GE3a := n3_; clear n0_ n1_ n2_ n3_; clear hb hbox hg; have hcz5_0 : w4.cell? ⟨gA, 0, none⟩ = some (.int .i64 a0_0) := (blk_cell BK3a.out 0).trans rfl; have hcz5_1 : w4.cell? ⟨gA, 1, none⟩ = some (.int .i64 a0_1) := (blk_cell BK3a.out 1).trans rfl; have hcz5_2 : w4.cell? ⟨gA, 2, none⟩ = some (.slice A0_2 l0_2.length c0_2) := (blk_cell BK3a.out 2).trans rfl; have hfz5_0 := blk_frozen BK3a.out 0; have hfz5_1 := blk_frozen BK3a.out 1; have hfz5_2 := blk_frozen BK3a.out 2) | ((with_reducible refine gate_callee (f := 28) rfl ?_); refine goesL_ (some 11) rfl rfl Try.func28 (by kernel_rfl) rfl #[.agg #[.int .i64 a0_0, .int .i64 a0_1, .slice A0_2 l0_2.length c0_2], .int .i64 a1] rfl (by (try simp only [List.map_toArray, List.map_cons, List.map_nil]); first | done | rfl | (simp only [List.length_drop, List.length_take]; rfl)) ?_; (with_reducible refine (curve_At.calls a0_0 a0_1 _ _ l0_2 a1 t223 t224 _ ?side1 ?side2 A3.out).mono ?_); (case side1 => repeat (first | exact (Kd.C_below HR0_2.out HB.out) | (with_reducible refine Kd.C_alloc ?_ _) | (with_reducible refine Kd.C_drewN ?_ _) | (with_reducible refine Kd.C_drew ?_))); (case side2 => exact HC0_2.out); rintro e w6 ⟨rfl, hb⟩; refine ⟨_, rfl, ?_⟩; have n0_ := zA (blk_below (g := gA) (o := .cells #[.int .i64 a0_0, .int .i64 a0_1, .slice A0_2 l0_2.length c0_2] 24 (0, 0)) (by (with_reducible repeat (first | refine zN ?_ _ | refine zD ?_ | refine zB ?_ _)); exact BK3a.out) hb); have n1_ := zA (below_step (by repeat (first | (with_reducible first | exact HB.out | apply zW | apply zX | apply zY | refine zS ?_ GE3a.out) | exact HB.out)) hb); clear BK3a; clear HB; have BK3a := n0_; have HB := n1_; clear n0_ n1_; (try clear hb); (try clear hb2); (try clear hk); (try clear hi)))
 go_ret2
 exact ⟨by first | rfl | (simp [errW_none, errW_some] <;> rfl) | (simp [*, errW_none, errW_some] <;> rfl), by repeat (first | (with_reducible first | exact HB.out | apply zW | apply zX | apply zY | refine zS ?_ GE3a.out) | exact HB.out)⟩
end Go.Proofs.Ytfeeaipbmpmpgaa.PX

namespace Go.Proofs.Ytfeeaipbmpmpgaa.PX
open Go.RowKit Go.Proofs.YtfeeaipbmpmpgaaW.PrintWords Go.Proofs.YtfeeaipbmpmpgaaW.PrintLast Go.Proofs.YtfeeaipbmpmpgaaW.PrintMore
attribute [local go_sem] max2_int min2_int max_two min_two max_three min_three max_four min_four   -- for this text's walks alone
set_option linter.unusedVariables false
set_option linter.unusedSimpArgs false
/-! ### kimberlitelaw03_same: function 24 -/
def kimberlitelaw03_same.l0 : Nat → List Int → List Int → Int → Option (Bool)
 | 0, _, _, _ => none
 | k + 1, x0, x1, x5 => if x5 < (x0.length : Int) then (if 0 ≤ x5 then (if x5 < (x1.length : Int) then (if (rd x0 x5) = (rd x1 x5) then (kimberlitelaw03_same.l0 k x0 x1 (wrap64 (x5 + 1))) else (some false)) else (none)) else (none)) else (some true)
def kimberlitelaw03_same.f (k : Nat) (l0 : List Int) (l1 : List Int) : Option (Bool) := if (l0.length : Int) = (l1.length : Int) then (kimberlitelaw03_same.l0 k l0 l1 0) else (some false)
theorem kimberlitelaw03_same.mono_l : ∀ k, (∀ y0 y1 y2, LeO (kimberlitelaw03_same.l0 k y0 y1 y2) (kimberlitelaw03_same.l0 (k + 1) y0 y1 y2))
 | 0 => fun _ _ _ r h => by simp [kimberlitelaw03_same.l0] at h
 | k + 1 => by
  have ih0 := kimberlitelaw03_same.mono_l k
  ·
   intro y0 y1 y2
   unfold kimberlitelaw03_same.l0
   repeat' first
   | (with_reducible exact ih0 _ _ _)
   | (with_reducible exact LeO.refl _)
   | (with_reducible exact LeO.none _)
   | (with_reducible refine LeO.ite ?_ ?_)
   | (with_reducible refine LeO.bind ?_ (fun _ => ?_))
   | exact ih0 _ _ _
   | exact LeO.none _
   | refine LeO.ite ?_ ?_
   | refine LeO.bind ?_ (fun _ => ?_)
theorem kimberlitelaw03_same.mono : ∀ a0 a1 k, LeO (kimberlitelaw03_same.f k a0 a1) (kimberlitelaw03_same.f (k + 1) a0 a1) := by
 intro a0 a1 k
 have ih0 := kimberlitelaw03_same.mono_l k
 unfold kimberlitelaw03_same.f
 repeat' first
   | (with_reducible exact ih0 _ _ _)
   | (with_reducible exact LeO.refl _)
   | (with_reducible exact LeO.none _)
   | (with_reducible refine LeO.ite ?_ ?_)
   | (with_reducible refine LeO.bind ?_ (fun _ => ?_))
   | exact ih0 _ _ _
   | exact LeO.none _
   | refine LeO.ite ?_ ?_
   | refine LeO.bind ?_ (fun _ => ?_)
set_option maxHeartbeats 8000000 in
set_option maxRecDepth 100000 in
theorem kimberlitelaw03_same.calls (k : Nat) (A0 : Option Addr) (c0 : Nat) (l0 : List Int) (A1 : Option Addr) (c1 : Nat) (l1 : List Int) (r : Bool) (w : World) (hr0 : Kd.C (Kd.int .i64) w A0 l0.length l0) (hc0 : l0.length ≤ c0) (hr1 : Kd.C (Kd.int .i64) w A1 l1.length l1) (hc1 : l1.length ≤ c1) (h : kimberlitelaw03_same.f k l0 l1 = some r) :
  Calls Try.prog 24 #[.slice A0 l0.length c0, .slice A1 l1.length c1] w fun e w' => e = .returned (.bool r) ∧ Drawn0 w w' := by
 have HR0 := zA hr0
 have HC0 := zA hc0
 clear hr0 hc0
 have HR1 := zA hr1
 have HC1 := zA hc1
 clear hr1 hc1
 have H : (if (l0.length : Int) = (l1.length : Int) then (kimberlitelaw03_same.l0 k l0 l1 0) else (some false)) = some r := h
 clear h
 by_cases c3 : (l0.length : Int) = (l1.length : Int)
 ·
  rw [if_pos c3] at H
  have c3b0 : ((l0.length : Int) == (l1.length : Int)) = true := beq_iff_eq.mpr c3
  have c3b1 : ((l0.length : Int) != (l1.length : Int)) = false := bne_eq_false_iff_eq.mpr c3
  have c3b2 : (l0.length == l1.length) = true := by first | simpa using c3 | (simp at c3 ⊢; omega)
  clear c3
  have H' := zA H
  clear H
  go_enter Try.func24, Try.ntmps24
  go_wp2
  repeat (go_quiet (fail); try go_wp2)
  go_loopg [5] k (fun kq v5 w' => ∃ (x5_1 : Int), v5 = .int .i64 x5_1 ∧ Aside0 (kimberlitelaw03_same.l0 kq l0 l1 x5_1 = some r) ∧ Aside0 (kq ≤ k) ∧ Drawn0 w w')
  case atStart => exact ⟨(0), (by first | rfl | (simp; done) | (simp [*]; done)), H', ⟨Nat.le_refl _⟩, by repeat (first | exact Drawn0.refl _ | apply Drawn0.step)⟩
  case round =>
   clear H'
   try clear c1
   try clear c2
   try clear p2
   try clear c3
   try clear c3b0
   try clear c3b1
   try clear c3b2
   obtain ⟨x5_1, rfl, HA, HK1, ⟨m1, rfl⟩⟩ := hrel
   cases gk with
   | zero => exact absurd HA.out (by simp [kimberlitelaw03_same.l0])
   | succ k1 =>
    have H := HA.out
    clear HA
    simp only [kimberlitelaw03_same.l0] at H
    by_cases c4 : x5_1 < (l0.length : Int)
    ·
     rw [if_pos c4] at H
     have c4b0 : decide (x5_1 < (l0.length : Int)) = true := decide_eq_true c4
     clear c4
     by_cases c5 : 0 ≤ x5_1
     ·
      rw [if_pos c5] at H
      have c5b0 : decide (0 ≤ x5_1) = true := decide_eq_true c5
      clear c5
      by_cases c6 : x5_1 < (l1.length : Int)
      ·
       rw [if_pos c6] at H
       have c6b0 : decide (x5_1 < (l1.length : Int)) = true := decide_eq_true c6
       clear c6
       by_cases c7 : (rd l0 x5_1) = (rd l1 x5_1)
       ·
        rw [if_pos c7] at H
        have c7b0 : ((rd l0 x5_1) == (rd l1 x5_1)) = true := beq_iff_eq.mpr c7
        have c7b1 : ((rd l0 x5_1) != (rd l1 x5_1)) = false := bne_eq_false_iff_eq.mpr c7
        clear c7
        have H' := zA H
        clear H
        have p207 : 0 ≤ (x5_1 : Int) := of_decide_eq_true (by first | (with_reducible assumption) | assumption)
        have q207 : x5_1 < (l0.length : Int) := of_decide_eq_true (by first | (with_reducible assumption) | assumption)
        obtain ⟨ad207, e207, hx207_0⟩ := Kd.at_int HR0.out x5_1 p207 q207
        cases e207
        replace p207 := eq_true p207
        replace q207 := eq_true q207
        have p208 : 0 ≤ (x5_1 : Int) := of_decide_eq_true (by first | (with_reducible assumption) | assumption)
        have q208 : x5_1 < (l1.length : Int) := of_decide_eq_true (by first | (with_reducible assumption) | assumption)
        obtain ⟨ad208, e208, hx208_0⟩ := Kd.at_int HR1.out x5_1 p208 q208
        cases e208
        replace p208 := eq_true p208
        replace q208 := eq_true q208
        go_wp2
        repeat (go_quiet (fail); try go_wp2)
        go_roundg k1
        case measure => have := HK1.out; omega
        case rel => exact ⟨(wrap64 (x5_1 + 1)), (by first | rfl | (simp; done) | (simp [*]; done)), H', ⟨by have := HK1.out; omega⟩, by repeat (first | exact Drawn0.refl _ | apply Drawn0.step)⟩
       ·
        rw [if_neg c7] at H
        have c7b0 : ((rd l0 x5_1) == (rd l1 x5_1)) = false := beq_eq_false_iff_ne.mpr c7
        have c7b1 : ((rd l0 x5_1) != (rd l1 x5_1)) = true := bne_iff_ne.mpr c7
        obtain rfl := Option.some.inj H
        have p207 : 0 ≤ (x5_1 : Int) := of_decide_eq_true (by first | (with_reducible assumption) | assumption)
        have q207 : x5_1 < (l0.length : Int) := of_decide_eq_true (by first | (with_reducible assumption) | assumption)
        obtain ⟨ad207, e207, hx207_0⟩ := Kd.at_int HR0.out x5_1 p207 q207
        cases e207
        replace p207 := eq_true p207
        replace q207 := eq_true q207
        have p208 : 0 ≤ (x5_1 : Int) := of_decide_eq_true (by first | (with_reducible assumption) | assumption)
        have q208 : x5_1 < (l1.length : Int) := of_decide_eq_true (by first | (with_reducible assumption) | assumption)
        obtain ⟨ad208, e208, hx208_0⟩ := Kd.at_int HR1.out x5_1 p208 q208
        cases e208
        replace p208 := eq_true p208
        replace q208 := eq_true q208
        go_wp2
        repeat (go_quiet (fail); try go_wp2)
        go_ret
        exact ⟨by first | rfl | (simp; done) | (simp [*]; done), by repeat (first | exact Drawn0.refl _ | apply Drawn0.step)⟩
      ·
       rw [if_neg c6] at H
       exact absurd H (by simp)
     ·
      rw [if_neg c5] at H
      exact absurd H (by simp)
    ·
     rw [if_neg c4] at H
     have c4b0 : decide (x5_1 < (l0.length : Int)) = false := decide_eq_false c4
     clear c4
     obtain rfl := Option.some.inj H
     go_wp2
     repeat (go_quiet (fail); try go_wp2)
     go_ret
     exact ⟨by first | rfl | (simp; done) | (simp [*]; done), by repeat (first | exact Drawn0.refl _ | apply Drawn0.step)⟩
 ·
  rw [if_neg c3] at H
  have c3b0 : ((l0.length : Int) == (l1.length : Int)) = false := beq_eq_false_iff_ne.mpr c3
  have c3b1 : ((l0.length : Int) != (l1.length : Int)) = true := bne_iff_ne.mpr c3
  have c3b2 : (l0.length == l1.length) = false := by first | simpa using c3 | (simp at c3 ⊢; omega)
  obtain rfl := Option.some.inj H
  go_enter Try.func24, Try.ntmps24
  go_wp2
  repeat (go_quiet (fail); try go_wp2)
  go_ret
  exact ⟨by first | rfl | (simp; done) | (simp [*]; done), by repeat (first | exact Drawn0.refl _ | apply Drawn0.step)⟩
end Go.Proofs.Ytfeeaipbmpmpgaa.PX

namespace Go.Proofs.Ytfeeaipbmpmpgaa.PX
open Go.RowKit Go.Proofs.YtfeeaipbmpmpgaaW.PrintWords Go.Proofs.YtfeeaipbmpmpgaaW.PrintLast Go.Proofs.YtfeeaipbmpmpgaaW.PrintMore
attribute [local go_sem] max2_int min2_int max_two min_two max_three min_three max_four min_four   -- for this text's walks alone
set_option linter.unusedVariables false
set_option linter.unusedSimpArgs false
/-! ### kimberlitelaw03_alike: function 15 -/
def kimberlitelaw03_alike.f (k : Nat) (a0_0 : Int) (a0_1 : Int) (l0_2 : List Int) (a1_0 : Int) (a1_1 : Int) (l1_2 : List Int) : Option (Bool) := if a0_0 = a1_0 then (if a0_1 = a1_1 then ((kimberlitelaw03_same.f k l0_2 l1_2).bind fun t211 => (some t211)) else (some false)) else (some false)
theorem kimberlitelaw03_alike.mono : ∀ a0 a1 a2 a3 a4 a5 k, LeO (kimberlitelaw03_alike.f k a0 a1 a2 a3 a4 a5) (kimberlitelaw03_alike.f (k + 1) a0 a1 a2 a3 a4 a5) := by
 intro a0 a1 a2 a3 a4 a5 k
 unfold kimberlitelaw03_alike.f
 repeat' first
   | (with_reducible exact kimberlitelaw03_same.mono _ _ _)
   | (with_reducible exact LeO.refl _)
   | (with_reducible exact LeO.none _)
   | (with_reducible refine LeO.ite ?_ ?_)
   | (with_reducible refine LeO.bind ?_ (fun _ => ?_))
   | exact kimberlitelaw03_same.mono _ _ _
   | exact LeO.none _
   | refine LeO.ite ?_ ?_
   | refine LeO.bind ?_ (fun _ => ?_)
set_option maxHeartbeats 8000000 in
set_option maxRecDepth 100000 in
theorem kimberlitelaw03_alike.calls (k : Nat) (a0_0 : Int) (a0_1 : Int) (A0_2 : Option Addr) (c0_2 : Nat) (l0_2 : List Int) (a1_0 : Int) (a1_1 : Int) (A1_2 : Option Addr) (c1_2 : Nat) (l1_2 : List Int) (r : Bool) (w : World) (hr0_2 : Kd.C (Kd.int .i64) w A0_2 l0_2.length l0_2) (hc0_2 : l0_2.length ≤ c0_2) (hr1_2 : Kd.C (Kd.int .i64) w A1_2 l1_2.length l1_2) (hc1_2 : l1_2.length ≤ c1_2) (h : kimberlitelaw03_alike.f k a0_0 a0_1 l0_2 a1_0 a1_1 l1_2 = some r) :
  Calls Try.prog 15 #[.agg #[.int .i64 a0_0, .int .i64 a0_1, .slice A0_2 l0_2.length c0_2], .agg #[.int .i64 a1_0, .int .i64 a1_1, .slice A1_2 l1_2.length c1_2]] w fun e w' => e = .returned (.bool r) ∧ Below w.heap.size w w' := by
 have hu24 := Try.underlying24
 have HR0_2 := zA hr0_2
 have HC0_2 := zA hc0_2
 clear hr0_2 hc0_2
 have HR1_2 := zA hr1_2
 have HC1_2 := zA hc1_2
 clear hr1_2 hc1_2
 have HB := zA (Below.refl w.heap.size w)
 have H : (if a0_0 = a1_0 then (if a0_1 = a1_1 then ((kimberlitelaw03_same.f k l0_2 l1_2).bind fun t211 => (some t211)) else (some false)) else (some false)) = some r := h
 clear h
 by_cases c3 : a0_0 = a1_0
 ·
  rw [if_pos c3] at H
  have c3b0 : (a0_0 == a1_0) = true := beq_iff_eq.mpr c3
  have c3b1 : (a0_0 != a1_0) = false := bne_eq_false_iff_eq.mpr c3
  clear c3
  by_cases c4 : a0_1 = a1_1
  ·
   rw [if_pos c4] at H
   have c4b0 : (a0_1 == a1_1) = true := beq_iff_eq.mpr c4
   have c4b1 : (a0_1 != a1_1) = false := bne_eq_false_iff_eq.mpr c4
   clear c4
   replace H := Option.bind_eq_some_iff.mp H
   obtain ⟨t211, A50, H⟩ := H
   replace H : (some t211) = some r := H
   have A5 := zA A50
   clear A50
   obtain rfl := Option.some.inj H
   go_enter Try.func15, Try.ntmps15
   go_wp2_with (first | ((with_reducible refine gate_dst (N := 2) rfl ?_); refine box_event ?hg (N := 2) ?hd (cs := #[.int .i64 a0_0, .int .i64 a0_1, .slice A0_2 l0_2.length c0_2]) (t := 24) ?hr ?_; (case hd => rfl); (case hg => rfl); (case hr => first | (go_simp; done) | (go_simp; rfl)); intro gA hg w6 hbox hb; have n0_ := zA (below_step (by repeat (first | (with_reducible first | exact HB.out | apply zW | apply zX | apply zY) | exact HB.out)) hb); have n1_ := zA (hbox); have n2_ := zA ((by rw [hg]; exact (below_size (by repeat (first | (with_reducible first | exact HB.out | apply zW | apply zX | apply zY) | exact HB.out))) : w.heap.size ≤ gA)); have n3_ := zA ((by rw [hg]; exact (below_size (by repeat (first | (with_reducible first | exact HB.out | apply zW | apply zX | apply zY) | exact HB.out))) : w.heap.size ≤ gA)); clear HB; have HB := n0_; have BK3N := n1_; have GW3N := n2_; have GE3N := n3_; clear n0_ n1_ n2_ n3_; clear hb hbox hg) | ((with_reducible refine gate_dst (N := 3) rfl ?_); refine box_event ?hg (N := 3) ?hd (cs := #[.int .i64 a1_0, .int .i64 a1_1, .slice A1_2 l1_2.length c1_2]) (t := 24) ?hr ?_; (case hd => rfl); (case hg => rfl); (case hr => first | (go_simp; done) | (go_simp; rfl)); intro gB hg w7 hbox hb; have n0_ := zA (blk_below (g := gA) (o := .cells #[.int .i64 a0_0, .int .i64 a0_1, .slice A0_2 l0_2.length c0_2] 24 (0, 0)) (by (with_reducible repeat (first | refine zN ?_ _ | refine zD ?_ | refine zB ?_ _)); exact BK3N.out) hb); have n1_ := zA (below_step (by repeat (first | (with_reducible first | exact HB.out | apply zW | apply zX | apply zY | refine zS ?_ GE3N.out) | exact HB.out)) hb); have n2_ := zA (hbox); have n3_ := zA ((by rw [hg]; exact (below_size (by repeat (first | (with_reducible first | exact HB.out | apply zW | apply zX | apply zY | refine zS ?_ GE3N.out) | exact HB.out))) : w.heap.size ≤ gB)); have n4_ := zA ((by rw [hg]; exact (below_size (by repeat (first | (with_reducible first | exact HB.out | apply zW | apply zX | apply zY | refine zS ?_ GE3N.out) | exact HB.out))) : w.heap.size ≤ gB)); have n5_ := zA ((by rw [hg]; exact Nat.ne_of_lt (blk_lt (g := gA) (o := .cells #[.int .i64 a0_0, .int .i64 a0_1, .slice A0_2 l0_2.length c0_2] 24 (0, 0)) (by (with_reducible repeat (first | refine zN ?_ _ | refine zD ?_ | refine zB ?_ _)); exact BK3N.out)) : gA ≠ gB)); have n6_ := zA ((by rw [hg]; exact Nat.ne_of_gt (blk_lt (g := gA) (o := .cells #[.int .i64 a0_0, .int .i64 a0_1, .slice A0_2 l0_2.length c0_2] 24 (0, 0)) (by (with_reducible repeat (first | refine zN ?_ _ | refine zD ?_ | refine zB ?_ _)); exact BK3N.out)) : gB ≠ gA)); clear BK3N; clear HB; have BK3N := n0_; have HB := n1_; have BK3O := n2_; have GW3O := n3_; have GE3O := n4_; have NB209_210 := n5_; have NB210_209 := n6_; clear n0_ n1_ n2_ n3_ n4_ n5_ n6_; clear hb hbox hg; have hnb8 := NB209_210.out; have hnc8 := NB210_209.out; have hcz9_0 : w7.cell? ⟨gA, 0, none⟩ = some (.int .i64 a0_0) := (blk_cell BK3N.out 0).trans rfl; have hcz9_1 : w7.cell? ⟨gA, 1, none⟩ = some (.int .i64 a0_1) := (blk_cell BK3N.out 1).trans rfl; have hcz9_2 : w7.cell? ⟨gA, 2, none⟩ = some (.slice A0_2 l0_2.length c0_2) := (blk_cell BK3N.out 2).trans rfl; have hfz9_0 := blk_frozen BK3N.out 0; have hfz9_1 := blk_frozen BK3N.out 1; have hfz9_2 := blk_frozen BK3N.out 2; have hcz10_0 : w7.cell? ⟨gB, 0, none⟩ = some (.int .i64 a1_0) := (blk_cell BK3O.out 0).trans rfl; have hcz10_1 : w7.cell? ⟨gB, 1, none⟩ = some (.int .i64 a1_1) := (blk_cell BK3O.out 1).trans rfl; have hcz10_2 : w7.cell? ⟨gB, 2, none⟩ = some (.slice A1_2 l1_2.length c1_2) := (blk_cell BK3O.out 2).trans rfl; have hfz10_0 := blk_frozen BK3O.out 0; have hfz10_1 := blk_frozen BK3O.out 1; have hfz10_2 := blk_frozen BK3O.out 2) | (go_at_call 24; (with_reducible refine (kimberlitelaw03_same.calls k _ _ l0_2 _ _ l1_2 t211 _ ?side1 ?side2 ?side3 ?side4 A5.out).mono ?_); (case side1 => repeat (first | exact (Kd.C_below HR0_2.out HB.out) | (with_reducible refine Kd.C_alloc ?_ _) | (with_reducible refine Kd.C_drewN ?_ _) | (with_reducible refine Kd.C_drew ?_))); (case side2 => exact HC0_2.out); (case side3 => repeat (first | exact (Kd.C_below HR1_2.out HB.out) | (with_reducible refine Kd.C_alloc ?_ _) | (with_reducible refine Kd.C_drewN ?_ _) | (with_reducible refine Kd.C_drew ?_))); (case side4 => exact HC1_2.out); rintro e w' ⟨rfl, ⟨nd, rfl⟩⟩))
   go_ret
   exact ⟨by first | rfl | (simp [errW_none, errW_some] <;> rfl) | (simp [*, errW_none, errW_some] <;> rfl), by repeat (first | (with_reducible first | exact HB.out | apply zW | apply zX | apply zY | refine zS ?_ GE3N.out | refine zS ?_ GE3O.out) | exact HB.out)⟩
  ·
   rw [if_neg c4] at H
   have c4b0 : (a0_1 == a1_1) = false := beq_eq_false_iff_ne.mpr c4
   have c4b1 : (a0_1 != a1_1) = true := bne_iff_ne.mpr c4
   obtain rfl := Option.some.inj H
   go_enter Try.func15, Try.ntmps15
   go_wp2_with (first | ((with_reducible refine gate_dst (N := 2) rfl ?_); refine box_event ?hg (N := 2) ?hd (cs := #[.int .i64 a0_0, .int .i64 a0_1, .slice A0_2 l0_2.length c0_2]) (t := 24) ?hr ?_; (case hd => rfl); (case hg => rfl); (case hr => first | (go_simp; done) | (go_simp; rfl)); intro gA hg w11 hbox hb; have n0_ := zA (below_step (by repeat (first | (with_reducible first | exact HB.out | apply zW | apply zX | apply zY) | exact HB.out)) hb); have n1_ := zA (hbox); have n2_ := zA ((by rw [hg]; exact (below_size (by repeat (first | (with_reducible first | exact HB.out | apply zW | apply zX | apply zY) | exact HB.out))) : w.heap.size ≤ gA)); have n3_ := zA ((by rw [hg]; exact (below_size (by repeat (first | (with_reducible first | exact HB.out | apply zW | apply zX | apply zY) | exact HB.out))) : w.heap.size ≤ gA)); clear HB; have HB := n0_; have BK3N := n1_; have GW3N := n2_; have GE3N := n3_; clear n0_ n1_ n2_ n3_; clear hb hbox hg) | ((with_reducible refine gate_dst (N := 3) rfl ?_); refine box_event ?hg (N := 3) ?hd (cs := #[.int .i64 a1_0, .int .i64 a1_1, .slice A1_2 l1_2.length c1_2]) (t := 24) ?hr ?_; (case hd => rfl); (case hg => rfl); (case hr => first | (go_simp; done) | (go_simp; rfl)); intro gB hg w12 hbox hb; have n0_ := zA (blk_below (g := gA) (o := .cells #[.int .i64 a0_0, .int .i64 a0_1, .slice A0_2 l0_2.length c0_2] 24 (0, 0)) (by (with_reducible repeat (first | refine zN ?_ _ | refine zD ?_ | refine zB ?_ _)); exact BK3N.out) hb); have n1_ := zA (below_step (by repeat (first | (with_reducible first | exact HB.out | apply zW | apply zX | apply zY | refine zS ?_ GE3N.out) | exact HB.out)) hb); have n2_ := zA (hbox); have n3_ := zA ((by rw [hg]; exact (below_size (by repeat (first | (with_reducible first | exact HB.out | apply zW | apply zX | apply zY | refine zS ?_ GE3N.out) | exact HB.out))) : w.heap.size ≤ gB)); have n4_ := zA ((by rw [hg]; exact (below_size (by repeat (first | (with_reducible first | exact HB.out | apply zW | apply zX | apply zY | refine zS ?_ GE3N.out) | exact HB.out))) : w.heap.size ≤ gB)); have n5_ := zA ((by rw [hg]; exact Nat.ne_of_lt (blk_lt (g := gA) (o := .cells #[.int .i64 a0_0, .int .i64 a0_1, .slice A0_2 l0_2.length c0_2] 24 (0, 0)) (by (with_reducible repeat (first | refine zN ?_ _ | refine zD ?_ | refine zB ?_ _)); exact BK3N.out)) : gA ≠ gB)); have n6_ := zA ((by rw [hg]; exact Nat.ne_of_gt (blk_lt (g := gA) (o := .cells #[.int .i64 a0_0, .int .i64 a0_1, .slice A0_2 l0_2.length c0_2] 24 (0, 0)) (by (with_reducible repeat (first | refine zN ?_ _ | refine zD ?_ | refine zB ?_ _)); exact BK3N.out)) : gB ≠ gA)); clear BK3N; clear HB; have BK3N := n0_; have HB := n1_; have BK3O := n2_; have GW3O := n3_; have GE3O := n4_; have NB209_210 := n5_; have NB210_209 := n6_; clear n0_ n1_ n2_ n3_ n4_ n5_ n6_; clear hb hbox hg; have hnb13 := NB209_210.out; have hnc13 := NB210_209.out; have hcz14_0 : w12.cell? ⟨gA, 0, none⟩ = some (.int .i64 a0_0) := (blk_cell BK3N.out 0).trans rfl; have hcz14_1 : w12.cell? ⟨gA, 1, none⟩ = some (.int .i64 a0_1) := (blk_cell BK3N.out 1).trans rfl; have hcz14_2 : w12.cell? ⟨gA, 2, none⟩ = some (.slice A0_2 l0_2.length c0_2) := (blk_cell BK3N.out 2).trans rfl; have hfz14_0 := blk_frozen BK3N.out 0; have hfz14_1 := blk_frozen BK3N.out 1; have hfz14_2 := blk_frozen BK3N.out 2; have hcz15_0 : w12.cell? ⟨gB, 0, none⟩ = some (.int .i64 a1_0) := (blk_cell BK3O.out 0).trans rfl; have hcz15_1 : w12.cell? ⟨gB, 1, none⟩ = some (.int .i64 a1_1) := (blk_cell BK3O.out 1).trans rfl; have hcz15_2 : w12.cell? ⟨gB, 2, none⟩ = some (.slice A1_2 l1_2.length c1_2) := (blk_cell BK3O.out 2).trans rfl; have hfz15_0 := blk_frozen BK3O.out 0; have hfz15_1 := blk_frozen BK3O.out 1; have hfz15_2 := blk_frozen BK3O.out 2))
   go_ret
   exact ⟨by first | rfl | (simp [errW_none, errW_some] <;> rfl) | (simp [*, errW_none, errW_some] <;> rfl), by repeat (first | (with_reducible first | exact HB.out | apply zW | apply zX | apply zY | refine zS ?_ GE3N.out | refine zS ?_ GE3O.out) | exact HB.out)⟩
 ·
  rw [if_neg c3] at H
  have c3b0 : (a0_0 == a1_0) = false := beq_eq_false_iff_ne.mpr c3
  have c3b1 : (a0_0 != a1_0) = true := bne_iff_ne.mpr c3
  obtain rfl := Option.some.inj H
  go_enter Try.func15, Try.ntmps15
  go_wp2_with (first | ((with_reducible refine gate_dst (N := 2) rfl ?_); refine box_event ?hg (N := 2) ?hd (cs := #[.int .i64 a0_0, .int .i64 a0_1, .slice A0_2 l0_2.length c0_2]) (t := 24) ?hr ?_; (case hd => rfl); (case hg => rfl); (case hr => first | (go_simp; done) | (go_simp; rfl)); intro gA hg w16 hbox hb; have n0_ := zA (below_step (by repeat (first | (with_reducible first | exact HB.out | apply zW | apply zX | apply zY) | exact HB.out)) hb); have n1_ := zA (hbox); have n2_ := zA ((by rw [hg]; exact (below_size (by repeat (first | (with_reducible first | exact HB.out | apply zW | apply zX | apply zY) | exact HB.out))) : w.heap.size ≤ gA)); have n3_ := zA ((by rw [hg]; exact (below_size (by repeat (first | (with_reducible first | exact HB.out | apply zW | apply zX | apply zY) | exact HB.out))) : w.heap.size ≤ gA)); clear HB; have HB := n0_; have BK3N := n1_; have GW3N := n2_; have GE3N := n3_; clear n0_ n1_ n2_ n3_; clear hb hbox hg) | ((with_reducible refine gate_dst (N := 3) rfl ?_); refine box_event ?hg (N := 3) ?hd (cs := #[.int .i64 a1_0, .int .i64 a1_1, .slice A1_2 l1_2.length c1_2]) (t := 24) ?hr ?_; (case hd => rfl); (case hg => rfl); (case hr => first | (go_simp; done) | (go_simp; rfl)); intro gB hg w17 hbox hb; have n0_ := zA (blk_below (g := gA) (o := .cells #[.int .i64 a0_0, .int .i64 a0_1, .slice A0_2 l0_2.length c0_2] 24 (0, 0)) (by (with_reducible repeat (first | refine zN ?_ _ | refine zD ?_ | refine zB ?_ _)); exact BK3N.out) hb); have n1_ := zA (below_step (by repeat (first | (with_reducible first | exact HB.out | apply zW | apply zX | apply zY | refine zS ?_ GE3N.out) | exact HB.out)) hb); have n2_ := zA (hbox); have n3_ := zA ((by rw [hg]; exact (below_size (by repeat (first | (with_reducible first | exact HB.out | apply zW | apply zX | apply zY | refine zS ?_ GE3N.out) | exact HB.out))) : w.heap.size ≤ gB)); have n4_ := zA ((by rw [hg]; exact (below_size (by repeat (first | (with_reducible first | exact HB.out | apply zW | apply zX | apply zY | refine zS ?_ GE3N.out) | exact HB.out))) : w.heap.size ≤ gB)); have n5_ := zA ((by rw [hg]; exact Nat.ne_of_lt (blk_lt (g := gA) (o := .cells #[.int .i64 a0_0, .int .i64 a0_1, .slice A0_2 l0_2.length c0_2] 24 (0, 0)) (by (with_reducible repeat (first | refine zN ?_ _ | refine zD ?_ | refine zB ?_ _)); exact BK3N.out)) : gA ≠ gB)); have n6_ := zA ((by rw [hg]; exact Nat.ne_of_gt (blk_lt (g := gA) (o := .cells #[.int .i64 a0_0, .int .i64 a0_1, .slice A0_2 l0_2.length c0_2] 24 (0, 0)) (by (with_reducible repeat (first | refine zN ?_ _ | refine zD ?_ | refine zB ?_ _)); exact BK3N.out)) : gB ≠ gA)); clear BK3N; clear HB; have BK3N := n0_; have HB := n1_; have BK3O := n2_; have GW3O := n3_; have GE3O := n4_; have NB209_210 := n5_; have NB210_209 := n6_; clear n0_ n1_ n2_ n3_ n4_ n5_ n6_; clear hb hbox hg; have hnb18 := NB209_210.out; have hnc18 := NB210_209.out; have hcz19_0 : w17.cell? ⟨gA, 0, none⟩ = some (.int .i64 a0_0) := (blk_cell BK3N.out 0).trans rfl; have hcz19_1 : w17.cell? ⟨gA, 1, none⟩ = some (.int .i64 a0_1) := (blk_cell BK3N.out 1).trans rfl; have hcz19_2 : w17.cell? ⟨gA, 2, none⟩ = some (.slice A0_2 l0_2.length c0_2) := (blk_cell BK3N.out 2).trans rfl; have hfz19_0 := blk_frozen BK3N.out 0; have hfz19_1 := blk_frozen BK3N.out 1; have hfz19_2 := blk_frozen BK3N.out 2; have hcz20_0 : w17.cell? ⟨gB, 0, none⟩ = some (.int .i64 a1_0) := (blk_cell BK3O.out 0).trans rfl; have hcz20_1 : w17.cell? ⟨gB, 1, none⟩ = some (.int .i64 a1_1) := (blk_cell BK3O.out 1).trans rfl; have hcz20_2 : w17.cell? ⟨gB, 2, none⟩ = some (.slice A1_2 l1_2.length c1_2) := (blk_cell BK3O.out 2).trans rfl; have hfz20_0 := blk_frozen BK3O.out 0; have hfz20_1 := blk_frozen BK3O.out 1; have hfz20_2 := blk_frozen BK3O.out 2))
  go_ret
  exact ⟨by first | rfl | (simp [errW_none, errW_some] <;> rfl) | (simp [*, errW_none, errW_some] <;> rfl), by repeat (first | (with_reducible first | exact HB.out | apply zW | apply zX | apply zY | refine zS ?_ GE3N.out | refine zS ?_ GE3O.out) | exact HB.out)⟩
end Go.Proofs.Ytfeeaipbmpmpgaa.PX

namespace Go.Proofs.Ytfeeaipbmpmpgaa.PX
open Go.RowKit Go.Proofs.YtfeeaipbmpmpgaaW.PrintWords Go.Proofs.YtfeeaipbmpmpgaaW.PrintLast Go.Proofs.YtfeeaipbmpmpgaaW.PrintMore
set_option linter.unusedVariables false
set_option linter.unusedSimpArgs false

/-! ### the value of a curve at a number -/
def cval (a b : Int) (l : List Int) (x : Int) : Int := b + sm l (x - a).toNat
def cdom (a : Int) (l : List Int) (x : Int) : Bool := decide (a ≤ x) && decide (x ≤ a + (l.length : Int))
def atV (a b : Int) (l : List Int) (x : Int) : Int × Bool := if valB a b l = true then if cdom a l x = true then (cval a b l x, true) else (0, false) else (0, false)
theorem cdom_iff {a : Int} {l : List Int} {x : Int} : cdom a l x = true ↔ a ≤ x ∧ x ≤ a + (l.length : Int) := by unfold cdom; simp
theorem val_all {a b : Int} {l : List Int} (h : valB a b l = true) : l.Pairwise (· ≤ ·) ∧ ∀ s ∈ l, -1048576 ≤ s ∧ s ≤ 1048576 := by
  unfold valB srt at h
  simp only [Bool.and_eq_true, decide_eq_true_eq, List.all_eq_true, wi_iff] at h
  exact ⟨h.2.2.2.1, h.2.2.2.2⟩
theorem val_mk {a b : Int} {l : List Int} (h1 : -1048576 ≤ a ∧ a ≤ 1048576) (h2 : -1099511627776 ≤ b ∧ b ≤ 1099511627776) (h3 : l.length ≤ 64) (h4 : l.Pairwise (· ≤ ·)) (h5 : ∀ s ∈ l, -1048576 ≤ s ∧ s ≤ 1048576) : valB a b l = true := by
  unfold valB srt
  simp only [Bool.and_eq_true, decide_eq_true_eq, List.all_eq_true, wi_iff]
  exact ⟨h1, h2, h3, h4, h5⟩
theorem cval_bound {a b : Int} {l : List Int} (h : valB a b l = true) (i : Nat) : -1099578736640 ≤ b + sm l i ∧ b + sm l i ≤ 1099578736640 ∧ -67108864 ≤ sm l i ∧ sm l i ≤ 67108864 := by
  have h1 := val_from h
  have h2 := sm_bound l 1048576 (by omega) (val_all h).2 i
  omega
theorem curve_at_some {a b : Int} {l : List Int} {x : Int} (h : valB a b l = true) (hx : cdom a l x = true) : curve_at.f a b l x = some (cval a b l x) := by
  have h1 := val_from h
  have h2 := cdom_iff.1 hx
  unfold curve_at.f cval
  rw [w64 (x := x - a) (by omega) (by omega), if_pos (by omega), if_pos (by omega)]
  rw [addup_take b l _ (by omega) (by omega) (fun s hs => by have := (val_all h).2 s hs; omega)]
theorem law_at (a b : Int) (l : List Int) (x : Int) : kimberlitelaw03_at.f a b l x = some (atV a b l x) := by
  unfold kimberlitelaw03_at.f curve_At.f curve_Valid.f atV
  simp only [Option.bind_some]
  by_cases h : valB a b l = true
  · rw [if_pos h, if_pos h]
    have h1 := val_from h
    have hh : curve_has.f a b l x = some (cdom a l x) := by
      unfold curve_has.f curve_to.f cdom
      rw [w64 (by omega) (by omega)]
      by_cases c : x ≥ a
      · rw [if_pos c]; simp; omega
      · rw [if_neg c]; simp; omega
    rw [hh]
    simp only [Option.bind_some]
    by_cases hx : cdom a l x = true
    · rw [if_pos hx, if_pos hx, curve_at_some h hx]
      rfl
    · rw [if_neg hx, if_neg hx]
      rfl
  · rw [if_neg h, if_neg h]
    rfl
theorem same_l0 (l m : List Int) (hl : l.length ≤ 9223372036854775807) (h : l.length = m.length) (d : Nat) : ∀ k i : Nat, i + d = l.length → d < k → kimberlitelaw03_same.l0 k l m (i : Int) = some (decide (l.drop i = m.drop i)) := by
  induction d with
  | zero =>
    intro k i hi hk
    obtain ⟨k, rfl⟩ : ∃ m, k = m + 1 := ⟨k - 1, by omega⟩
    simp only [kimberlitelaw03_same.l0]
    rw [if_neg (by omega), List.drop_eq_nil_of_le (by omega), List.drop_eq_nil_of_le (by omega)]
    simp
  | succ d ih =>
    intro k i hi hk
    obtain ⟨k, rfl⟩ : ∃ m, k = m + 1 := ⟨k - 1, by omega⟩
    have h1 : i < l.length := by omega
    have h2 : i < m.length := by omega
    simp only [kimberlitelaw03_same.l0]
    rw [if_pos (by omega), if_pos (by omega), if_pos (by omega), rd_getElem l i h1, rd_getElem m i h2, List.drop_eq_getElem_cons h1, List.drop_eq_getElem_cons h2]
    by_cases c : l[i] = m[i]
    · rw [if_pos c, w64 (by omega) (by omega), show ((i : Int) + 1) = ((i + 1 : Nat) : Int) from by omega, ih k (i + 1) (by omega) (by omega)]
      congr 1
      rw [decide_eq_decide, c]
      exact ⟨fun h => by rw [h], fun h => (List.cons.inj h).2⟩
    · rw [if_neg c]
      congr 1
      symm
      rw [decide_eq_false_iff_not]
      exact fun h => c (List.cons.inj h).1
theorem same_some (l m : List Int) (hl : l.length ≤ 9223372036854775807) (k : Nat) (hk : l.length < k) : kimberlitelaw03_same.f k l m = some (decide (l = m)) := by
  unfold kimberlitelaw03_same.f
  by_cases c : l.length = m.length
  · rw [if_pos (by omega)]
    have := same_l0 l m hl c l.length k 0 (by omega) hk
    simpa using this
  · rw [if_neg (by omega)]
    have : ¬ l = m := fun e => c (by rw [e])
    simp [this]
theorem alike_some (a b : Int) (l : List Int) (a' b' : Int) (l' : List Int) (hl : l.length ≤ 9223372036854775807) (k : Nat) (hk : l.length < k) : kimberlitelaw03_alike.f k a b l a' b' l' = some (decide (a = a' ∧ b = b' ∧ l = l')) := by
  unfold kimberlitelaw03_alike.f
  rw [same_some l l' hl k hk]
  by_cases h1 : a = a'
  · by_cases h2 : b = b'
    · simp [h1, h2]
    · simp [h1, h2]
  · simp [h1]
end Go.Proofs.Ytfeeaipbmpmpgaa.PX

namespace Go.Proofs.Ytfeeaipbmpmpgaa.PX
open Go.RowKit Go.Proofs.YtfeeaipbmpmpgaaW.PrintWords Go.Proofs.YtfeeaipbmpmpgaaW.PrintLast Go.Proofs.YtfeeaipbmpmpgaaW.PrintMore
set_option linter.unusedVariables false
set_option linter.unusedSimpArgs false

theorem joinR_cases (a b : Int) (l : List Int) (a' b' : Int) (l' : List Int) :
    (valB a b l = true ∧ valB a' b' l' = true ∧ valB (a + a') (b + b') (mrg l l') = true ∧ joinR a b l a' b' l' = (a + a', b + b', mrg l l', 0)) ∨
    (valB a b l = true ∧ valB a' b' l' = true ∧ valB (a + a') (b + b') (mrg l l') = false ∧ joinR a b l a' b' l' = (0, 0, [], 4)) ∨
    ((valB a b l = false ∨ valB a' b' l' = false) ∧ joinR a b l a' b' l' = (0, 0, [], 2)) := by
  unfold joinR madeR
  by_cases h1 : valB a b l = true
  · by_cases h2 : valB a' b' l' = true
    · rw [if_pos h1, if_pos h2, sortI_append l l' (val_all h1).1 (val_all h2).1]
      by_cases h3 : valB (a + a') (b + b') (mrg l l') = true
      · exact .inl ⟨h1, h2, h3, by rw [if_pos h3]⟩
      · exact .inr (.inl ⟨h1, h2, Bool.eq_false_iff.2 h3, by rw [if_neg h3]⟩)
    · rw [if_pos h1, if_neg h2]
      exact .inr (.inr ⟨.inr (Bool.eq_false_iff.2 h2), rfl⟩)
  · rw [if_neg h1]
    exact .inr (.inr ⟨.inl (Bool.eq_false_iff.2 h1), rfl⟩)
theorem joinR_comm (a b : Int) (l : List Int) (a' b' : Int) (l' : List Int) : joinR a b l a' b' l' = joinR a' b' l' a b l := by
  unfold joinR
  rw [Int.add_comm a, Int.add_comm b, sortI_congr (List.perm_append_comm : (l ++ l').Perm (l' ++ l))]
  by_cases h1 : valB a b l = true
  · by_cases h2 : valB a' b' l' = true
    · rw [if_pos h1, if_pos h2, if_pos h2, if_pos h1]
    · rw [if_pos h1, if_neg h2, if_neg h2]
  · by_cases h2 : valB a' b' l' = true
    · rw [if_neg h1, if_pos h2, if_neg h1]
    · rw [if_neg h1, if_neg h2]
theorem joinR_length (a b : Int) (l : List Int) (a' b' : Int) (l' : List Int) : (joinR a b l a' b' l').2.2.1.length ≤ 64 := by
  rcases joinR_cases a b l a' b' l' with ⟨_, _, h, e⟩ | ⟨_, _, _, e⟩ | ⟨_, e⟩
  · rw [e]; exact (val_from h).2.2.2.2
  · rw [e]; simp
  · rw [e]; simp
theorem mrg_assoc {l m n : List Int} (hl : l.Pairwise (· ≤ ·)) (hm : m.Pairwise (· ≤ ·)) (hn : n.Pairwise (· ≤ ·)) : mrg (mrg l m) n = mrg l (mrg m n) :=
  sorted_eq (mrg_sorted _ _ (mrg_sorted _ _ hl hm) hn) (mrg_sorted _ _ hl (mrg_sorted _ _ hm hn)) (by
    refine (mrg_perm _ _).trans (((mrg_perm l m).append_right n).trans ?_)
    rw [List.append_assoc]
    exact ((mrg_perm m n).append_left l).symm.trans (mrg_perm l (mrg m n)).symm)
/-- The least sum at a number: no division is smaller. -/
theorem cval_join_le {a b : Int} {l : List Int} {a' b' : Int} {l' : List Int} (h1 : valB a b l = true) (h2 : valB a' b' l' = true) (x y : Int) (hx : cdom a l x = true) (hy : cdom a' l' y = true) :
    cval (a + a') (b + b') (mrg l l') (x + y) ≤ cval a b l x + cval a' b' l' y := by
  have d1 := cdom_iff.1 hx
  have d2 := cdom_iff.1 hy
  have := sm_mrg_le l l' (val_all h1).1 (val_all h2).1 (x - a).toNat (y - a').toNat (by omega) (by omega)
  unfold cval
  rw [show (x + y - (a + a')).toNat = (x - a).toNat + (y - a').toNat from by omega]
  omega
theorem cdom_join {a : Int} {l : List Int} {a' : Int} {l' : List Int} (x y : Int) (hx : cdom a l x = true) (hy : cdom a' l' y = true) : cdom (a + a') (mrg l l') (x + y) = true := by
  have d1 := cdom_iff.1 hx
  have d2 := cdom_iff.1 hy
  rw [cdom_iff, mrg_length]
  omega
/-- .. and one is just that. -/
theorem cval_join_ex {a b : Int} {l : List Int} {a' b' : Int} {l' : List Int} (h1 : valB a b l = true) (h2 : valB a' b' l' = true) (z : Int) (hz : cdom (a + a') (mrg l l') z = true) :
    ∃ t : Nat, t ≤ l.length ∧ cdom a' l' (z - a - (t : Int)) = true ∧ cval a b l (a + (t : Int)) + cval a' b' l' (z - a - (t : Int)) = cval (a + a') (b + b') (mrg l l') z := by
  have d1 := cdom_iff.1 hz
  rw [mrg_length] at d1
  obtain ⟨i, j, e, hi, hj, hs⟩ := sm_mrg_ex l l' (z - (a + a')).toNat (by omega)
  refine ⟨i, hi, cdom_iff.2 (by omega), ?_⟩
  unfold cval
  rw [hs, show (a + (i : Int) - a).toNat = i from by omega, show (z - a - (i : Int) - a').toNat = j from by omega]
  omega
theorem cval_i64 {a b : Int} {l : List Int} (h : valB a b l = true) (x : Int) : -1099578736640 ≤ cval a b l x ∧ cval a b l x ≤ 1099578736640 := by
  have := cval_bound h (x - a).toNat
  unfold cval
  omega
end Go.Proofs.Ytfeeaipbmpmpgaa.PX

namespace Go.Proofs.Ytfeeaipbmpmpgaa.PX
open Go.RowKit Go.Proofs.YtfeeaipbmpmpgaaW.PrintWords Go.Proofs.YtfeeaipbmpmpgaaW.PrintLast Go.Proofs.YtfeeaipbmpmpgaaW.PrintMore
set_option linter.unusedVariables false
set_option linter.unusedSimpArgs false

/-- The slope behind the place, if there is one. -/
def nextK (a : Int) (l : List Int) (x : Int) : Option Int := if x - a < (l.length : Int) then some (rd l (x - a)) else none
def nextV (o : Option Int) : Value := match o with
  | some k => .tuple #[.int .i64 k, .bool true]
  | none => .tuple #[.int .i64 0, .bool false]
set_option maxHeartbeats 8000000 in
set_option maxRecDepth 100000 in
theorem next_calls (g : Nat) (a b : Int) (A : Option Addr) (c : Nat) (l : List Int) (x : Int) (w : World)
    (hb : w.heap[g]? = some (.cells #[.int .i64 a, .int .i64 b, .slice A l.length c, .int .i64 x] 69 (0, 0))) (hr : Kd.C (Kd.int .i64) w A l.length l)
    (h0 : 0 ≤ x - a) (h1 : x - a ≤ 9223372036854775807) :
    Calls Try.prog 60 #[.pointer (some ⟨g, 0, none⟩)] w fun e w' => e = .returned (nextV (nextK a l x)) ∧ Drawn0 w w' := by
  have hc0 : w.cell? ⟨g, 0, none⟩ = some (.int .i64 a) := (blk_cell hb 0).trans rfl
  have hc2 : w.cell? ⟨g, 2, none⟩ = some (.slice A l.length c) := (blk_cell hb 2).trans rfl
  have hc3 : w.cell? ⟨g, 3, none⟩ = some (.int .i64 x) := (blk_cell hb 3).trans rfl
  have hmax : l.length ≤ 9223372036854775807 := hr.2.1
  have HR := Aside0.mk hr
  clear hr hb
  have hw : wrap64 (x - a) = x - a := by unfold wrap64; omega
  by_cases hlt : x - a < (l.length : Int)
  · have hn : nextK a l x = some (rd l (x - a)) := by unfold nextK; rw [if_pos hlt]
    have HN := Aside0.mk hn
    clear hn
    obtain ⟨ad, rfl, hx⟩ := Kd.at_int HR.out (x - a) h0 hlt
    go_enter Try.func60, Try.ntmps60
    go_wp2
    go_quiet (fail)
    go_wp2
    go_ret2
    exact ⟨by rw [HN.out]; rfl, (Drawn0.refl _).step _⟩
  · have hn : nextK a l x = none := by unfold nextK; rw [if_neg hlt]
    have HN := Aside0.mk hn
    clear hn
    go_enter Try.func60, Try.ntmps60
    go_wp2
    go_quiet (fail)
    go_wp2
    go_ret2
    exact ⟨by rw [HN.out]; rfl, (Drawn0.refl _).step _⟩

/-- One share as it lies in memory: its block, its curve, where the slopes lie, its number. -/
structure Sh where
  g : Nat
  a : Int
  b : Int
  l : List Int
  A : Option Addr
  c : Nat
  x : Int
def Sh.lies (s : Sh) (w : World) : Prop :=
  w.heap[s.g]? = some (.cells #[.int .i64 s.a, .int .i64 s.b, .slice s.A s.l.length s.c, .int .i64 s.x] 69 (0, 0)) ∧ Kd.C (Kd.int .i64) w s.A s.l.length s.l ∧ s.l.length ≤ s.c
def Sh.fits (s : Sh) : Prop := 0 ≤ s.x - s.a ∧ s.x - s.a ≤ (s.l.length : Int) ∧ s.l.length ≤ 64 ∧ -1048576 ≤ s.a ∧ s.a ≤ 1048576
def Sh.key (s : Sh) : Option Int := nextK s.a s.l s.x
def ptrK : Kd Nat := Kd.scalar (fun g => Value.pointer (some ⟨g, 0, none⟩)) (fun _ => rfl)
theorem Sh.lies_drewN {s : Sh} {w : World} (h : s.lies w) (m : Nat) : s.lies (w.drewN m) := ⟨blk_drewN h.1 m, Kd.C_drewN h.2.1 m, h.2.2⟩
theorem Sh.lies_below {s : Sh} {w w1 : World} (h : s.lies w) (hb : Below w.heap.size w w1) : s.lies w1 := ⟨blk_below h.1 hb, Kd.C_below h.2.1 hb, h.2.2⟩
theorem key_calls (s : Sh) (w : World) (h : s.lies w) (hf : s.fits) :
    Calls Try.prog 60 #[.pointer (some ⟨s.g, 0, none⟩)] w fun e w' => e = .returned (nextV s.key) ∧ Drawn0 w w' :=
  next_calls s.g s.a s.b s.A s.c s.l s.x w h.1 h.2.1 hf.1 (by have := hf.2.1; have := hf.2.2.1; omega)

def bestStep (st : Int × Int) (p : Option Int × Nat) : Int × Int := match p.1 with
  | some k => if st.1 < 0 ∨ k ≤ st.2 then ((p.2 : Int), k) else st
  | none => st
def bestS (ks : List (Option Int)) : Int × Int := ks.zipIdx.foldl bestStep (-1, 0)
theorem bestS_snoc (ks : List (Option Int)) (o : Option Int) : bestS (ks ++ [o]) = bestStep (bestS ks) (o, ks.length) := by
  unfold bestS
  rw [List.zipIdx_append, List.foldl_append]
  simp
theorem at_ptr {w : World} {A : Option Addr} {n : Nat} {gs : List Nat} (h : Kd.C ptrK w A n gs) (k : Nat) (h1 : k < n) : ∃ ad, A = some ad ∧ w.cell? (ad.add k) = some (.pointer (some ⟨gs.getD k 0, 0, none⟩)) := by
  obtain ⟨ad, c, e, _, hK, hc⟩ := Kd.C_get h 0 (k : Int) (by omega) (by omega)
  have hc1 : c = [.pointer (some ⟨gs.getD k 0, 0, none⟩)] := hK
  subst hc1
  have h2 := hc 0 _ rfl
  refine ⟨ad, e, ?_⟩
  have hs : ptrK.sz = 1 := rfl
  rw [hs, Nat.mul_one, Nat.add_zero, Int.toNat_natCast] at h2
  exact h2

set_option maxHeartbeats 8000000 in
set_option maxRecDepth 100000 in
theorem best_calls (A : Option Addr) (c : Nat) (L : List Sh) (w : World) (hr : Kd.C ptrK w A L.length (L.map Sh.g)) (hc : L.length ≤ c) (hn : L.length ≤ 100)
    (hL : ∀ s ∈ L, s.lies w ∧ s.fits) :
    Calls Try.prog 59 #[.slice A L.length c, .func (.func 60) #[] #[]] w fun e w' => e = .returned (.int .i64 (bestS (L.map Sh.key)).1) ∧ Drawn0 w w' := by
  have HR := Aside0.mk hr
  have HL := Aside0.mk hL
  clear hr hL
  go_enter Try.func59, Try.ntmps59
  go_wp2
  go_loopw [5, 6, 13] (fun b v i wr => ∃ k m : Nat, k ≤ L.length ∧ i = .int .i64 (k : Int) ∧ b = .int .i64 (bestS ((L.take k).map Sh.key)).1 ∧ v = .int .i64 (bestS ((L.take k).map Sh.key)).2 ∧ wr = w.drewN m) (fun _ _ i _ => L.length - (intOf i).toNat)
  case atStart => exact ⟨0, 0, by omega, rfl, rfl, rfl, rfl⟩
  case round =>
    obtain ⟨k, m, hk, rfl, rfl, rfl, rfl⟩ := hrel
    by_cases hlt : k < L.length
    · have hmem : L[k] ∈ L := List.getElem_mem hlt
      obtain ⟨hlies, hfits⟩ := HL.out _ hmem
      obtain ⟨ad, rfl, hx⟩ := at_ptr HR.out k hlt
      rw [show (L.map Sh.g).getD k 0 = L[k].g from by simp [List.getD_eq_getElem?_getD, hlt]] at hx
      have hstep : bestS ((L.take (k + 1)).map Sh.key) = bestStep (bestS ((L.take k).map Sh.key)) (L[k].key, k) := by
        rw [List.take_succ_eq_append_getElem hlt, List.map_append, List.map_cons, List.map_nil, bestS_snoc]
        simp [Nat.min_eq_left hk]
      have HX := Aside0.mk hstep
      clear hstep hmem
      generalize L[k] = s at *
      generalize hst : bestS ((L.take k).map Sh.key) = st at *
      obtain ⟨b0, v0⟩ := st
      clear hst
      have HE := fun (m : Nat) => key_calls s (w.drewN m) (Sh.lies_drewN hlies m) hfits
      clear hlies hfits
      cases hk : s.key with
      | none =>
        rw [hk] at HX HE
        simp only [bestStep] at HX
        simp only [nextV] at HE
        clear hk
        have HE' := Aside0.mk HE
        clear HE
        go_wp2_with (go_at_call 60; (with_reducible refine (HE'.out _).mono ?_); rintro e w' ⟨rfl, ⟨nd, rfl⟩⟩)
        go_roundw
        case rel => exact ⟨k + 1, _, by omega, by go_num, by rw [HX.out], by rw [HX.out], rfl⟩
        case measure => simp [intOf]; omega
      | some kk =>
        rw [hk] at HX HE
        simp only [bestStep] at HX
        simp only [nextV] at HE
        clear hk
        have HE' := Aside0.mk HE
        clear HE
        by_cases hb : b0 < 0
        · rw [if_pos (.inl hb)] at HX
          have hb' : decide (b0 < 0) = true := decide_eq_true hb
          clear hb
          go_wp2_with (go_at_call 60; (with_reducible refine (HE'.out _).mono ?_); rintro e w' ⟨rfl, ⟨nd, rfl⟩⟩)
          go_roundw
          case rel => exact ⟨k + 1, _, by omega, by go_num, by rw [HX.out], by rw [HX.out], rfl⟩
          case measure => simp [intOf]; omega
        · have hb' : decide (b0 < 0) = false := decide_eq_false hb
          by_cases hv : kk ≤ v0
          · rw [if_pos (.inr hv)] at HX
            have hv' : decide (kk ≤ v0) = true := decide_eq_true hv
            clear hb hv
            go_wp2_with (go_at_call 60; (with_reducible refine (HE'.out _).mono ?_); rintro e w' ⟨rfl, ⟨nd, rfl⟩⟩)
            go_roundw
            case rel => exact ⟨k + 1, _, by omega, by go_num, by rw [HX.out], by rw [HX.out], rfl⟩
            case measure => simp [intOf]; omega
          · rw [if_neg (fun h => h.elim hb hv)] at HX
            have hv' : decide (kk ≤ v0) = false := decide_eq_false hv
            clear hb hv
            go_wp2_with (go_at_call 60; (with_reducible refine (HE'.out _).mono ?_); rintro e w' ⟨rfl, ⟨nd, rfl⟩⟩)
            go_roundw
            case rel => exact ⟨k + 1, _, by omega, by go_num, by rw [HX.out], by rw [HX.out], rfl⟩
            case measure => simp [intOf]; omega
    · obtain rfl : k = L.length := by omega
      rw [List.take_length]
      go_wp2
      go_ret
      exact ⟨rfl, (Drawn0.refl _).step _⟩
end Go.Proofs.Ytfeeaipbmpmpgaa.PX

namespace Go.Proofs.Ytfeeaipbmpmpgaa.PX
open Go.RowKit Go.Proofs.YtfeeaipbmpmpgaaW.PrintWords Go.Proofs.YtfeeaipbmpmpgaaW.PrintLast Go.Proofs.YtfeeaipbmpmpgaaW.PrintMore
set_option linter.unusedVariables false
set_option linter.unusedSimpArgs false

def notVal (s : S24) : Bool := !valB s.f0 s.f1 s.f2
set_option maxHeartbeats 8000000 in
set_option maxRecDepth 100000 in
theorem split1_calls (a b : Int) (A : Option Addr) (c : Nat) (l : List Int) (w : World) (hr : Kd.C (Kd.int .i64) w A l.length l) (hc : l.length ≤ c) :
    Calls Try.prog 57 #[.agg #[.int .i64 a, .int .i64 b, .slice A l.length c]] w fun e w' => e = .returned (.bool (!valB a b l)) ∧ Below w.heap.size w w' := by
  have hu24 := Try.underlying24
  have HV := Aside0.mk (fun (o : Obj) => curve_Valid.calls a b A c l _ (w.alloc o) (Kd.C_below hr (below_alloc (Below.refl _ w) o)) hc rfl)
  clear hr hc
  go_enter Try.func57, Try.ntmps57
  go_wp2_with (go_at_call 16; (with_reducible refine (HV.out _).mono ?_); rintro e w' ⟨rfl, hb⟩; have HB := Aside0.mk hb; clear hb)
  go_ret
  exact ⟨rfl, (below_alloc (Below.refl _ _) _).trans (HB.out.mono (by simp))⟩

theorem anyC_take_succ (p : S24 → Bool) (l : List S24) (k : Nat) (h : k < l.length) : (l.take (k + 1)).any p = ((l.take k).any p || p (rd_T24 l (k : Int))) := by
  rw [List.take_succ_eq_append_getElem h, List.any_append]
  simp [rd_T24, List.getD_eq_getElem?_getD, List.getElem?_eq_getElem h]
theorem anyC_of_take (p : S24 → Bool) (l : List S24) (k : Nat) (h : (l.take k).any p = true) : l.any p = true := by
  rw [List.any_eq_true] at h ⊢
  obtain ⟨x, hx, hp⟩ := h
  exact ⟨x, List.mem_of_mem_take hx, hp⟩
set_option maxHeartbeats 8000000 in
set_option maxRecDepth 100000 in
theorem indexFuncC_calls (A : Option Addr) (c : Nat) (l : List S24) (w : World) (hr : Kd.C k24 w A l.length l) (hc : l.length ≤ c) :
    Calls Try.prog 84 #[.slice A l.length c, .func (.func 57) #[] #[]] w fun e w' => (∃ i : Int, e = .returned (.int .i64 i) ∧ (decide (0 ≤ i)) = l.any notVal) ∧ Below w.heap.size w w' := by
  have hu24 := Try.underlying24
  have HR := Aside0.mk hr
  have hmax : l.length ≤ 9223372036854775807 := hr.2.1
  clear hr
  go_enter Try.func84, Try.ntmps84
  go_wp2
  go_loopw [4, 5, 8] (fun r j i wr => ∃ k : Nat, k ≤ l.length ∧ r = .int .i64 0 ∧ i = .int .i64 (k : Int) ∧ Aside0 ((l.take k).any notVal = false) ∧ Aside0 (Below w.heap.size w wr)) (fun _ _ i _ => l.length - (intOf i).toNat)
  case atStart => exact ⟨0, by omega, rfl, rfl, ⟨rfl⟩, ⟨Below.refl _ _⟩⟩
  case round =>
    obtain ⟨k, hk, rfl, rfl, HN, HB⟩ := hrel
    by_cases hlt : k < l.length
    · obtain ⟨ad, A1, c1, rfl, e0, e1, e2, hl1, hr1⟩ := at_T24 HR.out (k : Int) (by omega) (by omega)
      rw [Int.toNat_natCast] at e0 e1 e2
      replace e0 := (HB.out.cell (World.block_lt_of_cell? w _ e0)).trans e0
      replace e1 := (HB.out.cell (World.block_lt_of_cell? w _ e1)).trans e1
      replace e2 := (HB.out.cell (World.block_lt_of_cell? w _ e2)).trans e2
      replace hr1 := Kd.C_below hr1 HB.out
      have hn := anyC_take_succ notVal l k hlt
      rw [HN.out, Bool.false_or] at hn
      have he := fun w1 h1 => split1_calls (rd_T24 l (k : Int)).f0 (rd_T24 l (k : Int)).f1 A1 c1 (rd_T24 l (k : Int)).f2 w1 h1 hl1
      have hnv : notVal (rd_T24 l (k : Int)) = !valB (rd_T24 l (k : Int)).f0 (rd_T24 l (k : Int)).f1 (rd_T24 l (k : Int)).f2 := rfl
      rw [← hnv] at he
      clear hnv
      have HC1 := Aside0.mk hr1
      clear hr1 hl1
      generalize rd_T24 l (k : Int) = s at *
      cases hb : notVal s with
      | true =>
        rw [hb] at hn he
        have ha : l.any notVal = true := anyC_of_take notVal l (k + 1) hn
        have HA := Aside0.mk ha
        have HE := Aside0.mk he
        clear ha hn hb he
        go_wp2_with (go_at_call 57; (with_reducible refine (HE.out _ HC1.out).mono ?_); rintro e w' ⟨rfl, hb⟩; have HB1 := Aside0.mk hb; clear hb)
        go_ret
        exact ⟨⟨k, rfl, by rw [HA.out]; simp⟩, HB.out.trans (HB1.out.mono HB.out.size)⟩
      | false =>
        rw [hb] at hn he
        have HN' := Aside0.mk hn
        have HE := Aside0.mk he
        clear hn hb he HN
        go_wp2_with (go_at_call 57; (with_reducible refine (HE.out _ HC1.out).mono ?_); rintro e w' ⟨rfl, hb⟩; have HB1 := Aside0.mk hb; clear hb)
        go_roundw
        case rel => exact ⟨k + 1, by omega, rfl, by go_num, HN', ⟨HB.out.trans (HB1.out.mono HB.out.size)⟩⟩
        case measure => simp [intOf]; omega
    · obtain rfl : k = l.length := by omega
      go_wp2
      go_ret
      exact ⟨⟨-1, rfl, by have := HN.out; rw [List.take_length] at this; rw [this]; rfl⟩, HB.out⟩

set_option maxHeartbeats 8000000 in
theorem containsFuncC_calls (A : Option Addr) (c : Nat) (l : List S24) (w : World) (hr : Kd.C k24 w A l.length l) (hc : l.length ≤ c) :
    Calls Try.prog 56 #[.slice A l.length c, .func (.func 57) #[] #[]] w fun e w' => e = .returned (.bool (l.any notVal)) ∧ Below w.heap.size w w' := by
  have HI := Aside0.mk (fun w1 (h1 : Kd.C k24 w1 A l.length l) => indexFuncC_calls A c l w1 h1 hc)
  have HR := Aside0.mk hr
  clear hr
  go_enter Try.func56, Try.ntmps56
  go_wp2_with (go_at_call 84; (with_reducible refine (HI.out _ HR.out).mono ?_); rintro e w' ⟨⟨i, rfl, hi⟩, hb⟩; have HI2 := Aside0.mk hi; have HB := Aside0.mk hb; clear hi hb)
  go_ret
  exact ⟨by rw [← HI2.out]; rfl, HB.out⟩
end Go.Proofs.Ytfeeaipbmpmpgaa.PX

namespace Go.Proofs.Ytfeeaipbmpmpgaa.PX
open Go.RowKit Go.Proofs.YtfeeaipbmpmpgaaW.PrintWords Go.Proofs.YtfeeaipbmpmpgaaW.PrintLast Go.Proofs.YtfeeaipbmpmpgaaW.PrintMore
attribute [local go_sem] max2_int min2_int max_two min_two max_three min_three max_four min_four   -- for this text's walks alone
set_option linter.unusedVariables false
set_option linter.unusedSimpArgs false
/-! ### curve_prices: function 62 -/
def curve_prices.j0 : Nat → Int → Int → Int → Int → Int → List Int → Option (Int × Int)
 | 0, _, _, _, _, _, _ => none
 | k + 1, x1, x6, x7, x214000, x214001, x214002 => if (wrap64 (x1 - x214000)) < (x214002.length : Int) then (if 0 ≤ (wrap64 (x1 - x214000)) then (some (x6, rd x214002 (wrap64 (x1 - x214000)))) else (none)) else (some (x6, x7))
def curve_prices.f (k : Nat) (a0_0 : Int) (a0_1 : Int) (l0_2 : List Int) (a1 : Int) : Option (Int × Int) := if (wrap64 (a1 - a0_0)) > 0 then (if 0 ≤ (wrap64 ((wrap64 (a1 - a0_0)) - 1)) then (if (wrap64 ((wrap64 (a1 - a0_0)) - 1)) < (l0_2.length : Int) then (curve_prices.j0 k a1 (rd l0_2 (wrap64 ((wrap64 (a1 - a0_0)) - 1))) 1048576 a0_0 a0_1 l0_2) else (none)) else (none)) else (curve_prices.j0 k a1 (-1048576) 1048576 a0_0 a0_1 l0_2)
theorem curve_prices.mono_l : ∀ k, (∀ y0 y1 y2 y3 y4 y5, LeO (curve_prices.j0 k y0 y1 y2 y3 y4 y5) (curve_prices.j0 (k + 1) y0 y1 y2 y3 y4 y5))
 | 0 => fun _ _ _ _ _ _ r h => by simp [curve_prices.j0] at h
 | k + 1 => by
  have ih0 := curve_prices.mono_l k
  ·
   intro y0 y1 y2 y3 y4 y5
   unfold curve_prices.j0
   repeat' first
   | (with_reducible exact ih0 _ _ _ _ _ _)
   | (with_reducible exact LeO.refl _)
   | (with_reducible exact LeO.none _)
   | (with_reducible refine LeO.ite ?_ ?_)
   | (with_reducible refine LeO.bind ?_ (fun _ => ?_))
   | exact ih0 _ _ _ _ _ _
   | exact LeO.none _
   | refine LeO.ite ?_ ?_
   | refine LeO.bind ?_ (fun _ => ?_)
theorem curve_prices.mono : ∀ a0 a1 a2 a3 k, LeO (curve_prices.f k a0 a1 a2 a3) (curve_prices.f (k + 1) a0 a1 a2 a3) := by
 intro a0 a1 a2 a3 k
 have ih0 := curve_prices.mono_l k
 unfold curve_prices.f
 repeat' first
   | (with_reducible exact ih0 _ _ _ _ _ _)
   | (with_reducible exact LeO.refl _)
   | (with_reducible exact LeO.none _)
   | (with_reducible refine LeO.ite ?_ ?_)
   | (with_reducible refine LeO.bind ?_ (fun _ => ?_))
   | exact ih0 _ _ _ _ _ _
   | exact LeO.none _
   | refine LeO.ite ?_ ?_
   | refine LeO.bind ?_ (fun _ => ?_)
set_option maxHeartbeats 8000000 in
set_option maxRecDepth 100000 in
theorem curve_prices.calls (k : Nat) (a0_0 : Int) (a0_1 : Int) (A0_2 : Option Addr) (c0_2 : Nat) (l0_2 : List Int) (a1 : Int) (r1 : Int) (r2 : Int) (w : World) (hr0_2 : Kd.C (Kd.int .i64) w A0_2 l0_2.length l0_2) (hc0_2 : l0_2.length ≤ c0_2) (h : curve_prices.f k a0_0 a0_1 l0_2 a1 = some (r1, r2)) :
  Calls Try.prog 62 #[.agg #[.int .i64 a0_0, .int .i64 a0_1, .slice A0_2 l0_2.length c0_2], .int .i64 a1] w fun e w' => e = .returned (.tuple #[.int .i64 r1, .int .i64 r2]) ∧ Below w.heap.size w w' := by
 have hu24 := Try.underlying24
 have HR0_2 := zA hr0_2
 have HC0_2 := zA hc0_2
 clear hr0_2 hc0_2
 have HB := zA (Below.refl w.heap.size w)
 have H : (if (wrap64 (a1 - a0_0)) > 0 then (if 0 ≤ (wrap64 ((wrap64 (a1 - a0_0)) - 1)) then (if (wrap64 ((wrap64 (a1 - a0_0)) - 1)) < (l0_2.length : Int) then (curve_prices.j0 k a1 (rd l0_2 (wrap64 ((wrap64 (a1 - a0_0)) - 1))) 1048576 a0_0 a0_1 l0_2) else (none)) else (none)) else (curve_prices.j0 k a1 (-1048576) 1048576 a0_0 a0_1 l0_2)) = some (r1, r2) := h
 clear h
 have HC3 := zA H
 clear H
 go_enter Try.func62, Try.ntmps62
 go_upto_if 15 with (first | ((with_reducible refine gate_dst (N := 2) rfl ?_); refine box_event ?hg (N := 2) ?hd (cs := #[.int .i64 a0_0, .int .i64 a0_1, .slice A0_2 l0_2.length c0_2]) (t := 24) ?hr ?_; (case hd => rfl); (case hg => rfl); (case hr => first | (go_simp; done) | (go_simp; rfl)); intro gA hg w4 hbox hb; have n0_ := zA (below_step (by repeat (first | (with_reducible first | exact HB.out | apply zW | apply zX | apply zY) | exact HB.out)) hb); have n1_ := zA (hbox); have n2_ := zA ((by rw [hg]; exact (below_size (by repeat (first | (with_reducible first | exact HB.out | apply zW | apply zX | apply zY) | exact HB.out))) : w.heap.size ≤ gA)); have n3_ := zA ((by rw [hg]; exact (below_size (by repeat (first | (with_reducible first | exact HB.out | apply zW | apply zX | apply zY) | exact HB.out))) : w.heap.size ≤ gA)); clear HB; have HB := n0_; have BK3R := n1_; have GW3R := n2_; have GE3R := n3_; clear n0_ n1_ n2_ n3_; clear hb hbox hg; have hcz5_0 : w4.cell? ⟨gA, 0, none⟩ = some (.int .i64 a0_0) := (blk_cell BK3R.out 0).trans rfl; have hcz5_1 : w4.cell? ⟨gA, 1, none⟩ = some (.int .i64 a0_1) := (blk_cell BK3R.out 1).trans rfl; have hcz5_2 : w4.cell? ⟨gA, 2, none⟩ = some (.slice A0_2 l0_2.length c0_2) := (blk_cell BK3R.out 2).trans rfl; have hfz5_0 := blk_frozen BK3R.out 0; have hfz5_1 := blk_frozen BK3R.out 1; have hfz5_2 := blk_frozen BK3R.out 2))
 (try simp only [Act.put, z1, z2, z3])
 go_cut [6] (fun v6 wc => ∃ (kq : Nat) (x6_2 : Int), v6 = .int .i64 x6_2 ∧ Aside0 (curve_prices.j0 kq a1 x6_2 1048576 a0_0 a0_1 l0_2 = some (r1, r2)) ∧ Aside0 (kq ≤ k) ∧ Aside0 (wc.heap[gA]? = some (.cells #[.int .i64 a0_0, .int .i64 a0_1, (.slice A0_2 l0_2.length c0_2)] 24 (0, 0))) ∧ Aside0 (Below w.heap.size w wc))
 case first =>
  have H := HC3.out
  clear HC3
  by_cases c6 : (wrap64 (a1 - a0_0)) > 0
  ·
   rw [if_pos c6] at H
   have c6b0 : decide (0 < (wrap64 (a1 - a0_0))) = true := decide_eq_true c6
   clear c6
   (first | rw [c6b0] | (simp only [i64_w, i32_w]; rw [c6b0]) | skip)
   obtain ⟨ji7, hji7⟩ : ∃ j_ : Int, (wrap64 ((wrap64 (a1 - a0_0)) - 1)) = j_ := ⟨_, rfl⟩
   replace H : (if 0 ≤ (ji7) then (if (ji7) < (l0_2.length : Int) then (curve_prices.j0 k a1 (rd l0_2 (ji7)) 1048576 a0_0 a0_1 l0_2) else (none)) else (none)) = some (r1, r2) := by first | (rw [hji7] at H; exact H) | (simp only [hji7] at H ⊢; exact H)
   have hji7w : (IntKind.i64.wrap ((wrap64 (a1 - a0_0)) - 1)) = ji7 := (i64_w _).trans hji7
   by_cases c8 : 0 ≤ (ji7)
   ·
    rw [if_pos c8] at H
    have c8b0 : decide (0 ≤ (ji7)) = true := decide_eq_true c8
    clear c8
    by_cases c9 : (ji7) < (l0_2.length : Int)
    ·
     rw [if_pos c9] at H
     have c9b0 : decide ((ji7) < (l0_2.length : Int)) = true := decide_eq_true c9
     clear c9
     have H' := zA H
     clear H
     have hcz10_0 : w4.cell? ⟨gA, 0, none⟩ = some (.int .i64 a0_0) := (blk_cell BK3R.out 0).trans rfl
     have hcz10_1 : w4.cell? ⟨gA, 1, none⟩ = some (.int .i64 a0_1) := (blk_cell BK3R.out 1).trans rfl
     have hcz10_2 : w4.cell? ⟨gA, 2, none⟩ = some (.slice A0_2 l0_2.length c0_2) := (blk_cell BK3R.out 2).trans rfl
     have hfz10_0 := blk_frozen BK3R.out 0
     have hfz10_1 := blk_frozen BK3R.out 1
     have hfz10_2 := blk_frozen BK3R.out 2
     have p214 : 0 ≤ ((ji7) : Int) := of_decide_eq_true (by first | (with_reducible assumption) | assumption)
     have q214 : (ji7) < (l0_2.length : Int) := of_decide_eq_true (by first | (with_reducible assumption) | assumption)
     obtain ⟨ad214, e214, hx214_0⟩ := Kd.at_int HR0_2.out (ji7) p214 q214
     cases e214
     replace hx214_0 := (HB.out.cell (World.block_lt_of_cell? w _ hx214_0)).trans hx214_0
     replace p214 := eq_true p214
     replace q214 := eq_true q214
     go_wp2
     go_meet
     case rel => exact ⟨_, (rd l0_2 (ji7)), (by first | rfl | (simp; done) | (simp only [← hji7] <;> (first | rfl | simp)) | (simp [*]; done)), H', ⟨by first | omega | exact Nat.le_refl _⟩, ⟨by (with_reducible repeat (first | refine zN ?_ _ | refine zD ?_ | refine zB ?_ _)); exact BK3R.out⟩, ⟨by repeat (first | (with_reducible first | exact HB.out | apply zW | apply zX | apply zY | refine zS ?_ GE3R.out) | exact HB.out)⟩⟩
    ·
     rw [if_neg c9] at H
     exact absurd H (by simp)
   ·
    rw [if_neg c8] at H
    exact absurd H (by simp)
  ·
   rw [if_neg c6] at H
   have c6b0 : decide (0 < (wrap64 (a1 - a0_0))) = false := decide_eq_false c6
   clear c6
   (first | rw [c6b0] | (simp only [i64_w, i32_w]; rw [c6b0]) | skip)
   have H' := zA H
   clear H
   go_wp2
   go_meet
   case rel => exact ⟨_, ((-1048576)), (by first | rfl | (simp; done) | (simp [*]; done)), H', ⟨by first | omega | exact Nat.le_refl _⟩, ⟨by (with_reducible repeat (first | refine zN ?_ _ | refine zD ?_ | refine zB ?_ _)); exact BK3R.out⟩, ⟨by repeat (first | (with_reducible first | exact HB.out | apply zW | apply zX | apply zY | refine zS ?_ GE3R.out) | exact HB.out)⟩⟩
 case rest =>
  clear HC3
  try clear p2
  try clear q2
  try clear hx2
  try clear c6
  try clear c6b0
  try clear p6
  try clear c8
  try clear c8b0
  try clear c9
  try clear c9b0
  try clear hcz10_0
  try clear hcz10_1
  try clear hcz10_2
  try clear hcz5_0
  try clear hcz5_1
  try clear hcz5_2
  try clear hfz10_0
  try clear hfz10_1
  try clear hfz10_2
  try clear hfz5_0
  try clear hfz5_1
  try clear hfz5_2
  try clear hx214_0
  try clear p214
  try clear q214
  obtain ⟨kq, x6_2, rfl, HA, HJ2, BK3R, HB⟩ := hcut
  cases kq with
  | zero => exact absurd HA.out (by simp [curve_prices.j0])
  | succ kj2 =>
   have H := HA.out
   clear HA
   simp only [curve_prices.j0] at H
   by_cases c11 : (wrap64 (a1 - a0_0)) < (l0_2.length : Int)
   ·
    rw [if_pos c11] at H
    have c11b0 : decide ((wrap64 (a1 - a0_0)) < (l0_2.length : Int)) = true := decide_eq_true c11
    clear c11
    obtain ⟨ji12, hji12⟩ : ∃ j_ : Int, (wrap64 (a1 - a0_0)) = j_ := ⟨_, rfl⟩
    replace H : (if 0 ≤ (ji12) then (some (x6_2, rd l0_2 (ji12))) else (none)) = some (r1, r2) := by first | (rw [hji12] at H; exact H) | (simp only [hji12] at H ⊢; exact H)
    (try rw [hji12] at c11b0)
    have hji12w : (IntKind.i64.wrap (a1 - a0_0)) = ji12 := (i64_w _).trans hji12
    by_cases c13 : 0 ≤ (ji12)
    ·
     rw [if_pos c13] at H
     have c13b0 : decide (0 ≤ (ji12)) = true := decide_eq_true c13
     clear c13
     simp only [Option.some.injEq, Prod.mk.injEq] at H
     obtain ⟨rfl, rfl⟩ := H
     have hcz14_0 : wc.cell? ⟨gA, 0, none⟩ = some (.int .i64 a0_0) := (blk_cell BK3R.out 0).trans rfl
     have hcz14_1 : wc.cell? ⟨gA, 1, none⟩ = some (.int .i64 a0_1) := (blk_cell BK3R.out 1).trans rfl
     have hcz14_2 : wc.cell? ⟨gA, 2, none⟩ = some (.slice A0_2 l0_2.length c0_2) := (blk_cell BK3R.out 2).trans rfl
     have hfz14_0 := blk_frozen BK3R.out 0
     have hfz14_1 := blk_frozen BK3R.out 1
     have hfz14_2 := blk_frozen BK3R.out 2
     have p215 : 0 ≤ ((ji12) : Int) := of_decide_eq_true (by first | (with_reducible assumption) | assumption)
     have q215 : (ji12) < (l0_2.length : Int) := of_decide_eq_true (by first | (with_reducible assumption) | assumption)
     obtain ⟨ad215, e215, hx215_0⟩ := Kd.at_int HR0_2.out (ji12) p215 q215
     cases e215
     replace hx215_0 := (HB.out.cell (World.block_lt_of_cell? w _ hx215_0)).trans hx215_0
     replace p215 := eq_true p215
     replace q215 := eq_true q215
     go_wp2
     go_ret2
     exact ⟨by first | rfl | (simp [errW_none, errW_some] <;> rfl) | (simp only [← hji12]; first | rfl | (simp [errW_none, errW_some] <;> rfl)) | (simp [*, errW_none, errW_some] <;> rfl), by repeat (first | (with_reducible first | exact HB.out | apply zW | apply zX | apply zY | refine zS ?_ GE3R.out) | exact HB.out)⟩
    ·
     rw [if_neg c13] at H
     exact absurd H (by simp)
   ·
    rw [if_neg c11] at H
    have c11b0 : decide ((wrap64 (a1 - a0_0)) < (l0_2.length : Int)) = false := decide_eq_false c11
    clear c11
    simp only [Option.some.injEq, Prod.mk.injEq] at H
    obtain ⟨rfl, rfl⟩ := H
    have hcz15_0 : wc.cell? ⟨gA, 0, none⟩ = some (.int .i64 a0_0) := (blk_cell BK3R.out 0).trans rfl
    have hcz15_1 : wc.cell? ⟨gA, 1, none⟩ = some (.int .i64 a0_1) := (blk_cell BK3R.out 1).trans rfl
    have hcz15_2 : wc.cell? ⟨gA, 2, none⟩ = some (.slice A0_2 l0_2.length c0_2) := (blk_cell BK3R.out 2).trans rfl
    have hfz15_0 := blk_frozen BK3R.out 0
    have hfz15_1 := blk_frozen BK3R.out 1
    have hfz15_2 := blk_frozen BK3R.out 2
    go_wp2
    go_ret2
    exact ⟨by first | rfl | (simp [errW_none, errW_some] <;> rfl) | (simp [*, errW_none, errW_some] <;> rfl), by repeat (first | (with_reducible first | exact HB.out | apply zW | apply zX | apply zY | refine zS ?_ GE3R.out) | exact HB.out)⟩
end Go.Proofs.Ytfeeaipbmpmpgaa.PX

namespace Go.Proofs.Ytfeeaipbmpmpgaa.PX
open Go.RowKit Go.Proofs.YtfeeaipbmpmpgaaW.PrintWords Go.Proofs.YtfeeaipbmpmpgaaW.PrintLast Go.Proofs.YtfeeaipbmpmpgaaW.PrintMore
set_option linter.unusedVariables false
set_option linter.unusedSimpArgs false

/-! ### what Split computes -/
def keyP (p : S24 × Int) : Option Int := nextK p.1.f0 p.1.f2 p.2
def bump (p : S24 × Int) : S24 × Int := (p.1, p.2 + 1)
def bestP (ps : List (S24 × Int)) : Int := (bestS (ps.map keyP)).1
def stepP (ps : List (S24 × Int)) : List (S24 × Int) := ps.modify (bestP ps).toNat bump
def runP : Nat → List (S24 × Int) → List (S24 × Int)
  | 0, ps => ps
  | n + 1, ps => runP n (stepP ps)
def startP (cs : List S24) : List (S24 × Int) := cs.map fun c => (c, c.f0)
def toP (c : S24) : Int := c.f0 + (c.f2.length : Int)
def leastP (cs : List S24) : Int := (cs.map fun c => c.f0).sum
def mostP (cs : List S24) : Int := (cs.map toP).sum
def valP (p : S24 × Int) : Int := addup p.1.f1 (p.1.f2.take (p.2 - p.1.f0).toNat)
def loP (p : S24 × Int) : Int := if 0 < p.2 - p.1.f0 then rd p.1.f2 (p.2 - p.1.f0 - 1) else -1048576
def sumP (ps : List (S24 × Int)) : Int := ps.foldl (fun s p => wrap64 (s + valP p)) 0
def priceP (ps : List (S24 × Int)) : Int := ps.foldl (fun m p => mx m (loP p)) (-1048576)

/-! ### the shares in memory -/
def Sh.p (s : Sh) : S24 × Int := (⟨s.a, s.b, s.l⟩, s.x)
def Sh.cells (s : Sh) : Obj := .cells #[.int .i64 s.a, .int .i64 s.b, .slice s.A s.l.length s.c, .int .i64 s.x] 69 (0, 0)
structure ShRow (w wr : World) (v : Value) (L : List Sh) : Prop where
  row : Kd.R ptrK 67 wr w.heap.size (fun _ => True) v (L.map Sh.g)
  blk : ∀ s ∈ L, wr.heap[s.g]? = some s.cells
  new : ∀ s ∈ L, w.heap.size ≤ s.g
  reads : ∀ s ∈ L, Kd.C (Kd.int .i64) w s.A s.l.length s.l ∧ s.l.length ≤ s.c
  nodup : (L.map Sh.g).Nodup
  below : Below w.heap.size w wr
theorem ShRow.nil (w : World) : ShRow w w (.slice none 0 0) [] :=
  ⟨Kd.R_nil _ _ _ _ _, by simp, by simp, by simp, by simp, Below.refl _ _⟩
theorem ShRow.move {w wr w1 : World} {v : Value} {L : List Sh} (h : ShRow w wr v L) (hb : Below wr.heap.size wr w1) : ShRow w w1 v L :=
  ⟨Kd.R_below h.row hb, fun s hs => blk_below (h.blk s hs) hb, h.new, h.reads, h.nodup, h.below.trans (hb.mono h.below.size)⟩
theorem ShRow.add {w wr w1 : World} {v v1 : Value} {L : List Sh} (h : ShRow w wr v L) {s : Sh} (hs : wr.heap[s.g]? = some s.cells) (hn : w.heap.size ≤ s.g) (hr : Kd.C (Kd.int .i64) w s.A s.l.length s.l ∧ s.l.length ≤ s.c) (hd : s.g ∉ L.map Sh.g)
    (hR : Kd.R ptrK 67 w1 w.heap.size (fun _ => True) v1 (L.map Sh.g ++ [s.g])) (hB : Below w.heap.size w w1) (hg : wr.grownBy w1 v.ownBlock) : ShRow w w1 v1 (L ++ [s]) := by
  have hblk : ∀ t : Sh, wr.heap[t.g]? = some t.cells → w1.heap[t.g]? = some t.cells := fun t ht => by
    have hne := Kd.R_ne h.row ht (by decide)
    exact (hg.block t.g (blk_lt ht) hne).trans ht
  refine ⟨by rw [List.map_append]; exact hR, fun t ht => ?_, fun t ht => ?_, fun t ht => ?_, ?_, hB⟩
  · rcases List.mem_append.1 ht with ht | ht
    · exact hblk t (h.blk t ht)
    · rw [List.mem_singleton.1 ht]; exact hblk s hs
  · rcases List.mem_append.1 ht with ht | ht
    · exact h.new t ht
    · rw [List.mem_singleton.1 ht]; exact hn
  · rcases List.mem_append.1 ht with ht | ht
    · exact h.reads t ht
    · rw [List.mem_singleton.1 ht]; exact hr
  · rw [List.map_append, List.map_cons, List.map_nil, List.nodup_append]
    refine ⟨h.nodup, by simp, fun a ha b hb => ?_⟩
    rw [List.mem_singleton.1 hb]
    rintro rfl
    exact hd ha
theorem ShRow.lies {w wr : World} {v : Value} {L : List Sh} (h : ShRow w wr v L) (s : Sh) (hs : s ∈ L) : s.lies wr :=
  ⟨h.blk s hs, Kd.C_below (h.reads s hs).1 h.below, (h.reads s hs).2⟩
/-- One share's number is turned. -/
theorem ShRow.turn {w wr : World} {v : Value} {L : List Sh} (h : ShRow w wr v L) (i : Nat) (hi : i < L.length) (x : Int) :
    ShRow w (wr.setCell ⟨L[i].g, 3, none⟩ (.int .i64 x)) v (L.modify i fun s => { s with x := x }) := by
  have hm : L[i] ∈ L := List.getElem_mem hi
  have hg : (L.modify i fun s => { s with x := x }).map Sh.g = L.map Sh.g := by
    apply List.ext_getElem (by simp)
    intro j h1 h2
    simp only [List.getElem_map, List.getElem_modify]
    split <;> rfl
  have hmem : ∀ t, t ∈ (L.modify i fun s => { s with x := x }) → ∃ j, ∃ hj : j < L.length, t = if i = j then { L[j] with x := x } else L[j] := by
    intro t ht
    obtain ⟨j, hj, rfl⟩ := List.getElem_of_mem ht
    refine ⟨j, by simpa using hj, ?_⟩
    rw [List.getElem_modify]
  refine ⟨by rw [hg]; exact Kd.R_set h.row (h.blk _ hm) (by decide) 3 _, fun t ht => ?_, fun t ht => ?_, fun t ht => ?_, by rw [hg]; exact h.nodup, below_set h.below (h.new _ hm)⟩
  · obtain ⟨j, hj, rfl⟩ := hmem t ht
    by_cases e : i = j
    · subst e
      rw [if_pos rfl]
      exact blk_put (h.blk _ hm) 3 _ rfl
    · rw [if_neg e]
      refine blk_far (h.blk _ (List.getElem_mem hj)) ?_ _
      intro e2
      have h1 : (L.map Sh.g)[j]'(by simpa using hj) = (L.map Sh.g)[i]'(by simpa using hi) := by simpa using e2
      exact e ((List.getElem_inj h.nodup).1 h1).symm
  · obtain ⟨j, hj, rfl⟩ := hmem t ht
    have := h.new _ (List.getElem_mem hj)
    split <;> exact this
  · obtain ⟨j, hj, rfl⟩ := hmem t ht
    have := h.reads _ (List.getElem_mem hj)
    split <;> exact this
end Go.Proofs.Ytfeeaipbmpmpgaa.PX

namespace Go.Proofs.Ytfeeaipbmpmpgaa.PX
open Go.RowKit Go.Proofs.YtfeeaipbmpmpgaaW.PrintWords Go.Proofs.YtfeeaipbmpmpgaaW.PrintLast Go.Proofs.YtfeeaipbmpmpgaaW.PrintMore
set_option linter.unusedVariables false
set_option linter.unusedSimpArgs false

theorem info67 : (Try.prog.info? 67).map (fun i => (i.zero, i.size, i.bytes)) = some (some (.pointer none), 1, 8) := by kernel_rfl
theorem startP_take_succ (cs : List S24) (k : Nat) (h : k < cs.length) : startP (cs.take (k + 1)) = startP (cs.take k) ++ [(cs[k], cs[k].f0)] := by
  unfold startP
  rw [List.take_succ_eq_append_getElem h, List.map_append]
  rfl
theorem leastP_take_succ (cs : List S24) (k : Nat) (h : k < cs.length) : leastP (cs.take (k + 1)) = leastP (cs.take k) + cs[k].f0 := by
  unfold leastP
  rw [List.take_succ_eq_append_getElem h, List.map_append, List.sum_append]
  simp
theorem mostP_take_succ (cs : List S24) (k : Nat) (h : k < cs.length) : mostP (cs.take (k + 1)) = mostP (cs.take k) + toP cs[k] := by
  unfold mostP
  rw [List.take_succ_eq_append_getElem h, List.map_append, List.sum_append]
  simp
theorem rd_T24_getElem (l : List S24) (n : Nat) (h : n < l.length) : rd_T24 l (n : Int) = l[n] := by
  simp [rd_T24, List.getD_eq_getElem?_getD, List.getElem?_eq_getElem h]

/-- What the good way of Split tells. -/
def SplitTold (w : World) (r : List Int × Int × Int) (e : Ending) (w' : World) : Prop :=
  ∃ v, e = .returned (.tuple #[v, .int .i64 r.2.1, .int .i64 r.2.2, .int .i64 0]) ∧ Kd.R (Kd.int .i64) 3 w' w.heap.size (fun _ => True) v r.1 ∧ Below w.heap.size w w'
/-- What the ways with an error tell. -/
def SplitErr (w : World) (q : Int) (e : Ending) (w' : World) : Prop :=
  e = .returned (.tuple #[.slice none 0 0, .int .i64 0, .int .i64 0, .int .i64 q]) ∧ Below w.heap.size w w'

set_option maxHeartbeats 8000000 in
set_option maxRecDepth 100000 in
theorem split_many (A : Option Addr) (c : Nat) (cs : List S24) (total : Int) (w : World) (hn : 8 < cs.length) (hm : cs.length ≤ 9223372036854775807) :
    Calls Try.prog 19 #[.slice A cs.length c, .int .i64 total] w (SplitErr w 3) := by
  have hn' : decide (8 < cs.length) = true := decide_eq_true hn
  go_enter Try.func19, Try.ntmps19
  go_wp2
  refine bodyPost_ret (v := .tuple #[.slice none 0 0, .int .i64 0, .int .i64 0, .int .i64 3]) (by simp [results, Try.results19, go_sem]) rfl ⟨rfl, Below.refl _ _⟩
set_option maxHeartbeats 8000000 in
set_option maxRecDepth 100000 in
theorem split_none (A : Option Addr) (c : Nat) (total : Int) (w : World) :
    Calls Try.prog 19 #[.slice A 0 c, .int .i64 total] w (SplitErr w 2) := by
  go_enter Try.func19, Try.ntmps19
  go_wp2
  refine bodyPost_ret (v := .tuple #[.slice none 0 0, .int .i64 0, .int .i64 0, .int .i64 2]) (by simp [results, Try.results19, go_sem]) rfl ⟨rfl, Below.refl _ _⟩
set_option maxHeartbeats 8000000 in
set_option maxRecDepth 100000 in
theorem split_invalid (A : Option Addr) (c : Nat) (cs : List S24) (total : Int) (w : World) (hr : Kd.C k24 w A cs.length cs) (hc : cs.length ≤ c) (hn : cs.length ≤ 8) (h0 : 0 < cs.length) (hv : cs.any notVal = true) :
    Calls Try.prog 19 #[.slice A cs.length c, .int .i64 total] w (SplitErr w 2) := by
  have hn' : decide (8 < cs.length) = false := decide_eq_false (by omega)
  have h0' : (cs.length == 0) = false := beq_eq_false_iff_ne.2 (by omega)
  have h0'' : ((cs.length : Int) == 0) = false := beq_eq_false_iff_ne.2 (by omega)
  have h1 : ¬ (cs = []) := fun e => by simp [e] at h0
  have HC := containsFuncC_calls A c cs w hr hc
  rw [hv] at HC
  have HA := Aside0.mk HC
  clear HC hv hr hc
  go_enter Try.func19, Try.ntmps19
  go_wp2_with (go_at_call 56; (with_reducible refine (HA.out).mono ?_); rintro e w' ⟨rfl, hb⟩; have HB := Aside0.mk hb; clear hb)
  refine bodyPost_ret (v := .tuple #[.slice none 0 0, .int .i64 0, .int .i64 0, .int .i64 2]) (by simp [results, Try.results19, go_sem]) rfl ⟨rfl, HB.out⟩
end Go.Proofs.Ytfeeaipbmpmpgaa.PX

namespace Go.Proofs.Ytfeeaipbmpmpgaa.PX
open Go.RowKit Go.Proofs.YtfeeaipbmpmpgaaW.PrintWords Go.Proofs.YtfeeaipbmpmpgaaW.PrintLast Go.Proofs.YtfeeaipbmpmpgaaW.PrintMore
set_option linter.unusedVariables false
set_option linter.unusedSimpArgs false

theorem snoc_induction {α : Type} {P : List α → Prop} (h0 : P []) (h1 : ∀ l x, P l → P (l ++ [x])) (l : List α) : P l := by
  have h : ∀ l : List α, P l.reverse := fun l => by
    induction l with
    | nil => exact h0
    | cons x l ih => rw [List.reverse_cons]; exact h1 _ _ ih
  have := h l.reverse
  rwa [List.reverse_reverse] at this
theorem bestS_spec (ks : List (Option Int)) : ((bestS ks).1 = -1 ∧ ∀ o ∈ ks, o = none) ∨
    (∃ i : Nat, ∃ hi : i < ks.length, (bestS ks).1 = (i : Int) ∧ ks[i] = some (bestS ks).2 ∧ (∀ (j : Nat) (hj : j < ks.length) k, ks[j] = some k → (bestS ks).2 ≤ k ∧ (i < j → (bestS ks).2 < k))) := by
  induction ks using snoc_induction with
  | h0 => exact .inl ⟨rfl, by simp⟩
  | h1 ks o ih =>
    rw [bestS_snoc]
    cases o with
    | none =>
      simp only [bestStep]
      rcases ih with ⟨h1, h2⟩ | ⟨i, hi, h1, h2, h3⟩
      · refine .inl ⟨h1, fun o ho => ?_⟩
        rcases List.mem_append.1 ho with ho | ho
        · exact h2 o ho
        · simpa using ho
      · refine .inr ⟨i, by simp; omega, h1, by rw [List.getElem_append_left hi]; exact h2, fun j hj k hk => ?_⟩
        by_cases e : j < ks.length
        · rw [List.getElem_append_left e] at hk
          exact h3 j e k hk
        · have : j = ks.length := by simp at hj; omega
          subst this
          simp at hk
    | some x =>
      simp only [bestStep]
      rcases ih with ⟨h1, h2⟩ | ⟨i, hi, h1, h2, h3⟩
      · rw [if_pos (.inl (by omega))]
        refine .inr ⟨ks.length, by simp, rfl, by simp, fun j hj k hk => ?_⟩
        by_cases e : j < ks.length
        · rw [List.getElem_append_left e] at hk
          have := h2 _ (List.getElem_mem e)
          rw [this] at hk
          cases hk
        · have : j = ks.length := by simp at hj; omega
          subst this
          simp at hk
          omega
      · by_cases c : x ≤ (bestS ks).2
        · rw [if_pos (.inr c)]
          refine .inr ⟨ks.length, by simp, rfl, by simp, fun j hj k hk => ?_⟩
          by_cases e : j < ks.length
          · rw [List.getElem_append_left e] at hk
            have := (h3 j e k hk).1
            simp only
            omega
          · have : j = ks.length := by simp at hj; omega
            subst this
            simp at hk
            simp only
            omega
        · rw [if_neg (by omega)]
          refine .inr ⟨i, by simp; omega, h1, by rw [List.getElem_append_left hi]; exact h2, fun j hj k hk => ?_⟩
          by_cases e : j < ks.length
          · rw [List.getElem_append_left e] at hk
            exact h3 j e k hk
          · have : j = ks.length := by simp at hj; omega
            subst this
            simp at hk
            omega

theorem runP_succ (n : Nat) (ps : List (S24 × Int)) : runP (n + 1) ps = stepP (runP n ps) := by
  induction n generalizing ps with
  | zero => rfl
  | succ n ih => exact ih (stepP ps)

/-- The pairs are the curves, each at a number of its domain, together at m. -/
structure OkP (cs : List S24) (ps : List (S24 × Int)) (m : Int) : Prop where
  fst : ps.map (·.1) = cs
  dom : ∀ p ∈ ps, p.1.f0 ≤ p.2 ∧ p.2 ≤ toP p.1
  sum : (ps.map (·.2)).sum = m
theorem OkP.start (cs : List S24) : OkP cs (startP cs) (leastP cs) := by
  refine ⟨by simp [startP, List.map_map, Function.comp_def], fun p hp => ?_, by simp [startP, leastP, List.map_map, Function.comp_def]⟩
  obtain ⟨c, _, rfl⟩ := List.mem_map.1 hp
  simp only [toP]
  omega
theorem sum_to (ps : List (S24 × Int)) (hd : ∀ p ∈ ps, p.1.f0 ≤ p.2 ∧ p.2 ≤ toP p.1) (hn : ∀ p ∈ ps, keyP p = none) : (ps.map (·.2)).sum = mostP (ps.map (·.1)) := by
  induction ps with
  | nil => simp [mostP]
  | cons p ps ih =>
    have h1 := ih (fun q hq => hd q (List.mem_cons_of_mem _ hq)) (fun q hq => hn q (List.mem_cons_of_mem _ hq))
    have h2 := hd p List.mem_cons_self
    have h3 := hn p List.mem_cons_self
    unfold keyP nextK at h3
    by_cases c : p.2 - p.1.f0 < (p.1.f2.length : Int)
    · rw [if_pos c] at h3; cases h3
    · simp only [mostP, List.map_cons, List.sum_cons, List.map_map] at h1 ⊢
      rw [h1]
      unfold toP at *
      omega
theorem sum_modify (ps : List (S24 × Int)) (i : Nat) (hi : i < ps.length) : ((ps.modify i bump).map (·.2)).sum = (ps.map (·.2)).sum + 1 := by
  induction ps generalizing i with
  | nil => simp at hi
  | cons p ps ih =>
    cases i with
    | zero => simp [bump]; omega
    | succ i =>
      simp only [List.modify_succ_cons, List.map_cons, List.sum_cons]
      rw [ih i (by simpa using hi)]
      omega
theorem fst_modify (ps : List (S24 × Int)) (i : Nat) : (ps.modify i bump).map (·.1) = ps.map (·.1) := by
  apply List.ext_getElem (by simp)
  intro j h1 h2
  simp only [List.getElem_map, List.getElem_modify]
  split <;> rfl
theorem OkP.best {cs : List S24} {ps : List (S24 × Int)} {m : Int} (h : OkP cs ps m) (hm : m < mostP cs) :
    ∃ i : Nat, ∃ hi : i < ps.length, bestP ps = (i : Int) ∧ ps[i].2 < toP ps[i].1 := by
  rcases bestS_spec (ps.map keyP) with ⟨h1, h2⟩ | ⟨i, hi, h1, h2, h3⟩
  · exfalso
    have := sum_to ps h.dom (fun p hp => h2 _ (List.mem_map_of_mem hp))
    rw [h.sum, h.fst] at this
    omega
  · have hi' : i < ps.length := by simpa using hi
    refine ⟨i, hi', h1, ?_⟩
    rw [List.getElem_map] at h2
    unfold keyP nextK at h2
    by_cases c : ps[i].2 - ps[i].1.f0 < (ps[i].1.f2.length : Int)
    · unfold toP; omega
    · rw [if_neg c] at h2; cases h2
theorem OkP.step {cs : List S24} {ps : List (S24 × Int)} {m : Int} (h : OkP cs ps m) (hm : m < mostP cs) : OkP cs (stepP ps) (m + 1) := by
  obtain ⟨i, hi, h1, h2⟩ := h.best hm
  unfold stepP
  rw [h1, Int.toNat_natCast]
  refine ⟨(fst_modify ps i).trans h.fst, fun p hp => ?_, by rw [sum_modify ps i hi, h.sum]⟩
  obtain ⟨j, hj, rfl⟩ := List.getElem_of_mem hp
  have hj' : j < ps.length := by simpa using hj
  have h3 := h.dom _ (List.getElem_mem hj')
  rw [List.getElem_modify]
  by_cases e : i = j
  · subst e
    rw [if_pos rfl]
    simp only [bump]
    omega
  · rw [if_neg e]
    exact h3
theorem OkP.run {cs : List S24} (n : Nat) (hn : leastP cs + (n : Int) ≤ mostP cs) : OkP cs (runP n (startP cs)) (leastP cs + n) := by
  induction n with
  | zero => simpa [runP] using OkP.start cs
  | succ n ih =>
    rw [runP_succ]
    have := (ih (by omega)).step (by omega)
    rw [show leastP cs + ((n + 1 : Nat) : Int) = leastP cs + (n : Int) + 1 from by omega]
    exact this
end Go.Proofs.Ytfeeaipbmpmpgaa.PX

namespace Go.Proofs.Ytfeeaipbmpmpgaa.PX
open Go.RowKit Go.Proofs.YtfeeaipbmpmpgaaW.PrintWords Go.Proofs.YtfeeaipbmpmpgaaW.PrintLast Go.Proofs.YtfeeaipbmpmpgaaW.PrintMore
set_option linter.unusedVariables false
set_option linter.unusedSimpArgs false

def loI (a : Int) (l : List Int) (x : Int) : Int := if 0 < x - a then rd l (x - a - 1) else -1048576
def hiI (a : Int) (l : List Int) (x : Int) : Int := if x - a < (l.length : Int) then rd l (x - a) else 1048576
theorem prices_some (a b : Int) (l : List Int) (x : Int) (h0 : 0 ≤ x - a) (h1 : x - a ≤ (l.length : Int)) (h2 : l.length ≤ 64) : curve_prices.f 1 a b l x = some (loI a l x, hiI a l x) := by
  have hw : wrap64 (x - a) = x - a := w64 (by omega) (by omega)
  have hw1 : 0 < x - a → wrap64 (x - a - 1) = x - a - 1 := fun _ => w64 (by omega) (by omega)
  have hj : ∀ lo : Int, curve_prices.j0 1 x lo 1048576 a b l = some (lo, hiI a l x) := fun lo => by
    simp only [curve_prices.j0, hw]
    unfold hiI
    by_cases c : x - a < (l.length : Int)
    · rw [if_pos c, if_pos c]
      simp [h0, c]
      omega
    · rw [if_neg c, if_neg c]
  unfold curve_prices.f loI
  rw [hw]
  by_cases c : x - a > 0
  · rw [if_pos c, if_pos c, hw1 c, if_pos (by omega), if_pos (by omega), hj]
  · rw [if_neg c, if_neg c, hj]
theorem prices_calls (a b : Int) (A : Option Addr) (c : Nat) (l : List Int) (x : Int) (w : World) (hr : Kd.C (Kd.int .i64) w A l.length l) (hc : l.length ≤ c) (h0 : 0 ≤ x - a) (h1 : x - a ≤ (l.length : Int)) (h2 : l.length ≤ 64) :
    Calls Try.prog 62 #[.agg #[.int .i64 a, .int .i64 b, .slice A l.length c], .int .i64 x] w fun e w' => e = .returned (.tuple #[.int .i64 (loI a l x), .int .i64 (hiI a l x)]) ∧ Below w.heap.size w w' :=
  curve_prices.calls 1 a b A c l x _ _ w hr hc (prices_some a b l x h0 h1 h2)
theorem at_calls (a b : Int) (A : Option Addr) (c : Nat) (l : List Int) (x : Int) (w : World) (hr : Kd.C (Kd.int .i64) w A l.length l) (hc : l.length ≤ c) (h0 : 0 ≤ x - a) (h1 : x - a ≤ (l.length : Int)) (h2 : l.length ≤ 64) :
    Calls Try.prog 61 #[.agg #[.int .i64 a, .int .i64 b, .slice A l.length c], .int .i64 x] w fun e w' => e = .returned (.int .i64 (addup b (l.take (x - a).toNat))) ∧ Below w.heap.size w w' :=
  curve_at.calls a b A c l x _ w hr hc (by unfold curve_at.f; rw [w64 (x := x - a) (by omega) (by omega), if_pos h0, if_pos h1])
theorem ShRow.grown {w wr w1 : World} {v : Value} {L : List Sh} (h : ShRow w wr v L) {u : Value} {xs : List Int} {ok : Nat → Prop} (hu : Kd.R (Kd.int .i64) 3 wr w.heap.size ok u xs) (hg : wr.grownBy w1 u.ownBlock) (hB : Below w.heap.size w w1) : ShRow w w1 v L := by
  obtain ⟨inner, ho⟩ := Kd.R_own hu
  refine ⟨?_, fun s hs => ?_, h.new, h.reads, h.nodup, hB⟩
  · cases hk : u.ownBlock with
    | none => exact Kd.R_grown h.row hg (fun k _ => by rw [hk]; simp)
    | some g =>
      obtain ⟨cells, hc⟩ := own_typed ho g hk
      refine Kd.R_mono (Kd.R_grown (Kd.R_types h.row hc (by decide)) hg (fun k hk2 => ?_)) (fun _ _ => trivial)
      rw [hk]
      simpa using hk2.2
  · have h1 := h.blk s hs
    refine (hg.block s.g (blk_lt h1) ?_).trans h1
    exact Kd.R_ne hu h1 (by decide)
end Go.Proofs.Ytfeeaipbmpmpgaa.PX

namespace Go.Proofs.Ytfeeaipbmpmpgaa.PX
open Go.RowKit Go.Proofs.YtfeeaipbmpmpgaaW.PrintWords Go.Proofs.YtfeeaipbmpmpgaaW.PrintLast Go.Proofs.YtfeeaipbmpmpgaaW.PrintMore
attribute [local go_sem] max2_int min2_int max_two min_two max_three min_three max_four min_four
set_option linter.unusedVariables false
set_option linter.unusedSimpArgs false

def splitPs (cs : List S24) (total : Int) : List (S24 × Int) := runP (total - leastP cs).toNat (startP cs)
def SplitPost (w : World) (cs : List S24) (total : Int) (e : Ending) (w' : World) : Prop :=
  (total < leastP cs ∨ mostP cs < total → SplitErr w 10 e w') ∧
  (leastP cs ≤ total → total ≤ mostP cs → SplitTold w ((splitPs cs total).map (·.2), sumP (splitPs cs total), priceP (splitPs cs total)) e w')
theorem least_bound (cs : List S24) (hv : ∀ c ∈ cs, valB c.f0 c.f1 c.f2 = true) : -1048576 * (cs.length : Int) ≤ leastP cs ∧ leastP cs ≤ 1048576 * (cs.length : Int) ∧ leastP cs ≤ mostP cs ∧ mostP cs ≤ leastP cs + 64 * (cs.length : Int) := by
  induction cs with
  | nil => simp [leastP, mostP]
  | cons c cs ih =>
    have h1 := ih (fun x hx => hv x (List.mem_cons_of_mem _ hx))
    have h2 := val_from (hv c List.mem_cons_self)
    simp only [leastP, mostP, List.map_cons, List.sum_cons, List.length_cons, toP] at h1 ⊢
    omega

theorem R_lit0 (w wr : World) (h : w.heap.size ≤ wr.heap.size) : Kd.R (Kd.int .i64) 3 (wr.alloc (.cells #[] 3)) w.heap.size (fun _ => True) (.slice (some ⟨wr.heap.size, 0, none⟩) 0 0) ([] : List Int) :=
  Kd.R_of_own ⟨rfl, .inr ⟨wr.heap.size, 0, #[], rfl, h, blk_new _ _, by simp, by unfold maxLen; omega, rfl, rfl⟩⟩ (fun _ _ => trivial)
theorem keys_eq (L : List Sh) : (bestS (L.map Sh.key)).1 = bestP (L.map Sh.p) := by
  unfold bestP
  rw [List.map_map]
  rfl
theorem turn_p (L : List Sh) (i : Nat) (hi : i < L.length) : (L.modify i fun s => { s with x := L[i].x + 1 }).map Sh.p = (L.map Sh.p).modify i bump := by
  apply List.ext_getElem (by simp)
  intro j h1 h2
  simp only [List.getElem_map, List.getElem_modify]
  by_cases e : i = j
  · subst e
    rw [if_pos rfl, if_pos rfl]
    rfl
  · rw [if_neg e, if_neg e]
theorem fits_of {cs : List S24} {L : List Sh} {m : Int} (hv : ∀ c ∈ cs, valB c.f0 c.f1 c.f2 = true) (h : OkP cs (L.map Sh.p) m) (s : Sh) (hs : s ∈ L) : s.fits := by
  have h1 := h.dom s.p (List.mem_map_of_mem hs)
  have h2 : s.p.1 ∈ cs := by rw [← h.fst]; exact List.mem_map_of_mem (List.mem_map_of_mem hs)
  have h3 := val_from (hv _ h2)
  simp only [Sh.p, toP] at h1 h3
  unfold Sh.fits
  omega

set_option maxHeartbeats 8000000 in
set_option maxRecDepth 100000 in
theorem split_walk (A : Option Addr) (c : Nat) (cs : List S24) (total : Int) (w : World) (hr : Kd.C k24 w A cs.length cs) (hc : cs.length ≤ c) (hn : cs.length ≤ 8) (h0 : 0 < cs.length) (hv : ∀ c ∈ cs, valB c.f0 c.f1 c.f2 = true) (hany : cs.any notVal = false) :
    Calls Try.prog 19 #[.slice A cs.length c, .int .i64 total] w (SplitPost w cs total) := by
  have hn' : decide (8 < cs.length) = false := decide_eq_false (by omega)
  have h0' : (cs.length == 0) = false := beq_eq_false_iff_ne.2 (by omega)
  have h0'' : ((cs.length : Int) == 0) = false := beq_eq_false_iff_ne.2 (by omega)
  have hn'' : decide ((8 : Int) < (cs.length : Int)) = false := decide_eq_false (by omega)
  have h1 : ¬ (cs = []) := fun e => by simp [e] at h0
  have HC := containsFuncC_calls A c cs w hr hc
  rw [hany] at HC
  have HA := Aside0.mk HC
  have HR := Aside0.mk hr
  have HV := Aside0.mk hv
  have hu24 := Try.underlying24
  have hu69 := Try.underlying69
  clear HC hv hr hc hany
  go_enter Try.func19, Try.ntmps19
  go_wp2_with (go_at_call 56; (with_reducible refine (HA.out).mono ?_); rintro e w' ⟨rfl, hb⟩; have HB := Aside0.mk hb; clear hb)
  go_loopw [8, 9, 10, 32] (fun v l m i wr => ∃ (k : Nat) (L : List Sh), k ≤ cs.length ∧ i = .int .i64 (k : Int) ∧ l = .int .i64 (leastP (cs.take k)) ∧ m = .int .i64 (mostP (cs.take k)) ∧ Aside0 (L.map Sh.p = startP (cs.take k)) ∧ Aside0 (ShRow w wr v L)) (fun _ _ _ i _ => cs.length - (intOf i).toNat)
  case atStart => exact ⟨0, [], by omega, rfl, rfl, rfl, ⟨rfl⟩, ⟨(ShRow.nil w).move HB.out⟩⟩
  case round =>
    clear HB
    obtain ⟨k, L, hk, rfl, rfl, rfl, HP, HS⟩ := hrel
    by_cases hlt : k < cs.length
    · obtain ⟨ad, A1, c1, rfl, e0, e1, e2, hl1, hr1⟩ := at_T24 HR.out (k : Int) (by omega) (by omega)
      rw [Int.toNat_natCast] at e0 e1 e2
      have e0' := (HS.out.below.cell (World.block_lt_of_cell? w _ e0)).trans e0
      have e1' := (HS.out.below.cell (World.block_lt_of_cell? w _ e1)).trans e1
      have e2' := (HS.out.below.cell (World.block_lt_of_cell? w _ e2)).trans e2
      have hP1 := startP_take_succ cs k hlt
      have hL1 := leastP_take_succ cs k hlt
      have hM1 := mostP_take_succ cs k hlt
      have hb1 := least_bound (cs.take k) (fun x hx => HV.out x (List.mem_of_mem_take hx))
      have hlk : (cs.take k).length = k := by simp; omega
      rw [hlk] at hb1
      have hvs := val_from (HV.out cs[k] (List.getElem_mem hlt))
      rw [rd_T24_getElem cs k hlt] at e0' e1' e2' hr1 hl1
      clear hlk e0 e1 e2
      obtain ⟨b1, b2, b3, b4⟩ := hb1
      obtain ⟨v1, v2, v3, v4, v5⟩ := hvs
      have HP1 := Aside0.mk hP1
      have HL1 := Aside0.mk hL1
      have HM1 := Aside0.mk hM1
      have HC1 := Aside0.mk (And.intro hr1 hl1)
      clear hP1 hL1 hM1 hr1 hl1
      generalize cs[k] = s0 at *
      generalize leastP (cs.take k) = lk at *
      generalize mostP (cs.take k) = mk at *
      obtain ⟨sa, sb, sl⟩ := s0
      simp only at e0' e1' e2' v1 v2 v3 v4 v5
      have hT := fun w1 h1 => curve_to.calls sa sb A1 c1 sl (sa + (sl.length : Int)) w1 h1 HC1.out.2 (by unfold curve_to.f; rw [w64 (by omega) (by omega)])
      have HT := Aside0.mk hT
      have hLn : L.length ≤ 8 := by
        have := congrArg List.length HP.out
        simp [startP] at this
        omega
      have HLn := Aside0.mk hLn
      clear hT hLn
      go_wp2_with (first | ((with_reducible refine gate_dst (N := 12) rfl ?_); refine box_event ?hg (N := 12) ?hd (cs := #[.int .i64 0, .int .i64 0, .slice none 0 0]) (t := 24) ?hr ?_; (case hd => rfl); (case hg => rfl); (case hr => first | (go_simp; done) | (go_simp; rfl)); intro g12 hg w1 hbox hb; have BK1 := Aside0.mk hbox; have HB1 := Aside0.mk hb; have GE1 := Aside0.mk (Nat.le_of_eq hg.symm); clear hbox hb hg; have hz0 : w1.cell? ⟨g12, 0, none⟩ = some (.int .i64 0) := (blk_cell BK1.out 0).trans rfl; have hz1 : w1.cell? ⟨g12, 1, none⟩ = some (.int .i64 0) := (blk_cell BK1.out 1).trans rfl; have hz2 : w1.cell? ⟨g12, 2, none⟩ = some (.slice none 0 0) := (blk_cell BK1.out 2).trans rfl; have hf0 := blk_frozen BK1.out 0; have hf1 := blk_frozen BK1.out 1; have hf2 := blk_frozen BK1.out 2) | ((with_reducible refine gate_dst (N := 41) rfl ?_); refine box_event ?hg (N := 41) ?hd (cs := #[.int .i64 sa, .int .i64 sb, .slice A1 sl.length c1, .int .i64 sa]) (t := 69) ?hr ?_; (case hd => rfl); (case hg => rfl); (case hr => first | (go_simp; done) | (go_simp; rfl)); intro g41 hg w2 hbox hb; have HW := Aside0.mk (below_set (j := 2) (v := .slice A1 sl.length c1) (below_set (j := 1) (v := .int .i64 sb) (below_set (j := 0) (v := .int .i64 sa) HB1.out GE1.out) GE1.out) GE1.out); have BK12 := Aside0.mk (blk_below (blk_put (cs' := #[.int .i64 sa, .int .i64 sb, .slice A1 sl.length c1]) (blk_put (cs' := #[.int .i64 sa, .int .i64 sb, .slice none 0 0]) (blk_put (cs' := #[.int .i64 sa, .int .i64 0, .slice none 0 0]) BK1.out 0 _ rfl) 1 _ rfl) 2 _ rfl) hb); have BK41 := Aside0.mk hbox; have GE41 := Aside0.mk (Nat.le_trans HW.out.size (Nat.le_of_eq hg.symm)); have HB2 := Aside0.mk (below_then HW.out HW.out.size hb); clear hbox hb hg hz0 hz1 hz2 hf0 hf1 hf2) | ((with_reducible refine gate_builtin (b := .append) rfl ?_); have HM := Aside0.mk (HS.out.move HB2.out); refine Kd.R_append ptrK (w0 := w) w.heap.size rfl (.tmp 36) (.tmp 42) 66 67 (.pointer none) 8 rfl Try.underlying66 info67 rfl (by decide) (by decide) _ (L.map Sh.g) g41 [.pointer (some ⟨g41, 0, none⟩)] (fun _ => True) (fun _ => False) rfl rfl rfl (fun _ hk => hk.elim) (fun _ _ => trivial) HM.out.row HM.out.below HM.out.below.size (by have := HLn.out; rw [List.length_map]; omega) ?_; intro v1 w3 hr hb hg _; have HS3 := Aside0.mk (HM.out.add (s := ⟨g41, sa, sb, sl, A1, c1, sa⟩) BK41.out (Nat.le_trans HS.out.below.size GE41.out) HC1.out (fun hmem => by obtain ⟨s, hs, he⟩ := List.mem_map.1 hmem; have h1 := blk_lt (HS.out.blk s hs); have h2 := GE41.out; simp only at he; omega) hr hb hg); have BK3 := Aside0.mk ((hg.block g12 (blk_lt BK12.out) (Kd.R_ne HM.out.row BK12.out (by decide))).trans BK12.out); clear hr hb hg; have hz0 : w3.cell? ⟨g12, 0, none⟩ = some (.int .i64 sa) := (blk_cell BK3.out 0).trans rfl; have hz1 : w3.cell? ⟨g12, 1, none⟩ = some (.int .i64 sb) := (blk_cell BK3.out 1).trans rfl; have hz2 : w3.cell? ⟨g12, 2, none⟩ = some (.slice A1 sl.length c1) := (blk_cell BK3.out 2).trans rfl) | (go_at_call 58; (with_reducible refine (HT.out _ (Kd.C_below HC1.out.1 HS3.out.below)).mono ?_); rintro e w4 ⟨rfl, hb⟩; have HB4 := Aside0.mk hb; clear hb))
      go_roundw
      case rel => exact ⟨k + 1, L ++ [⟨g41, sa, sb, sl, A1, c1, sa⟩], by omega, by go_num, by rw [HL1.out], by rw [HM1.out]; rfl, ⟨by rw [List.map_append, HP.out, HP1.out]; rfl⟩, ⟨HS3.out.move HB4.out⟩⟩
      case measure => simp [intOf]; omega
    · obtain rfl : k = cs.length := by omega
      rw [List.take_length] at *
      obtain ⟨Av, cv, rfl, hcv, _⟩ := Kd.R_reads HS.out.row
      have hb := least_bound cs HV.out
      obtain ⟨b1, b2, b3, b4⟩ := hb
      have hLl : (L.map Sh.g).length = cs.length := by
        have := congrArg List.length HP.out
        simpa [startP] using this
      rw [hLl] at hcv
      rw [hLl] at HS
      rw [hLl]
      clear hLl
      generalize hlk : leastP cs = lk at *
      generalize hmk : mostP cs = mk at *
      have HLK := Aside0.mk hlk
      have HMK := Aside0.mk hmk
      clear hlk hmk
      by_cases ht1 : total < lk
      · have ht1' : decide (total < lk) = true := decide_eq_true ht1
        have HT := Aside0.mk ht1
        clear ht1
        go_wp2
        refine bodyPost_ret (v := .tuple #[.slice none 0 0, .int .i64 0, .int .i64 0, .int .i64 10]) (by simp [results, Try.results19, go_sem]) rfl ⟨fun _ => ⟨rfl, HS.out.below⟩, fun h => ?_⟩
        exact absurd h (by rw [HLK.out]; have := HT.out; omega)
      · have ht1' : decide (total < lk) = false := decide_eq_false ht1
        by_cases ht2 : mk < total
        · have ht2' : decide (mk < total) = true := decide_eq_true ht2
          have HT := Aside0.mk ht2
          clear ht1 ht2
          go_wp2
          refine bodyPost_ret (v := .tuple #[.slice none 0 0, .int .i64 0, .int .i64 0, .int .i64 10]) (by simp [results, Try.results19, go_sem]) rfl ⟨fun _ => ⟨rfl, HS.out.below⟩, fun _ h => ?_⟩
          exact absurd h (by rw [HMK.out]; have := HT.out; omega)
        · have ht2' : decide (mk < total) = false := decide_eq_false ht2
          have HT := Aside0.mk (And.intro (show lk ≤ total from by omega) (show total ≤ mk from by omega))
          have htb : -9000000 ≤ total := by omega
          have htc : total ≤ 9000000 := by omega
          clear ht1 ht2
          have HL0 := Aside0.mk HP.out
          clear HP
          go_wp2
          go_loopw [9] (fun l wr => ∃ (n : Nat) (L : List Sh), l = .int .i64 (lk + (n : Int)) ∧ lk + (n : Int) ≤ total ∧ Aside0 (L.map Sh.p = runP n (startP cs)) ∧ Aside0 (ShRow w wr (.slice Av cs.length cv) L)) (fun l _ => (total - intOf l).toNat)
          case atStart => exact ⟨0, L, by simp, by have := HT.out.1; simp; omega, ⟨HL0.out⟩, HS⟩
          case round =>
            clear HS HL0
            obtain ⟨n, L, rfl, hnt, HP, HS⟩ := hrel
            have hok := OkP.run (cs := cs) n (by rw [HLK.out, HMK.out]; have := HT.out.2; omega)
            rw [← HP.out, HLK.out] at hok
            have hLl : L.length = cs.length := by
              have := congrArg List.length hok.fst
              simpa using this
            have HOK := Aside0.mk hok
            clear hok
            by_cases hlt : lk + (n : Int) < total
            · obtain ⟨i, hi, hb1, hb2⟩ := HOK.out.best (by rw [HMK.out]; have := HT.out.2; omega)
              have hi' : i < L.length := by simpa using hi
              have hmem : L[i] ∈ L := List.getElem_mem hi'
              have hfit := fits_of HV.out HOK.out L[i] hmem
              obtain ⟨Aq, cq, eq, _, hC⟩ := Kd.R_reads HS.out.row
              injection eq with ea en ec
              subst ea ec
              rw [List.length_map] at hC
              have hBC := best_calls Av cv L _ hC (by omega) (by omega) (fun s hs => ⟨HS.out.lies s hs, fits_of HV.out HOK.out s hs⟩)
              obtain ⟨ad, rfl, hx⟩ := at_ptr hC i hi'
              rw [keys_eq, hb1, hLl] at hBC
              rw [show (L.map Sh.g).getD i 0 = L[i].g from by simp [List.getD_eq_getElem?_getD, hi']] at hx
              have hblk := HS.out.blk _ hmem
              have hc3 := (blk_cell hblk 3).trans rfl
              have hf3 := blk_frozen hblk 3
              have HTURN := Aside0.mk (fun m => (HS.out.move (pw_below_drewN (Below.refl _ _) m)).turn i hi' (L[i].x + 1))
              have HTP := Aside0.mk (turn_p L i hi')
              have HB1 := Aside0.mk hb1
              have HBC := Aside0.mk hBC
              have hil : i < cs.length := by omega
              have hxb : -9000000 ≤ L[i].x ∧ L[i].x ≤ 9000000 := by unfold Sh.fits at hfit; omega
              obtain ⟨x1, x2⟩ := hxb
              clear hBC hb1 hb2 hC en hblk hmem hfit
              generalize L[i] = s at *
              obtain ⟨sg, sa, sb, sl, sA, sc, sx⟩ := s
              simp only at hx hc3 hf3 x1 x2
              go_wp2_with (go_at_call 59; (with_reducible refine (HBC.out).mono ?_); rintro e w4 ⟨rfl, ⟨nd, rfl⟩⟩)
              go_roundw
              case rel => exact ⟨n + 1, _, congrArg (Value.int .i64) (by omega), by omega, ⟨by rw [HTP.out, runP_succ, ← HP.out]; unfold stepP; rw [HB1.out, Int.toNat_natCast]⟩, ⟨HTURN.out nd⟩⟩
              case measure => simp [intOf]; omega
            · have hps : L.map Sh.p = splitPs cs total := by
                unfold splitPs
                rw [HP.out, HLK.out]
                congr 1
                omega
              have HPS := Aside0.mk hps
              clear hps
              have HOP : ∀ s ∈ L, s.fits := fun s hs => fits_of HV.out HOK.out s hs
              have HF := Aside0.mk HOP
              clear HOP HOK HP HV
              go_wp2
              go_loopw [13, 14, 15, 80] (fun v s p i wr => ∃ (k : Nat) (S P : Int), k ≤ cs.length ∧ i = .int .i64 (k : Int) ∧ s = .int .i64 S ∧ p = .int .i64 P ∧ Aside0 (S = sumP ((L.map Sh.p).take k)) ∧ Aside0 (P = priceP ((L.map Sh.p).take k)) ∧ Aside0 (Kd.R (Kd.int .i64) 3 wr w.heap.size (fun _ => True) v (((L.map Sh.p).take k).map (·.2))) ∧ Aside0 (ShRow w wr (.slice Av cs.length cv) L)) (fun _ _ _ i _ => cs.length - (intOf i).toNat)
              case atStart => exact ⟨0, 0, -1048576, by omega, rfl, rfl, rfl, ⟨rfl⟩, ⟨rfl⟩, ⟨R_lit0 _ _ HS.out.below.size⟩, ⟨HS.out.move (below_alloc (Below.refl _ _) _)⟩⟩
              case round =>
                clear HS
                obtain ⟨k, S, P, hk, rfl, rfl, rfl, HSu, HPr, HX, HS⟩ := hrel
                by_cases hlt2 : k < cs.length
                · have hkl : k < L.length := by omega
                  have hmem : L[k] ∈ L := List.getElem_mem hkl
                  have hfit := HF.out _ hmem
                  obtain ⟨Aq, cq, eq, _, hC⟩ := Kd.R_reads HS.out.row
                  injection eq with ea en ec
                  subst ea ec
                  rw [List.length_map] at hC
                  obtain ⟨ad, rfl, hx⟩ := at_ptr hC k hkl
                  rw [show (L.map Sh.g).getD k 0 = L[k].g from by simp [List.getD_eq_getElem?_getD, hkl]] at hx
                  have hrd := HS.out.reads _ hmem
                  have htk : (L.map Sh.p).take (k + 1) = (L.map Sh.p).take k ++ [L[k].p] := by
                    rw [List.take_succ_eq_append_getElem (by simpa using hkl)]
                    simp
                  have hsu : sumP ((L.map Sh.p).take (k + 1)) = wrap64 (S + valP L[k].p) := by rw [htk, HSu.out]; unfold sumP; rw [List.foldl_append]; rfl
                  have hpr : priceP ((L.map Sh.p).take (k + 1)) = mx P (loP L[k].p) := by rw [htk, HPr.out]; unfold priceP; rw [List.foldl_append]; rfl
                  have hxs : ((L.map Sh.p).take (k + 1)).map (·.2) = ((L.map Sh.p).take k).map (·.2) ++ [L[k].x] := by rw [htk, List.map_append]; rfl
                  have HSU := Aside0.mk hsu
                  have HPR := Aside0.mk hpr
                  have HXS := Aside0.mk hxs
                  have HAT := Aside0.mk (fun (w1 : World) (q1 : Kd.C (Kd.int .i64) w1 L[k].A L[k].l.length L[k].l) => at_calls L[k].a L[k].b L[k].A L[k].c L[k].l L[k].x w1 q1 hrd.2 hfit.1 hfit.2.1 hfit.2.2.1)
                  have HPC := Aside0.mk (fun (w1 : World) (q1 : Kd.C (Kd.int .i64) w1 L[k].A L[k].l.length L[k].l) => prices_calls L[k].a L[k].b L[k].A L[k].c L[k].l L[k].x w1 q1 hrd.2 hfit.1 hfit.2.1 hfit.2.2.1)
                  have HRD := Aside0.mk hrd.1
                  have HLn := Aside0.mk (show (((L.map Sh.p).take k).map (·.2)).length ≤ 8 from by simp; omega)
                  have HBK := Aside0.mk (fun (W : World) (h : ShRow w W (.slice (some ad) cs.length cv) L) => h.blk _ hmem)
                  have hb0 := HBK.out _ HS.out
                  have hc0 := (blk_cell hb0 0).trans rfl
                  have hc1 := (blk_cell hb0 1).trans rfl
                  have hc2 := (blk_cell hb0 2).trans rfl
                  have hc3 := (blk_cell hb0 3).trans rfl
                  clear htk hsu hpr hxs hrd hfit hb0 hC en hmem
                  generalize L[k] = s at *
                  obtain ⟨sg, sa, sb, sl, sA, sc, sx⟩ := s
                  simp only at hx hc0 hc1 hc2 hc3
                  generalize ((L.map Sh.p).take k).map (·.2) = xs at *
                  go_wp2_with ((with_reducible refine gate_builtin (b := .append) rfl ?_); refine Kd.R_append (Kd.int .i64) (w0 := w) w.heap.size rfl (.tmp 84) (.tmp 89) 22 3 (.int .i64 0) 8 rfl Try.underlying22 info3 rfl (by decide) (by decide) _ xs sx [.int .i64 sx] (fun _ => True) (fun _ => False) rfl rfl rfl (fun _ hk => hk.elim) (fun _ _ => trivial) HX.out HS.out.below HS.out.below.size (by have := HLn.out; omega) ?_; intro v1 w2 hr hb hg _; have HX2 := Aside0.mk hr; have HS2 := Aside0.mk (HS.out.grown HX.out hg hb); clear hr hb hg hc0 hc1 hc2 hc3; have hb0 := HBK.out _ HS2.out; have hc0 := (blk_cell hb0 0).trans rfl; have hc1 := (blk_cell hb0 1).trans rfl; have hc2 := (blk_cell hb0 2).trans rfl; have hc3 := (blk_cell hb0 3).trans rfl; clear hb0; simp only at hc0 hc1 hc2 hc3)
                  have HS2d := Aside0.mk (HS2.out.move (below_drew (Below.refl _ w2)))
                  go_region_held3 (fun W => W.cell? ⟨sg, 0, none⟩ = some (.int .i64 sa) ∧ W.cell? ⟨sg, 1, none⟩ = some (.int .i64 sb) ∧ W.cell? ⟨sg, 2, none⟩ = some (.slice sA sl.length sc) ∧ W.cell? ⟨sg, 3, none⟩ = some (.int .i64 sx)) (first | exact ⟨hc0, hc1, hc2, hc3⟩ | exact ⟨(HB3.out.cell (World.block_lt_of_cell? _ _ hc0)).trans hc0, (HB3.out.cell (World.block_lt_of_cell? _ _ hc1)).trans hc1, (HB3.out.cell (World.block_lt_of_cell? _ _ hc2)).trans hc2, (HB3.out.cell (World.block_lt_of_cell? _ _ hc3)).trans hc3⟩) (first | (go_at_call 61; (with_reducible refine (HAT.out _ ?_).mono ?_); (exact Kd.C_below HRD.out HS2d.out.below); rintro e w3 ⟨rfl, hb⟩; have HB3 := Aside0.mk hb; clear hb))
                  have HS3 := Aside0.mk (HS2d.out.move HB3.out)
                  have HX3 := Aside0.mk (Kd.R_below (Kd.R_drew HX2.out) HB3.out)
                  have hb0 := HBK.out _ HS3.out
                  have hd0 := (blk_cell hb0 0).trans rfl
                  have hd1 := (blk_cell hb0 1).trans rfl
                  have hd2 := (blk_cell hb0 2).trans rfl
                  have hd3 := (blk_cell hb0 3).trans rfl
                  clear hb0 hc0 hc1 hc2 hc3
                  simp only at hd0 hd1 hd2 hd3
                  simp only [i64_w]
                  rw [show addup sb (List.take (sx - sa).toNat sl) = valP (⟨sa, sb, sl⟩, sx) from rfl]
                  go_wp2
                  have HS3d := Aside0.mk (HS3.out.move (below_drew (Below.refl _ w3)))
                  go_region_held3 (fun W => W.cell? ⟨sg, 0, none⟩ = some (.int .i64 sa) ∧ W.cell? ⟨sg, 1, none⟩ = some (.int .i64 sb) ∧ W.cell? ⟨sg, 2, none⟩ = some (.slice sA sl.length sc) ∧ W.cell? ⟨sg, 3, none⟩ = some (.int .i64 sx)) (first | exact ⟨hd0, hd1, hd2, hd3⟩ | exact ⟨(HB4.out.cell (World.block_lt_of_cell? _ _ hd0)).trans hd0, (HB4.out.cell (World.block_lt_of_cell? _ _ hd1)).trans hd1, (HB4.out.cell (World.block_lt_of_cell? _ _ hd2)).trans hd2, (HB4.out.cell (World.block_lt_of_cell? _ _ hd3)).trans hd3⟩) (first | (go_at_call 62; (with_reducible refine (HPC.out _ ?_).mono ?_); (exact Kd.C_below HRD.out HS3d.out.below); rintro e w4 ⟨rfl, hb⟩; have HB4 := Aside0.mk hb; clear hb))
                  go_wp2
                  go_roundw
                  case rel => exact ⟨k + 1, _, _, by omega, by go_num, rfl, rfl, ⟨HSU.out.symm⟩, ⟨HPR.out.symm⟩, ⟨by rw [HXS.out]; exact Kd.R_below (Kd.R_drew HX3.out) HB4.out⟩, ⟨HS3d.out.move HB4.out⟩⟩
                  case measure => simp [intOf]; omega
                · obtain rfl : k = cs.length := by omega
                  have htk : (L.map Sh.p).take cs.length = L.map Sh.p := List.take_of_length_le (by simp; omega)
                  rw [htk, HPS.out] at HSu HPr HX
                  clear htk
                  obtain ⟨Ax, cx, rfl, _, _⟩ := Kd.R_reads HX.out
                  go_wp2
                  refine bodyPost_ret (v := .tuple #[.slice Ax ((splitPs cs total).map (·.2)).length cx, .int .i64 S, .int .i64 P, .int .i64 0]) (by simp [results, Try.results19, go_sem]) rfl ⟨fun h => ?_, fun _ _ => ⟨_, by rw [HSu.out, HPr.out], HX.out, HS.out.below⟩⟩
                  exfalso
                  rw [HLK.out, HMK.out] at h
                  have := HT.out
                  omega
end Go.Proofs.Ytfeeaipbmpmpgaa.PX
