/- The minimum sum of two curves equals the negative sum of their conjugates at the price of Meet, and weak duality holds at every other price: what CurveFenchel computes is true for every two curves, price and number. No condition beyond what the row itself says. -/
import Derived.Lib.SmallJoins
import Derived.Deep.Slices
import Derived.Deep.Fields
import Derived.ChangeSame
import Derived.WalkKit
import Derived.ProofKit
import Derived.OpenShut
import Derived.ChangeOld
import Derived.Below
import Derived.ShutString
import Derived.SizedLaws
import Derived.Test.YtfeeaipbmpmpgaaBFenchel1
import Derived.Test.YtfeeaipbmpmpgaaBFenchel2
import Derived.Test.YtfeeaipbmpmpgaaBFenchel3
import Derived.Test.YtfeeaipbmpmpgaaRows
namespace Go.Proofs.Ytfeeaipbmpmpgaa.PX
open Go.RowKit Go.Proofs.YtfeeaipbmpmpgaaW.PrintWords Go.Proofs.YtfeeaipbmpmpgaaW.PrintLast Go.Proofs.YtfeeaipbmpmpgaaW.PrintMore
open Go.ChangeShapes Go.WideShapes Go.Deep Go.Joins
set_option linter.unusedVariables false
set_option linter.unusedSimpArgs false

section
variable {H : Type} {enc : TypeId × Value → H} {P : Program} {w : World} {base : Nat} {spare : Nat → Bool} {held : Bool}
/-- A slice of structs of one-cell fields, opened to its cells. -/
theorem open_slice_fields {t e : TypeId} {fs : Array Field} {fuel : Nat} {cs : List Value} {x : DataW H × List MemPlace} (ht : P.underlying t = some (.slice e)) (he : P.underlying e = some (.struct fs))
    (hone : oneCellFields P fs = true) (hC : P.cellsOf e = fs.size) (h : DataW.trod enc P w base spare held fuel t cs = some x) :
    (cs = [.slice none 0 0] ∧ x = (.nil, [])) ∨
    ∃ (a : Addr) (len cap m : Nat) (D : Nat → DataW H) (Pl : Nat → List MemPlace), cs = [.slice (some a) len cap] ∧ base ≤ a.block ∧ len ≤ cap ∧ cap ≤ maxLen ∧ m = (if spare a.block then cap else len) ∧
      x = (.slice ((List.range len).map D) ((List.range (m - len)).map fun j => D (len + j)), MemPlace.row a (m * fs.size) ++ (List.range m).flatMap Pl) ∧
      ∀ i, i < m → ∃ (ys : List (DataW H × List MemPlace)) (n : Nat), D i = .agg (ys.map (·.1)) ∧ Pl i = ys.flatMap (·.2) ∧ ys.length = fs.size ∧
        ∀ (j : Nat) (f : Field), fs[j]? = some f → ∃ (v : Value) (y : DataW H × List MemPlace), w.cell? (a.add (i * fs.size + j)) = some v ∧ ys[j]? = some y ∧ DataW.trod enc P w base spare held n f.type [v] = some y := by
  rcases open_slice ht h with h0 | ⟨a, len, cap, m, n, D, Pl, hcs, hb, hl, hm, hmm, hx, hi⟩
  · exact .inl h0
  · refine .inr ⟨a, len, cap, m, D, Pl, hcs, hb, hl, hm, hmm, by rw [hC] at hx; exact hx, fun i him => ?_⟩
    obtain ⟨cs', hc, ht'⟩ := hi i him
    rw [hC] at hc
    obtain ⟨ys, n', hn', hy, hlen, hyl, hf⟩ := DataW.trod_struct he ht'
    obtain ⟨_, hcl, hat⟩ := World.cells?_some hc
    simp only [Prod.mk.injEq] at hy
    refine ⟨ys, n', hy.1, hy.2, hyl, fun j f hj => ?_⟩
    obtain ⟨ho, hk⟩ := hone_of hone j f hj
    have hjl : j < fs.size := (Array.getElem?_eq_some_iff.1 hj).1
    have hcell := hat j hjl
    have hv : cs'[j]? = some (cs'[j]'(by omega)) := List.getElem?_eq_getElem (by omega)
    have h1 := hf j f hj
    rw [ho, hk] at h1
    have hone' : (cs'.drop j).take 1 = [cs'[j]'(by omega)] := by
      rw [List.drop_eq_getElem_cons (by omega)]
      rfl
    rw [hone'] at h1
    have hys : ys[j]? = some (ys[j]'(by omega)) := List.getElem?_eq_getElem (by omega)
    refine ⟨_, _, ?_, hys, h1.trans hys⟩
    rw [← Go.Deep.add_add, hcell, hv]
end
def I64 (x : Int) : Prop := -9223372036854775808 ≤ x ∧ x ≤ 9223372036854775807
theorem i64_of_wf {x : Int} (h : (Lit.int .i64 x).wf = true) : I64 x := by
  simp [Lit.wf, IntKind.min, IntKind.max, IntKind.signed, IntKind.bits] at h
  unfold I64
  omega
section
variable {H : Type} {enc : TypeId × Value → H} {w : World} {base : Nat} {spare : Nat → Bool} {held : Bool}
/-- A slice of ints, as the walk takes it. -/
theorem open_introw {n : Nat} {v : Value} {y : DataW H × List MemPlace} (h : DataW.trod enc Try.prog w base spare held n 22 [v] = some y) :
    ∃ A c l, v = .slice A l.length c ∧ l.length ≤ c ∧ Kd.C (Kd.int .i64) w A l.length l ∧ ∀ x ∈ l, I64 x := by
  rcases open_ints Try.underlying22 Try.underlying3 (by kernel_rfl) h with ⟨hcs, _⟩ | ⟨x, l, c, zs, hcs, _, hl, hm, hz, _, hcell, hwz⟩
  · obtain rfl : v = .slice none 0 0 := by simpa using hcs
    exact ⟨none, 0, [], rfl, by simp, ⟨rfl, by simp, fun h => by simp at h⟩, by simp⟩
  · obtain rfl : v = .slice (some x) l c := by simpa using hcs
    have hzl : l ≤ zs.length := by
      rw [hz]
      split <;> omega
    have hlen : (zs.take l).length = l := by simp; omega
    unfold maxLen at hm
    refine ⟨some x, c, zs.take l, by rw [hlen], by rw [hlen]; exact hl, ?_, fun n hn => i64_of_wf (hwz n (List.mem_of_mem_take hn))⟩
    rw [hlen]
    refine ⟨hlen, by omega, fun _ => ⟨x, rfl, fun j p hj => ⟨[.int .i64 p], rfl, rfl, fun i u hu => ?_⟩⟩⟩
    have hs : (Kd.int .i64).sz = 1 := rfl
    have hjl : j < l := by
      have := (List.getElem?_eq_some_iff.1 hj).1
      omega
    cases i with
    | succ i => simp at hu
    | zero =>
      have hu' : Value.int .i64 p = u := by simpa using hu
      subst hu'
      rw [hs, Nat.mul_one, Nat.add_zero, hcell j (by omega)]
      rw [List.getElem?_take_of_lt hjl] at hj
      rw [List.getD_eq_getElem?_getD, hj]
      rfl
def CurveI (a b : Int) (l : List Int) : Prop := I64 a ∧ I64 b ∧ ∀ x ∈ l, I64 x
set_option maxRecDepth 100000 in
theorem open_curve {r : Reach} {b0 : Nat} {v : Value} {d : DataW H} {p : List MemPlace} (hv : Value.okWide Try.prog w r b0 24 v) (h : DataW.Trod enc Try.prog w base spare held 24 v d p) :
    ∃ a b l A c, v = .agg #[.int .i64 a, .int .i64 b, .slice A l.length c] ∧ l.length ≤ c ∧ Kd.C (Kd.int .i64) w A l.length l ∧ CurveI a b l := by
  obtain ⟨c0, c1, c2, y0, y1, y2, m, rfl, rfl, rfl, hy0, hy1, hy2⟩ := open_agg3 Try.underlying24 (by kernel_rfl) (by kernel_rfl) hv h
  obtain ⟨a, e0, _, wa⟩ := DataW.trod_int Try.underlying3 hy0
  obtain ⟨b, e1, _, wb⟩ := DataW.trod_int Try.underlying3 hy1
  obtain ⟨A, c, l, rfl, hl, hC, hw⟩ := open_introw hy2
  simp at e0 e1
  subst e0 e1
  exact ⟨a, b, l, A, c, rfl, hl, hC, i64_of_wf wa, i64_of_wf wb, hw⟩
set_option maxRecDepth 100000 in
theorem open_curves {r : Reach} {b0 : Nat} {v : Value} {d : DataW H} {p : List MemPlace} (hv : Value.okWide Try.prog w r b0 34 v) (h : DataW.Trod enc Try.prog w base spare held 34 v d p) :
    ∃ A c l, v = .slice A l.length c ∧ l.length ≤ c ∧ Kd.C k24 w A l.length l ∧ ∀ s ∈ l, CurveI s.f0 s.f1 s.f2 := by
  obtain ⟨A, len, cap, rfl⟩ := okWide_slice Try.underlying34 hv
  obtain ⟨fuel, hf⟩ := h
  rcases open_slice_fields Try.underlying34 Try.underlying24 (by kernel_rfl) (by kernel_rfl) hf with ⟨hcs, _⟩ | ⟨a, len', cap', m, D, Pl, hcs, _, hl, hm, hmm, _, hi⟩
  · simp [Value.cells] at hcs
    obtain ⟨rfl, rfl, rfl⟩ := hcs
    exact ⟨none, 0, [], rfl, by simp, ⟨rfl, by simp, fun h => by simp at h⟩, by simp⟩
  · simp [Value.cells] at hcs
    obtain ⟨rfl, rfl, rfl⟩ := hcs
    unfold maxLen at hm
    have hlm : len ≤ m := by rw [hmm]; split <;> omega
    have hs : k24.sz = 3 := rfl
    have key : ∀ n, n ≤ len → ∃ l : List S24, l.length = n ∧ (∀ s ∈ l, CurveI s.f0 s.f1 s.f2) ∧ ∀ j p, l[j]? = some p → ∃ c, c.length = k24.sz ∧ k24.K w p c ∧ ∀ i u, c[i]? = some u → w.cell? (a.add (j * k24.sz + i)) = some u := by
      intro n
      induction n with
      | zero => exact fun _ => ⟨[], rfl, by simp, by simp⟩
      | succ n ih =>
        intro hn
        obtain ⟨l, hll, hlI, hlc⟩ := ih (by omega)
        obtain ⟨ys, n1, _, _, _, hfs⟩ := hi n (by omega)
        obtain ⟨v0, y0, k0, _, t0⟩ := hfs 0 _ rfl
        obtain ⟨v1, y1, k1, _, t1⟩ := hfs 1 _ rfl
        obtain ⟨v2, y2, k2, _, t2⟩ := hfs 2 _ rfl
        obtain ⟨x0, e0, _, wa⟩ := DataW.trod_int Try.underlying3 t0
        obtain ⟨x1, e1, _, wb⟩ := DataW.trod_int Try.underlying3 t1
        obtain ⟨A2, c2, l2, rfl, hl2, hC2, hw2⟩ := open_introw t2
        simp at e0 e1
        subst e0 e1
        refine ⟨l ++ [⟨x0, x1, l2⟩], by simp [hll], fun s hs => ?_, fun j p hj => ?_⟩
        · rcases List.mem_append.1 hs with hs | hs
          · exact hlI s hs
          · rw [List.mem_singleton.1 hs]
            exact ⟨i64_of_wf wa, i64_of_wf wb, hw2⟩
        · by_cases hjn : j < l.length
          · rw [List.getElem?_append_left hjn] at hj
            exact hlc j p hj
          · have hjn' : j = n := by
              have := (List.getElem?_eq_some_iff.1 hj).1
              simp at this
              omega
            subst hjn'
            have hp : p = ⟨x0, x1, l2⟩ := by
              rw [← hll] at hj
              simpa using hj.symm
            subst hp
            refine ⟨_, rfl, k24_mk w ⟨x0, x1, l2⟩ hl2 hC2, fun i u hu => ?_⟩
            rw [hs]
            match i with
            | 0 => obtain rfl : Value.int .i64 x0 = u := by simpa using hu
                   exact k0
            | 1 => obtain rfl : Value.int .i64 x1 = u := by simpa using hu
                   exact k1
            | 2 => obtain rfl : Value.slice A2 l2.length c2 = u := by simpa using hu
                   exact k2
            | i + 3 => simp at hu
    obtain ⟨l, hll, hlI, hlc⟩ := key len (Nat.le_refl _)
    exact ⟨some a, cap, l, by rw [hll], by omega, ⟨rfl, by omega, fun _ => ⟨a, rfl, hlc⟩⟩, hlI⟩
set_option maxRecDepth 100000 in
theorem open_ints22 {r : Reach} {b0 : Nat} {v : Value} {d : DataW H} {p : List MemPlace} (hv : Value.okWide Try.prog w r b0 22 v) (h : DataW.Trod enc Try.prog w base spare held 22 v d p) :
    ∃ A c l, v = .slice A l.length c ∧ l.length ≤ c ∧ Kd.C (Kd.int .i64) w A l.length l ∧ ∀ x ∈ l, I64 x := by
  obtain ⟨A, len, cap, rfl⟩ := okWide_slice Try.underlying22 hv
  obtain ⟨fuel, hf⟩ := h
  exact open_introw (v := .slice A len cap) (by simpa [Value.cells] using hf)
end
end Go.Proofs.Ytfeeaipbmpmpgaa.PX

namespace Go.Proofs.Ytfeeaipbmpmpgaa.Pure
open Go.RowKit Go.Proofs.YtfeeaipbmpmpgaaW.PrintWords Go.Proofs.YtfeeaipbmpmpgaaW.PrintLast Go.Proofs.YtfeeaipbmpmpgaaW.PrintMore Go.Proofs.Ytfeeaipbmpmpgaa.PX
set_option linter.unusedVariables false
set_option linter.unusedSimpArgs false

theorem gr_at {a b : Int} {l : List Int} (hv : valB a b l = true) {x q : Int} (hd : cdom a l x = true) (h1 : loI a l x ≤ q) (h2 : q ≤ hiI a l x) (h0 : -1048576 ≤ q) : gr a b l q = q * x - cval a b l x := by
  have hdd := cdom_iff.1 hd
  have hl : LeastAt ⟨a, b, l⟩ q x := leastAt_of hv hdd h1 h0 (fun b' hb' => by
    unfold keyP nextK at hb'
    unfold hiI at h2
    simp only at hb'
    split at hb'
    · rename_i c
      rw [if_pos c] at h2
      have := Option.some.inj hb'
      omega
    · cases hb')
  obtain ⟨y, hy, e⟩ := gr_ex a b l q
  have hge := gr_ge a b l q x hd
  have h3 := hl y (cdom_iff.1 hy).1 (cdom_iff.1 hy).2
  rw [valP_eq (c := ⟨a, b, l⟩) hv, valP_eq (c := ⟨a, b, l⟩) hv] at h3
  unfold cval at hge e ⊢
  simp only at h3
  omega
theorem mul_prev (q x : Int) : q * (x - 1) = q * x - q := by rw [Int.mul_sub, Int.mul_one]
theorem mul_next (q x : Int) : q * (x + 1) = q * x + q := by rw [Int.mul_add, Int.mul_one]
theorem lo_le_of_gr {a b : Int} {l : List Int} (hv : valB a b l = true) {x q : Int} (hd : cdom a l x = true) (h : gr a b l q = q * x - cval a b l x) : loI a l x ≤ q ∨ loI a l x = -1048576 := by
  have hdd := cdom_iff.1 hd
  unfold loI
  by_cases c : 0 < x - a
  · rw [if_pos c]
    left
    have h1 := gr_ge a b l q (x - 1) (cdom_iff.2 (by omega))
    have h2 := cval_step (b := b) (l := l) (a := a) (x - 1) (by omega) (by omega)
    rw [show x - 1 + 1 = x from by omega, show x - 1 - a = x - a - 1 from by omega] at h2
    rw [mul_prev] at h1
    omega
  · rw [if_neg c]
    exact .inr rfl
theorem hi_ge_of_gr {a b : Int} {l : List Int} (hv : valB a b l = true) {x q : Int} (hd : cdom a l x = true) (h : gr a b l q = q * x - cval a b l x) : q ≤ hiI a l x ∨ hiI a l x = 1048576 := by
  have hdd := cdom_iff.1 hd
  unfold hiI
  by_cases c : x - a < (l.length : Int)
  · rw [if_pos c]
    left
    have h1 := gr_ge a b l q (x + 1) (cdom_iff.2 (by omega))
    have h2 := cval_step (b := b) (l := l) (a := a) x (by omega) (by omega)
    rw [mul_next] at h1
    omega
  · rw [if_neg c]
    exact .inr rfl
theorem lo_le_hi {a b : Int} {l : List Int} (hv : valB a b l = true) {x : Int} (hd : cdom a l x = true) : loI a l x ≤ hiI a l x := by
  have hdd := cdom_iff.1 hd
  by_cases c : 0 < x - a
  · by_cases c2 : x - a < (l.length : Int)
    · unfold loI hiI
      rw [if_pos c, if_pos c2]
      obtain ⟨n, hn⟩ := Int.eq_ofNat_of_zero_le (show 0 ≤ x - a - 1 from by omega)
      rw [show x - a = ((n + 1 : Nat) : Int) from by omega, show ((n + 1 : Nat) : Int) - 1 = (n : Int) from by omega, rd_getElem l n (by omega), rd_getElem l (n + 1) (by omega)]
      exact List.pairwise_iff_getElem.1 (val_all hv).1 n (n + 1) (by omega) (by omega) (by omega)
    · have := (lo_bound hv hd).2
      unfold hiI
      rw [if_neg c2]
      exact this
  · have := (hi_bound hv hd).1
    unfold loI
    rw [if_neg c]
    exact this
/-- The price of Meet is one at which both curves are greatest at the place. -/
theorem meet_price {a b : Int} {l : List Int} {a' b' : Int} {l' : List Int} (hv : valB a b l = true) (hv' : valB a' b' l' = true) {x : Int} (hm : Meets a b l a' b' l' x) :
    loI a l x ≤ meetP a l a' l' x ∧ meetP a l a' l' x ≤ hiI a l x ∧ loI a' l' x ≤ -meetP a l a' l' x ∧ -meetP a l a' l' x ≤ hiI a' l' x := by
  have hd := cdom_iff.1 hm.one
  have hd' := cdom_iff.1 hm.two
  have s1 := lo_le_hi hv hm.one
  have s2 := lo_le_hi hv' hm.two
  have b1 := lo_bound hv hm.one
  have b2 := hi_bound hv hm.one
  have b3 := lo_bound hv' hm.two
  have b4 := hi_bound hv' hm.two
  have up : -hiI a' l' x ≤ hiI a l x := by
    by_cases c1 : x - a < (l.length : Int)
    · by_cases c2 : x - a' < (l'.length : Int)
      · have h := hm.least (x + 1) (cdom_iff.2 (by omega)) (cdom_iff.2 (by omega))
        have e1 := cval_step (b := b) (l := l) (a := a) x (by omega) (by omega)
        have e2 := cval_step (b := b') (l := l') (a := a') x (by omega) (by omega)
        unfold hiI
        rw [if_pos c1, if_pos c2]
        omega
      · have e : hiI a' l' x = 1048576 := by unfold hiI; rw [if_neg c2]
        omega
    · have e : hiI a l x = 1048576 := by unfold hiI; rw [if_neg c1]
      omega
  have down : loI a l x ≤ -loI a' l' x := by
    by_cases c1 : 0 < x - a
    · by_cases c2 : 0 < x - a'
      · have h := hm.first (x - 1) (cdom_iff.2 (by omega)) (cdom_iff.2 (by omega)) (by omega)
        have e1 := cval_step (b := b) (l := l) (a := a) (x - 1) (by omega) (by omega)
        have e2 := cval_step (b := b') (l := l') (a := a') (x - 1) (by omega) (by omega)
        rw [show x - 1 + 1 = x from by omega, show x - 1 - a = x - a - 1 from by omega] at e1
        rw [show x - 1 + 1 = x from by omega, show x - 1 - a' = x - a' - 1 from by omega] at e2
        unfold loI
        rw [if_pos c1, if_pos c2]
        omega
      · have e : loI a' l' x = -1048576 := by unfold loI; rw [if_neg c2]
        omega
    · have e : loI a l x = -1048576 := by unfold loI; rw [if_neg c1]
      omega
  unfold meetP mx
  split <;> omega
theorem fen_j1 {a b : Int} {l : List Int} {a' b' : Int} {l' : List Int} (hv : valB a b l = true) (hv' : valB a' b' l' = true) {x : Int} (hm : Meets a b l a' b' l' x) (q : Int) (hq : I64 q) (k : Nat) (hk : 200 ≤ k) :
    kimberlitelaw03_CurveFenchel.j1 k q (cval a b l x + cval a' b' l' x) false a b l a' b' l' = some true := by
  obtain ⟨k, rfl⟩ : ∃ m, k = m + 1 := ⟨k - 1, by omega⟩
  simp only [kimberlitelaw03_CurveFenchel.j1, kimberlitelaw03_alive.f, Option.bind_some]
  rw [if_neg (by decide)]
  by_cases c1 : q < -1073741824
  · rw [if_pos c1]
  rw [if_neg c1]
  by_cases c2 : q > 1073741824
  · rw [if_pos c2]
  rw [if_neg c2, w64 (x := -q) (by omega) (by omega), law_great hv (p := q) (by omega) k (by omega), law_great hv' (p := -q) (by omega) k (by omega)]
  simp only [Option.bind_some]
  have g1 := gr_bound hv (p := q) (by omega)
  have g2 := gr_bound hv' (p := -q) (by omega)
  have e1 := gr_ge a b l q x hm.one
  have e2 := gr_ge a' b' l' (-q) x hm.two
  rw [Int.neg_mul] at e2
  rw [w64 (x := gr a b l q + gr a' b' l' (-q)) (by omega) (by omega), w64 (x := -(gr a b l q + gr a' b' l' (-q))) (by omega) (by omega), if_pos (by omega)]
theorem fen_j0 {a b : Int} {l : List Int} {a' b' : Int} {l' : List Int} (hv : valB a b l = true) (hv' : valB a' b' l' = true) {x : Int} (hm : Meets a b l a' b' l' x) (q : Int) (hq : I64 q) (k : Nat) (hk : 300 ≤ k) :
    kimberlitelaw03_CurveFenchel.j0 k q (cval a b l x + cval a' b' l' x) x (meetP a l a' l' x) (cval a b l x) (cval a' b' l' x) false a b l a' b' l' = some true := by
  obtain ⟨k, rfl⟩ : ∃ m, k = m + 1 := ⟨k - 1, by omega⟩
  obtain ⟨m1, m2, m3, m4⟩ := meet_price hv hv' hm
  have b1 := lo_bound hv hm.one
  have b2 := hi_bound hv hm.one
  have b3 := lo_bound hv' hm.two
  have b4 := hi_bound hv' hm.two
  have hp : meetP a l a' l' x = loI a l x ∨ meetP a l a' l' x = -hiI a' l' x := by unfold meetP mx; split <;> simp
  have d1 := cdom_iff.1 hm.one
  have v1 := val_from hv
  have hjf := fen_j1 hv hv' hm q hq k (by omega)
  have ga := gr_at hv (q := meetP a l a' l' x) hm.one m1 m2 (by omega)
  have cb1 := cval_i64 hv x
  have cb2 := cval_i64 hv' x
  generalize hP : meetP a l a' l' x = p at *
  simp only [kimberlitelaw03_CurveFenchel.j0]
  rw [if_neg (by decide)]
  by_cases c0 : p > -1048576
  · rw [if_pos c0, w64 (x := p - 1) (by omega) (by omega), w64 (x := 1 - p) (by omega) (by omega), law_great hv (p := p - 1) (by omega) k (by omega), law_great hv' (p := 1 - p) (by omega) k (by omega), law_great hv (p := p) (by omega) k (by omega)]
    simp only [Option.bind_some]
    by_cases c1 : wrap64 (gr a b l (p - 1) + gr a' b' l' (1 - p)) = wrap64 (-(cval a b l x + cval a' b' l' x))
    · rw [if_pos c1]
      by_cases c2 : wrap64 (wrap64 (p * x) - cval a b l x) = gr a b l p
      · rw [if_pos c2]
        by_cases c3 : wrap64 (wrap64 ((p - 1) * x) - cval a b l x) = gr a b l (p - 1)
        · rw [if_pos c3]
          have hbeq : (wrap64 (wrap64 ((1 - p) * x) - cval a' b' l' x) == gr a' b' l' (1 - p)) = false := by
            rw [beq_eq_false_iff_ne]
            intro c4
            have k1 := mul_small (p := p - 1) (x := x) (by omega) (by omega)
            have k2 := mul_small (p := 1 - p) (x := x) (by omega) (by omega)
            rw [w64 (x := (p - 1) * x) (by omega) (by omega), w64 (x := (p - 1) * x - cval a b l x) (by omega) (by omega)] at c3
            rw [w64 (x := (1 - p) * x) (by omega) (by omega), w64 (x := (1 - p) * x - cval a' b' l' x) (by omega) (by omega)] at c4
            have r1 := lo_le_of_gr hv hm.one c3.symm
            have r2 := hi_ge_of_gr hv' hm.two c4.symm
            omega
          rw [hbeq]
          exact hjf
        · rw [if_neg c3]
          exact hjf
      · rw [if_neg c2]
        exact hjf
    · rw [if_neg c1]
      exact hjf
  · rw [if_neg c0]
    exact hjf
theorem CurveFenchel (x0 y0 : Int) (l0 : List Int) (x1 y1 : Int) (l1 : List Int) (a2 a3 : Int) (J0 : CurveI x0 y0 l0) (n0 : l0.length ≤ 9223372036854775807) (J1 : CurveI x1 y1 l1) (n1 : l1.length ≤ 9223372036854775807) (h2 : I64 a2) (h3 : I64 a3) :
    ∃ k, kimberlitelaw03_CurveFenchel.f k x0 y0 l0 x1 y1 l1 a2 a3 = some true := by
  obtain ⟨K, hK⟩ : ∃ K : Nat, 400 ≤ K := ⟨400, Nat.le_refl _⟩
  refine ⟨K, ?_⟩
  unfold kimberlitelaw03_CurveFenchel.f
  rcases meet_some x0 y0 l0 x1 y1 l1 K (by omega) with ⟨e, he, h, _⟩ | ⟨hv, hv', _, x, h, hm⟩
  · rw [h]
    simp only [Option.bind_some]
    rw [if_neg he]
    simp [kimberlitelaw03_alive.f]
  · rw [h]
    have hj := fen_j0 hv hv' hm a2 h2 K (by omega)
    obtain ⟨m1, m2, m3, m4⟩ := meet_price hv hv' hm
    have b1 := lo_bound hv hm.one
    have b2 := hi_bound hv hm.one
    have ga := gr_at hv (q := meetP x0 l0 x1 l1 x) hm.one m1 m2 (by omega)
    have gb := gr_at hv' (q := -meetP x0 l0 x1 l1 x) hm.two m3 m4 (by have := hi_bound hv hm.one; omega)
    have cb1 := cval_i64 hv x
    have cb2 := cval_i64 hv' x
    have v1 := val_from hv
    have d1 := cdom_iff.1 hm.one
    have a1 : atV x0 y0 l0 x = (cval x0 y0 l0 x, true) := by unfold atV; rw [if_pos hv, if_pos hm.one]
    have a2' : atV x1 y1 l1 x = (cval x1 y1 l1 x, true) := by unfold atV; rw [if_pos hv', if_pos hm.two]
    simp only [Option.bind_some, law_at]
    rw [if_pos trivial, a1, a2']
    generalize meetP x0 l0 x1 l1 x = p at *
    have g1 := gr_bound hv (p := p) (by omega)
    have g2 := gr_bound hv' (p := -p) (by omega)
    have k1 := mul_small (p := p) (x := x) (by omega) (by omega)
    rw [Int.neg_mul] at gb
    simp only [if_true]
    rw [w64 (x := cval x0 y0 l0 x + cval x1 y1 l1 x) (by omega) (by omega), if_pos rfl, if_neg (by omega), if_neg (by omega), w64 (x := -p) (by omega) (by omega), law_great hv (p := p) (by omega) K (by omega), law_great hv' (p := -p) (by omega) K (by omega)]
    simp only [Option.bind_some]
    rw [w64 (x := gr x0 y0 l0 p + gr x1 y1 l1 (-p)) (by omega) (by omega), w64 (x := -(cval x0 y0 l0 x + cval x1 y1 l1 x)) (by omega) (by omega), if_pos (by omega)]
    unfold atV
    rw [if_pos hv, if_pos hv']
    by_cases c1 : cdom x0 l0 a3 = true
    · rw [if_pos c1]
      by_cases c2 : cdom x1 l1 a3 = true
      · rw [if_pos c2]
        have cb3 := cval_i64 hv a3
        have cb4 := cval_i64 hv' a3
        have hle := hm.least a3 c1 c2
        simp only [if_true]
        rw [w64 (x := cval x0 y0 l0 a3 + cval x1 y1 l1 a3) (by omega) (by omega), if_neg (by omega)]
        by_cases c3 : cval x0 y0 l0 a3 + cval x1 y1 l1 a3 = cval x0 y0 l0 x + cval x1 y1 l1 x
        · rw [if_pos c3, decide_eq_false (fun c4 => by have := hm.first a3 c1 c2 c4; omega)]
          exact hj
        · rw [if_neg c3]
          exact hj
      · rw [if_neg c2]
        exact hj
    · rw [if_neg c1]
      exact hj
end Go.Proofs.Ytfeeaipbmpmpgaa.Pure

namespace Go.Proofs.Ytfeeaipbmpmpgaa.curveFenchel
open Go.ChangeShapes Go.WideShapes Go.ChangeAt Go.RowKit
open Go.ChangeMaps (open_string shut_string)
open Go.Proofs.YtfeeaipbmpmpgaaW.PrintWords Go.Proofs.YtfeeaipbmpmpgaaW.PrintLast Go.Proofs.YtfeeaipbmpmpgaaW.PrintMore Go.Proofs.Ytfeeaipbmpmpgaa.PX
set_option linter.unusedVariables false
theorem own : ownKnob Try.prog.godebug = none := by kernel_rfl
theorem laidOut : laidOutB Try.prog = true := by kernel_rfl
set_option maxRecDepth 100000 in
theorem lifted (os : Os) (started : os.Started) (H : Type) (enc : TypeId × Value → H) :
    ReturnsInHanded {} Try.checked os 7 .any (Rows.curveFenchelSpec.pre6 enc Try.prog Try.f7 Rows.curveFenchelRow.domain false) (Rows.curveFenchelSpec.post enc Try.prog Try.f7 false true false false) := by
  refine returnsInHanded_of_change_sized (C := Try.checked) own started (by kernel_rfl) Try.func7
    (ChangeSpec.witness6 (enc := enc) (C := Try.checked) false ⟨#[], #[.agg #[.int .i64 0, .int .i64 0, .slice none 0 0], .agg #[.int .i64 0, .int .i64 0, .slice none 0 0], .int .i64 0, .int .i64 0], []⟩ 8 (by kernel_rfl) (by kernel_rfl) (by kernel_rfl) (by kernel_rfl)) ?_
  intro W base args ds gs before hval0 hW hcnd hsz0 _
  have hval : ∀ (j : Nat) t v, Try.f7.params[j]? = some t → args[j]? = some v → Value.okWide Try.prog W .any base t v := hval0
  have hW' := hW
  obtain ⟨p, q, hA0, hV, rfl, hfz, hnd⟩ := hW
  have hA : DataW.TrodAll enc Try.prog W 0 (fun _ => true) true Try.f7.params.toList args.toList ds p := hA0
  rw [Try.params7] at hA hval
  obtain ⟨v0, vs0, d0, ds0, p0, q0, hargs, rfl, rfl, h0, r0⟩ := trodAll_cons hA
  obtain ⟨v1, vs1, d1, ds1, p1, q1, rfl, rfl, rfl, h1, r1⟩ := trodAll_cons r0
  obtain ⟨v2, vs2, d2, ds2, p2, q2, rfl, rfl, rfl, h2, r2⟩ := trodAll_cons r1
  obtain ⟨v3, vs3, d3, ds3, p3, q3, rfl, rfl, rfl, h3, r3⟩ := trodAll_cons r2
  obtain ⟨rfl, rfl, rfl⟩ := trodAll_nil r3
  obtain rfl : args = #[v0, v1, v2, v3] := by cases args; simp_all
  obtain ⟨rfl, rfl⟩ := trodVars_none hV
  have k0 := h0
  have lt0 : ∀ x ∈ p0, x.block < W.heap.size := by obtain ⟨m, hm⟩ := k0; exact DataW.trod_lt m _ _ _ hm
  obtain ⟨x0, y0, l0, A0, c0, rfl, e0, C0, J0⟩ := open_curve (hval 0 24 v0 rfl rfl) h0
  have k1 := h1
  have lt1 : ∀ x ∈ p1, x.block < W.heap.size := by obtain ⟨m, hm⟩ := k1; exact DataW.trod_lt m _ _ _ hm
  obtain ⟨x1, y1, l1, A1, c1, rfl, e1, C1, J1⟩ := open_curve (hval 1 24 v1 rfl rfl) h1
  obtain ⟨a2, rfl, rfl, rfl, w2⟩ := open_int Try.underlying3 (hval 2 3 v2 rfl rfl) h2
  obtain ⟨a3, rfl, rfl, rfl, w3⟩ := open_int Try.underlying3 (hval 3 3 v3 rfl rfl) h3
  clear hA0 hval0 hsz0
  obtain ⟨n, hn⟩ := Pure.CurveFenchel x0 y0 l0 x1 y1 l1 a2 a3 J0 C0.2.1 J1 C1.2.1 (i64_of_wf w2) (i64_of_wf w3)
  refine (kimberlitelaw03_CurveFenchel.calls n x0 y0 A0 c0 l0 x1 y1 A1 c1 l1 a2 a3 true W C0 e0 C1 e1 hn).mono fun e W' ⟨he, bel⟩ => ?_
  subst he
  exact ⟨_, rfl, _, _, _, [], _, [], hW', trodAll_mk1 (shut_bool Try.underlying4 _), (trodAll_cons_mk (Below.trod laidOut (by kernel_rfl) (of_decide_eq_true (by kernel_rfl)) k0 bel lt0) (trodAll_cons_mk (Below.trod laidOut (by kernel_rfl) (of_decide_eq_true (by kernel_rfl)) k1 bel lt1) (trodAll_cons_mk (shut_int Try.underlying3 w2) (trodAll_cons_mk (shut_int Try.underlying3 w3) trodAll_mk0)))), rfl, bel.frame _, fun h => by cases h⟩
theorem over : Rows.curveFenchelRow.holds Try.pinned (OpenSpec.ofChange Rows.curveFenchelSpec) :=
  OpenClaim.holds_of_wide 7 Try.f7 rfl rfl rfl rfl rfl rfl rfl ⟨rfl, rfl, rfl, rfl, rfl⟩ rfl rfl rfl rfl rfl (by kernel_rfl) Try.func7 (by kernel_rfl)
    (of_decide_eq_true (by kernel_rfl)) (by unfold Func.isWrapper; first | (rw [if_pos (by decide +kernel)]; kernel_rfl) | (rw [if_neg (by decide +kernel)]; exact ⟨rfl, rfl⟩))
    (fun os started H enc _ => lifted os started H enc)
theorem proved : Rows.CurveFenchelSaid := over
end Go.Proofs.Ytfeeaipbmpmpgaa.curveFenchel
namespace Go.Proofs.Ytfeeaipbmpmpgaa
/-- The row, under a short name, for the claim. -/
theorem curveFenchel_holds : Rows.CurveFenchelSaid := curveFenchel.proved
#print axioms curveFenchel_holds
end Go.Proofs.Ytfeeaipbmpmpgaa

