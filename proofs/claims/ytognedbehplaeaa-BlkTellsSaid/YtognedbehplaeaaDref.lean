/- The document's disk: bytes in a row, laid. -/
import Derived.Test.YtognedbehplaeaaDfill
import Derived.Test.YtognedbehplaeaaRefc
set_option linter.unusedVariables false
namespace Go.Proofs.Ytognedbehplaeaa
open Go.RowKit

/-- Bytes laid over a row, 0 behind them up to a length. -/
def layL (D l : List Int) (a k : Nat) : List Int := (List.range D.length).map fun i => if a ≤ i ∧ i < a + k then l.getD (i - a) 0 else D.getD i 0
theorem layL_length (D l : List Int) (a k : Nat) : (layL D l a k).length = D.length := by simp [layL]
theorem layL_at (D l : List Int) (a k : Nat) {i : Nat} (h : i < D.length) : (layL D l a k).getD i 0 = if a ≤ i ∧ i < a + k then l.getD (i - a) 0 else D.getD i 0 := by
  unfold layL
  rw [List.getD, List.getElem?_map, List.getElem?_range h]
  rfl
theorem layL_rdl (g : Int → Int) (N : Nat) (l : List Int) (a k : Nat) : layL (rdl g 0 N) l a k = rdl (layG g l a k) 0 N := by
  apply List.ext_getElem?
  intro i
  rcases Nat.lt_or_ge i N with h | h
  · unfold layL
    rw [List.getElem?_map, List.getElem?_range (by rw [rdl_length]; exact h), rdl_at _ _ h]
    simp only [Option.map_some, Option.some.injEq]
    unfold layG
    by_cases h1 : a ≤ i ∧ i < a + k
    · rw [if_pos h1, if_pos (by omega)]
      congr 1
      omega
    · rw [if_neg h1, if_neg (by omega), List.getD, rdl_at _ _ h]
      rfl
  · rw [List.getElem?_eq_none (by rw [layL_length, rdl_length]; exact h), List.getElem?_eq_none (by rw [rdl_length]; exact h)]

/-- A document's disk as a value. -/
def dVal (v : Value) (locked : Bool) (fault reqs flushes : Int) : Array Value := #[v, .bool locked, .int .u64 fault, .int .u64 reqs, .int .u64 flushes]
/-- What a call ends in that makes a new row of bytes of a disk. -/
def LayPost (w : World) (R : List Int) (locked : Bool) (fault reqs flushes : Int) (e : Ending) (w' : World) : Prop :=
  ∃ b : Nat, e = .returned (.agg #[.slice (some ⟨b, 0, none⟩) R.length R.length, .bool locked, .int .u64 fault, .int .u64 reqs, .int .u64 flushes]) ∧ w.heap.size ≤ b ∧ w'.heap[b]? = some (.cells (by8 R).toArray 5 (0, 0)) ∧ Kept No w w'

set_option maxRecDepth 100000 in
theorem rdnew_calls (locked : Bool) (w : World) : Calls Try.prog 84 #[.int .u64 4, .bool locked] w (LayPost w (List.replicate 2048 0) locked 0 0 0) := by
  have hmk := run_make8 .u64 .u64 2048 (by omega)
  have hlen : (List.replicate 2048 (0 : Int)).length = 2048 := List.length_replicate ..
  generalize List.replicate 2048 (0 : Int) = R at *
  simp only [show ((2048 : Nat) : Int) = 2048 from rfl] at hmk
  unfold LayPost
  rw [hlen]
  have hc := fun (W : World) => at_new W (.cells (by8 R).toArray 5)
  go_enter Try.func84, Try.ntmps84
  go_wp2
  have hq := fun i => cells_of (at_alloc (at_new w (.cells #[.slice (some ⟨w.heap.size + 1, 0, none⟩) 2048 2048, .bool locked, .int .u64 0, .int .u64 0, .int .u64 0] 72)) (.cells (by8 R).toArray 5)) i
  refine bodyPost_ret (v := .agg #[.slice (some ⟨w.heap.size + 1, 0, none⟩) 2048 2048, .bool locked, .int .u64 0, .int .u64 0, .int .u64 0]) (by simp [results, Try.results84, go_sem, hq]) (by with_reducible rfl) ?_
  have h1 := at_new (w.alloc (.cells #[.slice (some ⟨w.heap.size + 1, 0, none⟩) 2048 2048, .bool locked, .int .u64 0, .int .u64 0, .int .u64 0] 72)) (.cells (by8 R).toArray 5)
  rw [World.size_alloc] at h1
  exact ⟨w.heap.size + 1, rfl, by omega, h1, ((Kept.refl No w).alloc _).alloc _⟩

/-- Inside lay: the new row, the two disks. -/
structure LaySt (w wr : World) (cd cr : Array Value) (L : List Int) : Prop where
  out : wr.heap[w.heap.size + 1 + 1]? = some (.cells (by8 L).toArray 5 (0, 0))
  dk : wr.heap[w.heap.size]? = some (.cells cd 72 (0, 0))
  rk : wr.heap[w.heap.size + 1]? = some (.cells cr 72 (0, 0))
  kept : Kept No w wr
theorem LaySt.put {w wr : World} {cd cr : Array Value} {L : List Int} (h : LaySt w wr cd cr L) (j : Nat) (x : Int) : LaySt w (wr.setCell ⟨w.heap.size + 1 + 1, j, none⟩ (.int .u8 x)) cd cr (L.set j x) where
  out := by
    have := at_set h.out j (.int .u8 x)
    rw [by8_set] at this
    exact this
  dk := at_far h.dk (p := ⟨w.heap.size + 1 + 1, j, none⟩) (by simp; omega) _
  rk := at_far h.rk (p := ⟨w.heap.size + 1 + 1, j, none⟩) (by simp) _
  kept := h.kept.set (.inr (by simp; omega)) _
theorem LaySt.cell {w wr : World} {cd cr : Array Value} {L : List Int} (h : LaySt w wr cd cr L) {j : Nat} (hj : j < L.length) : wr.cell? ⟨w.heap.size + 1 + 1, j, none⟩ = some (.int .u8 (L.getD j 0)) := by
  rw [cells_of h.out, List.getElem?_toArray]
  exact by8_at hj

theorem LaySt.fin {w wr : World} {cd : Array Value} {a0 a1 a2 a3 a4 : Value} {L : List Int} (h : LaySt w wr cd #[a0, a1, a2, a3, a4] L) (v0 v1 v2 v3 v4 v5 : Value) :
    (∀ i, ((((((wr.setCell ⟨w.heap.size, 0, none⟩ v0).setCell ⟨w.heap.size + 1, 0, none⟩ v1).setCell ⟨w.heap.size + 1, 1, none⟩ v2).setCell ⟨w.heap.size + 1, 2, none⟩ v3).setCell ⟨w.heap.size + 1, 3, none⟩ v4).setCell ⟨w.heap.size + 1, 4, none⟩ v5).cell? ⟨w.heap.size + 1, i, none⟩ = (#[v1, v2, v3, v4, v5] : Array Value)[i]?) ∧
    ((((((wr.setCell ⟨w.heap.size, 0, none⟩ v0).setCell ⟨w.heap.size + 1, 0, none⟩ v1).setCell ⟨w.heap.size + 1, 1, none⟩ v2).setCell ⟨w.heap.size + 1, 2, none⟩ v3).setCell ⟨w.heap.size + 1, 3, none⟩ v4).setCell ⟨w.heap.size + 1, 4, none⟩ v5).heap[w.heap.size + 1 + 1]? = some (.cells (by8 L).toArray 5 (0, 0)) ∧
    Kept No w ((((((wr.setCell ⟨w.heap.size, 0, none⟩ v0).setCell ⟨w.heap.size + 1, 0, none⟩ v1).setCell ⟨w.heap.size + 1, 1, none⟩ v2).setCell ⟨w.heap.size + 1, 2, none⟩ v3).setCell ⟨w.heap.size + 1, 3, none⟩ v4).setCell ⟨w.heap.size + 1, 4, none⟩ v5) := by
  have r1 := at_far h.rk (p := ⟨w.heap.size, 0, none⟩) (by simp) v0
  have r6 := at_set (at_set (at_set (at_set (at_set r1 0 v1) 1 v2) 2 v3) 3 v4) 4 v5
  refine ⟨fun i => ?_, ?_, ?_⟩
  · have e : (((((#[a0, a1, a2, a3, a4] : Array Value).setIfInBounds 0 v1).setIfInBounds 1 v2).setIfInBounds 2 v3).setIfInBounds 3 v4).setIfInBounds 4 v5 = #[v1, v2, v3, v4, v5] := rfl
    rw [e] at r6
    exact cells_of r6 i
  · exact at_far (at_far (at_far (at_far (at_far (at_far h.out (p := ⟨w.heap.size, 0, none⟩) (by simp; omega) _) (p := ⟨w.heap.size + 1, 0, none⟩) (by simp) _) (p := ⟨w.heap.size + 1, 1, none⟩) (by simp) _) (p := ⟨w.heap.size + 1, 2, none⟩) (by simp) _) (p := ⟨w.heap.size + 1, 3, none⟩) (by simp) _) (p := ⟨w.heap.size + 1, 4, none⟩) (by simp) _
  · exact (((((h.kept.set (.inr (by simp)) _).set (.inr (by simp)) _).set (.inr (by simp)) _).set (.inr (by simp)) _).set (.inr (by simp)) _).set (.inr (by simp)) _

set_option maxHeartbeats 1000000 in
set_option maxRecDepth 100000 in
theorem rlay_calls (A : Option Addr) (D : List Int) (n c : Nat) (locked : Bool) (fault reqs flushes : Int) (a k : Nat) (B : Option Addr) (l : List Int) (m cB : Nat) (w : World) (hd : Sl w No A (by8 D)) (hn : D.length = n) (hl : Sl w No B (by8 l)) (hm : l.length = m) (hn1 : n ≤ 1000000) (ha : a ≤ 1000000) (hk : k ≤ 1000000) (hm1 : m ≤ 1000000) :
    Calls Try.prog 136 #[.agg #[.slice A n c, .bool locked, .int .u64 fault, .int .u64 reqs, .int .u64 flushes], .int .i64 a, .slice B m cB, .int .i64 k] w (LayPost w (layL D l a k) locked fault reqs flushes) := by
  have hmk := run_make8 .i64 .i64 n (by omega)
  have hRl := layL_length D l a k
  rw [hn] at hRl
  have hRa : ∀ i, i < n → (layL D l a k).getD i 0 = if a ≤ i ∧ i < a + k then l.getD (i - a) 0 else D.getD i 0 := fun i hi => layL_at D l a k (by omega)
  generalize layL D l a k = R at *
  have HRA := hid hRa
  have HRL := hid hRl
  have HD := hid hd
  have HL := hid hl
  have HN := hid hn
  have HM := hid hm
  have HK0 : Hid (Kept No w (((w.alloc (.cells #[.slice A n c, .bool locked, .int .u64 fault, .int .u64 reqs, .int .u64 flushes] 72)).alloc (.cells #[.slice none 0 0, .bool false, .int .u64 0, .int .u64 0, .int .u64 0] 72)).alloc (.cells (by8 (List.replicate n 0)).toArray 5))) := hid ((((Kept.refl No w).alloc _).alloc _).alloc _)
  clear hRa hRl hd hl hn hm
  go_enter Try.func136, Try.ntmps136
  go_wp2_with fail
  go_loopw [10] (fun i wr => ∃ j : Nat, j ≤ n ∧ i = .int .i64 j ∧ LaySt w wr #[.slice A n c, .bool locked, .int .u64 fault, .int .u64 reqs, .int .u64 flushes] #[.slice none 0 0, .bool false, .int .u64 0, .int .u64 0, .int .u64 0] (part R j)) (fun i _ => n - (intOf i).toNat)
  case atStart =>
    refine ⟨0, by omega, rfl, ?_, ?_, ?_, HK0.out⟩
    · rw [part_zero, HRL.out]
      have := at_new ((w.alloc (.cells #[.slice A n c, .bool locked, .int .u64 fault, .int .u64 reqs, .int .u64 flushes] 72)).alloc (.cells #[.slice none 0 0, .bool false, .int .u64 0, .int .u64 0, .int .u64 0] 72)) (.cells (by8 (List.replicate n 0)).toArray 5)
      rw [World.size_alloc, World.size_alloc] at this
      exact this
    · exact at_alloc (at_alloc (at_new w _) _) _
    · have := at_new (w.alloc (.cells #[.slice A n c, .bool locked, .int .u64 fault, .int .u64 reqs, .int .u64 flushes] 72)) (.cells #[.slice none 0 0, .bool false, .int .u64 0, .int .u64 0, .int .u64 0] 72)
      rw [World.size_alloc] at this
      exact at_alloc this _
  case round =>
    obtain ⟨j, hj, rfl, hS⟩ := hrel
    have HS := hid hS
    clear hS
    by_cases hlt : j < n
    · have hlt' : (j : Int) < n := by omega
      have hpl : (part R j).length = n := by rw [part_length _ (by rw [HRL.out]; exact hj)]; exact HRL.out
      have HPL := hid hpl
      have hps : (part R j).set j (R.getD j 0) = part R (j + 1) := part_snoc R (by rw [HRL.out]; exact hlt)
      have hra := HRA.out j hlt
      obtain ⟨bA, oA, hAe, -, hbA, hcA⟩ := (HD.out.no HS.out.kept).at_ (by8_at (l := D) (j := j) (by have := HN.out; omega))
      obtain ⟨x, hx⟩ : ∃ x, D.getD j 0 = x := ⟨_, rfl⟩
      rw [hx] at hcA
      have hd0 := fun i => cells_of HS.out.dk i
      rw [hAe] at hd0
      have H1 := hid (HS.out.put j x)
      have o0 := HS.out.cell (j := j) (by omega)
      have f0 := frozen_of HS.out.out
      have o1 := H1.out.cell (j := j) (by rw [List.length_set]; omega)
      have f1 := frozen_of H1.out.out
      by_cases hin : a ≤ j ∧ j < a + k
      · have i1 : (a : Int) ≤ j := by omega
        have i2 : (j : Int) < a + k := by omega
        have H2 := hid (H1.out.put j 0)
        have o2 := H2.out.cell (j := j) (by rw [List.length_set, List.length_set]; omega)
        have f2 := frozen_of H2.out.out
        obtain ⟨q, hq⟩ : ∃ q : Nat, j = a + q := ⟨j - a, by omega⟩
        have hqq : (j : Int) - a = q := by omega
        rw [if_pos hin, show j - a = q from by omega] at hra
        by_cases hql : q < m
        · have hql' : (q : Int) < m := by omega
          obtain ⟨bB, oB, hBe, -, hbB, hcB⟩ := (HL.out.no H2.out.kept).at_ (by8_at (l := l) (j := q) (by have := HM.out; omega))
          have HF := hid (H2.out.put j (l.getD q 0))
          rw [List.set_set, List.set_set, ← hra, hps] at HF
          rw [hra] at HF
          obtain ⟨y, hy⟩ : ∃ y, l.getD q 0 = y := ⟨_, rfl⟩
          rw [hy] at hcB HF
          subst hBe
          subst hAe
          generalize (part R j).getD j 0 = z0 at o0
          generalize ((part R j).set j x).getD j 0 = z1 at o1
          generalize (((part R j).set j x).set j 0).getD j 0 = z2 at o2
          clear hq hx hy hra hps hpl hin hlt hql
          go_wp2
          go_roundw
          case rel => exact ⟨j + 1, by omega, by go_num, HF.out⟩
          case measure => simp [intOf]; omega
        · have hql' : ¬ (q : Int) < m := by omega
          have HF := H2
          have hz : R.getD j 0 = 0 := by rw [hra, List.getD, List.getElem?_eq_none (by have := HM.out; omega)]; rfl
          rw [hz] at hps
          rw [List.set_set, hps] at HF
          subst hAe
          generalize (part R j).getD j 0 = z0 at o0
          generalize ((part R j).set j x).getD j 0 = z1 at o1
          generalize (((part R j).set j x).set j 0).getD j 0 = z2 at o2
          clear hq hx hz hra hps hpl hin hlt hql
          go_wp2
          go_roundw
          case rel => exact ⟨j + 1, by omega, by go_num, HF.out⟩
          case measure => simp [intOf]; omega
      · rw [if_neg hin, hx] at hra
        have HF := H1
        rw [← hra, hps] at HF
        rw [hra] at HF
        subst hAe
        generalize (part R j).getD j 0 = z0 at o0
        generalize ((part R j).set j x).getD j 0 = z1 at o1
        by_cases hin1 : a ≤ j
        · have i1 : (a : Int) ≤ j := by omega
          have i2 : ¬ (j : Int) < a + k := by omega
          clear hx hra hps hpl hin hlt hin1
          go_wp2
          go_roundw
          case rel => exact ⟨j + 1, by omega, by go_num, HF.out⟩
          case measure => simp [intOf]; omega
        · have i1 : ¬ (a : Int) ≤ j := by omega
          clear hx hra hps hpl hin hlt hin1
          go_wp2
          go_roundw
          case rel => exact ⟨j + 1, by omega, by go_num, HF.out⟩
          case measure => simp [intOf]; omega
    · obtain rfl : j = n := by omega
      have hS := HS.out
      rw [show part R j = R from by rw [← HRL.out]; exact part_all R] at hS
      have HS2 := hid hS
      have hd0 := fun i => cells_of hS.dk i
      have hr0 := fun i => cells_of hS.rk i
      have fd := frozen_of hS.dk
      have fr := frozen_of hS.rk
      clear hS
      go_wp2
      obtain ⟨hq, ho, hk⟩ := HS2.out.fin (.slice (some ⟨w.heap.size + 1 + 1, 0, none⟩) j j) (.slice (some ⟨w.heap.size + 1 + 1, 0, none⟩) j j) (.bool locked) (.int .u64 fault) (.int .u64 reqs) (.int .u64 flushes)
      refine bodyPost_ret (v := .agg #[.slice (some ⟨w.heap.size + 1 + 1, 0, none⟩) j j, .bool locked, .int .u64 fault, .int .u64 reqs, .int .u64 flushes]) (by simp [results, Try.results136, go_sem, hq]) (by with_reducible rfl) ⟨w.heap.size + 1 + 1, by rw [HRL.out], by omega, ho, hk⟩
end Go.Proofs.Ytognedbehplaeaa
