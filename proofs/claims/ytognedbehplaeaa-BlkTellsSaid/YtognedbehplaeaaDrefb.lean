/- The document's disk: filled. -/
import Derived.Test.YtognedbehplaeaaDref
set_option linter.unusedVariables false
namespace Go.Proofs.Ytognedbehplaeaa
open Go.RowKit

/-- Five cells written. -/
theorem set5 {W : World} {g : Nat} {T : TypeId} {a0 a1 a2 a3 a4 : Value} (h : W.heap[g]? = some (.cells #[a0, a1, a2, a3, a4] T (0, 0))) (v1 v2 v3 v4 v5 : Value) :
    (((((W.setCell ⟨g, 0, none⟩ v1).setCell ⟨g, 1, none⟩ v2).setCell ⟨g, 2, none⟩ v3).setCell ⟨g, 3, none⟩ v4).setCell ⟨g, 4, none⟩ v5).heap[g]? = some (.cells #[v1, v2, v3, v4, v5] T (0, 0)) := by
  have r6 := at_set (at_set (at_set (at_set (at_set h 0 v1) 1 v2) 2 v3) 3 v4) 4 v5
  have e : (((((#[a0, a1, a2, a3, a4] : Array Value).setIfInBounds 0 v1).setIfInBounds 1 v2).setIfInBounds 2 v3).setIfInBounds 3 v4).setIfInBounds 4 v5 = #[v1, v2, v3, v4, v5] := rfl
  rw [e] at r6
  exact r6
theorem far5 {W : World} {g b : Nat} {o : Obj} (h : W.heap[b]? = some o) (hne : b ≠ g) (v1 v2 v3 v4 v5 : Value) :
    (((((W.setCell ⟨g, 0, none⟩ v1).setCell ⟨g, 1, none⟩ v2).setCell ⟨g, 2, none⟩ v3).setCell ⟨g, 3, none⟩ v4).setCell ⟨g, 4, none⟩ v5).heap[b]? = some o := by
  have f := fun (W : World) (p : Addr) (v : Value) (hp : p.block = g) => Below.heap_setCell W p v b (by rw [hp]; exact hne)
  exact (f _ _ _ rfl).trans ((f _ _ _ rfl).trans ((f _ _ _ rfl).trans ((f _ _ _ rfl).trans ((f _ _ _ rfl).trans h))))
theorem Kept.set5 {F : Nat → Prop} {w W : World} (h : Kept F w W) {g : Nat} (hg : F g ∨ w.heap.size ≤ g) (v1 v2 v3 v4 v5 : Value) :
    Kept F w (((((W.setCell ⟨g, 0, none⟩ v1).setCell ⟨g, 1, none⟩ v2).setCell ⟨g, 2, none⟩ v3).setCell ⟨g, 3, none⟩ v4).setCell ⟨g, 4, none⟩ v5) :=
  ((((h.set (p := ⟨g, 0, none⟩) hg _).set (p := ⟨g, 1, none⟩) hg _).set (p := ⟨g, 2, none⟩) hg _).set (p := ⟨g, 3, none⟩) hg _).set (p := ⟨g, 4, none⟩) hg _

set_option maxHeartbeats 1000000 in
set_option maxRecDepth 100000 in
theorem rfill_calls (A : Option Addr) (D : List Int) (n c : Nat) (locked : Bool) (fault reqs flushes : Int) (B : Option Addr) (l : List Int) (m cB : Nat) (w : World) (hd : Sl w No A (by8 D)) (hn : D.length = n) (hl : Sl w No B (by8 l)) (hm : l.length = m) (hn1 : n ≤ 1000000) (hm1 : m ≤ 900000) :
    Calls Try.prog 87 #[.agg #[.slice A n c, .bool locked, .int .u64 fault, .int .u64 reqs, .int .u64 flushes], .slice B m cB] w (LayPost w (layL D l 0 ((m + 511) / 512 * 512)) locked fault reqs flushes) := by
  obtain ⟨k, hk⟩ : ∃ k, (m + 511) / 512 * 512 = k := ⟨_, rfl⟩
  rw [hk]
  have hkd : ((m : Int) + 511).tdiv 512 * 512 = (k : Nat) := by
    rw [Int.tdiv_eq_ediv_of_nonneg (by omega)]
    omega
  have hk1 : k ≤ 1000000 := by omega
  have HL : Hid (∀ W, Kept No w W → Calls Try.prog 136 #[.agg #[.slice A n c, .bool locked, .int .u64 fault, .int .u64 reqs, .int .u64 flushes], .int .i64 0, .slice B m cB, .int .i64 k] W (LayPost W (layL D l 0 k) locked fault reqs flushes)) := hid (fun W h => by
    have := rlay_calls A D n c locked fault reqs flushes 0 k B l m cB W (hd.no h) hn (hl.no h) hm hn1 (by omega) hk1 (by omega)
    exact this)
  generalize layL D l 0 k = R at *
  clear hd hn hl hm hk
  go_enter Try.func87, Try.ntmps87
  go_wp2_with fail
  refine (HL.out _ (((Kept.refl No w).alloc _).alloc _)).mono ?_
  rintro e w2 ⟨b, rfl, hb, hB, hk2⟩
  have hr := at_new (w.alloc (.cells #[.slice A n c, .bool locked, .int .u64 fault, .int .u64 reqs, .int .u64 flushes] 72)) (.cells #[.slice none 0 0, .bool false, .int .u64 0, .int .u64 0, .int .u64 0] 72)
  rw [World.size_alloc] at hr
  have hr2 := at_kept hr hk2 (fun h => h)
  have HB := hid hB
  have HK := hid ((((Kept.refl No w).alloc _).alloc _).trans hk2)
  have HR := hid hr2
  have hbb : w.heap.size + 1 + 1 ≤ b := by rw [World.size_alloc, World.size_alloc] at hb; exact hb
  have r0 := fun i => cells_of hr2 i
  have f0 := frozen_of hr2
  clear hr hr2 hB hk2 hb
  go_wp2
  have hq := fun i => cells_of (set5 HR.out (.slice (some ⟨b, 0, none⟩) R.length R.length) (.bool locked) (.int .u64 fault) (.int .u64 reqs) (.int .u64 flushes)) i
  refine bodyPost_ret (v := .agg #[.slice (some ⟨b, 0, none⟩) R.length R.length, .bool locked, .int .u64 fault, .int .u64 reqs, .int .u64 flushes]) (by simp [results, Try.results87, go_sem, hq]) (by with_reducible rfl) ⟨b, rfl, by omega, far5 HB.out (by omega) _ _ _ _ _, HK.out.set5 (.inr (by omega)) _ _ _ _ _⟩
end Go.Proofs.Ytognedbehplaeaa
