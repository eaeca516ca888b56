/- Law 19's disks: none. -/
import Derived.Test.YtognedbehplaeaaLdisk
set_option linter.unusedVariables false
namespace Go.Proofs.Ytognedbehplaeaa
open Go.RowKit

/-- What law 19's Disk ends in when there is none. -/
def LDiskNo (locked : Bool) (w : World) (e : Ending) (w' : World) : Prop :=
  ∃ b : Nat, e = .returned (.tuple #[.pointer none, .agg #[.slice (some ⟨b, 0, none⟩) 2048 2048, .bool locked, .int .u64 0, .int .u64 0, .int .u64 0]]) ∧ Kept No w w'
set_option maxHeartbeats 1000000 in
set_option maxRecDepth 100000 in
theorem ldisk_no (locked : Bool) (A : Option Addr) (l : List Int) (n c : Nat) (fault : Int) (nm : ByteArray) (w : World) (hs : Sl w No A (by8 l)) (hb : Byt l) (hn : l.length = n) (hc : n ≤ c) (hf : 0 ≤ fault ∧ fault ≤ 18446744073709551615) (hno : 64 < n ∨ n ≤ 64 ∧ 100 < nm.size) (hnl : n ≤ 9223372036854775807) :
    Calls Try.prog 28 #[.agg #[.bool locked, .slice A n c, .int .u64 fault, .string nm]] w (LDiskNo locked w) := by
  have HS := hid hs
  have HB := hid hb
  have HN := hid hn
  have hs0 := at_alloc (at_new w (.cells #[.bool locked, .slice A n c, .int .u64 fault, .string nm] 67)) (.cells #[.slice none 0 0, .bool false, .int .u64 0, .int .u64 0, .int .u64 0] 72)
  have hy0 := at_new (w.alloc (.cells #[.bool locked, .slice A n c, .int .u64 fault, .string nm] 67)) (.cells #[.slice none 0 0, .bool false, .int .u64 0, .int .u64 0, .int .u64 0] 72)
  rw [World.size_alloc] at hy0
  have HS0 := hid hs0
  have HY0 := hid hy0
  have HK0 := hid (((Kept.refl No w).alloc (.cells #[.bool locked, .slice A n c, .int .u64 fault, .string nm] 67)).alloc (.cells #[.slice none 0 0, .bool false, .int .u64 0, .int .u64 0, .int .u64 0] 72))
  clear hs hb hn hs0 hy0
  go_enter Try.func28, Try.ntmps28
  go_wp2_with fail
  refine (rdnew_calls locked _).mono ?_
  rintro e w1 ⟨b0, rfl, hb0, hB0, hk1⟩
  rw [List.length_replicate]
  have hs1 := at_alloc (at_kept HS0.out hk1 (fun h => h)) (.cells #[.slice (some ⟨b0, 0, none⟩) 2048 2048, .bool locked, .int .u64 0, .int .u64 0, .int .u64 0] 72)
  have hy1 := at_alloc (at_kept HY0.out hk1 (fun h => h)) (.cells #[.slice (some ⟨b0, 0, none⟩) 2048 2048, .bool locked, .int .u64 0, .int .u64 0, .int .u64 0] 72)
  have hz1 := at_alloc hB0 (.cells #[.slice (some ⟨b0, 0, none⟩) 2048 2048, .bool locked, .int .u64 0, .int .u64 0, .int .u64 0] 72)
  have hd1 := at_new w1 (.cells #[.slice (some ⟨b0, 0, none⟩) 2048 2048, .bool locked, .int .u64 0, .int .u64 0, .int .u64 0] 72)
  have hk1' := (HK0.out.trans hk1).alloc (.cells #[.slice (some ⟨b0, 0, none⟩) 2048 2048, .bool locked, .int .u64 0, .int .u64 0, .int .u64 0] 72)
  have hc1 := fun i => cells_of hs1 i
  have HS1 := hid hs1
  have HY1 := hid hy1
  have HZ1 := hid hz1
  have HD1 := hid hd1
  have HK1 := hid hk1'
  have hsz := hk1.size
  have hb0w := lt_of hB0
  rw [World.size_alloc, World.size_alloc] at hsz
  clear hs1 hy1 hz1 hd1 hk1' hb0 hB0 hk1
  go_wp2_with fail
  refine (dnew_calls 4 locked _ (by omega)).mono ?_
  rintro e w2 ⟨p, F, rfl, hD, hk2, hF⟩
  have HS2 := hid (at_kept HS1.out hk2 (fun h => h))
  have HY2 := hid (at_kept HY1.out hk2 (fun h => h))
  have HZ2 := hid (at_kept HZ1.out hk2 (fun h => h))
  have HD2 := hid (at_kept HD1.out hk2 (fun h => h))
  have HK2 := hid (HK1.out.trans hk2)
  have HDI := hid hD
  have HF := hid hF
  have c2 := fun i => cells_of HS2.out i
  have cd2 := fun i => cells_of HD2.out i
  have cy2 := fun i => cells_of HY2.out i
  have fy2 := frozen_of HY2.out
  clear hc1 hD hk2 hF
  rcases hno with h1 | ⟨h1, h2⟩
  · have h1' : (64 : Int) < n := by omega
    clear h1
    go_wp2_with fail
    go_region
    go_wp2
    have hq : ∀ i, ((((((w2.setCell ⟨w.heap.size + 1, 0, none⟩ (.slice (some ⟨b0, 0, none⟩) 2048 2048)).setCell ⟨w.heap.size + 1, 1, none⟩ (.bool locked)).setCell ⟨w.heap.size + 1, 2, none⟩ (.int .u64 0)).setCell ⟨w.heap.size + 1, 3, none⟩ (.int .u64 0)).setCell ⟨w.heap.size + 1, 4, none⟩ (.int .u64 0)).drew).cell? ⟨w.heap.size + 1, i, none⟩ = (#[.slice (some ⟨b0, 0, none⟩) 2048 2048, .bool locked, .int .u64 0, .int .u64 0, .int .u64 0] : Array Value)[i]? := fun i => cells_of (w := ((((((w2.setCell ⟨w.heap.size + 1, 0, none⟩ (.slice (some ⟨b0, 0, none⟩) 2048 2048)).setCell ⟨w.heap.size + 1, 1, none⟩ (.bool locked)).setCell ⟨w.heap.size + 1, 2, none⟩ (.int .u64 0)).setCell ⟨w.heap.size + 1, 3, none⟩ (.int .u64 0)).setCell ⟨w.heap.size + 1, 4, none⟩ (.int .u64 0)).drew)) (set5 HY2.out (.slice (some ⟨b0, 0, none⟩) 2048 2048) (.bool locked) (.int .u64 0) (.int .u64 0) (.int .u64 0)) i
    refine bodyPost_ret (v := .tuple #[.pointer none, .agg #[.slice (some ⟨b0, 0, none⟩) 2048 2048, .bool locked, .int .u64 0, .int .u64 0, .int .u64 0]]) (by simp [results, Try.results28, go_sem, hq]) (by with_reducible rfl) ⟨b0, rfl, (HK2.out.set5 (.inr (by omega)) _ _ _ _ _).drew⟩
  · have h1' : ¬ (64 : Int) < n := by omega
    have h2' : (100 : Int) < nm.size := by omega
    clear h1 h2
    go_wp2_with fail
    go_region
    go_wp2
    have hq : ∀ i, ((((((w2.setCell ⟨w.heap.size + 1, 0, none⟩ (.slice (some ⟨b0, 0, none⟩) 2048 2048)).setCell ⟨w.heap.size + 1, 1, none⟩ (.bool locked)).setCell ⟨w.heap.size + 1, 2, none⟩ (.int .u64 0)).setCell ⟨w.heap.size + 1, 3, none⟩ (.int .u64 0)).setCell ⟨w.heap.size + 1, 4, none⟩ (.int .u64 0)).drew).cell? ⟨w.heap.size + 1, i, none⟩ = (#[.slice (some ⟨b0, 0, none⟩) 2048 2048, .bool locked, .int .u64 0, .int .u64 0, .int .u64 0] : Array Value)[i]? := fun i => cells_of (w := ((((((w2.setCell ⟨w.heap.size + 1, 0, none⟩ (.slice (some ⟨b0, 0, none⟩) 2048 2048)).setCell ⟨w.heap.size + 1, 1, none⟩ (.bool locked)).setCell ⟨w.heap.size + 1, 2, none⟩ (.int .u64 0)).setCell ⟨w.heap.size + 1, 3, none⟩ (.int .u64 0)).setCell ⟨w.heap.size + 1, 4, none⟩ (.int .u64 0)).drew)) (set5 HY2.out (.slice (some ⟨b0, 0, none⟩) 2048 2048) (.bool locked) (.int .u64 0) (.int .u64 0) (.int .u64 0)) i
    refine bodyPost_ret (v := .tuple #[.pointer none, .agg #[.slice (some ⟨b0, 0, none⟩) 2048 2048, .bool locked, .int .u64 0, .int .u64 0, .int .u64 0]]) (by simp [results, Try.results28, go_sem, hq]) (by with_reducible rfl) ⟨b0, rfl, (HK2.out.set5 (.inr (by omega)) _ _ _ _ _).drew⟩
end Go.Proofs.Ytognedbehplaeaa
