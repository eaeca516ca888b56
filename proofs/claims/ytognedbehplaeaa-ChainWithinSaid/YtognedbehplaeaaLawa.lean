/- Layer 16's example: the program is awake. -/
import Derived.Test.YtognedbehplaeaaChainc
import Derived.Test.YtognedbehplaeaaRefw
set_option linter.unusedVariables false
namespace Go.Proofs.Ytognedbehplaeaa
open Go.RowKit

theorem awake_one : walkS (fun _ => 0) 4096 2147483648 2 0 false = ⟨21, [], 0, 0⟩ := by kernel_rfl
theorem awake_two : walkS (wr (wr (fun _ => 0) 12 (wby 1 2)) 0 (wby 2147483648 8)) 4096 2147483648 2 0 false = ⟨152, [], 0, 0⟩ := by kernel_rfl

set_option maxHeartbeats 1000000 in
set_option maxRecDepth 100000 in
theorem awake16_calls (w : World) : Calls Try.prog 15 #[] w fun e w' => e = .returned (.bool true) ∧ Kept No w w' := by
  go_enter Try.func15, Try.ntmps15
  go_wp2_with fail
  refine (new_calls 4096 _ (by omega) (by omega) (by omega)).mono ?_
  rintro e w1 ⟨p, F, rfl, hR, hk1, hF⟩
  have hl0 := at_new w1 (.cells #[.int .i64 2, .int .u64 2147483648, .int .u64 2147483904, .int .u64 2147484160] 25)
  have hR1 := hR.no ((Kept.refl No w1).alloc (.cells #[.int .i64 2, .int .u64 2147483648, .int .u64 2147483904, .int .u64 2147484160] 25))
  have hk1a := hk1.alloc (.cells #[.int .i64 2, .int .u64 2147483648, .int .u64 2147483904, .int .u64 2147484160] 25)
  have HL := hid hl0
  have HK1 := hid hk1a
  have HF := hid hF
  have HLT := hid hR.lt
  clear hl0 hk1 hk1a hF
  go_wp2_with fail
  refine (walk_calls p F 4096 (fun _ => 0) 2147483648 2147483904 2147484160 0 2 false _ hR1 (by omega) (by omega)).mono ?_
  rw [show ((2 : Nat) : Int) = 2 from rfl, awake_one]
  rintro e w2 ⟨A, k, rfl, -, hk2⟩
  have hR2 := (hR1.no hk2).no ((Kept.refl No w2).alloc (.cells #[.slice A 0 k, .int .u64 0, .int .u64 0] 40))
  have HL2 := hid (at_alloc (at_kept HL.out hk2 (fun h => h)) (.cells #[.slice A 0 k, .int .u64 0, .int .u64 0] 40))
  have HC2 := hid (at_new w2 (.cells #[.slice A 0 k, .int .u64 0, .int .u64 0] 40))
  have HK2 := hid ((HK1.out.trans hk2).alloc (.cells #[.slice A 0 k, .int .u64 0, .int .u64 0] 40))
  have HZ : Hid (w1.heap.size < w2.heap.size) := hid (Nat.lt_of_lt_of_le (by simp) hk2.size)
  have HLT2 := hid (fun b hb => Nat.lt_trans (HLT.out b hb) HZ.out)
  simp only [List.length_nil]
  clear hk2 hR1
  go_wp2_with fail
  refine (store_calls p F 4096 (fun _ => 0) 2147483660 2 1 _ hR2 (by omega) (by omega)).mono ?_
  rw [show okw 2147483660 2 4096 = true from by decide, if_pos rfl]
  rintro e w3 ⟨F3, rfl, hR3, hC3⟩
  have HL3 := hid (at_kept HL2.out hC3.kept (fun h => by have := HLT.out _ h; omega))
  have HC3 := hid (at_kept HC2.out hC3.kept (fun h => by have := HLT2.out _ h; omega))
  have HK3 : Hid (Kept No w w3) := hid (HK2.out.then_ hC3.kept (fun b hb => .inr (HF.out b hb)))
  have HN3 : Hid (∀ b, F3 b → w.heap.size ≤ b) := hid (fun b hb => by
    rcases hC3.new b hb with h | h
    · exact HF.out b h
    · have := HK2.out.size; omega)
  have HX3 : Hid (¬ F3 w1.heap.size ∧ ¬ F3 w2.heap.size) := hid ⟨fun h => by
    rcases hC3.new _ h with h | h
    · have := HLT.out _ h; omega
    · have := HZ.out; simp at h; omega, fun h => by
    rcases hC3.new _ h with h | h
    · have := HLT2.out _ h; omega
    · simp at h; omega⟩
  clear hC3 hR2
  go_wp2_with fail
  refine (store_calls p F3 4096 _ 2147483648 8 2147483648 _ hR3 (by omega) (by omega)).mono ?_
  rw [show okw 2147483648 8 4096 = true from by decide, if_pos rfl]
  rintro e w4 ⟨F4, rfl, hR4, hC4⟩
  have HL4 := hid (at_kept HL3.out hC4.kept HX3.out.1)
  have HC4 := hid (at_kept HC3.out hC4.kept HX3.out.2)
  have HK4 : Hid (Kept No w w4) := hid (HK3.out.then_ hC4.kept (fun b hb => .inr (HN3.out b hb)))
  have l0 := fun i => cells_of HL4.out i
  clear hC4 hR3
  go_wp2_with fail
  refine (walk_calls p F4 4096 _ 2147483648 2147483904 2147484160 0 2 false _ hR4 (by omega) (by omega)).mono ?_
  have e2 : walkS (wr (wr (fun _ => 0) (2147483660 - 2147483648) (wby 1 (2 : Int).toNat)) (2147483648 - 2147483648) (wby 2147483648 (8 : Int).toNat)) 4096 2147483648 ((2 : Nat) : Int) 0 false = ⟨152, [], 0, 0⟩ := awake_two
  rw [e2]
  rintro e w5 ⟨B, k5, rfl, -, hk5⟩
  have HK5 := hid (HK4.out.trans hk5)
  have c5 := fun o i => cells_of (at_alloc (at_kept HC4.out hk5 (fun h => h)) o) i
  simp only [List.length_nil]
  clear hk5 l0 e2 hR4
  go_wp2
  go_ret
  exact ⟨rfl, HK5.out.alloc _⟩
end Go.Proofs.Ytognedbehplaeaa
