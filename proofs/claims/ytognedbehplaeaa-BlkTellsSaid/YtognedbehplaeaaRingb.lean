/- Descriptors of the document's memory. -/
import Derived.Test.YtognedbehplaeaaRing
import Derived.Deep.RegionHeld3
set_option linter.unusedVariables false
namespace Go.Proofs.Ytognedbehplaeaa
open Go.RowKit

/-- Where the reading of a descriptor stands. -/
structure InDesc (w : World) (size : Int) (A : Option Addr) (n c : Nat) (g : Int → Int) (bs : List (Int × Int)) (N : Nat → Prop) (W : World) : Prop where
  box : W.heap[w.heap.size]? = some (.cells #[.int .u64 size, .slice A n c] 32 (0, 0))
  ret : W.heap[w.heap.size + 1]? = some (.cells #[.int .u64 0, .int .u32 0, .int .u16 0, .int .u16 0] 165 (0, 0))
  mem : RefM W N A n size g bs
  kept : Kept No w W
section
variable {w W W' : World} {size : Int} {A : Option Addr} {n c : Nat} {g : Int → Int} {bs : List (Int × Int)} {N : Nat → Prop}
theorem InDesc.no (h : InDesc w size A n c g bs N W) (k : Kept No W W') : InDesc w size A n c g bs N W' := ⟨at_kept h.box k (fun h => h), at_kept h.ret k (fun h => h), h.mem.no k, h.kept.trans k⟩
theorem InDesc.drew (h : InDesc w size A n c g bs N W) : InDesc w size A n c g bs N W.drew := h.no ((Kept.refl _ _).drew)
theorem InDesc.cells (h : InDesc w size A n c g bs N W) (i : Nat) : W.cell? ⟨w.heap.size, i, none⟩ = (#[.int .u64 size, .slice A n c] : Array Value)[i]? := cells_of h.box i
theorem InDesc.rcells (h : InDesc w size A n c g bs N W) (i : Nat) : W.cell? ⟨w.heap.size + 1, i, none⟩ = (#[.int .u64 0, .int .u32 0, .int .u16 0, .int .u16 0] : Array Value)[i]? := cells_of h.ret i
theorem InDesc.rfree (h : InDesc w size A n c g bs N W) (i : Nat) : W.frozen? ⟨w.heap.size + 1, i, none⟩ = false := frozen_of h.ret i
end
set_option maxHeartbeats 300000 in
set_option maxRecDepth 100000 in
theorem rdesc_yes (size : Int) (A : Option Addr) (n c : Nat) (t i : Int) (g : Int → Int) (bs : List (Int × Int)) (N : Nat → Prop) (w : World) (h : RefM w N A n size g bs) (ht : 0 ≤ t ∧ t ≤ 18446744073709551615) (hi : 0 ≤ i ∧ i < 256) (hok : inside ((t + 16 * i) % 18446744073709551616) 16 2147483648 size = true) :
    Calls Try.prog 135 #[.agg #[.int .u64 size, .slice A n c], .int .u64 t, .int .i64 i] w (DescPost (descAt g ((t + 16 * i) % 18446744073709551616 - 2147483648)) true w) := by
  have hs := h.size
  have hin := inside_true hok
  obtain ⟨i0, i1⟩ := hi
  obtain ⟨t0, t1⟩ := ht
  obtain ⟨a, ha⟩ : ∃ a, a = (t + 16 * i) % 18446744073709551616 := ⟨_, rfl⟩
  have hw : IntKind.u64.wrap (t + 16 * i) = a := by rw [IntKind.wrap_u64, ha]
  rw [← ha] at hok hin ⊢
  have a0 : 0 ≤ a := by omega
  have a1 : a ≤ 18446744073709551615 := by omega
  obtain ⟨hin1, hin2, hin3⟩ := hin
  clear ha
  go_enter Try.func135, Try.ntmps135
  go_wp2_with fail
  refine (rhas_calls _ _ _ _ _ _ _ hs (by omega) (by omega)).mono ?_
  rintro e w1 ⟨rfl, hk1⟩
  have hI : InDesc w size A n c g bs N w1 := by
    have e1 : (w.alloc (.cells #[.int .u64 size, .slice A n c] 32)).heap.size = w.heap.size + 1 := by simp
    have hR := at_kept (at_new (w.alloc (.cells #[.int .u64 size, .slice A n c] 32)) (.cells #[.int .u64 0, .int .u32 0, .int .u16 0, .int .u16 0] 165)) hk1 (fun h => h)
    rw [e1] at hR
    have hK := (((Kept.refl No w).alloc (.cells #[.int .u64 size, .slice A n c] 32)).alloc (.cells #[.int .u64 0, .int .u32 0, .int .u16 0, .int .u16 0] 165)).trans hk1
    exact ⟨at_kept (at_alloc (at_new w _) _) hk1 (fun h => h), hR, h.no hK, hK⟩
  have c0 := hI.cells
  have r0 := hI.rcells
  have f0 := hI.rfree
  have HI := hid hI
  clear hI hk1
  have hd := descAt_ok h.byte (a - 2147483648)
  obtain ⟨x8, hx8⟩ : ∃ x, x = a + 8 := ⟨_, rfl⟩
  obtain ⟨x12, hx12⟩ : ∃ x, x = a + 12 := ⟨_, rfl⟩
  obtain ⟨x14, hx14⟩ : ∃ x, x = a + 14 := ⟨_, rfl⟩
  have v1 : wordS g size a 8 = le (rdl g (a - 2147483648) 8) := if_pos (in_of (by omega))
  have v2 : wordS g size x8 4 = le (rdl g (a - 2147483648 + 8) 4) := by
    rw [hx8, wordS, if_pos (in_of (by omega)), show a + 8 - 2147483648 = a - 2147483648 + 8 from by omega]; rfl
  have v3 : wordS g size x12 2 = le (rdl g (a - 2147483648 + 12) 2) := by
    rw [hx12, wordS, if_pos (in_of (by omega)), show a + 12 - 2147483648 = a - 2147483648 + 12 from by omega]; rfl
  have v4 : wordS g size x14 2 = le (rdl g (a - 2147483648 + 14) 2) := by
    rw [hx14, wordS, if_pos (in_of (by omega)), show a + 14 - 2147483648 = a - 2147483648 + 14 from by omega]; rfl
  have k1 : IntKind.u32.wrap (wordS g size x8 4) = wordS g size x8 4 := by have := hd.len; simp only [descAt] at this; rw [v2, IntKind.wrap_u32]; omega
  have k2 : IntKind.u16.wrap (wordS g size x12 2) = wordS g size x12 2 := by have := hd.flags; simp only [descAt] at this; rw [v3, IntKind.wrap_u16]; omega
  have k3 : IntKind.u16.wrap (wordS g size x14 2) = wordS g size x14 2 := by have := hd.next; simp only [descAt] at this; rw [v4, IntKind.wrap_u16]; omega
  have HV := hid (And.intro v1 (And.intro v2 (And.intro v3 v4)))
  have B0 : Hid (0 ≤ a ∧ a ≤ 18446744073709551615) := hid ⟨a0, a1⟩
  have B8 : Hid (0 ≤ x8 ∧ x8 ≤ 18446744073709551615) := hid (by omega)
  have B12 : Hid (0 ≤ x12 ∧ x12 ≤ 18446744073709551615) := hid (by omega)
  have B14 : Hid (0 ≤ x14 ∧ x14 ≤ 18446744073709551615) := hid (by omega)
  have q8 : IntKind.u64.wrap (a + 8) = x8 := by rw [hx8]; exact w64 _ (by omega) (by omega)
  have q12 : IntKind.u64.wrap (a + 12) = x12 := by rw [hx12]; exact w64 _ (by omega) (by omega)
  have q14 : IntKind.u64.wrap (a + 14) = x14 := by rw [hx14]; exact w64 _ (by omega) (by omega)
  clear hd h v1 v2 v3 v4 hx8 hx12 hx14
  generalize hw4 : wordS g size x8 4 = y8 at *
  generalize hw2 : wordS g size x12 2 = y12 at *
  generalize hw2' : wordS g size x14 2 = y14 at *
  have W4 := hid hw4
  have W2 := hid hw2
  have W1 := hid hw2'
  clear hw4 hw2 hw2'
  go_wp2
  clear hw hin1 hin2 hin3 t0 t1 a0 a1 hs
  go_region_held3 (fun W => W.cell? ⟨w.heap.size, 0, none⟩ = some (.int .u64 size) ∧ W.cell? ⟨w.heap.size, 1, none⟩ = some (.slice A n c))
    (first | (with_reducible exact ⟨HI.out.cells 0, HI.out.cells 1⟩) | (with_reducible exact ⟨HI.out.drew.cells 0, HI.out.drew.cells 1⟩) | go_keep)
    ((go_at_call 98; ((with_reducible refine (rword_calls _ _ _ _ _ _ g bs N _ ?_ ?_ ?_).mono ?_); (first | (with_reducible exact HI.out.mem) | (with_reducible exact HI.out.drew.mem)); (first | exact B0.out | exact B8.out | exact B12.out | exact B14.out); decide; rintro e w2 ⟨rfl, hk2⟩; (try rw [W4.out]); (try rw [W2.out]); (try rw [W1.out]); have HI2 : Hid (InDesc w size A n c g bs N w2) := (by first | (with_reducible exact hid (HI.out.no hk2)) | (with_reducible exact hid (HI.out.drew.no hk2))); clear HI; have HI := HI2; clear HI2; clear c0 r0 f0; have c0 := HI.out.cells; have r0 := HI.out.rcells; have f0 := HI.out.rfree; clear hk2)))
  all_goals go_wp2
  have hr := at_set (at_set (at_set (at_set HI.out.ret 0 (.int .u64 (wordS g size a 8))) 1 (.int .u32 y8)) 2 (.int .u16 y12)) 3 (.int .u16 y14)
  have hq := fun i => cells_of hr i
  have he : (descAt g (a - 2147483648)).val = .agg #[.int .u64 (wordS g size a 8), .int .u32 y8, .int .u16 y12, .int .u16 y14] := by
    rw [HV.out.1, HV.out.2.1, HV.out.2.2.1, HV.out.2.2.2]; rfl
  refine bodyPost_ret (v := .tuple #[(descAt g (a - 2147483648)).val, .bool true]) (by rw [he]; simp [results, Try.results135, go_sem, hq]) rfl ⟨rfl, ?_⟩
  exact ((((HI.out.kept.set (.inr (Nat.le_succ _)) _).set (.inr (Nat.le_succ _)) _).set (.inr (Nat.le_succ _)) _).set (.inr (Nat.le_succ _)) _)

/-- No such descriptor. -/
theorem descOk_no {size t i : Int} (h : descOk size t i = false) : i < 0 ∨ 256 ≤ i ∨ inside ((t + 16 * i) % 18446744073709551616) 16 2147483648 size = false := by
  unfold descOk at h
  rw [Bool.and_eq_false_iff] at h
  rcases h with h | h
  · have := of_decide_eq_false h; omega
  · exact .inr (.inr h)

theorem desc_zero_val : DescV.val ⟨0, 0, 0, 0⟩ = .agg #[.int .u64 0, .int .u32 0, .int .u16 0, .int .u16 0] := rfl

set_option maxRecDepth 100000 in
theorem desc_no (p : Nat) (F : Nat → Prop) (size : Int) (g : Int → Int) (t i : Int) (w : World) (h : RamAt w p F size g) (ht : 0 ≤ t ∧ t ≤ 18446744073709551615) (hno : descOk size t i = false) :
    Calls Try.prog 133 #[.pointer (some ⟨p, 0, none⟩), .int .u64 t, .int .i64 i] w (DescPost ⟨0, 0, 0, 0⟩ false w) := by
  have hr := at_new w (.cells #[.int .u64 0, .int .u32 0, .int .u16 0, .int .u16 0] 165)
  have c0 := fun i => cells_of hr i
  have f0 := frozen_of hr
  have HR := hid hr
  have HK := hid ((Kept.refl No w).alloc (.cells #[.int .u64 0, .int .u32 0, .int .u16 0, .int .u16 0] 165))
  clear hr
  by_cases hi : 0 ≤ i ∧ i < 256
  · have hin : inside ((t + 16 * i) % 18446744073709551616) 16 2147483648 size = false := by
      rcases descOk_no hno with h1 | h1 | h1
      · omega
      · omega
      · exact h1
    obtain ⟨i0, i1⟩ := hi
    obtain ⟨t0, t1⟩ := ht
    obtain ⟨a, ha⟩ : ∃ a, a = (t + 16 * i) % 18446744073709551616 := ⟨_, rfl⟩
    have hw : IntKind.u64.wrap (t + 16 * i) = a := by rw [IntKind.wrap_u64, ha]
    rw [← ha] at hin
    have a0 : 0 ≤ a ∧ a ≤ 18446744073709551615 := by omega
    clear ha hno
    go_enter Try.func133, Try.ntmps133
    go_wp2_with fail
    refine (read_no _ _ _ _ _ _ _ (h.no HK.out) a0 (by omega) hin).mono ?_
    rintro e w1 ⟨rfl, rfl⟩
    go_wp2
    refine bodyPost_ret (v := .tuple #[DescV.val ⟨0, 0, 0, 0⟩, .bool false]) (by simp [results, Try.results133, go_sem, desc_zero_val]) rfl ⟨rfl, ?_⟩
    exact HK.out
  · have hcase : i < 0 ∨ 256 ≤ i := by omega
    clear hi hno ht
    rcases hcase with hi | hi
    all_goals
      go_enter Try.func133, Try.ntmps133
      go_wp2
      refine bodyPost_ret (v := .tuple #[DescV.val ⟨0, 0, 0, 0⟩, .bool false]) (by simp [results, Try.results133, go_sem, desc_zero_val]) rfl ⟨rfl, ?_⟩
      exact HK.out

theorem descS_yes {g : Int → Int} {size t i : Int} (h : descOk size t i = true) : descS g size t i = descAt g ((t + 16 * i) % 18446744073709551616 - 2147483648) := if_pos h
theorem descS_no {g : Int → Int} {size t i : Int} (h : descOk size t i = false) : descS g size t i = ⟨0, 0, 0, 0⟩ := if_neg (by simp [h])
theorem descOk_yes {size t i : Int} (h : descOk size t i = true) : (0 ≤ i ∧ i < 256) ∧ inside ((t + 16 * i) % 18446744073709551616) 16 2147483648 size = true := by
  unfold descOk at h
  rw [Bool.and_eq_true] at h
  exact ⟨of_decide_eq_true h.1, h.2⟩
theorem desc_calls' (p : Nat) (F : Nat → Prop) (size : Int) (g : Int → Int) (t i : Int) (w : World) (h : RamAt w p F size g) (ht : 0 ≤ t ∧ t ≤ 18446744073709551615) :
    Calls Try.prog 133 #[.pointer (some ⟨p, 0, none⟩), .int .u64 t, .int .i64 i] w (DescPost (descS g size t i) (descOk size t i) w) := by
  cases ho : descOk size t i with
  | true => rw [descS_yes ho]; exact desc_calls p F size g t i w h ht (descOk_yes ho).1 (descOk_yes ho).2
  | false => rw [descS_no ho]; exact desc_no p F size g t i w h ht ho

set_option maxRecDepth 100000 in
theorem rdesc_no (size : Int) (A : Option Addr) (n c : Nat) (t i : Int) (w : World) (hs : 0 ≤ size ∧ size ≤ 268435456) (ht : 0 ≤ t ∧ t ≤ 18446744073709551615) (hno : descOk size t i = false) :
    Calls Try.prog 135 #[.agg #[.int .u64 size, .slice A n c], .int .u64 t, .int .i64 i] w (DescPost ⟨0, 0, 0, 0⟩ false w) := by
  have HK := hid (((Kept.refl No w).alloc (.cells #[.int .u64 size, .slice A n c] 32)).alloc (.cells #[.int .u64 0, .int .u32 0, .int .u16 0, .int .u16 0] 165))
  have c0 : ∀ o i, ((w.alloc (.cells #[.int .u64 size, .slice A n c] 32)).alloc o).cell? ⟨w.heap.size, i, none⟩ = (#[.int .u64 size, .slice A n c] : Array Value)[i]? := fun o i => cells_of (at_alloc (at_new w _) o) i
  by_cases hi : 0 ≤ i ∧ i < 256
  · have hin : inside ((t + 16 * i) % 18446744073709551616) 16 2147483648 size = false := by
      rcases descOk_no hno with h1 | h1 | h1
      · omega
      · omega
      · exact h1
    obtain ⟨i0, i1⟩ := hi
    obtain ⟨t0, t1⟩ := ht
    obtain ⟨a, ha⟩ : ∃ a, a = (t + 16 * i) % 18446744073709551616 := ⟨_, rfl⟩
    have hw : IntKind.u64.wrap (t + 16 * i) = a := by rw [IntKind.wrap_u64, ha]
    rw [← ha] at hin
    have a0 : 0 ≤ a ∧ a ≤ 18446744073709551615 := by omega
    clear ha hno
    go_enter Try.func135, Try.ntmps135
    go_wp2_with fail
    refine (rhas_calls _ _ _ _ _ _ _ hs a0 (by omega)).mono ?_
    rintro e w1 ⟨rfl, hk1⟩
    have hR := at_kept (at_new (w.alloc (.cells #[.int .u64 size, .slice A n c] 32)) (.cells #[.int .u64 0, .int .u32 0, .int .u16 0, .int .u16 0] 165)) hk1 (fun h => h)
    have e1 : (w.alloc (.cells #[.int .u64 size, .slice A n c] 32)).heap.size = w.heap.size + 1 := by simp
    rw [e1] at hR
    have r0 := fun i => cells_of hR i
    have f0 := frozen_of hR
    have HR := hid hR
    have HK1 := hid (HK.out.trans hk1)
    clear hR hk1 e1 c0
    go_wp2
    have hr := at_set (at_set (at_set (at_set HR.out 0 (.int .u64 0)) 1 (.int .u32 0)) 2 (.int .u16 0)) 3 (.int .u16 0)
    have hq := fun i => cells_of hr i
    refine bodyPost_ret (v := .tuple #[DescV.val ⟨0, 0, 0, 0⟩, .bool false]) (by simp [results, Try.results135, go_sem, hq, desc_zero_val]) rfl ⟨rfl, ?_⟩
    exact ((((HK1.out.set (.inr (Nat.le_succ _)) _).set (.inr (Nat.le_succ _)) _).set (.inr (Nat.le_succ _)) _).set (.inr (Nat.le_succ _)) _)
  · have hcase : i < 0 ∨ 255 < i := by omega
    clear hi hno ht
    rcases hcase with hi | hi
    all_goals
      go_enter Try.func135, Try.ntmps135
      go_wp2
      refine bodyPost_ret (v := .tuple #[DescV.val ⟨0, 0, 0, 0⟩, .bool false]) (by simp [results, Try.results135, go_sem, desc_zero_val]) rfl ⟨rfl, ?_⟩
      exact HK.out
theorem rdesc_calls (size : Int) (A : Option Addr) (n c : Nat) (t i : Int) (g : Int → Int) (bs : List (Int × Int)) (N : Nat → Prop) (w : World) (h : RefM w N A n size g bs) (ht : 0 ≤ t ∧ t ≤ 18446744073709551615) :
    Calls Try.prog 135 #[.agg #[.int .u64 size, .slice A n c], .int .u64 t, .int .i64 i] w (DescPost (descS g size t i) (descOk size t i) w) := by
  cases ho : descOk size t i with
  | true => rw [descS_yes ho]; exact rdesc_yes size A n c t i g bs N w h ht (descOk_yes ho).1 (descOk_yes ho).2
  | false => rw [descS_no ho]; exact rdesc_no size A n c t i w h.size ht ho
end Go.Proofs.Ytognedbehplaeaa
