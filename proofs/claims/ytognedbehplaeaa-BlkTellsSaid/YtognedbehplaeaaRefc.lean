/- The document's memory: bytes read; words out of bytes. -/
import Derived.Test.YtognedbehplaeaaRefb
set_option linter.unusedVariables false
namespace Go.Proofs.Ytognedbehplaeaa
open Go.RowKit

theorem RefM.no {w w' : World} {N : Nat → Prop} {A : Option Addr} {n : Nat} {size : Int} {g : Int → Int} {bs : List (Int × Int)} (h : RefM w N A n size g bs) (k : Kept No w w') : RefM w' N A n size g bs :=
  ⟨h.len, h.sl.no k, h.ok, h.same, h.size, h.byte, h.max⟩
theorem RefM.change {w w' : World} {F F' : Nat → Prop} {A : Option Addr} {n : Nat} {size : Int} {g : Int → Int} {bs : List (Int × Int)} (h : RefM w F A n size g bs) (k : Change F F' w w') : RefM w' F' A n size g bs :=
  ⟨h.len, h.sl.change k, h.ok, h.same, h.size, h.byte, h.max⟩
theorem look_in {g : Int → Int} {size a n : Int} (hi : inside a n 2147483648 size = true) {k : Nat} (hk : (k : Int) < n) : look g size (a + k) = g (a - 2147483648 + k) := by
  have := inside_true hi
  have h1 : inside (a + k) 1 2147483648 size = true := decide_eq_true (by omega)
  unfold look
  rw [if_pos h1]
  congr 1
  omega

set_option maxRecDepth 100000 in
theorem rread_yes (size : Int) (A : Option Addr) (n c : Nat) (a k : Int) (g : Int → Int) (bs : List (Int × Int)) (N : Nat → Prop) (w : World) (h : RefM w N A n size g bs) (ha : 0 ≤ a ∧ a ≤ 18446744073709551615)
    (hk : 0 ≤ k ∧ k ≤ 18446744073709551615) (hi : inside a k 2147483648 size = true) :
    Calls Try.prog 142 #[.agg #[.int .u64 size, .slice A n c], .int .u64 a, .int .u64 k] w (ReadPost w (rdl g (a - 2147483648) k.toNat)) := by
  have hs := h.size
  have hin := inside_true hi
  obtain ⟨m, rfl⟩ := Int.eq_ofNat_of_zero_le hk.1
  rw [Int.toNat_natCast]
  have hmk := run_make8 .u64 .u64 m (by omega)
  have hlen := rdl_length g (a - 2147483648) m
  generalize hl : rdl g (a - 2147483648) m = l at *
  have HL := hid hl
  clear hl
  subst hlen
  have hb0 := at_new w (.cells #[.int .u64 size, .slice A n c] 32)
  have HK := hid ((Kept.refl No w).alloc (.cells #[.int .u64 size, .slice A n c] 32))
  have hc0 : ∀ i, (w.alloc (.cells #[.int .u64 size, .slice A n c] 32)).cell? ⟨w.heap.size, i, none⟩ = (#[.int .u64 size, .slice A n c] : Array Value)[i]? := fun i => cells_of hb0 i
  have HB := hid hb0
  clear hb0
  go_enter Try.func142, Try.ntmps142
  go_wp2_with fail
  refine (rhas_calls _ _ _ _ _ _ _ hs ha hk).mono ?_
  rintro e w1 ⟨rfl, hk1⟩
  have HB1 := hid (at_kept HB.out hk1 (fun h => h))
  have HK1 := hid (HK.out.trans hk1)
  clear hk1 hc0
  go_wp2_with fail
  go_loopw [9] (fun i wr => ∃ k : Nat, k ≤ l.length ∧ i = .int .i64 k ∧ wr.heap[w1.heap.size]? = some (.cells (by8 (part l k)).toArray 5 (0, 0)) ∧
    wr.heap[w.heap.size]? = some (.cells #[.int .u64 size, .slice A n c] 32 (0, 0)) ∧ Kept No w wr) (fun i _ => l.length - (intOf i).toNat)
  case atStart => exact ⟨0, by omega, rfl, by rw [part_zero]; exact at_new _ _, at_alloc HB1.out _, HK1.out.alloc _⟩
  case round =>
    obtain ⟨k, hk, rfl, hB, hM, hK⟩ := hrel
    by_cases hlt : k < l.length
    · have hR := h.no hK
      have c0 := fun i => cells_of hM i
      have hg : look g size (a + k) = l.getD k 0 := by
        rw [look_in hi (by omega), ← HL.out, List.getD, rdl_at g _ (by rw [← HL.out, rdl_length] at hlt; exact hlt)]; rfl
      have HG := hid hg
      have HBB := hid hB
      have HMM := hid hM
      have HKK := hid hK
      clear hg hB hM hK
      go_wp2_with fail
      refine (rget_calls _ _ _ _ _ _ _ _ _ hR).mono ?_
      rintro e w2 ⟨rfl, hk2⟩
      rw [HG.out]
      have hB2 := at_kept HBB.out hk2 (fun h => h)
      have hM2 := at_kept HMM.out hk2 (fun h => h)
      have hf := frozen_of hB2 k
      have hcell : w2.cell? ⟨w1.heap.size, k, none⟩ = some (.int .u8 ((part l k).getD k 0)) := by
        rw [cells_of hB2, List.getElem?_toArray]
        exact by8_at (by rw [part_length l (by omega)]; exact hlt)
      have hne : w1.heap.size ≠ w.heap.size := by have := lt_of HB1.out; omega
      have hs2 := at_set hB2 k (.int .u8 (l.getD k 0))
      rw [by8_set, part_snoc l hlt] at hs2
      have HF1 := hid hs2
      have HF2 := hid (at_far hM2 (p := ⟨w1.heap.size, k, none⟩) hne.symm (.int .u8 (l.getD k 0)))
      have HF3 := hid ((HKK.out.trans hk2).set (p := ⟨w1.heap.size, k, none⟩) (.inr (by have := HK1.out.size; omega)) (.int .u8 (l.getD k 0)))
      clear hs2 hB2 hM2 hk2 c0 hne
      generalize l.getD k 0 = x at *
      go_wp2
      go_roundw
      case rel => exact ⟨k + 1, by omega, by go_num, HF1.out, HF2.out, HF3.out⟩
      case measure => simp [intOf]; omega
    · have hkk : k = l.length := by omega
      subst hkk
      rw [part_all] at hB
      have HBB := hid hB
      have HKK := hid hK
      clear hB hK hM
      go_wp2
      go_ret2
      exact ⟨w1.heap.size, rfl, HK1.out.size, HBB.out, HKK.out⟩

/-! ### A word out of its bytes -/
set_option maxRecDepth 100000 in
theorem rof_calls (A : Option Addr) (l : List Int) (c : Nat) (N : Nat → Prop) (w : World) (h : Sl w N A (by8 l)) (hb : Byt l) (hn : l.length ≤ 8) :
    Calls Try.prog 26 #[.slice A l.length c] w fun e w' => e = .returned (.int .u64 (le l)) ∧ w' = w := by
  go_enter Try.func26, Try.ntmps26
  go_wp2_with fail
  go_loop [3, 4] (fun v i => ∃ k : Nat, k ≤ l.length ∧ i = .int .i64 ((k : Int) - 1) ∧ v = .int .u64 (le (l.drop k))) (fun _ i => (intOf i + 1).toNat)
  case atStart => exact ⟨l.length, Nat.le_refl _, rfl, by rw [List.drop_length]; rfl⟩
  case round =>
    obtain ⟨k, hk, rfl, rfl⟩ := hrel
    cases k with
    | zero =>
      rw [List.drop_zero]
      go_wp2
      go_ret
      exact ⟨rfl, rfl⟩
    | succ k =>
      have hlt : k < l.length := by omega
      obtain ⟨b, o, rfl, -, -, hc⟩ := h.at_ (by8_at hlt)
      have hx := hb.at_ k
      have hv := le_range (l := l.drop (k + 1)) (fun x hx => hb x (List.mem_of_mem_drop hx))
      have hp : (256 : Int) ^ (l.drop (k + 1)).length ≤ 256 ^ 7 := by
        rw [List.length_drop]
        rcases (show l.length - (k + 1) = 0 ∨ l.length - (k + 1) = 1 ∨ l.length - (k + 1) = 2 ∨ l.length - (k + 1) = 3 ∨ l.length - (k + 1) = 4 ∨ l.length - (k + 1) = 5 ∨ l.length - (k + 1) = 6 ∨ l.length - (k + 1) = 7 by omega) with e | e | e | e | e | e | e | e <;> rw [e] <;> decide
      have e7 : (256 : Int) ^ 7 = 72057594037927936 := by decide
      have hv1 : le (l.drop (k + 1)) ≤ 72057594037927935 := by omega
      have hv0 := hv.1
      have hd : le (l.drop k) = le (l.drop (k + 1)) * 256 + l.getD k 0 := by
        rw [List.drop_eq_getElem_cons hlt, le, List.getD, List.getElem?_eq_getElem hlt]
        simp
        omega
      clear hp e7 hv
      have HD := hid hd
      clear hd
      generalize hw : le (l.drop (k + 1)) = v at *
      generalize hy : l.getD k 0 = x at *
      obtain ⟨x0, x1⟩ := hx
      clear hw hy
      go_wp2
      go_round
      case rel => exact ⟨k, by omega, rfl, by rw [HD.out]⟩
      case measure => simp [intOf]
end Go.Proofs.Ytognedbehplaeaa
