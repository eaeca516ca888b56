/- Words of 64 bits: what the functions of package word come to. -/
import Derived.Test.YtognedbehplaeaaBase
import Derived.Test.YtognedbehplaeaaProg
import Derived.KernelRfl
set_option linter.unusedVariables false
namespace Go.Proofs.Ytognedbehplaeaa
open Go.RowKit

/-- Do n bytes from a on lie in s bytes from b on? -/
def inside (a n b s : Int) : Bool := decide (b ≤ a ∧ n ≤ s ∧ a - b ≤ s - n)
theorem inside_true {a n b s : Int} (h : inside a n b s = true) : b ≤ a ∧ n ≤ s ∧ a - b ≤ s - n := of_decide_eq_true h
theorem in_of {a n b s : Int} (h : b ≤ a ∧ n ≤ s ∧ a - b ≤ s - n) : inside a n b s = true := decide_eq_true h
theorem inside_false {a n b s : Int} (h : inside a n b s = false) : ¬ (b ≤ a ∧ n ≤ s ∧ a - b ≤ s - n) := of_decide_eq_false h

theorem within_calls (a n b s : Int) (w : World) (ha : 0 ≤ a ∧ a ≤ 18446744073709551615) (hn : 0 ≤ n ∧ n ≤ 18446744073709551615) (hb : 0 ≤ b ∧ b ≤ 18446744073709551615) (hs : 0 ≤ s ∧ s ≤ 18446744073709551615) :
    Calls Try.prog 137 #[.int .u64 a, .int .u64 n, .int .u64 b, .int .u64 s] w fun e w' => e = .returned (.bool (inside a n b s)) ∧ w' = w := by
  obtain ⟨ha0, ha1⟩ := ha
  obtain ⟨hn0, hn1⟩ := hn
  obtain ⟨hb0, hb1⟩ := hb
  obtain ⟨hs0, hs1⟩ := hs
  by_cases h1 : a < b
  · have hr : inside a n b s = false := decide_eq_false (by omega)
    rw [hr]
    go_enter Try.func137, Try.ntmps137
    go_wp2
    go_ret
    exact ⟨rfl, rfl⟩
  by_cases h2 : s < n
  · have hr : inside a n b s = false := decide_eq_false (by omega)
    rw [hr]
    go_enter Try.func137, Try.ntmps137
    go_wp2
    go_ret
    exact ⟨rfl, rfl⟩
  · have hr : inside a n b s = decide (a - b ≤ s - n) := by unfold inside; rw [decide_eq_decide]; omega
    rw [hr]
    go_enter Try.func137, Try.ntmps137
    go_wp2
    go_ret
    exact ⟨rfl, rfl⟩

theorem w64 (n : Int) (h0 : 0 ≤ n) (h1 : n < 2 ^ 64) : IntKind.u64.wrap n = n := by rw [IntKind.wrap_u64]; omega
theorem and_mask (i : Nat) (hi : i ≤ 64) (x : Int) (h0 : 0 ≤ x) (h1 : x ≤ 18446744073709551615) : bits .and .u64 x (2 ^ i - 1) = x % 2 ^ i :=
  bits_mask .u64 64 (by decide) w64 i hi x h0 (by omega)
theorem and_lit (x : Int) (h0 : 0 ≤ x) (h1 : x ≤ 18446744073709551615) (m k : Int) (i : Nat) (hi : i ≤ 64) (hm : m = 2 ^ i - 1) (hk : k = 2 ^ i) : bits .and .u64 x m = x % k := by rw [hm, hk]; exact and_mask i hi x h0 h1

theorem aligned_calls (a b : Int) (w : World) (ha : 0 ≤ a ∧ a ≤ 18446744073709551615) (hb : b = 1 ∨ b = 2 ∨ b = 4 ∨ b = 8 ∨ b = 16 ∨ b = 512 ∨ b = 4096) :
    Calls Try.prog 83 #[.int .u64 a, .int .u64 b] w fun e w' => e = .returned (.bool (decide (a % b = 0))) ∧ w' = w := by
  obtain ⟨ha0, ha1⟩ := ha
  have k0 := and_lit a ha0 ha1 0 1 0 (by omega) rfl rfl
  have k1 := and_lit a ha0 ha1 1 2 1 (by omega) rfl rfl
  have k2 := and_lit a ha0 ha1 3 4 2 (by omega) rfl rfl
  have k3 := and_lit a ha0 ha1 7 8 3 (by omega) rfl rfl
  have k4 := and_lit a ha0 ha1 15 16 4 (by omega) rfl rfl
  have k9 := and_lit a ha0 ha1 511 512 9 (by omega) rfl rfl
  have k12 := and_lit a ha0 ha1 4095 4096 12 (by omega) rfl rfl
  rcases hb with rfl | rfl | rfl | rfl | rfl | rfl | rfl
  all_goals
    go_enter Try.func83, Try.ntmps83
    go_wp2
    go_ret
    first | exact ⟨rfl, rfl⟩ | exact ⟨by simp, rfl⟩

/-! ### A word out of its bytes -/
/-- The word of bytes, the lowest first. -/
def le : List Int → Int
  | [] => 0
  | x :: l => x + 256 * le l
theorem le_snoc (l : List Int) (x : Int) : le (l ++ [x]) = le l + x * 256 ^ l.length := by
  induction l with
  | nil => simp [le]
  | cons y l ih =>
    rw [List.cons_append, le, le, ih, List.length_cons, Int.pow_succ, Int.mul_add, Int.add_assoc]
    congr 2
    rw [← Int.mul_assoc, Int.mul_comm 256 x, Int.mul_assoc, Int.mul_comm 256]
theorem le_range {l : List Int} (h : Byt l) : 0 ≤ le l ∧ le l < 256 ^ l.length := by
  induction l with
  | nil => simp [le]
  | cons x l ih =>
    have hx := h x (by simp)
    have hl := ih (fun y hy => h y (by simp [hy]))
    rw [le, List.length_cons, Int.pow_succ]
    omega
theorem pow256 (k : Nat) : (256 : Int) ^ k = ((2 ^ (8 * k) : Nat) : Int) := by rw [Int.natCast_pow, Int.pow_mul]; rfl
theorem pow256' (k : Nat) : (256 : Int) ^ k = 2 ^ (8 * k) := by rw [Int.pow_mul]; rfl
/-- A byte more. -/
theorem or_byte (k : Nat) (hk : k ≤ 7) (W x : Int) (h0 : 0 ≤ W) (h1 : W < 256 ^ k) (x0 : 0 ≤ x) (x1 : x ≤ 255) : bits .or .u64 W (IntKind.u64.wrap (x * 256 ^ k)) = W + x * 256 ^ k := by
  have hp : (256 : Int) ^ k ≤ 256 ^ 7 := by
    rcases (show k = 0 ∨ k = 1 ∨ k = 2 ∨ k = 3 ∨ k = 4 ∨ k = 5 ∨ k = 6 ∨ k = 7 by omega) with rfl | rfl | rfl | rfl | rfl | rfl | rfl | rfl <;> decide
  have hp0 : (0 : Int) < 256 ^ k := by
    rcases (show k = 0 ∨ k = 1 ∨ k = 2 ∨ k = 3 ∨ k = 4 ∨ k = 5 ∨ k = 6 ∨ k = 7 by omega) with rfl | rfl | rfl | rfl | rfl | rfl | rfl | rfl <;> decide
  have hm : x * 256 ^ k ≤ 255 * 256 ^ k := Int.mul_le_mul_of_nonneg_right x1 (by omega)
  have hm0 : 0 ≤ x * 256 ^ k := Int.mul_nonneg x0 (by omega)
  have e7 : (256 : Int) ^ 7 = 72057594037927936 := by decide
  rw [e7] at hp
  rw [w64 _ hm0 (by omega), u64_or _ _ h0 (by omega) hm0 (by omega)]
  have hW : W.toNat < 2 ^ (8 * k) := by
    have : ((W.toNat : Nat) : Int) < ((2 ^ (8 * k) : Nat) : Int) := by rw [Int.toNat_of_nonneg h0, ← pow256]; exact h1
    exact Int.ofNat_lt.1 this
  have hy : (x * 256 ^ k).toNat = x.toNat * 2 ^ (8 * k) := by
    have : (((x * 256 ^ k).toNat : Nat) : Int) = ((x.toNat * 2 ^ (8 * k) : Nat) : Int) := by
      rw [Int.toNat_of_nonneg hm0, Int.natCast_mul, Int.toNat_of_nonneg x0, pow256]
    exact Int.ofNat.inj this
  rw [Nat.or_comm, nat_join (8 * k) _ _ (by rw [hy]; exact Nat.mul_mod_left _ _) hW]
  omega
/-- n bytes of a memory. -/
def rdl (g : Int → Int) (o : Int) (n : Nat) : List Int := (List.range n).map fun i : Nat => g (o + (i : Int))
theorem rdl_length (g : Int → Int) (o : Int) (n : Nat) : (rdl g o n).length = n := by simp [rdl]
theorem rdl_snoc (g : Int → Int) (o : Int) (k : Nat) : rdl g o (k + 1) = rdl g o k ++ [g (o + k)] := by simp [rdl, List.range_succ]
theorem rdl_byt {g : Int → Int} (h : ∀ o, 0 ≤ g o ∧ g o ≤ 255) (o : Int) (n : Nat) : Byt (rdl g o n) := by
  intro x hx
  obtain ⟨i, _, rfl⟩ := List.mem_map.1 hx
  exact h _
theorem rdl_at (g : Int → Int) (o : Int) {n j : Nat} (h : j < n) : (rdl g o n)[j]? = some (g (o + j)) := by simp [rdl, h]
theorem load_step {g : Int → Int} (hg : ∀ o, 0 ≤ g o ∧ g o ≤ 255) (o : Int) (k : Nat) (hk : k ≤ 7) :
    bits .or .u64 (le (rdl g o k)) (IntKind.u64.wrap (IntKind.u64.wrap (g (o + k)) * 2 ^ (8 * k))) = le (rdl g o (k + 1)) := by
  have hx := hg (o + k)
  have hW := le_range (rdl_byt hg o k)
  rw [rdl_length] at hW
  rw [w64 (g (o + k)) hx.1 (by omega), rdl_snoc, le_snoc, rdl_length, ← or_byte k hk _ _ hW.1 hW.2 hx.1 hx.2, pow256]
  rfl
/-- The n bytes of a word, the lowest first. -/
def wby (v : Int) (n : Nat) : List Int := (List.range n).map fun i : Nat => v / 256 ^ i % 256
theorem wby_length (v : Int) (n : Nat) : (wby v n).length = n := by simp [wby]
theorem wby_byt (v : Int) (n : Nat) : Byt (wby v n) := by
  intro x hx
  obtain ⟨i, _, rfl⟩ := List.mem_map.1 hx
  omega
theorem wby_at (v : Int) {n j : Nat} (h : j < n) : (wby v n).getD j 0 = v / 256 ^ j % 256 := by simp [wby, h, List.getD]
theorem wby_snoc (v : Int) (k : Nat) : wby v (k + 1) = wby v k ++ [v / 256 ^ k % 256] := by simp [wby, List.range_succ]
/-- Are n bytes a word's? -/
def sizedB (n : Int) : Bool := decide (n = 1 ∨ n = 2 ∨ n = 4 ∨ n = 8)
theorem sizedB_true {n : Int} (h : sizedB n = true) : n = 1 ∨ n = 2 ∨ n = 4 ∨ n = 8 := of_decide_eq_true h
end Go.Proofs.Ytognedbehplaeaa
