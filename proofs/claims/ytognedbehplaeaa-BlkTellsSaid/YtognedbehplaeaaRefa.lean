/- The document's words of 64 bits and its memory: what the reference functions of layers 1 and 2 come to. -/
import Derived.Test.YtognedbehplaeaaRamc
set_option linter.unusedVariables false
namespace Go.Proofs.Ytognedbehplaeaa
open Go.RowKit

/-- A sum with its carry. -/
def Sums (a b : Int) (x : Bool) (s : Int) : Prop := 0 ≤ s ∧ s ≤ 18446744073709551615 ∧ a + b = s + (if x = true then 18446744073709551616 else 0)
def SumPost (a b : Int) (w : World) (e : Ending) (w' : World) : Prop := ∃ (x : Bool) (s : Int), e = .returned (.tuple #[.bool x, .int .u64 s]) ∧ w' = w ∧ Sums a b x s
theorem sum_calls (a b : Int) (w : World) (ha : 0 ≤ a ∧ a ≤ 18446744073709551615) (hb : 0 ≤ b ∧ b ≤ 18446744073709551615) :
    Calls Try.prog 161 #[.int .u64 a, .int .u64 b] w (SumPost a b w) := by
  obtain ⟨a0, a1⟩ := ha
  obtain ⟨b0, b1⟩ := hb
  obtain ⟨s, hs⟩ : ∃ s, s = (a + b) % 18446744073709551616 := ⟨_, rfl⟩
  have hw : IntKind.u64.wrap (a + b) = s := by rw [IntKind.wrap_u64, hs]
  refine calls_to (v := .tuple #[.bool (decide (s < a)), .int .u64 s]) (W := w) ?_ ⟨_, _, rfl, rfl, by omega, by omega, by by_cases h : s < a <;> simp [h] <;> omega⟩
  clear hs
  go_enter Try.func161, Try.ntmps161
  go_wp2
  go_ret2
  exact ⟨rfl, rfl⟩

/-- Is one sum less than another one, or, if so asked, alike? -/
def lessB (a b c d : Int) (alike : Bool) : Bool := decide (a + b < c + d) || alike && decide (a + b = c + d)
theorem less_same {a b c d s t : Int} {x : Bool} {alike : Bool} (h1 : Sums a b x s) (h2 : Sums c d x t) : lessB a b c d alike = (decide (s < t) || (alike && (s == t))) := by
  obtain ⟨s0, s1, e1⟩ := h1
  obtain ⟨t0, t1, e2⟩ := h2
  have p1 : (a + b < c + d) ↔ s < t := by omega
  have p2 : (a + b = c + d) ↔ s = t := by omega
  have p3 : (s == t) = decide (s = t) := rfl
  simp only [lessB, p1, p2, p3]
theorem less_other {a b c d s t : Int} {x y : Bool} {alike : Bool} (h1 : Sums a b x s) (h2 : Sums c d y t) (h : x ≠ y) : lessB a b c d alike = y := by
  obtain ⟨s0, s1, e1⟩ := h1
  obtain ⟨t0, t1, e2⟩ := h2
  unfold lessB
  cases x <;> cases y <;> simp at h e1 e2 ⊢
  · omega
  · exact ⟨by omega, fun _ => by omega⟩
theorem less_calls (a b c d : Int) (alike : Bool) (w : World) (ha : 0 ≤ a ∧ a ≤ 18446744073709551615) (hb : 0 ≤ b ∧ b ≤ 18446744073709551615) (hc : 0 ≤ c ∧ c ≤ 18446744073709551615) (hd : 0 ≤ d ∧ d ≤ 18446744073709551615) :
    Calls Try.prog 154 #[.int .u64 a, .int .u64 b, .int .u64 c, .int .u64 d, .bool alike] w fun e w' => e = .returned (.bool (lessB a b c d alike)) ∧ w' = w := by
  generalize hr : lessB a b c d alike = r
  have HR := hid hr
  clear hr
  go_enter Try.func154, Try.ntmps154
  go_wp2_with fail
  refine (sum_calls _ _ _ ha hb).mono ?_
  rintro e w1 ⟨x, s, rfl, h1, hx⟩
  subst h1
  go_wp2_with fail
  refine (sum_calls _ _ _ hc hd).mono ?_
  rintro e w1 ⟨y, t, rfl, h1, hy⟩
  subst h1
  have HX := hid hx
  have HY := hid hy
  clear hx hy
  cases x <;> cases y <;> cases alike
  all_goals
    go_wp2
    all_goals
      go_ret
      first
      | exact ⟨by rw [← HR.out, less_same HX.out HY.out]; first | rfl | (simp; done) | (simp; omega), rfl⟩
      | exact ⟨by rw [← HR.out, less_other HX.out HY.out (by decide)]; first | rfl | (simp; done) | (simp; omega), rfl⟩

theorem less_inside {a n b s : Int} (h : b ≤ a) : inside a n b s = lessB a n b s true := by
  unfold inside lessB
  rw [Bool.true_and, ← Bool.decide_or, decide_eq_decide]
  omega
theorem rwithin_calls (a n b s : Int) (w : World) (ha : 0 ≤ a ∧ a ≤ 18446744073709551615) (hn : 0 ≤ n ∧ n ≤ 18446744073709551615) (hb : 0 ≤ b ∧ b ≤ 18446744073709551615) (hs : 0 ≤ s ∧ s ≤ 18446744073709551615) :
    Calls Try.prog 132 #[.int .u64 a, .int .u64 n, .int .u64 b, .int .u64 s] w fun e w' => e = .returned (.bool (inside a n b s)) ∧ w' = w := by
  by_cases h1 : b ≤ a
  · rw [less_inside h1]
    generalize hr : lessB a n b s true = r
    have HR := hid hr
    clear hr
    go_enter Try.func132, Try.ntmps132
    go_wp2_with (go_at_call 154; refine (less_calls _ _ _ _ _ _ ha hn hb hs).mono ?_; rintro e w1 ⟨rfl, h1⟩; subst h1)
    go_ret
    exact ⟨by rw [← HR.out]; rfl, rfl⟩
  · have hr : inside a n b s = false := decide_eq_false (by omega)
    rw [hr]
    go_enter Try.func132, Try.ntmps132
    go_wp2
    go_ret
    exact ⟨rfl, rfl⟩
end Go.Proofs.Ytognedbehplaeaa
