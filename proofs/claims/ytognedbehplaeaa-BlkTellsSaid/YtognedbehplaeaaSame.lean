/- Chains that are alike are told to be so. -/
import Derived.Test.YtognedbehplaeaaChain
import Derived.Laws.StructEq
set_option linter.unusedVariables false
namespace Go.Proofs.Ytognedbehplaeaa
open Go.RowKit

theorem scells_at {l : List Seg} {k : Nat} {s : Seg} (h : l[k]? = some s) : (scells l)[k * 3]? = some (.int .u64 s.at_) ∧ (scells l)[k * 3 + 1]? = some (.int .u64 s.len) ∧ (scells l)[k * 3 + 2]? = some (.bool s.write) := by
  induction l generalizing k with
  | nil => simp at h
  | cons t l ih =>
    cases k with
    | zero => simp at h; subst h; simp [scells, Seg.cells]
    | succ k =>
      have := ih (k := k) (by simpa using h)
      have e : (k + 1) * 3 = k * 3 + 1 + 1 + 1 := by omega
      rw [e]
      simpa [scells, Seg.cells] using this

set_option maxRecDepth 100000 in
theorem same_yes (A B : Option Addr) (c d : Nat) (l : List Seg) (ta tl : Int) (w : World) (hA : Sl w No A (scells l)) (hB : Sl w No B (scells l)) (hl : l.length ≤ 100000) :
    Calls Try.prog 50 #[.agg #[.slice A l.length c, .int .u64 ta, .int .u64 tl], .agg #[.slice B l.length d, .int .u64 ta, .int .u64 tl]] w (fun e w' => e = .returned (.bool true) ∧ Kept No w w') := by
  obtain ⟨n, hn⟩ : ∃ n, l.length = n := ⟨_, rfl⟩
  rw [hn] at hl ⊢
  have HN := hid hn
  clear hn
  go_enter Try.func50, Try.ntmps50
  go_wp2_with fail
  have hk := ((Kept.refl No w).alloc (.cells #[.slice A n c, .int .u64 ta, .int .u64 tl] 44)).alloc (.cells #[.slice B n d, .int .u64 ta, .int .u64 tl] 44)
  go_loopw [5] (fun i wr => ∃ k : Nat, k ≤ n ∧ i = .int .i64 k ∧ wr.heap[w.heap.size]? = some (.cells #[.slice A n c, .int .u64 ta, .int .u64 tl] 44 (0, 0)) ∧ wr.heap[w.heap.size + 1]? = some (.cells #[.slice B n d, .int .u64 ta, .int .u64 tl] 44 (0, 0)) ∧ Kept No w wr) (fun i _ => n - (intOf i).toNat)
  case atStart => exact ⟨0, by omega, rfl, at_alloc (at_new w _) _, by have := at_new (w.alloc (.cells #[.slice A n c, .int .u64 ta, .int .u64 tl] 44)) (.cells #[.slice B n d, .int .u64 ta, .int .u64 tl] 44); simpa using this, hk⟩
  case round =>
    obtain ⟨k, hk, rfl, h0, h1, hK⟩ := hrel
    have c0 := fun i => cells_of h0 i
    have c1 := fun i => cells_of h1 i
    have H0 := hid h0
    have H1 := hid h1
    have HK := hid hK
    clear h0 h1 hK
    by_cases hlt : k < n
    · obtain ⟨s, hs⟩ : ∃ s, l[k]? = some s := ⟨_, List.getElem?_eq_getElem (by rw [HN.out]; exact hlt)⟩
      have hsc := scells_at hs
      obtain ⟨b, o, rfl, -, -, x0⟩ := (hA.no HK.out).at_ hsc.1
      obtain ⟨b', o', e', -, -, x1⟩ := (hA.no HK.out).at_ hsc.2.1
      obtain ⟨rfl, rfl⟩ : b = b' ∧ o = o' := by simpa using e'
      obtain ⟨b', o', e', -, -, x2⟩ := (hA.no HK.out).at_ hsc.2.2
      obtain ⟨rfl, rfl⟩ : b = b' ∧ o = o' := by simpa using e'
      obtain ⟨b2, o2, rfl, -, -, y0⟩ := (hB.no HK.out).at_ hsc.1
      obtain ⟨b', o', e', -, -, y1⟩ := (hB.no HK.out).at_ hsc.2.1
      obtain ⟨rfl, rfl⟩ : b2 = b' ∧ o2 = o' := by simpa using e'
      obtain ⟨b', o', e', -, -, y2⟩ := (hB.no HK.out).at_ hsc.2.2
      obtain ⟨rfl, rfl⟩ : b2 = b' ∧ o2 = o' := by simpa using e'
      rw [← Nat.add_assoc] at x1 x2 y1 y2
      clear e' hsc hs
      have hlt' : (k : Int) < n := by omega
      have hk0 : (0 : Int) ≤ k := by omega
      go_wp2_with fail
      go_quiet (fail)
      go_wp2
      go_roundw
      case rel => exact ⟨k + 1, by omega, by go_num, H0.out, H1.out, HK.out.drewN _⟩
      case measure => simp [intOf]; omega
    · have hkk : k = n := by omega
      subst hkk
      go_wp2
      go_ret
      exact ⟨rfl, HK.out⟩

theorem is_yes (A B : Option Addr) (n c d : Nat) (l : List Seg) (ta tl : Int) (w : World) (hA : Sl w No A (scells l)) (hB : Sl w No B (scells l)) (hl : l.length ≤ 100000) (hn : l.length = n) :
    Calls Try.prog 20 #[.agg #[.slice A n c, .int .u64 ta, .int .u64 tl], .agg #[.slice B n d, .int .u64 ta, .int .u64 tl]] w (fun e w' => e = .returned (.bool true) ∧ Kept No w w') := by
  have hk := ((Kept.refl No w).alloc (.cells #[.slice A n c, .int .u64 ta, .int .u64 tl] 40)).alloc (.cells #[.slice B n d, .int .u64 ta, .int .u64 tl] 44)
  have HC := hid (same_yes A B c d l ta tl _ (hA.no hk) (hB.no hk) hl)
  rw [hn] at HC
  have HK := hid hk
  go_enter Try.func20, Try.ntmps20
  go_wp2_with fail
  refine HC.out.mono ?_
  rintro e w1 ⟨rfl, hk1⟩
  go_wp2
  go_ret
  exact ⟨rfl, HK.out.trans hk1⟩
end Go.Proofs.Ytognedbehplaeaa
