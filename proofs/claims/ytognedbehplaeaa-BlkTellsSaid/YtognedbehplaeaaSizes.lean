/- The program's chains: how many bytes they have; which part of a piece some bytes are. -/
import Derived.Test.YtognedbehplaeaaLaid
import Derived.Test.YtognedbehplaeaaRefw
set_option linter.unusedVariables false
namespace Go.Proofs.Ytognedbehplaeaa
open Go.RowKit

set_option maxRecDepth 100000 in
theorem sizes_calls (size : Int) (A : Option Addr) (n c : Nat) (l : List Seg) (ta tl : Int) (w : World) (hA : Sl w No A (scells l)) (hn : l.length = n) (ho : SegsOk size l) :
    Calls Try.prog 78 #[.agg #[.slice A n c, .int .u64 ta, .int .u64 tl]] w (fun e w' => e = .returned (.tuple #[.int .u64 (segSum false l), .int .u64 (segSum true l)]) ∧ Kept No w w') := by
  have hl := ho.len
  rw [hn] at hl
  have HN := hid hn
  have HO := hid ho
  have hk := (Kept.refl No w).alloc (.cells #[.slice A n c, .int .u64 ta, .int .u64 tl] 40)
  have HK := hid hk
  clear hn ho hk
  go_enter Try.func78, Try.ntmps78
  go_wp2_with fail
  go_loopw [4, 5, 11] (fun r v i wr => ∃ (k : Nat) (R V : Int), k ≤ n ∧ i = .int .i64 k ∧ r = .int .u64 R ∧ v = .int .u64 V ∧ Hid (R = segSum false (l.take k) ∧ V = segSum true (l.take k)) ∧ Kept No w wr) (fun _ _ i _ => n - (intOf i).toNat)
  case atStart => exact ⟨0, 0, 0, by omega, rfl, rfl, rfl, hid ⟨rfl, rfl⟩, HK.out⟩
  case round =>
    obtain ⟨k, R, V, hk, rfl, rfl, rfl, HS, hK⟩ := hrel
    have HKK := hid hK
    clear hK HK
    by_cases hlt : k < n
    · obtain ⟨s, hs⟩ : ∃ s, l[k]? = some s := ⟨_, List.getElem?_eq_getElem (by rw [HN.out]; exact hlt)⟩
      have hsc := scells_at hs
      obtain ⟨b, o, rfl, -, -, x0⟩ := (hA.no HKK.out).at_ hsc.1
      obtain ⟨b', o', e', -, -, x1⟩ := (hA.no HKK.out).at_ hsc.2.1
      obtain ⟨rfl, rfl⟩ : b = b' ∧ o = o' := by simpa using e'
      obtain ⟨b', o', e', -, -, x2⟩ := (hA.no HKK.out).at_ hsc.2.2
      obtain ⟨rfl, rfl⟩ : b = b' ∧ o = o' := by simpa using e'
      rw [← Nat.add_assoc] at x1 x2
      have hb := HO.out.at_ (List.mem_of_getElem? hs)
      have h1 := HO.out.sum false k
      have h2 := HO.out.sum true k
      rw [← HS.out.1] at h1
      rw [← HS.out.2] at h2
      have e1 : segSum false (l.take (k + 1)) = R + (if s.write = false then s.len else 0) := by rw [take_seg hs, segSum_snoc, HS.out.1]
      have e2 : segSum true (l.take (k + 1)) = V + (if s.write = true then s.len else 0) := by rw [take_seg hs, segSum_snoc, HS.out.2]
      have HE := hid (And.intro e1 e2)
      obtain ⟨l0, l1, -, -⟩ := hb
      obtain ⟨r0, r1⟩ := h1
      obtain ⟨v0, v1⟩ := h2
      obtain ⟨sa, sl, sw⟩ := s
      simp only at x0 x1 x2 l0 l1
      clear e' hsc hs e1 e2 HS
      cases sw with
      | false =>
        go_wp2
        go_roundw
        case rel => exact ⟨k + 1, R + sl, V, by omega, by go_num, rfl, rfl, hid ⟨by rw [HE.out.1]; rfl, by rw [HE.out.2]; simp⟩, HKK.out.alloc _⟩
        case measure => simp [intOf]; omega
      | true =>
        go_wp2
        go_roundw
        case rel => exact ⟨k + 1, R, V + sl, by omega, by go_num, rfl, rfl, hid ⟨by rw [HE.out.1]; simp, by rw [HE.out.2]; rfl⟩, HKK.out.alloc _⟩
        case measure => simp [intOf]; omega
    · have hkk : k = n := by omega
      subst hkk
      have hR : R = segSum false l ∧ V = segSum true l := by rw [HS.out.1, HS.out.2, ← HN.out, List.take_length]; exact ⟨rfl, rfl⟩
      obtain ⟨rfl, rfl⟩ := hR
      clear HS
      go_wp2
      go_ret2
      exact ⟨rfl, HKK.out⟩

/-- Of a piece that begins at a number, which part some bytes are: where, how many. -/
def pieceA (a len b f n : Int) : Int := if max f b < min (f + n) (b + len) then a + max f b - b else 0
def pieceN (a len b f n : Int) : Int := if max f b < min (f + n) (b + len) then min (f + n) (b + len) - max f b else 0
theorem ret2_eq {k k' : IntKind} {x y x' y' : Int} (h : x = x') (h2 : y = y') : Ending.returned (.tuple #[.int k x, .int k' y]) = Ending.returned (.tuple #[.int k x', .int k' y']) := by rw [h, h2]
set_option maxRecDepth 100000 in
theorem piece_calls (a len b f n : Int) (sw : Bool) (w : World) (ha : 0 ≤ a ∧ a ≤ 1000000000000) (hl : 0 ≤ len ∧ len ≤ 1000000000000) (hb : 0 ≤ b ∧ b ≤ 1000000000000000) (hf : 0 ≤ f ∧ f ≤ 1000000000000000) (hn : 0 ≤ n ∧ n ≤ 1000000000000000) :
    Calls Try.prog 79 #[.agg #[.int .u64 a, .int .u64 len, .bool sw], .int .u64 b, .int .u64 f, .int .u64 n] w (fun e w' => e = .returned (.tuple #[.int .u64 (pieceA a len b f n), .int .u64 (pieceN a len b f n)]) ∧ Kept No w w') := by
  obtain ⟨a0, a1⟩ := ha
  obtain ⟨l0, l1⟩ := hl
  obtain ⟨b0, b1⟩ := hb
  obtain ⟨f0, f1⟩ := hf
  obtain ⟨n0, n1⟩ := hn
  have HK := hid ((Kept.refl No w).alloc (.cells #[.int .u64 a, .int .u64 len, .bool sw] 57))
  by_cases h1 : f < b
  · by_cases h2 : b + len < f + n
    · by_cases h3 : b + len ≤ b
      · go_enter Try.func79, Try.ntmps79
        go_wp2_with fail
        go_region
        go_wp2
        go_ret2
        exact ⟨ret2_eq (by unfold pieceA; split <;> omega) (by unfold pieceN; split <;> omega), HK.out.drew⟩
      · go_enter Try.func79, Try.ntmps79
        go_wp2_with fail
        go_region
        go_wp2
        go_ret2
        exact ⟨ret2_eq (by unfold pieceA; split <;> omega) (by unfold pieceN; split <;> omega), HK.out.drew⟩
    · by_cases h3 : f + n ≤ b
      · go_enter Try.func79, Try.ntmps79
        go_wp2_with fail
        go_region
        go_wp2
        go_ret2
        exact ⟨ret2_eq (by unfold pieceA; split <;> omega) (by unfold pieceN; split <;> omega), HK.out.drew⟩
      · go_enter Try.func79, Try.ntmps79
        go_wp2_with fail
        go_region
        go_wp2
        go_ret2
        exact ⟨ret2_eq (by unfold pieceA; split <;> omega) (by unfold pieceN; split <;> omega), HK.out.drew⟩
  · by_cases h2 : b + len < f + n
    · by_cases h3 : b + len ≤ f
      · go_enter Try.func79, Try.ntmps79
        go_wp2_with fail
        go_region
        go_wp2
        go_ret2
        exact ⟨ret2_eq (by unfold pieceA; split <;> omega) (by unfold pieceN; split <;> omega), HK.out.drew⟩
      · go_enter Try.func79, Try.ntmps79
        go_wp2_with fail
        go_region
        go_wp2
        go_ret2
        exact ⟨ret2_eq (by unfold pieceA; split <;> omega) (by unfold pieceN; split <;> omega), HK.out.drew⟩
    · by_cases h3 : f + n ≤ f
      · go_enter Try.func79, Try.ntmps79
        go_wp2_with fail
        go_region
        go_wp2
        go_ret2
        exact ⟨ret2_eq (by unfold pieceA; split <;> omega) (by unfold pieceN; split <;> omega), HK.out.drew⟩
      · go_enter Try.func79, Try.ntmps79
        go_wp2_with fail
        go_region
        go_wp2
        go_ret2
        exact ⟨ret2_eq (by unfold pieceA; split <;> omega) (by unfold pieceN; split <;> omega), HK.out.drew⟩
end Go.Proofs.Ytognedbehplaeaa
