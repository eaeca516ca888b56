/- Spans as cells of a list; rows of the call's own, cell by cell. -/
import Derived.Test.YtognedbehplaeaaLaid
import Derived.Test.YtognedbehplaeaaApp
import Derived.Test.YtognedbehplaeaaRefw
set_option linter.unusedVariables false
namespace Go.Proofs.Ytognedbehplaeaa
open Go.RowKit

def spcells (L : List (Int × Int)) : List Value := L.flatMap fun p => [.int .u64 p.1, .int .u64 p.2]
theorem spcells_snoc (L : List (Int × Int)) (p : Int × Int) : spcells (L ++ [p]) = spcells L ++ [.int .u64 p.1, .int .u64 p.2] := by simp [spcells]
theorem spcells_length (L : List (Int × Int)) : (spcells L).length = L.length * 2 := by
  induction L with
  | nil => rfl
  | cons s l ih => simp [spcells] at ih ⊢; omega
theorem spcells_last (L : List (Int × Int)) (x n : Int) : (spcells (L ++ [(x, n)]))[L.length * 2]? = some (.int .u64 x) ∧ (spcells (L ++ [(x, n)]))[L.length * 2 + 1]? = some (.int .u64 n) := by
  rw [spcells_snoc]
  constructor
  · rw [List.getElem?_append_right (by rw [spcells_length]; omega), spcells_length]; simp
  · rw [List.getElem?_append_right (by rw [spcells_length]; omega), spcells_length, show L.length * 2 + 1 - L.length * 2 = 1 from by omega]; rfl
theorem spcells_set (L : List (Int × Int)) (x n m : Int) : (spcells (L ++ [(x, n)])).set (L.length * 2 + 1) (.int .u64 m) = spcells (L ++ [(x, m)]) := by
  rw [spcells_snoc, spcells_snoc, List.set_append_right _ _ (by rw [spcells_length]; omega), spcells_length, show L.length * 2 + 1 - L.length * 2 = 1 from by omega]
  rfl
theorem spcells_at {L : List (Int × Int)} {k : Nat} {p : Int × Int} (h : L[k]? = some p) : (spcells L)[k * 2]? = some (.int .u64 p.1) ∧ (spcells L)[k * 2 + 1]? = some (.int .u64 p.2) := by
  induction L generalizing k with
  | nil => simp at h
  | cons t l ih =>
    cases k with
    | zero => simp at h; subst h; simp [spcells]
    | succ k =>
      have := ih (k := k) (by simpa using h)
      have e : (k + 1) * 2 = k * 2 + 1 + 1 := by omega
      rw [e]
      simpa [spcells] using this
/-- A cell of a row of the call's own. -/
theorem own_at {w : World} {base : Nat} {e : TypeId} {size n gb c : Nat} {xs : List Value} (h : w.ownsRow base e size (.slice (some ⟨gb, 0, none⟩) n c) n xs) {j : Nat} {u : Value} (hu : xs[j]? = some u) : w.cell? ⟨gb, j, none⟩ = some u := by
  have := h.cells (g := gb) rfl j u hu
  rwa [add_lit, Nat.zero_add] at this
theorem own_free {w : World} {base : Nat} {e : TypeId} {size n gb c : Nat} {xs : List Value} (h : w.ownsRow base e size (.slice (some ⟨gb, 0, none⟩) n c) n xs) (j : Nat) : w.frozen? ⟨gb, j, none⟩ = false := by
  obtain ⟨_, cur, hh⟩ := own_lt h (k := gb) rfl
  exact frozen_of hh j
/-- A store into one. -/
theorem own_set {w : World} {base : Nat} {e : TypeId} {size n gb c : Nat} {xs : List Value} (h : w.ownsRow base e size (.slice (some ⟨gb, 0, none⟩) n c) n xs) {j : Nat} (hj : j < xs.length) (u : Value) :
    (w.setCell ⟨gb, j, none⟩ u).ownsRow base e size (.slice (some ⟨gb, 0, none⟩) n c) n (xs.set j u) := by
  rcases h with ⟨h1, h2⟩
  refine ⟨by rw [List.length_set]; exact h1, ?_⟩
  rcases h2 with ⟨h2, _⟩ | ⟨g, cap, cur, h2, hb, hh, hn, hm, hs, rfl⟩
  · cases h2
  · right
    obtain ⟨rfl, _, rfl⟩ : gb = g ∧ n = n ∧ c = cap := by simpa using h2
    refine ⟨gb, c, cur.setIfInBounds j u, rfl, hb, at_set hh j u, hn, hm, by simpa using hs, ?_⟩
    rw [Array.toList_setIfInBounds, List.take_set]
theorem own_gb {w : World} {base : Nat} {e : TypeId} {size n : Nat} {A : Option Addr} {c : Nat} {xs : List Value} (h : w.ownsRow base e size (.slice A n c) n xs) (hn : 0 < n) : ∃ gb, A = some ⟨gb, 0, none⟩ ∧ base ≤ gb ∧ gb < w.heap.size := by
  obtain ⟨g, cap, hv, hb, hlt⟩ := h.form hn
  obtain ⟨rfl, _⟩ : A = some ⟨g, 0, none⟩ ∧ c = cap := by simpa using hv
  exact ⟨g, rfl, hb, hlt⟩
end Go.Proofs.Ytognedbehplaeaa
