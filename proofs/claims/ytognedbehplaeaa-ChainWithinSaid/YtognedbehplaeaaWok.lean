/- What a chain's walk names lies in the memory. -/
import Derived.Test.YtognedbehplaeaaChainc
import Derived.Test.YtognedbehplaeaaLaid
set_option linter.unusedVariables false
namespace Go.Proofs.Ytognedbehplaeaa
open Go.RowKit

theorem alongS_all {P : Seg → Prop} {g : Int → Int} (hg : ∀ o, 0 ≤ g o ∧ g o ≤ 255) {size : Int} (hP : ∀ (d : DescV) (b : Bool), d.Ok → segCode size b d = 0 → P ⟨d.addr, d.len, decide (d.flags / 2 % 2 = 1)⟩) (t sz : Int) :
    ∀ (k : Nat) (i : Int) (l : List Seg), (∀ s ∈ l, P s) → ∀ s ∈ (alongS g size t sz k i l).segs, P s
  | 0, i, l, h => by unfold alongS; split <;> exact h
  | k + 1, i, l, h => by
    have hd := descS_ok hg size t i
    unfold alongS
    split
    · split
      · split
        · exact h
        · split
          · rename_i hs
            have hp := hP _ _ hd hs
            split
            · exact alongS_all hg hP t sz k _ _ (fun s hs => by
                rcases List.mem_append.1 hs with h1 | h1
                · exact h s h1
                · obtain rfl := List.mem_singleton.1 h1; exact hp)
            · intro s hs
              rcases List.mem_append.1 hs with h1 | h1
              · exact h s h1
              · obtain rfl := List.mem_singleton.1 h1; exact hp
          · exact h
      · exact h
    · exact h
theorem walkS_all {P : Seg → Prop} {g : Int → Int} (hg : ∀ o, 0 ≤ g o ∧ g o ≤ 255) {size : Int} (hP : ∀ (d : DescV) (b : Bool), d.Ok → segCode size b d = 0 → P ⟨d.addr, d.len, decide (d.flags / 2 % 2 = 1)⟩) (t : Int) (s : Nat) (head : Int) (ind : Bool) :
    ∀ x ∈ (walkS g size t s head ind).segs, P x := by
  have h1 := alongS_all hg hP t s ((s : Int)).toNat head [] (by simp)
  obtain ⟨r, hr⟩ : ∃ r, alongS g size t s ((s : Int)).toNat head [] = r := ⟨_, rfl⟩
  rw [hr] at h1
  have hz : ∀ x ∈ ([] : List Seg), P x := by simp
  by_cases hc : r.code = 0
  · cases h4 : decide (r.d.flags / 4 % 2 = 1) with
    | false => rw [walkS_plain hr hc h4]; exact h1
    | true =>
      cases hn : (!ind || decide (r.d.flags / 1 % 2 = 1)) with
      | true => rw [walkS_nest hr hc h4 hn]; exact hz
      | false =>
        by_cases ht : tabCode size r.d = 0
        · obtain ⟨r2, hr2⟩ : ∃ r2, alongS g size r.d.addr ((r.d.len / 16).toNat : Int) (r.d.len / 16).toNat 0 r.segs = r2 := ⟨_, rfl⟩
          have h2 := alongS_all hg hP r.d.addr ((r.d.len / 16).toNat : Int) (r.d.len / 16).toNat 0 r.segs h1
          rw [hr2] at h2
          by_cases h3 : nested false r2 = 0
          · rw [walkS_tab hr hc h4 hn ht hr2 h3]; exact h2
          · rw [walkS_tabno hr hc h4 hn ht hr2 h3]; exact hz
        · rw [walkS_notab hr hc h4 hn ht]; exact hz
  · rw [walkS_bad hr hc]; exact hz
theorem walkS_length (g : Int → Int) (size t : Int) (s : Nat) (head : Int) (ind : Bool) (hs : s ≤ 256) : (walkS g size t s head ind).segs.length ≤ 512 := by
  have h1 := alongS_len (g := g) size t s ((s : Int)).toNat head []
  obtain ⟨r, hr⟩ : ∃ r, alongS g size t s ((s : Int)).toNat head [] = r := ⟨_, rfl⟩
  rw [hr] at h1
  simp at h1
  by_cases hc : r.code = 0
  · cases h4 : decide (r.d.flags / 4 % 2 = 1) with
    | false => rw [walkS_plain hr hc h4]; show r.segs.length ≤ 512; omega
    | true =>
      cases hn : (!ind || decide (r.d.flags / 1 % 2 = 1)) with
      | true => rw [walkS_nest hr hc h4 hn]; show 0 ≤ 512; omega
      | false =>
        by_cases ht : tabCode size r.d = 0
        · obtain ⟨r2, hr2⟩ : ∃ r2, alongS g size r.d.addr ((r.d.len / 16).toNat : Int) (r.d.len / 16).toNat 0 r.segs = r2 := ⟨_, rfl⟩
          have h2 := alongS_len (g := g) size r.d.addr ((r.d.len / 16).toNat : Int) (r.d.len / 16).toNat 0 r.segs
          rw [hr2] at h2
          by_cases h3 : nested false r2 = 0
          · rw [walkS_tab hr hc h4 hn ht hr2 h3]
            show r2.segs.length ≤ 512
            have hl : r.d.len ≤ 4111 := by
              unfold tabCode at ht
              by_cases hl : 16 ≤ r.d.len ∧ r.d.len ≤ 4111 ∧ r.d.len % 16 = 0
              · exact hl.2.1
              · rw [decide_eq_false hl] at ht; simp at ht
            omega
          · rw [walkS_tabno hr hc h4 hn ht hr2 h3]; show 0 ≤ 512; omega
        · rw [walkS_notab hr hc h4 hn ht]; show 0 ≤ 512; omega
  · rw [walkS_bad hr hc]; show 0 ≤ 512; omega
theorem walkS_ok {g : Int → Int} (hg : ∀ o, 0 ≤ g o ∧ g o ≤ 255) {size : Int} (hz : 0 ≤ size ∧ size ≤ 268435456) (t : Int) (s : Nat) (head : Int) (ind : Bool) (hs : s ≤ 256) : SegsOk size (walkS g size t s head ind).segs :=
  ⟨walkS_all hg (fun d b hd hc => ⟨hd.len.1, (segCode_zero hc).1⟩) t s head ind, by have := walkS_length g size t s head ind hs; omega, hz⟩
end Go.Proofs.Ytognedbehplaeaa
