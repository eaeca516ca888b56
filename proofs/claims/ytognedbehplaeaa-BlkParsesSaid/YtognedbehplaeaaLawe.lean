/- Layer 19: any bytes are a request's beginning, or too few. -/
import Derived.Test.YtognedbehplaeaaLawd
import Derived.Test.YtognedbehplaeaaOpen
import Derived.Deep.QuietTactic
import Derived.BigQuiet
set_option linter.unusedVariables false
namespace Go.Proofs.Ytognedbehplaeaa
open Go.ChangeShapes Go.WideShapes Go.ChangeAt Go.RowKit Go.Deep

set_option maxHeartbeats 1000000 in
set_option maxRecDepth 100000 in
theorem blkparses_calls (A : Option Addr) (l : List Int) (n c : Nat) (w : World) (h : Sl w No A (by8 l)) (hb : Byt l) (hn : l.length = n) (hc : n ≤ c) (hm : c ≤ 9223372036854775807) :
    Calls Try.prog 5 #[.slice A n c] w fun e w' => e = .returned (.bool true) ∧ Kept No w w' := by
  by_cases h16 : n < 16
  · have hn16 : (n : Int) < 16 := by omega
    go_enter Try.func5, Try.ntmps5
    go_wp2_with fail
    refine (awake19_calls _).mono ?_
    rintro e w1 ⟨rfl, hk1⟩
    have HK1 := hid hk1
    clear hk1
    go_wp2_with fail
    refine (parse_no A n c _ h16).mono ?_
    rintro e w2 ⟨rfl, hk2⟩
    have HK2 := hid (HK1.out.trans hk2)
    clear hk2
    go_wp2
    go_ret
    exact ⟨rfl, HK2.out.alloc _⟩
  · obtain ⟨b, o, rfl⟩ : ∃ b o, A = some ⟨b, o, none⟩ := by
      rcases h with h | ⟨b, o, h1, _⟩
      · have : l.length = 0 := by simpa [by8] using congrArg List.length h
        omega
      · exact ⟨b, o, h1⟩
    have s1 : Sl w No (some ⟨b, o, none⟩) (by8 (l.take 4)) := by
      have := sl_part h 0 4
      simpa using this
    have s2 : Sl w No (some ⟨b, o + 8, none⟩) (by8 ((l.drop 8).take 8)) := sl_part h 8 8
    have b1 : Byt (l.take 4) := fun x hx => hb x (List.mem_of_mem_take hx)
    have b2 : Byt ((l.drop 8).take 8) := fun x hx => hb x (List.mem_of_mem_drop (List.mem_of_mem_take hx))
    have n1 : (l.take 4).length = 4 := by rw [List.length_take]; omega
    have n2 : ((l.drop 8).take 8).length = 8 := by rw [List.length_take, List.length_drop]; omega
    have r1 := le_range b1
    rw [n1] at r1
    have e4 : (256 : Int) ^ 4 = 4294967296 := by decide
    rw [e4] at r1
    obtain ⟨x, hx⟩ : ∃ x, le (l.take 4) = x := ⟨_, rfl⟩
    obtain ⟨y, hy⟩ : ∃ y, le ((l.drop 8).take 8) = y := ⟨_, rfl⟩
    have HO1 : Hid (∀ (W : World) (cc : Nat), Kept No w W → Calls Try.prog 26 #[.slice (some ⟨b, o, none⟩) 4 cc] W fun e w' => e = .returned (.int .u64 x) ∧ w' = W) := hid (fun W cc k => by
      have := rof_calls (some ⟨b, o, none⟩) (l.take 4) cc No W (s1.no k) b1 (by omega)
      rw [n1, hx] at this
      exact this)
    have HO2 : Hid (∀ (W : World) (cc : Nat), Kept No w W → Calls Try.prog 26 #[.slice (some ⟨b, o + 8, none⟩) 8 cc] W fun e w' => e = .returned (.int .u64 y) ∧ w' = W) := hid (fun W cc k => by
      have := rof_calls (some ⟨b, o + 8, none⟩) ((l.drop 8).take 8) cc No W (s2.no k) b2 (by omega)
      rw [n2, hy] at this
      exact this)
    have HP : Hid (∀ W, Kept No w W → Calls Try.prog 25 #[.slice (some ⟨b, o, none⟩) n c] W (ParsePost x y W)) := hid (fun W k => by
      have := parse_yes b o n c l W (h.no k) hb hn (by omega) hc hm
      rw [hx, hy] at this
      exact this)
    rw [hx] at r1
    have kx : IntKind.u64.wrap x = x := by rw [IntKind.wrap_u64]; omega
    have hc8 : ¬ c = 8 := by omega
    have hc16 : 16 ≤ c := by omega
    have hc4 : 4 ≤ c := by omega
    have hn16 : ¬ (n : Int) < 16 := by omega
    clear s1 s2 b1 b2 n1 n2 e4 hx hy hn h hb r1
    go_enter Try.func5, Try.ntmps5
    go_wp2_with fail
    refine (awake19_calls _).mono ?_
    rintro e w1 ⟨rfl, hk1⟩
    have HK1 := hid hk1
    clear hk1
    go_wp2_with fail
    refine (HP.out _ HK1.out).mono ?_
    rintro e w2 ⟨rfl, hk2⟩
    have hr := at_new w2 (.cells #[.int .u32 x, .int .u64 y] 61)
    obtain ⟨W, hW⟩ : ∃ W, W = w2.alloc (.cells #[.int .u32 x, .int .u64 y] 61) := ⟨_, rfl⟩
    have HW := hid hW
    rw [← hW] at hr
    have hk : Kept No w W := by rw [hW]; exact (HK1.out.trans hk2).alloc _
    have HK := hid hk
    have f0 := frozen_of hr
    have c0 := fun i => cells_of hr i
    have z0 := lt_of hr
    clear hk2 hr hk hW
    go_wp2_with (rw [← HW.out])
    go_quiet (first | (go_at_call 26; (with_reducible exact Calls.quiet_of_same (HO1.out _ _ (HK.out.drewN _)))) | (go_at_call 26; (with_reducible exact Calls.quiet_of_same (HO2.out _ _ (HK.out.drewN _)))))
    go_wp2
    go_ret
    exact ⟨rfl, HK.out.drewN _⟩

section
variable {H : Type} {enc : TypeId × Value → H} {w : World}
/-- Their room. -/
theorem bytes_cap {fuel : Nat} {v : Value} {x : DataW H × List MemPlace} (h : DataW.trod enc Try.prog w 0 (fun _ => true) true fuel 49 [v] = some x) :
    ∀ A n c, v = .slice A n c → c ≤ 9223372036854775807 := by
  rcases open_ints Try.underlying49 Try.underlying5 (by kernel_rfl) h with ⟨hcs, _⟩ | ⟨a, len, cap, zs, hcs, _, hl, hm, _⟩
  · obtain rfl : v = .slice none 0 0 := by simpa using hcs
    rintro A n c he
    injection he with _ _ he
    omega
  · obtain rfl : v = .slice (some a) len cap := by simpa using hcs
    unfold maxLen at hm
    rintro A n c he
    injection he with _ _ he
    omega
set_option maxRecDepth 100000 in
/-- A law's own bytes. -/
theorem open_data {b0 : Nat} {v : Value} {d : DataW H} {p : List MemPlace} (hv : Value.okWide Try.prog w .any b0 49 v) (h : DataW.Trod enc Try.prog w 0 (fun _ => true) true 49 v d p) :
    ∃ (A : Option Addr) (l : List Int) (c : Nat), v = .slice A l.length c ∧ Sl w No A (by8 l) ∧ Byt l ∧ l.length ≤ c ∧ c ≤ 9223372036854775807 := by
  have hs := okWide_slice Try.underlying49 hv
  obtain ⟨a0, len0, cap0, rfl⟩ := hs
  obtain ⟨fuel, hf⟩ := h
  rw [show (Value.slice a0 len0 cap0).cells.toList = [.slice a0 len0 cap0] from rfl] at hf
  obtain ⟨A, l, c, e, h1, h2, _, h3⟩ := open_bytes (v := .slice a0 len0 cap0) hf
  exact ⟨A, l, c, e, h1, h2, h3, bytes_cap (v := .slice a0 len0 cap0) hf A l.length c e⟩
end
end Go.Proofs.Ytognedbehplaeaa
