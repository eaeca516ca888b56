/- What a device tells of itself: eight bytes, the first ones. -/
import Derived.Test.YtognedbehplaeaaLdiskb
set_option linter.unusedVariables false
namespace Go.Proofs.Ytognedbehplaeaa
open Go.RowKit

set_option maxHeartbeats 1000000 in
set_option maxRecDepth 100000 in
theorem tell_calls (rp qb : Nat) (id off : Int) (A : Option Addr) (c : Nat) (l : List Int) (w : World) (hR : w.heap[rp]? = some (.cells (regsC id off qb A 8 c) 153 (0, 0))) (hs : Sl w No A (by8 l)) (hl : l.length = 8) (hb : Byt l) :
    Calls Try.prog 130 #[.pointer (some ⟨rp, 0, none⟩), .int .u64 0, .int .i64 8] w fun e w' => e = .returned (.tuple #[.int .u64 (le (rdl (fun o => l.getD o.toNat 0) 0 8)), .bool true]) ∧ w' = w := by
  have hc := fun i => cells_of hR i
  unfold regsC at hc
  have hg : ∀ o : Int, 0 ≤ (fun o : Int => l.getD o.toNat 0) o ∧ (fun o : Int => l.getD o.toNat 0) o ≤ 255 := fun o => hb.at_ _
  obtain ⟨b, o, rfl, -, hbl, -⟩ := hs.at_ (by8_at (l := l) (j := 0) (by omega))
  have hcell : ∀ k : Nat, k < 8 → w.cell? ⟨b, o + k, none⟩ = some (.int .u8 (l.getD k 0)) := fun k hk => by
    obtain ⟨b', o', h3, -, -, h4⟩ := hs.at_ (by8_at (l := l) (j := k) (by omega))
    obtain ⟨rfl, rfl⟩ : b = b' ∧ o = o' := by simpa using h3
    exact h4
  have HC := hid hcell
  have HG := hid hg
  clear hR hs hl hb hcell hg
  have HA : Hid (∀ W, Calls Try.prog 83 #[.int .u64 0, .int .u64 8] W fun e w' => e = .returned (.bool true) ∧ w' = W) := hid (fun W => aligned_calls 0 8 W (by omega) (by omega))
  have HW : Hid (∀ W, Calls Try.prog 137 #[.int .u64 0, .int .u64 8, .int .u64 0, .int .u64 3840] W fun e w' => e = .returned (.bool true) ∧ w' = W) := hid (fun W => within_calls 0 8 0 3840 W (by omega) (by omega) (by omega) (by omega))
  go_enter Try.func130, Try.ntmps130
  go_wp2_with (first | (go_at_call 137; ((with_reducible refine (HW.out _).mono ?_); (rintro e w1 ⟨rfl, h1⟩; have h3 := h1.symm; subst h3))) | (go_at_call 83; ((with_reducible refine (HA.out _).mono ?_); (rintro e w1 ⟨rfl, h1⟩; have h3 := h1.symm; subst h3))))
  go_loop [8, 40] (fun v i => ∃ k : Nat, k ≤ 8 ∧ i = .int .i64 k ∧ v = .int .u64 (le (rdl (fun o => l.getD o.toNat 0) 0 k))) (fun _ i => (8 - intOf i).toNat)
  case atStart => exact ⟨0, by omega, rfl, rfl⟩
  case round =>
    obtain ⟨k, hk, rfl, rfl⟩ := hrel
    by_cases hlt : k < 8
    · have hlt' : (k : Int) < 8 := by omega
      have hst := load_step HG.out 0 k (by omega)
      have hck := HC.out k hlt
      rw [show (0 + (k : Int)).toNat = k from by omega] at hst
      have hx := HG.out (k : Int)
      rw [Int.toNat_natCast] at hx
      obtain ⟨V, hV⟩ : ∃ V, le (rdl (fun o => l.getD o.toNat 0) 0 k) = V := ⟨_, rfl⟩
      obtain ⟨V', hV'⟩ : ∃ V', le (rdl (fun o => l.getD o.toNat 0) 0 (k + 1)) = V' := ⟨_, rfl⟩
      obtain ⟨x, hxx⟩ : ∃ x, l.getD k 0 = x := ⟨_, rfl⟩
      rw [hV]
      rw [hV, hV', hxx] at hst
      rw [hxx] at hx hck
      have HV' := hid hV'
      have HST := hid hst
      clear hV hV' hxx hst
      go_wp2
      go_round
      case rel => exact ⟨k + 1, by omega, by go_num, by rw [HV'.out, ← HST.out, w64 x hx.1 (by omega)]⟩
      case measure => simp [intOf]; omega
    · obtain rfl : k = 8 := by omega
      go_wp2
      go_ret2
      exact ⟨rfl, rfl⟩
theorem four_byt : Byt (wby 4 8) := by
  have h : ∀ x ∈ wby 4 8, 0 ≤ x ∧ x ≤ 255 := by decide
  exact h
theorem four_told : le (rdl (fun o => (wby 4 8).getD o.toNat 0) 0 8) = 4 := by decide

set_option maxRecDepth 100000 in
theorem rload_calls (rp qb : Nat) (id off : Int) (A : Option Addr) (c : Nat) (w : World) (hR : w.heap[rp]? = some (.cells (regsC id off qb A 8 c) 153 (0, 0))) (hs : Sl w No A (by8 (wby 4 8))) :
    Calls Try.prog 69 #[.pointer (some ⟨rp, 0, none⟩), .int .u64 256, .int .i64 8] w fun e w' => e = .returned (.tuple #[.int .u64 4, .bool true]) ∧ w' = w := by
  have HT := hid (tell_calls rp qb id off A c (wby 4 8) w hR hs (wby_length _ _) four_byt)
  clear hR hs
  go_enter Try.func69, Try.ntmps69
  go_wp2_with fail
  refine HT.out.mono ?_
  rw [four_told]
  rintro e w1 ⟨rfl, h1⟩
  have h3 := h1.symm
  subst h3
  go_wp2
  go_ret2
  exact ⟨rfl, rfl⟩
theorem ldisk_any (locked : Bool) (A : Option Addr) (l : List Int) (n c : Nat) (fault : Int) (nm : ByteArray) (w : World) (hs : Sl w No A (by8 l)) (hb : Byt l) (hn : l.length = n) (hc : n ≤ c) (hf : 0 ≤ fault ∧ fault ≤ 18446744073709551615) (hnl : n ≤ 9223372036854775807) :
    Calls Try.prog 28 #[.agg #[.bool locked, .slice A n c, .int .u64 fault, .string nm]] w (fun e w' => LDiskPost l locked fault w e w' ∨ LDiskNo locked w e w') := by
  by_cases h64 : n ≤ 64
  · by_cases h100 : nm.size ≤ 100
    · exact (ldisk_yes locked A l n c fault nm w hs hb hn hc hf h64 h100).mono (fun _ _ h => .inl h)
    · exact (ldisk_no locked A l n c fault nm w hs hb hn hc hf (.inr ⟨h64, by omega⟩) hnl).mono (fun _ _ h => .inr h)
  · exact (ldisk_no locked A l n c fault nm w hs hb hn hc hf (.inl (by omega)) hnl).mono (fun _ _ h => .inr h)
end Go.Proofs.Ytognedbehplaeaa
