/- Layer 19: a device tells of itself what the page says. -/
import Derived.Test.YtognedbehplaeaaTell
import Derived.Test.YtognedbehplaeaaLawd
import Derived.Test.YtognedbehplaeaaMem
import Derived.LaidEqlPtr
set_option linter.unusedVariables false
namespace Go.Proofs.Ytognedbehplaeaa
open Go.RowKit

theorem boxC_0 (rp dp p : Nat) (name : List Int) (lv : Value) : (boxC rp dp p name lv)[0]? = some (.pointer (some ⟨rp, 0, none⟩)) := by
  rw [← Array.getElem?_toList, boxC_list]; rfl
theorem boxC_1 (rp dp p : Nat) (name : List Int) (lv : Value) : (boxC rp dp p name lv)[1]? = some (.pointer (some ⟨dp, 0, none⟩)) := by
  rw [← Array.getElem?_toList, boxC_list]; rfl
theorem puts_none (w : World) : PutsAt w none [] := ⟨Sl.nil _ _ _, by simp, by simp⟩

set_option maxRecDepth 100000 in
theorem bdisk_calls (b dp : Nat) (w : World) (h : w.cell? ⟨b, 1, none⟩ = some (.pointer (some ⟨dp, 0, none⟩))) :
    Calls Try.prog 70 #[.pointer (some ⟨b, 0, none⟩)] w fun e w' => e = .returned (.pointer (some ⟨dp, 0, none⟩)) ∧ w' = w := by
  go_enter Try.func70, Try.ntmps70
  go_wp2
  go_ret
  exact ⟨rfl, rfl⟩

set_option maxHeartbeats 2000000 in
set_option maxRecDepth 100000 in
theorem blktells_calls (locked : Bool) (A : Option Addr) (l : List Int) (n c : Nat) (fault : Int) (nm : ByteArray) (at_ : Int) (w : World) (hs : Sl w No A (by8 l)) (hb : Byt l) (hn : l.length = n) (hc : n ≤ c) (hf : 0 ≤ fault ∧ fault ≤ 18446744073709551615) (hnl : n ≤ 9223372036854775807) :
    Calls Try.prog 14 #[.agg #[.bool locked, .slice A n c, .int .u64 fault, .string nm], .int .u64 at_] w fun e w' => e = .returned (.bool true) ∧ Kept No w w' := by
  have HD : Hid (∀ W, Kept No w W → Calls Try.prog 28 #[.agg #[.bool locked, .slice A n c, .int .u64 fault, .string nm]] W (fun e w' => LDiskPost l locked fault W e w' ∨ LDiskNo locked W e w')) := hid (fun W k => ldisk_any locked A l n c fault nm W (hs.no k) hb hn hc hf hnl)
  have HM : Hid (∀ W, Calls Try.prog 16 #[.slice none 0 0] W (MemPost W)) := hid (fun W => memory_calls none 0 [] W (puts_none W))
  have hx := at_new w (.cells #[.bool locked, .slice A n c, .int .u64 fault, .string nm] 67)
  have HX := hid hx
  have HK := hid ((Kept.refl No w).alloc (.cells #[.bool locked, .slice A n c, .int .u64 fault, .string nm] 67))
  clear hx hs hb hn hc hf hnl
  go_enter Try.func14, Try.ntmps14
  go_wp2_with fail
  refine (awake19_calls _).mono ?_
  rintro e w1 ⟨rfl, hk1⟩
  have HK1 := hid (HK.out.trans hk1)
  have HX1 := hid (at_kept HX.out hk1 (fun h => h))
  clear hk1
  go_wp2_with fail
  refine (HM.out _).mono ?_
  rintro e w2 hM
  obtain ⟨mp, A0, n0, c0', rfl, hmp, hk2⟩ : ∃ (mp : Option Addr) (A0 : Option Addr) (n0 c0 : Nat), e = .returned (.tuple #[.pointer mp, .agg #[.int .u64 8192, .slice A0 n0 c0]]) ∧ (mp = none ∨ ∃ p : Nat, mp = some ⟨p, 0, none⟩) ∧ Kept No w1 w2 := by
    rcases hM with ⟨p, F, g, A0, n0, c0, bs, rfl, hMm, _⟩ | ⟨A0, n0, c0, rfl, hk⟩
    · exact ⟨_, _, _, _, rfl, .inr ⟨p, rfl⟩, hMm.kept⟩
    · exact ⟨_, _, _, _, rfl, .inl rfl, hk⟩
  have HK2 := hid ((HK1.out.trans hk2).alloc (.cells #[.int .u64 8192, .slice A0 n0 c0'] 32))
  have hx2 := at_alloc (at_kept HX1.out hk2 (fun h => h)) (.cells #[.int .u64 8192, .slice A0 n0 c0'] 32)
  have HX2 := hid hx2
  have c2 := fun i => cells_of hx2 i
  clear hM hk2 hx2
  go_wp2_with fail
  refine (HD.out _ HK2.out).mono ?_
  rintro e w3 h3
  rcases h3 with ⟨p, F, b, rfl, hD3, hB3, hk3, hF3, hb3, hnF⟩ | ⟨b, rfl, hk3⟩
  · rcases hmp with rfl | ⟨mp, rfl⟩
    · have HK3 := hid ((HK2.out.trans hk3).alloc (.cells #[.slice (some ⟨b, 0, none⟩) 2048 2048, .bool locked, .int .u64 fault, .int .u64 0, .int .u64 0] 72))
      clear hD3 hB3 hk3 hF3 hb3 hnF c2
      go_wp2
      go_ret
      exact ⟨rfl, HK3.out⟩
    · have hka := (Kept.refl No w3).alloc (.cells #[.slice (some ⟨b, 0, none⟩) 2048 2048, .bool locked, .int .u64 fault, .int .u64 0, .int .u64 0] 72)
      have HD3 := hid (hD3.kept hka (fun _ _ h => h))
      have HK3 := hid ((HK2.out.trans hk3).alloc (.cells #[.slice (some ⟨b, 0, none⟩) 2048 2048, .bool locked, .int .u64 fault, .int .u64 0, .int .u64 0] 72))
      have hx3 := at_alloc (at_kept HX2.out hk3 (fun h => h)) (.cells #[.slice (some ⟨b, 0, none⟩) 2048 2048, .bool locked, .int .u64 fault, .int .u64 0, .int .u64 0] 72)
      have HX3 := hid hx3
      have c3 := fun i => cells_of hx3 i
      clear hD3 hB3 hk3 hF3 hb3 hnF c2 hka hx3
      go_wp2_with fail
      refine (bnew_calls mp p F 4 locked fault 0 0 (startG l) nm _ HD3.out).mono ?_
      rintro e w4 ⟨b4, rp, qb, A4, c4, rfl, hB4, hrp, hqb, ho, hb, -, -, hk4⟩
      have HX4 := hid (at_kept HX3.out hk4 (fun h => h))
      have x4 := fun i => cells_of HX4.out i
      have b0 : w4.cell? ⟨b4, 0, none⟩ = some (.pointer (some ⟨rp, 0, none⟩)) := (cells_of hB4 0).trans (boxC_0 _ _ _ _ _)
      have b1 : w4.cell? ⟨b4, 1, none⟩ = some (.pointer (some ⟨p, 0, none⟩)) := (cells_of hB4 1).trans (boxC_1 _ _ _ _ _)
      have HL := hid (rload_calls rp qb 2 (if locked = true then 5100274208 else 5100274176) A4 c4 w4 hrp (own_sl ho (fun _ _ h => h)))
      have HDK := hid (bdisk_calls b4 p w4 b1)
      have cr := fun i => cells_of hrp i
      unfold regsC at cr
      have HK4 := hid (HK3.out.trans hk4)
      obtain ⟨ji, hji⟩ : ∃ j, Try.prog.info? 206 = some j := Option.isSome_iff_exists.1 (by kernel_rfl)
      have hpp := fun W => run_eql_ptr_same (P := Try.prog) W (tp := 70) (te := 206) ⟨p, 0, none⟩ Try.underlying70 hji
      clear hji
      clear hB4 hrp hqb ho hb hk4 c3
      cases locked with
      | true =>
        simp only [if_true] at cr
        go_wp2_with (first | (go_at_call 69; ((with_reducible refine HL.out.mono ?_); (rintro e w5 ⟨rfl, h5⟩; have h6 := h5.symm; subst h6))) | (go_at_call 70; ((with_reducible refine HDK.out.mono ?_); (rintro e w5 ⟨rfl, h5⟩; have h6 := h5.symm; subst h6))))
        go_ret
        exact ⟨rfl, HK4.out⟩
      | false =>
        simp only [Bool.false_eq_true, if_false] at cr
        go_wp2_with (first | (go_at_call 69; ((with_reducible refine HL.out.mono ?_); (rintro e w5 ⟨rfl, h5⟩; have h6 := h5.symm; subst h6))) | (go_at_call 70; ((with_reducible refine HDK.out.mono ?_); (rintro e w5 ⟨rfl, h5⟩; have h6 := h5.symm; subst h6))))
        go_ret
        exact ⟨rfl, HK4.out⟩
  · have HK3 := hid ((HK2.out.trans hk3).alloc (.cells #[.slice (some ⟨b, 0, none⟩) 2048 2048, .bool locked, .int .u64 0, .int .u64 0, .int .u64 0] 72))
    clear hk3 c2
    rcases hmp with rfl | ⟨mp, rfl⟩
    · go_wp2
      go_ret
      exact ⟨rfl, HK3.out⟩
    · go_wp2
      go_ret
      exact ⟨rfl, HK3.out⟩
end Go.Proofs.Ytognedbehplaeaa
