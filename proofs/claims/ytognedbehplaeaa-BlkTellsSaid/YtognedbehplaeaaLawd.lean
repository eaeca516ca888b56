/- Layer 19's example: the program is awake. -/
import Derived.Test.YtognedbehplaeaaBlkc
set_option linter.unusedVariables false
namespace Go.Proofs.Ytognedbehplaeaa
open Go.RowKit

/-- The example's chain. -/
def awakeL : List Seg := [⟨2147483648, 16, false⟩, ⟨2147483904, 1, true⟩]
/-- The example's memory. -/
def awakeG : Int → Int := wr (fun _ => 0) (2147483648 - 2147483648) (wby 99 1)
theorem awakeL_ok : SegsOk 4096 awakeL := by
  refine ⟨?_, by decide, by omega⟩
  intro s hs
  simp only [awakeL, List.mem_cons, List.not_mem_nil, or_false] at hs
  rcases hs with rfl | rfl <;> exact ⟨by decide, by decide⟩
theorem awakeL_rdf : Rdf awakeL := by
  intro i j s t hij hi hj hs
  match j, hij, hj with
  | 1, _, hj => have := Option.some.inj hj; rw [← this]
  | j + 2, _, hj => simp [awakeL] at hj
theorem awake_kind : le ((gath awakeG awakeL 0 16).take 4) = 99 := by kernel_rfl
theorem awake_seen : loaded (scat awakeG awakeL ((1 : Int) - 1).toNat [2]) 2147483904 1 4096 = 2 := by kernel_rfl
theorem awake_okw : okw 2147483904 1 4096 = true := by decide

set_option maxHeartbeats 2000000 in
set_option maxRecDepth 100000 in
theorem awake19_calls (w : World) : Calls Try.prog 24 #[] w fun e w' => e = .returned (.bool true) ∧ Kept No w w' := by
  go_enter Try.func24, Try.ntmps24
  go_wp2_with fail
  refine (new_calls 4096 _ (by omega) (by omega) (by omega)).mono ?_
  rintro e w1 ⟨p, F, rfl, hR, hk1, hF⟩
  have HR := hid hR
  have HK1 := hid hk1
  have HF := hid hF
  have HLT := hid hR.lt
  clear hR hk1 hF
  go_wp2_with fail
  refine (dnew_calls 1 false _ (by omega)).mono ?_
  rintro e w2 ⟨dp, FD, rfl, hD, hk2, hFD⟩
  have HD := hid hD
  have HK2 := hid hk2
  clear hD hk2 hFD
  go_wp2_with fail
  refine (bnew_calls p dp FD 1 false 0 0 0 _ _ _ HD.out).mono ?_
  rintro e w3 ⟨b, rp, qb, A, c, rfl, hB, hrp, hqb, ho, hb, -, -, hk3⟩
  obtain ⟨nm, hnm⟩ : ∃ nm, name20 (strB { data := #[120] }) = nm := ⟨_, rfl⟩
  rw [hnm] at hB
  have hnl : nm.length = 20 := by rw [← hnm]; exact name20_length _
  have HNL := hid hnl
  have HB := hid hB
  have b0 : w3.cell? ⟨b, 0, none⟩ = some (.pointer (some ⟨rp, 0, none⟩)) := (cells_of hB 0).trans (by rw [← Array.getElem?_toList, boxC_list]; rfl)
  have hbb : b < w3.heap.size := lt_of hB
  have HBI := hid (And.intro hb hbb)
  have HK3 := hid hk3
  have hR3 := (HR.out.no HK2.out).no hk3
  have HK30 := hid ((HK1.out.trans HK2.out).trans hk3)
  clear hnm hB hrp hqb ho hb hk3 hnl
  go_wp2_with fail
  refine (store_calls p F 4096 (fun _ => 0) 2147483648 1 99 _ hR3 (by omega) (by omega)).mono ?_
  rw [show okw 2147483648 1 4096 = true from by decide, if_pos rfl]
  rw [show wr (fun _ => 0) (2147483648 - 2147483648) (wby 99 (1 : Int).toNat) = awakeG from rfl]
  rintro e w4 ⟨F4, rfl, hR4, hC4⟩
  have hFb : ∀ k, F k → k < w2.heap.size := fun k hk => Nat.lt_of_lt_of_le (HLT.out k hk) HK2.out.size
  have HX4 : Hid (¬ F4 b) := hid (fun h => by
    rcases hC4.new b h with h | h
    · have := hFb _ h; have := HBI.out.1; omega
    · have := HBI.out.2; omega)
  have HB4 := hid (at_kept HB.out hC4.kept (fun h => by have := hFb _ h; have := HBI.out.1; omega))
  have HK4 : Hid (Kept No w w4) := hid (HK30.out.then_ hC4.kept (fun k hk => .inr (HF.out k hk)))
  have HN4 : Hid (∀ k, F4 k → w.heap.size ≤ k) := hid (fun k hk => by
    rcases hC4.new k hk with h | h
    · exact HF.out k h
    · have := HK30.out.size; omega)
  have HBW : Hid (w.heap.size ≤ b) := hid (by have := HBI.out.1; have := HK1.out.size; have := HK2.out.size; omega)
  have HLT4 := hid hR4.lt
  have HU : Hid (∀ W, W = w4.alloc (.cells #[.int .u64 2147483648, .int .u64 16, .bool false, .int .u64 2147483904, .int .u64 1, .bool true] 57) → Calls Try.prog 32 #[.pointer (some ⟨b, 0, none⟩), .agg #[.slice (some ⟨w4.heap.size, 0, none⟩) 2 2, .int .u64 0, .int .u64 0]] W
      (UsePost p F4 4096 (scat awakeG awakeL ((1 : Int) - 1).toNat [2]) 1 rp dp b 0 nm (.slice none 0 0) 0 [] W)) := hid (by
    rintro W rfl
    have hk := (Kept.refl No w4).alloc (.cells #[.int .u64 2147483648, .int .u64 16, .bool false, .int .u64 2147483904, .int .u64 1, .bool true] 57)
    have hsl : Sl (w4.alloc (.cells #[.int .u64 2147483648, .int .u64 16, .bool false, .int .u64 2147483904, .int .u64 1, .bool true] 57)) F4 (some ⟨w4.heap.size, 0, none⟩) (scells awakeL) := Sl.of_block (cs := scells awakeL) (at_new w4 _) (fun h => by have := HLT4.out _ h; omega)
    have hh := use_other p rp dp b 0 F4 4096 awakeG nm none 0 0 [] (some ⟨w4.heap.size, 0, none⟩) 2 2 awakeL 0 0 _ (hR4.no hk) (at_kept HB4.out hk (fun h => h)) HNL.out HX4.out ⟨rfl, .inl ⟨rfl, rfl⟩⟩ (by intro k hk; simp [Value.ownBlock] at hk) (Nat.zero_le _) (by omega) hsl rfl awakeL_ok awakeL_rdf (by decide) (by decide) (by rw [awake_kind]; decide)
    rw [show segSum true awakeL = 1 from by decide] at hh
    exact hh)
  clear hC4 hR4 hR3 b0 hFb
  go_wp2_with fail
  refine (HU.out _ rfl).mono ?_
  rintro e w5 ⟨F5, rfl, hR5, hN5, hk5⟩
  have HR5 := hid hR5
  have HK5 : Hid (Kept No w w5) := hid ((HK4.out.alloc _).then_ hk5 (fun k hk => by
    rcases hk with h | rfl | h
    · exact .inr (HN4.out k h)
    · exact .inr HBW.out
    · simp [Value.ownBlock] at h))
  clear hR5 hN5 hk5
  go_wp2_with fail
  refine (load_calls p F5 4096 _ 2147483904 1 _ HR5.out (by omega)).mono ?_
  rw [awake_seen, awake_okw]
  rintro e w6 ⟨rfl, h6⟩
  have h7 := h6.symm; subst h7
  go_wp2
  go_ret
  exact ⟨rfl, HK5.out⟩
end Go.Proofs.Ytognedbehplaeaa
