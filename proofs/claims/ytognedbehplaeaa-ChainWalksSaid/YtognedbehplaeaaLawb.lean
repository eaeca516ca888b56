/- ChainWalks: the walk. -/
import Derived.Test.YtognedbehplaeaaLawa
import Derived.Test.YtognedbehplaeaaMem
import Derived.Test.YtognedbehplaeaaSame
import Derived.Test.YtognedbehplaeaaRefe
import Derived.Test.YtognedbehplaeaaRefch
set_option linter.unusedVariables false
namespace Go.Proofs.Ytognedbehplaeaa
open Go.RowKit

theorem walkS_len (g : Int → Int) (size t : Int) (s : Nat) (head : Int) (ind : Bool) (hs : s ≤ 256) : (walkS g size t s head ind).segs.length ≤ 100000 := by
  have h1 := alongS_len (g := g) size t s ((s : Int)).toNat head []
  obtain ⟨r, hr⟩ : ∃ r, alongS g size t s ((s : Int)).toNat head [] = r := ⟨_, rfl⟩
  rw [hr] at h1
  simp at h1
  by_cases hc : r.code = 0
  · cases h4 : decide (r.d.flags / 4 % 2 = 1) with
    | false => rw [walkS_plain hr hc h4]; show r.segs.length ≤ 100000; omega
    | true =>
      cases hn : (!ind || decide (r.d.flags / 1 % 2 = 1)) with
      | true => rw [walkS_nest hr hc h4 hn]; show 0 ≤ 100000; omega
      | false =>
        by_cases ht : tabCode size r.d = 0
        · obtain ⟨r2, hr2⟩ : ∃ r2, alongS g size r.d.addr ((r.d.len / 16).toNat : Int) (r.d.len / 16).toNat 0 r.segs = r2 := ⟨_, rfl⟩
          have h2 := alongS_len (g := g) size r.d.addr ((r.d.len / 16).toNat : Int) (r.d.len / 16).toNat 0 r.segs
          rw [hr2] at h2
          by_cases h3 : nested false r2 = 0
          · rw [walkS_tab hr hc h4 hn ht hr2 h3]
            show r2.segs.length ≤ 100000
            have hl : r.d.len ≤ 4111 := by
              unfold tabCode at ht
              by_cases hl : 16 ≤ r.d.len ∧ r.d.len ≤ 4111 ∧ r.d.len % 16 = 0
              · exact hl.2.1
              · rw [decide_eq_false hl] at ht; simp at ht
            omega
          · rw [walkS_tabno hr hc h4 hn ht hr2 h3]; show 0 ≤ 100000; omega
        · rw [walkS_notab hr hc h4 hn ht]; show 0 ≤ 100000; omega
  · rw [walkS_bad hr hc]; show 0 ≤ 100000; omega

set_option maxHeartbeats 1000000 in
set_option maxRecDepth 100000 in
theorem chainwalks_calls (A : Option Addr) (c : Nat) (ps : List PutV) (sz d a u head : Int) (ind : Bool) (w : World) (hP : PutsAt w A ps) (hd : 0 ≤ d ∧ d ≤ 18446744073709551615) (ha : 0 ≤ a ∧ a ≤ 18446744073709551615) (hu : 0 ≤ u ∧ u ≤ 18446744073709551615) :
    Calls Try.prog 3 #[.slice A ps.length c, .agg #[.int .i64 sz, .int .u64 d, .int .u64 a, .int .u64 u, .int .i64 head, .bool ind]] w fun e w' => e = .returned (.bool true) ∧ Kept No w w' := by
  obtain ⟨W0, hW0⟩ : ∃ W, W = w.alloc (.cells #[.int .i64 sz, .int .u64 d, .int .u64 a, .int .u64 u, .int .i64 head, .bool ind] 27) := ⟨_, rfl⟩
  have hk0 : Kept No w W0 := by rw [hW0]; exact (Kept.refl No w).alloc _
  have hb0 : W0.heap[w.heap.size]? = some (.cells #[.int .i64 sz, .int .u64 d, .int .u64 a, .int .u64 u, .int .i64 head, .bool ind] 27 (0, 0)) := by rw [hW0]; exact at_new w _
  have HK0 := hid hk0
  have HB0 := hid hb0
  have HP0 := hid (hP.no hk0)
  have z0 := lt_of hb0
  have c0 := fun i => cells_of hb0 i
  have HW0 := hid hW0
  clear hP hk0 hb0 hW0
  go_enter Try.func3, Try.ntmps3
  go_wp2_with fail
  rw [← HW0.out]
  refine (awake16_calls W0).mono ?_
  rintro e w1 ⟨rfl, hk1⟩
  have HK1 := hid hk1
  have HP1 := hid (HP0.out.no hk1)
  clear hk1 HP0
  go_wp2_with fail
  refine (memory_calls A c ps w1 HP1.out).mono ?_
  clear HP1
  rintro e w2 (⟨p, F, g, B, n, cB, bs, rfl, hM, hn⟩ | ⟨B, n, cB, rfl, hk2⟩)
  · have HK2 := hid (HK1.out.trans hM.kept)
    have HM := hid hM
    have hx2 := at_new w2 (.cells #[.int .u64 8192, .slice B n cB] 32)
    have hka := (Kept.refl No w2).alloc (.cells #[.int .u64 8192, .slice B n cB] 32)
    obtain ⟨W2, hW2⟩ : ∃ W, W = w2.alloc (.cells #[.int .u64 8192, .slice B n cB] 32) := ⟨_, rfl⟩
    rw [← hW2] at hx2 hka
    have HX2 := hid hx2
    have HKA := hid (HK2.out.trans hka)
    have HR2 := hid (hM.ram.no hka)
    have HF2 := hid (hM.ref.no hka)
    have HW2 := hid hW2
    obtain ⟨hr, hf⟩ := HKA.out.reads
    have x2 := fun i => cells_of HX2.out i
    have zw2 := lt_of HX2.out
    clear hM hx2 hka hW2
    go_wp2_with (rw [← HW2.out])
    refine (rcheck_calls 8192 B n cB sz d a u _ (by omega) hd ha hu).mono ?_
    obtain ⟨cd, hcd⟩ : ∃ cd, checkS 8192 sz d a u = cd := ⟨_, rfl⟩
    rw [hcd]
    rintro e w3 ⟨rfl, hk3⟩
    have HK3 := hid (HKA.out.trans hk3)
    have HX3 := hid (at_kept HX2.out hk3 (fun h => h))
    have HR3 := hid (HR2.out.no hk3)
    have HF3 := hid (HF2.out.no hk3)
    clear hr hf x2 zw2 hk3
    by_cases hc : cd = 0
    · subst hc
      have hok := checkS_ok hcd
      have hrange := powerB_range hok.1
      obtain ⟨s, rfl⟩ : ∃ s : Nat, sz = s := ⟨sz.toNat, by omega⟩
      obtain ⟨r, hr⟩ : ∃ r, walkS g 8192 d s head ind = r := ⟨_, rfl⟩
      have HR := hid hr
      have HLN : Hid (r.segs.length ≤ 100000) := hid (hr ▸ walkS_len g 8192 d s head ind (by omega))
      have hs : s ≤ 256 := by omega
      obtain ⟨hrd, hfz⟩ := HK3.out.reads
      have x3 := fun i => cells_of HX3.out i
      clear hcd hok hrange hr
      go_wp2_with fail
      refine (walk_calls p F 8192 g d a u head s ind _ HR3.out hd hs).mono ?_
      rw [HR.out]
      rintro e w4 ⟨A4, k4, rfl, ho4, hk4⟩
      have hx4 := at_new w4 (.cells #[.slice A4 r.segs.length k4, .int .u64 r.ta, .int .u64 r.tl] 40)
      have hka := hk4.alloc (.cells #[.slice A4 r.segs.length k4, .int .u64 r.ta, .int .u64 r.tl] 40)
      obtain ⟨W4, hW4⟩ : ∃ W, W = w4.alloc (.cells #[.slice A4 r.segs.length k4, .int .u64 r.ta, .int .u64 r.tl] 40) := ⟨_, rfl⟩
      have hs4 := (own_sl (N := No) ho4 (fun _ _ h => h)).no ((Kept.refl No w4).alloc (.cells #[.slice A4 r.segs.length k4, .int .u64 r.ta, .int .u64 r.tl] 40))
      rw [← hW4] at hx4 hka hs4
      have HS4 := hid hs4
      have HX4 := hid hx4
      have HK4 := hid (HK3.out.trans hka)
      have HY4 := hid (at_kept HX3.out hka (fun h => h))
      have HF4 := hid (HF3.out.no hka)
      have HW4 := hid hW4
      clear hrd hfz x3 hx4 hka ho4 hk4 hs4 hW4
      obtain ⟨hrd, hfz⟩ := HK4.out.reads
      have x4 := fun i => cells_of HX4.out i
      have y4 := fun i => cells_of HY4.out i
      go_wp2_with (rw [← HW4.out])
      refine (rwalk_calls 8192 B n cB F g bs d a u head s ind _ HF4.out hd hs).mono ?_
      rw [HR.out]
      rintro e w5 ⟨A5, k5, rfl, ho5, hk5⟩
      have hx5 := at_new w5 (.cells #[.slice A5 r.segs.length k5, .int .u64 r.ta, .int .u64 r.tl] 44)
      have hka := hk5.alloc (.cells #[.slice A5 r.segs.length k5, .int .u64 r.ta, .int .u64 r.tl] 44)
      obtain ⟨W5, hW5⟩ : ∃ W, W = w5.alloc (.cells #[.slice A5 r.segs.length k5, .int .u64 r.ta, .int .u64 r.tl] 44) := ⟨_, rfl⟩
      have hs5 := (own_sl (N := No) ho5 (fun _ _ h => h)).no ((Kept.refl No w5).alloc (.cells #[.slice A5 r.segs.length k5, .int .u64 r.ta, .int .u64 r.tl] 44))
      rw [← hW5] at hx5 hka hs5
      have HS5 := hid hs5
      have HX5 := hid hx5
      have HK5 := hid (HK4.out.trans hka)
      have HY5 := hid (at_kept HX4.out hka (fun h => h))
      have HS45 := hid (HS4.out.no hka)
      have HW5 := hid hW5
      clear hrd hfz x4 y4 hx5 hka ho5 hk5 hs5 hW5
      have x5 := fun i => cells_of HX5.out i
      have y5 := fun i => cells_of HY5.out i
      go_wp2_with (rw [← HW5.out])
      refine (is_yes A4 A5 r.segs.length k4 k5 r.segs r.ta r.tl _ HS45.out HS5.out HLN.out rfl).mono ?_
      rintro e w6 ⟨rfl, hk6⟩
      have HK6 := hid (HK5.out.trans hk6)
      clear hk6 x5 y5
      go_wp2
      go_ret
      exact ⟨rfl, HK0.out.trans HK6.out⟩
    · have HC := hid hc
      clear hcd
      go_wp2
      go_ret
      exact ⟨rfl, HK0.out.trans HK3.out⟩
  · have HK2 := hid (HK1.out.trans hk2)
    clear hk2
    go_wp2
    go_ret
    exact ⟨rfl, (HK0.out.trans HK2.out).alloc _⟩
end Go.Proofs.Ytognedbehplaeaa
