/- Where a queue lies, as the document has it: Power, Areas, Check. -/
import Derived.Test.YtognedbehplaeaaRefc
import Derived.Test.YtognedbehplaeaaApp
import Derived.Deep.RegionHeld3
set_option linter.unusedVariables false
namespace Go.Proofs.Ytognedbehplaeaa
open Go.RowKit

/-- May a queue have so many entries? -/
def powerB (n : Int) : Bool := decide (n = 1 ∨ n = 2 ∨ n = 4 ∨ n = 8 ∨ n = 16 ∨ n = 32 ∨ n = 64 ∨ n = 128 ∨ n = 256)
theorem powerB_range {n : Int} (h : powerB n = true) : 1 ≤ n ∧ n ≤ 256 := by
  have := of_decide_eq_true h
  omega

set_option maxRecDepth 100000 in
theorem rpower_calls (n : Int) (w : World) : Calls Try.prog 72 #[.int .i64 n] w fun e w' => e = .returned (.bool (powerB n)) ∧ w' = w := by
  obtain ⟨r, hr⟩ : ∃ r, powerB n = r := ⟨_, rfl⟩
  rw [hr]
  have HR := hid hr
  clear hr
  go_enter Try.func72, Try.ntmps72
  go_wp2_with fail
  go_loop [3] (fun i => ∃ k : Int, Hid ((k = 1 ∨ k = 2 ∨ k = 4 ∨ k = 8 ∨ k = 16 ∨ k = 32 ∨ k = 64 ∨ k = 128 ∨ k = 256 ∨ k = 512) ∧ (r = true → k ≤ n)) ∧ i = .int .i64 k) (fun i => (513 - intOf i).toNat)
  case atStart => exact ⟨1, hid ⟨by omega, fun h => (powerB_range (HR.out.trans h)).1⟩, rfl⟩
  case round =>
    obtain ⟨k, HK, rfl⟩ := hrel
    have k0 : 1 ≤ k := by have := HK.out.1; omega
    have k1 : k ≤ 512 := by have := HK.out.1; omega
    by_cases hk : k ≤ 256
    · by_cases hn : n = k
      · have hb : (n == k) = true := by simp [hn]
        have hr : r = true := by
          rw [← HR.out]
          refine decide_eq_true ?_
          have := HK.out.1
          omega
        subst hr
        clear hn
        go_wp2
        go_ret
        exact ⟨rfl, rfl⟩
      · have hb : (n == k) = false := by simp [hn]
        have HN := hid hn
        clear hn
        go_wp2
        go_round
        case rel =>
          refine ⟨2 * k, hid ⟨by have := HK.out.1; omega, fun h => ?_⟩, rfl⟩
          have h1 := of_decide_eq_true (HR.out.trans h)
          have h2 := HK.out
          have h3 := h2.2 h
          have h4 := HN.out
          have h5 := h2.1
          omega
        case measure => simp [intOf]; omega
    · have hr : r = false := by
        cases r with
        | false => rfl
        | true =>
          have h1 := powerB_range HR.out
          have h2 := HK.out.2 rfl
          omega
      subst hr
      go_wp2
      go_ret
      exact ⟨rfl, rfl⟩

/-- A queue's pieces. -/
def areaC (sz d a u : Int) : Array Value := #[.int .u64 d, .int .u64 (16 * sz), .int .u64 a, .int .u64 (6 + 2 * sz), .int .u64 u, .int .u64 (6 + 8 * sz)]
def AreasPost (sz d a u : Int) (w : World) (e : Ending) (w' : World) : Prop :=
  ∃ b : Nat, e = .returned (.slice (some ⟨b, 0, none⟩) 3 3) ∧ w'.heap[b]? = some (.cells (areaC sz d a u) 38 (0, 0)) ∧ w.heap.size ≤ b ∧ Kept No w w'
set_option maxRecDepth 100000 in
theorem rareas_calls (sz d a u : Int) (w : World) (hs : 1 ≤ sz ∧ sz ≤ 256) :
    Calls Try.prog 57 #[.agg #[.int .i64 sz, .int .u64 d, .int .u64 a, .int .u64 u]] w (AreasPost sz d a u w) := by
  obtain ⟨s0, s1⟩ := hs
  have hf := at_new (w.alloc (.cells #[.int .i64 sz, .int .u64 d, .int .u64 a, .int .u64 u] 25)) (.cells (areaC sz d a u) 38)
  have hk := ((Kept.refl No w).alloc (.cells #[.int .i64 sz, .int .u64 d, .int .u64 a, .int .u64 u] 25)).alloc (.cells (areaC sz d a u) 38)
  have e1 : (w.alloc (.cells #[.int .i64 sz, .int .u64 d, .int .u64 a, .int .u64 u] 25)).heap.size = w.heap.size + 1 := by simp
  rw [e1] at hf
  refine calls_to (v := .slice (some ⟨w.heap.size + 1, 0, none⟩) 3 3) ?_ ⟨w.heap.size + 1, rfl, hf, by omega, hk⟩
  unfold areaC
  clear hf hk e1
  go_enter Try.func57, Try.ntmps57
  go_wp2
  go_ret
  exact ⟨rfl, rfl⟩

/-- The error's number of a layout. -/
def checkS (size sz d a u : Int) : Int :=
  if (powerB sz && decide (d % 16 = 0) && decide (a % 2 = 0) && decide (u % 4 = 0)) = true then
    (if (inside d (16 * sz) 2147483648 size && inside a (6 + 2 * sz) 2147483648 size && inside u (6 + 8 * sz) 2147483648 size) = true then 0 else 21) else 150
theorem checkS_ok {size sz d a u : Int} (h : checkS size sz d a u = 0) : powerB sz = true ∧ d % 16 = 0 ∧ a % 2 = 0 ∧ u % 4 = 0 ∧ inside d (16 * sz) 2147483648 size = true ∧ inside a (6 + 2 * sz) 2147483648 size = true ∧ inside u (6 + 8 * sz) 2147483648 size = true := by
  unfold checkS at h
  split at h
  · rename_i h1
    split at h
    · rename_i h2
      simp only [Bool.and_eq_true, decide_eq_true_eq] at h1 h2
      exact ⟨h1.1.1.1, h1.1.1.2, h1.1.2, h1.2, h2.1.1, h2.1.2, h2.2⟩
    · cases h
  · cases h

/-- Where the check stands. -/
structure CkSt (size : Int) (A : Option Addr) (n c b : Nat) (sz d a u : Int) (w W : World) : Prop where
  box : W.heap[w.heap.size]? = some (.cells #[.int .u64 size, .slice A n c] 32 (0, 0))
  ar : W.heap[b]? = some (.cells (areaC sz d a u) 38 (0, 0))
  kept : Kept No w W
section
variable {size : Int} {A : Option Addr} {n c b : Nat} {sz d a u : Int} {w W W' : World}
theorem CkSt.no (h : CkSt size A n c b sz d a u w W) (k : Kept No W W') : CkSt size A n c b sz d a u w W' := ⟨at_kept h.box k (fun h => h), at_kept h.ar k (fun h => h), h.kept.trans k⟩
theorem CkSt.drew (h : CkSt size A n c b sz d a u w W) : CkSt size A n c b sz d a u w W.drew := h.no ((Kept.refl _ _).drew)
theorem CkSt.m0 (h : CkSt size A n c b sz d a u w W) : W.cell? ⟨w.heap.size, 0, none⟩ = some (.int .u64 size) := cells_of h.box 0
theorem CkSt.m1 (h : CkSt size A n c b sz d a u w W) : W.cell? ⟨w.heap.size, 1, none⟩ = some (.slice A n c) := cells_of h.box 1
theorem CkSt.a0 (h : CkSt size A n c b sz d a u w W) : W.cell? ⟨b, 0, none⟩ = some (.int .u64 d) := cells_of h.ar 0
theorem CkSt.a1 (h : CkSt size A n c b sz d a u w W) : W.cell? ⟨b, 1, none⟩ = some (.int .u64 (16 * sz)) := cells_of h.ar 1
theorem CkSt.a2 (h : CkSt size A n c b sz d a u w W) : W.cell? ⟨b, 2, none⟩ = some (.int .u64 a) := cells_of h.ar 2
theorem CkSt.a3 (h : CkSt size A n c b sz d a u w W) : W.cell? ⟨b, 3, none⟩ = some (.int .u64 (6 + 2 * sz)) := cells_of h.ar 3
theorem CkSt.a4 (h : CkSt size A n c b sz d a u w W) : W.cell? ⟨b, 4, none⟩ = some (.int .u64 u) := cells_of h.ar 4
theorem CkSt.a5 (h : CkSt size A n c b sz d a u w W) : W.cell? ⟨b, 5, none⟩ = some (.int .u64 (6 + 8 * sz)) := cells_of h.ar 5
end
theorem inside_of_no {x y z : Bool} {c : Prop} (h : (x && y && z) = false → c) (h2 : x = false ∨ y = false ∨ z = false) : c := h (by rcases h2 with rfl | rfl | rfl <;> simp)

set_option maxHeartbeats 1000000 in
set_option maxRecDepth 100000 in
theorem rcheck_calls (size : Int) (A : Option Addr) (n c : Nat) (sz d a u : Int) (w : World) (hs : 0 ≤ size ∧ size ≤ 268435456) (hd : 0 ≤ d ∧ d ≤ 18446744073709551615) (ha : 0 ≤ a ∧ a ≤ 18446744073709551615) (hu : 0 ≤ u ∧ u ≤ 18446744073709551615) :
    Calls Try.prog 17 #[.agg #[.int .u64 size, .slice A n c], .agg #[.int .i64 sz, .int .u64 d, .int .u64 a, .int .u64 u]] w (fun e w' => e = .returned (.int .i64 (checkS size sz d a u)) ∧ Kept No w w') := by
  have ⟨d0, d1⟩ := hd
  have ⟨a0, a1⟩ := ha
  have ⟨u0, u1⟩ := hu
  have HK := hid (((Kept.refl No w).alloc (.cells #[.int .u64 size, .slice A n c] 32)).alloc (.cells #[.int .i64 sz, .int .u64 d, .int .u64 a, .int .u64 u] 25))
  obtain ⟨r, hr⟩ : ∃ r, checkS size sz d a u = r := ⟨_, rfl⟩
  rw [hr]
  have HR := hid hr
  clear hr
  obtain ⟨p, hp⟩ : ∃ p, powerB sz = p := ⟨_, rfl⟩
  obtain ⟨x1, hx1⟩ : ∃ x, (d % 16 != 0) = x := ⟨_, rfl⟩
  obtain ⟨x2, hx2⟩ : ∃ x, (a % 2 != 0) = x := ⟨_, rfl⟩
  obtain ⟨x3, hx3⟩ : ∃ x, (u % 4 != 0) = x := ⟨_, rfl⟩
  have HP := hid hp
  have q1 : decide (d % 16 = 0) = !x1 := by rw [← hx1, bne, Bool.not_not]; rfl
  have q2 : decide (a % 2 = 0) = !x2 := by rw [← hx2, bne, Bool.not_not]; rfl
  have q3 : decide (u % 4 = 0) = !x3 := by rw [← hx3, bne, Bool.not_not]; rfl
  have hR2 : (p && !x1 && !x2 && !x3) = false → r = 150 := fun h => by
    rw [← HR.out]; unfold checkS; rw [hp, q1, q2, q3, h]; rfl
  have hR3 : (p && !x1 && !x2 && !x3) = true → r = if (inside d (16 * sz) 2147483648 size && inside a (6 + 2 * sz) 2147483648 size && inside u (6 + 8 * sz) 2147483648 size) = true then 0 else 21 := fun h => by
    rw [← HR.out]; unfold checkS; rw [hp, q1, q2, q3, h]; rfl
  have HR2 := hid hR2
  have HR3 := hid hR3
  clear hp q1 q2 q3 hR2 hR3
  cases p with
  | false =>
    obtain rfl := HR2.out rfl
    go_enter Try.func17, Try.ntmps17
    go_wp2_with (go_at_call 72; refine (rpower_calls _ _).mono ?_; rw [HP.out]; rintro e w1 ⟨rfl, rfl⟩)
    go_ret
    exact ⟨rfl, HK.out⟩
  | true =>
  cases x1 with
  | true =>
    obtain rfl := HR2.out rfl
    go_enter Try.func17, Try.ntmps17
    go_wp2_with (go_at_call 72; refine (rpower_calls _ _).mono ?_; rw [HP.out]; rintro e w1 ⟨rfl, rfl⟩)
    go_ret
    exact ⟨rfl, HK.out⟩
  | false =>
  cases x2 with
  | true =>
    obtain rfl := HR2.out rfl
    go_enter Try.func17, Try.ntmps17
    go_wp2_with (go_at_call 72; refine (rpower_calls _ _).mono ?_; rw [HP.out]; rintro e w1 ⟨rfl, rfl⟩)
    go_ret
    exact ⟨rfl, HK.out⟩
  | false =>
  cases x3 with
  | true =>
    obtain rfl := HR2.out rfl
    go_enter Try.func17, Try.ntmps17
    go_wp2_with (go_at_call 72; refine (rpower_calls _ _).mono ?_; rw [HP.out]; rintro e w1 ⟨rfl, rfl⟩)
    go_ret
    exact ⟨rfl, HK.out⟩
  | false =>
    have hr := HR3.out rfl
    clear HR2 HR3
    have ⟨s0, s1⟩ := powerB_range HP.out
    have HR4 := hid hr
    clear hr
    go_enter Try.func17, Try.ntmps17
    go_wp2_with (go_at_call 72; refine (rpower_calls _ _).mono ?_; rw [HP.out]; rintro e w1 ⟨rfl, rfl⟩)
    refine (rareas_calls sz d a u _ ⟨s0, s1⟩).mono ?_
    rintro e w1 ⟨b, rfl, hb, hbn, hk1⟩
    have hS : CkSt size A n c b sz d a u w w1 := ⟨at_kept (at_alloc (at_new w _) _) hk1 (fun h => h), hb, HK.out.trans hk1⟩
    have HS := hid hS
    clear hS hb hk1 hbn HK hx1 hx2 hx3
    go_wp2_with fail
    go_loopw [6] (fun i wr => ∃ k : Nat, k ≤ 3 ∧ i = .int .i64 k ∧ CkSt size A n c b sz d a u w wr ∧ Hid ((1 ≤ k → inside d (16 * sz) 2147483648 size = true) ∧ (2 ≤ k → inside a (6 + 2 * sz) 2147483648 size = true) ∧ (3 ≤ k → inside u (6 + 8 * sz) 2147483648 size = true))) (fun i _ => 3 - (intOf i).toNat)
    case atStart => exact ⟨0, by omega, rfl, HS.out, hid ⟨by omega, by omega, by omega⟩⟩
    case round =>
      obtain ⟨k, hk, rfl, hS, HI⟩ := hrel
      have HS2 := hid hS
      clear HS hS
      have m0 := HS2.out.m0
      have m1 := HS2.out.m1
      rcases (show k = 0 ∨ k = 1 ∨ k = 2 ∨ k = 3 by omega) with rfl | rfl | rfl | rfl
      · have h0 := HS2.out.a0
        have h1 := HS2.out.a1
        obtain ⟨iv, hiv⟩ : ∃ iv, inside d (16 * sz) 2147483648 size = iv := ⟨_, rfl⟩
        have HIV := hid hiv
        clear hiv
        go_wp2_with fail
        go_region_held3 (fun W => W.cell? ⟨w.heap.size, 0, none⟩ = some (.int .u64 size) ∧ W.cell? ⟨w.heap.size, 1, none⟩ = some (.slice A n c) ∧ W.cell? ⟨b, 0, none⟩ = some (.int .u64 d) ∧ W.cell? ⟨b, 1, none⟩ = some (.int .u64 (16 * sz)))
          (first | (with_reducible exact ⟨HS2.out.m0, HS2.out.m1, HS2.out.a0, HS2.out.a1⟩) | (with_reducible exact ⟨HS2.out.drew.m0, HS2.out.drew.m1, HS2.out.drew.a0, HS2.out.drew.a1⟩) | go_keep)
          ((go_at_call 73; ((with_reducible refine (rhas_calls _ _ _ _ _ _ _ hs ⟨d0, d1⟩ (by omega)).mono ?_); (rintro e w2 ⟨rfl, hk2⟩; rw [HIV.out]; have HS3 : Hid (CkSt size A n c b sz d a u w w2) := (by first | (with_reducible exact hid (HS2.out.no hk2)) | (with_reducible exact hid (HS2.out.drew.no hk2))); clear HS2 m0 m1 h0 h1 hk2; have HS2 := HS3; clear HS3))))
        have HKK := hid HS2.out.kept
        cases iv with
        | false =>
          have hr : r = 21 := by
            rw [HR4.out, HIV.out]
            simp
          subst hr
          go_wp2
          go_ret
          exact ⟨rfl, HKK.out⟩
        | true =>
          go_wp2
          go_roundw
          case rel => exact ⟨1, by omega, rfl, HS2.out, hid ⟨fun _ => HIV.out, fun _ => absurd ‹_› (by omega), fun _ => absurd ‹_› (by omega)⟩⟩
          case measure => simp [intOf]
      · have h0 := HS2.out.a2
        have h1 := HS2.out.a3
        obtain ⟨iv, hiv⟩ : ∃ iv, inside a (6 + 2 * sz) 2147483648 size = iv := ⟨_, rfl⟩
        have HIV := hid hiv
        clear hiv
        go_wp2_with fail
        go_region_held3 (fun W => W.cell? ⟨w.heap.size, 0, none⟩ = some (.int .u64 size) ∧ W.cell? ⟨w.heap.size, 1, none⟩ = some (.slice A n c) ∧ W.cell? ⟨b, 2, none⟩ = some (.int .u64 a) ∧ W.cell? ⟨b, 3, none⟩ = some (.int .u64 (6 + 2 * sz)))
          (first | (with_reducible exact ⟨HS2.out.m0, HS2.out.m1, HS2.out.a2, HS2.out.a3⟩) | (with_reducible exact ⟨HS2.out.drew.m0, HS2.out.drew.m1, HS2.out.drew.a2, HS2.out.drew.a3⟩) | go_keep)
          ((go_at_call 73; ((with_reducible refine (rhas_calls _ _ _ _ _ _ _ hs ⟨a0, a1⟩ (by omega)).mono ?_); (rintro e w2 ⟨rfl, hk2⟩; rw [HIV.out]; have HS3 : Hid (CkSt size A n c b sz d a u w w2) := (by first | (with_reducible exact hid (HS2.out.no hk2)) | (with_reducible exact hid (HS2.out.drew.no hk2))); clear HS2 m0 m1 h0 h1 hk2; have HS2 := HS3; clear HS3))))
        have HKK := hid HS2.out.kept
        cases iv with
        | false =>
          have hr : r = 21 := by
            rw [HR4.out, HIV.out]
            simp
          subst hr
          go_wp2
          go_ret
          exact ⟨rfl, HKK.out⟩
        | true =>
          go_wp2
          go_roundw
          case rel => exact ⟨2, by omega, rfl, HS2.out, hid ⟨fun _ => HI.out.1 (by omega), fun _ => HIV.out, fun _ => absurd ‹_› (by omega)⟩⟩
          case measure => simp [intOf]
      · have h0 := HS2.out.a4
        have h1 := HS2.out.a5
        obtain ⟨iv, hiv⟩ : ∃ iv, inside u (6 + 8 * sz) 2147483648 size = iv := ⟨_, rfl⟩
        have HIV := hid hiv
        clear hiv
        go_wp2_with fail
        go_region_held3 (fun W => W.cell? ⟨w.heap.size, 0, none⟩ = some (.int .u64 size) ∧ W.cell? ⟨w.heap.size, 1, none⟩ = some (.slice A n c) ∧ W.cell? ⟨b, 4, none⟩ = some (.int .u64 u) ∧ W.cell? ⟨b, 5, none⟩ = some (.int .u64 (6 + 8 * sz)))
          (first | (with_reducible exact ⟨HS2.out.m0, HS2.out.m1, HS2.out.a4, HS2.out.a5⟩) | (with_reducible exact ⟨HS2.out.drew.m0, HS2.out.drew.m1, HS2.out.drew.a4, HS2.out.drew.a5⟩) | go_keep)
          ((go_at_call 73; ((with_reducible refine (rhas_calls _ _ _ _ _ _ _ hs ⟨u0, u1⟩ (by omega)).mono ?_); (rintro e w2 ⟨rfl, hk2⟩; rw [HIV.out]; have HS3 : Hid (CkSt size A n c b sz d a u w w2) := (by first | (with_reducible exact hid (HS2.out.no hk2)) | (with_reducible exact hid (HS2.out.drew.no hk2))); clear HS2 m0 m1 h0 h1 hk2; have HS2 := HS3; clear HS3))))
        have HKK := hid HS2.out.kept
        cases iv with
        | false =>
          have hr : r = 21 := by
            rw [HR4.out, HIV.out]
            simp
          subst hr
          go_wp2
          go_ret
          exact ⟨rfl, HKK.out⟩
        | true =>
          go_wp2
          go_roundw
          case rel => exact ⟨3, by omega, rfl, HS2.out, hid ⟨fun _ => HI.out.1 (by omega), fun _ => HI.out.2.1 (by omega), fun _ => HIV.out⟩⟩
          case measure => simp [intOf]
      · have hr : r = 0 := by rw [HR4.out, HI.out.1 (by omega), HI.out.2.1 (by omega), HI.out.2.2 (by omega)]; rfl
        have HK := hid HS2.out.kept
        subst hr
        go_wp2
        go_ret
        exact ⟨rfl, HK.out⟩
end Go.Proofs.Ytognedbehplaeaa
