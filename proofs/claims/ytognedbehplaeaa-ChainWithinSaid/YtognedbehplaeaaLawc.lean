/- ChainWithin: the walk. -/
import Derived.Test.YtognedbehplaeaaLawa
import Derived.Test.YtognedbehplaeaaMem
import Derived.Test.YtognedbehplaeaaWok
import Derived.Test.YtognedbehplaeaaScat
import Derived.Test.YtognedbehplaeaaDiff
import Derived.Test.YtognedbehplaeaaRefch
set_option linter.unusedVariables false
namespace Go.Proofs.Ytognedbehplaeaa
open Go.RowKit

/-- Does an address lie in a piece that is to be written? -/
def inSeg (a : Int) (s : Seg) : Bool := s.write && decide (s.at_ ≤ a ∧ a < s.at_ + s.len)
theorem own_len_le {w : World} {base : Nat} {e : TypeId} {size n : Nat} {v : Value} {xs : List Value} (h : w.ownsRow base e size v n xs) : n ≤ 9223372036854775807 := by
  rcases h.2 with ⟨_, rfl⟩ | ⟨g, cap, cur, _, _, _, hn, hm, _⟩
  · omega
  · unfold maxLen at hm; omega
theorem inSeg_of {a : Int} {l : List Seg} (h : a ∈ addrs true l) : l.any (inSeg a) = true := by
  obtain ⟨s, hs, hw, h1, h2⟩ := mem_addrs.1 h
  rw [List.any_eq_true]
  exact ⟨s, hs, by unfold inSeg; rw [hw, decide_eq_true (And.intro h1 h2)]; rfl⟩

set_option maxHeartbeats 2000000 in
set_option maxRecDepth 100000 in
theorem chainwithin_calls (A : Option Addr) (c : Nat) (ps : List PutV) (sz d a u head : Int) (ind : Bool) (f : Int) (AD : Option Addr) (D : List Int) (m cD : Nat) (w : World) (hP : PutsAt w A ps) (hd : 0 ≤ d ∧ d ≤ 18446744073709551615) (ha : 0 ≤ a ∧ a ≤ 18446744073709551615) (hu : 0 ≤ u ∧ u ≤ 18446744073709551615)
    (hf : 0 ≤ f ∧ f ≤ 18446744073709551615) (hD : Sl w No AD (by8 D)) (hDb : Byt D) (hDm : D.length = m) (hDc : m ≤ cD) (hm9 : m ≤ 9223372036854775807) :
    Calls Try.prog 4 #[.slice A ps.length c, .agg #[.int .i64 sz, .int .u64 d, .int .u64 a, .int .u64 u, .int .i64 head, .bool ind], .agg #[.int .u64 f, .slice AD m cD]] w fun e w' => e = .returned (.bool true) ∧ Kept No w w' := by
  obtain ⟨W0, hW0⟩ : ∃ W, W = (w.alloc (.cells #[.int .i64 sz, .int .u64 d, .int .u64 a, .int .u64 u, .int .i64 head, .bool ind] 27)).alloc (.cells #[.int .u64 f, .slice AD m cD] 51) := ⟨_, rfl⟩
  have hk0 : Kept No w W0 := by rw [hW0]; exact ((Kept.refl No w).alloc _).alloc _
  have hb0 : W0.heap[w.heap.size]? = some (.cells #[.int .i64 sz, .int .u64 d, .int .u64 a, .int .u64 u, .int .i64 head, .bool ind] 27 (0, 0)) := by rw [hW0]; exact at_alloc (at_new w _) _
  have hb1 : W0.heap[w.heap.size + 1]? = some (.cells #[.int .u64 f, .slice AD m cD] 51 (0, 0)) := by
    rw [hW0]
    have := at_new (w.alloc (.cells #[.int .i64 sz, .int .u64 d, .int .u64 a, .int .u64 u, .int .i64 head, .bool ind] 27)) (.cells #[.int .u64 f, .slice AD m cD] 51)
    simpa using this
  have HK0 := hid hk0
  have HB0 := hid hb0
  have HB1 := hid hb1
  have HP0 := hid (hP.no hk0)
  have HD0 := hid (hD.no hk0)
  have HF := hid hf
  have z0 := lt_of hb0
  have z1 := lt_of hb1
  have c0 := fun i => cells_of hb0 i
  have c1 := fun i => cells_of hb1 i
  have HW0 := hid hW0
  have HDM := hid hDm
  clear hP hk0 hb0 hb1 hW0 hD hf hDm
  go_enter Try.func4, Try.ntmps4
  go_wp2_with fail
  rw [← HW0.out]
  refine (awake16_calls W0).mono ?_
  rintro e w1 ⟨rfl, hk1⟩
  have HK1 := hid hk1
  have HP1 := hid (HP0.out.no hk1)
  have HD1 := hid (HD0.out.no hk1)
  clear hk1 HP0 HD0
  go_wp2_with fail
  refine (memory_calls A c ps w1 HP1.out).mono ?_
  clear HP1
  rintro e w2 (⟨p, F, g, B, n, cB, bs, rfl, hM, hn⟩ | ⟨B, n, cB, rfl, hk2⟩)
  · have HK12 := hid hM.kept
    have HK2 := hid (HK1.out.trans hM.kept)
    have HNEW := hid hM.new
    have hx2 := at_new w2 (.cells #[.int .u64 8192, .slice B n cB] 32)
    have hka := (Kept.refl No w2).alloc (.cells #[.int .u64 8192, .slice B n cB] 32)
    obtain ⟨W2, hW2⟩ : ∃ W, W = w2.alloc (.cells #[.int .u64 8192, .slice B n cB] 32) := ⟨_, rfl⟩
    rw [← hW2] at hx2 hka
    have HX2 := hid hx2
    have HKA := hid (HK2.out.trans hka)
    have HKB := hid (HK12.out.trans hka)
    have HR2 := hid (hM.ram.no hka)
    have HLT := hid hM.ram.lt
    have HW2 := hid hW2
    obtain ⟨hr, hfz⟩ := HKA.out.reads
    have x2 := fun i => cells_of HX2.out i
    have zw2 := lt_of HX2.out
    clear hM hx2 hka hW2
    go_wp2_with (rw [← HW2.out])
    refine (rcheck_calls 8192 B n cB sz d a u _ (by omega) hd ha hu).mono ?_
    obtain ⟨cd, hcd⟩ : ∃ cd, checkS 8192 sz d a u = cd := ⟨_, rfl⟩
    rw [hcd]
    rintro e w3 ⟨rfl, hk3⟩
    have HK3 := hid (HKA.out.trans hk3)
    have HKB3 := hid (HKB.out.trans hk3)
    have HX3 := hid (at_kept HX2.out hk3 (fun h => h))
    have HR3 := hid (HR2.out.no hk3)
    clear hr hfz x2 zw2 hk3
    obtain ⟨hrd, hfz⟩ := HK3.out.reads
    by_cases hc : cd = 0
    · subst hc
      have hok := checkS_ok hcd
      have hrange := powerB_range hok.1
      obtain ⟨s, rfl⟩ : ∃ s : Nat, sz = s := ⟨sz.toNat, by omega⟩
      obtain ⟨r, hr⟩ : ∃ r, walkS g 8192 d s head ind = r := ⟨_, rfl⟩
      have HR := hid hr
      have hs : s ≤ 256 := by omega
      have HSOK : Hid (SegsOk 8192 r.segs) := hid (hr ▸ walkS_ok HR3.out.byte (by omega) d s head ind hs)
      clear hcd hok hrange hr
      by_cases hm1 : 100 < m
      · have hm1' : (100 : Int) < m := by omega
        go_wp2
        go_ret
        exact ⟨rfl, HK0.out.trans HK3.out⟩
      have hm1' : (m : Int) ≤ 100 := by omega
      go_wp2_with fail
      refine (walk_calls p F 8192 g d a u head s ind _ HR3.out hd hs).mono ?_
      rw [HR.out]
      rintro e w4 ⟨A4, k4, rfl, ho4, hk4⟩
      have hx4 := at_new w4 (.cells #[.slice A4 r.segs.length k4, .int .u64 r.ta, .int .u64 r.tl] 40)
      have hka := hk4.alloc (.cells #[.slice A4 r.segs.length k4, .int .u64 r.ta, .int .u64 r.tl] 40)
      obtain ⟨W4, hW4⟩ : ∃ W, W = w4.alloc (.cells #[.slice A4 r.segs.length k4, .int .u64 r.ta, .int .u64 r.tl] 40) := ⟨_, rfl⟩
      have hs4 := (own_sl (N := F) ho4 (fun b hb hf => by have := HR3.out.lt b hf; omega)).no ((Kept.refl No w4).alloc (.cells #[.slice A4 r.segs.length k4, .int .u64 r.ta, .int .u64 r.tl] 40))
      rw [← hW4] at hx4 hka hs4
      have HS4 := hid hs4
      have HX4 := hid hx4
      have HK4 := hid (HK3.out.trans hka)
      have HKB4 := hid (HKB3.out.trans hka)
      have HR4 := hid (HR3.out.no hka)
      have HW4 := hid hW4
      have HZ4 : Hid (¬ F w4.heap.size) := hid (fun hf => by have := HR3.out.lt _ hf; have := hk4.size; omega)
      clear hrd hfz hx4 hka ho4 hk4 hs4 hW4
      obtain ⟨hrd, hfz⟩ := HK4.out.reads
      have x4 := fun i => cells_of HX4.out i
      by_cases hcode : r.code = 0
      · have HCODE := hid hcode
        rw [hcode]
        clear hcode
        go_wp2_with (rw [← HW4.out])
        refine (copy_calls p F 8192 g _ HR4.out).mono ?_
        rintro e w5 ⟨q, Fq, rfl, hRq, hk5, hFq⟩
        have HK5 := hid (HK4.out.trans hk5)
        have HX5 := hid (at_kept HX4.out hk5 (fun h => h))
        have HS5 := hid (HS4.out.no hk5)
        have HR5 := hid (HR4.out.no hk5)
        have HD5 : Hid (Sl w5 F AD (by8 D)) := hid (HD1.out.far (HKB4.out.trans hk5) HNEW.out)
        have HRQ := hid hRq
        have HDJ : Hid (∀ b, Fq b → ¬ F b) := hid (fun b hb hf => by have := hFq b hb; have := HR4.out.lt b hf; omega)
        clear hrd hfz x4 hRq hk5 hFq
        obtain ⟨hrd, hfz⟩ := HK5.out.reads
        have x5 := fun i => cells_of HX5.out i
        go_wp2_with fail
        refine (scatter_calls p F 8192 g A4 r.segs.length k4 r.segs r.ta r.tl f AD D m cD _ HR5.out HS5.out rfl HSOK.out HF.out HD5.out hDb HDM.out hDc (by omega)).mono ?_
        obtain ⟨ok, hok⟩ : ∃ ok, fits r.segs f m = ok := ⟨_, rfl⟩
        obtain ⟨g2, hg2⟩ : ∃ g2, (if fits r.segs f m = true then scat g r.segs f.toNat D else g) = g2 := ⟨_, rfl⟩
        rw [hg2, hok]
        rintro e w6 ⟨F6, rfl, hR6, hC6⟩
        have HX6 := hid (at_kept HX5.out hC6.kept HZ4.out)
        have HRQ6 := hid (HRQ.out.kept hC6.kept HDJ.out)
        have HR6 := hid hR6
        have HS6 := hid (HS5.out.change hC6)
        have HK6 : Hid (Kept No W0 w6) := hid (HK5.out.then_ hC6.kept (fun b hb => .inr (Nat.le_trans HK1.out.size (HNEW.out b hb))))
        have HG2 := hid hg2
        have HOKK := hid hok
        clear hrd hfz x5 hR6 hC6 HR5 HS5 HX5 HRQ hg2 hok
        go_wp2_with fail
        refine (differ_calls q p Fq F6 8192 g g2 5000 _ HRQ6.out HR6.out (by omega) (by omega)).mono ?_
        obtain ⟨L, hL⟩ : ∃ L, diffS g g2 (8192 : Int).toNat 5000 = L := ⟨_, rfl⟩
        rw [hL]
        rintro e w7 ⟨A7, c7, rfl, ho7, hk7⟩
        have HK7 := hid (HK6.out.trans hk7)
        have HX7 := hid (at_kept HX6.out hk7 (fun h => h))
        have HS7 := hid ((HS6.out.less (F := No) (fun _ h => h.elim)).no hk7)
        have HO7 := hid (own_sl (N := No) ho7 (fun _ _ h => h))
        have HLM := hid (own_len_le ho7)
        have HL := hid hL
        clear ho7 hk7 hL
        cases ok with
        | false =>
          have hLn : L = [] := by
            have hgg : g = g2 := by rw [← HG2.out, HOKK.out]; rfl
            rw [← HL.out, ← hgg, diffS_nil]
          subst hLn
          simp only [List.length_nil]
          go_wp2
          go_ret
          exact ⟨rfl, HK0.out.trans HK7.out⟩
        | true =>
          have hLin : ∀ q ∈ L, 1 ≤ q.2 ∧ 2147483648 ≤ q.1 ∧ q.1 + q.2 ≤ 2147483648 + 8192 ∧ ∀ x, q.1 ≤ x → x < q.1 + q.2 → r.segs.any (inSeg x) = true := by
            have hgg : scat g r.segs f.toNat D = g2 := by rw [← HG2.out, HOKK.out]; rfl
            intro q hq
            rw [← HL.out] at hq
            have h1 := mem_spansOf (most := 5000) (diffL g g2 (8192 : Int).toNat) q hq
            have h2 := mem_diffL (h1.2 q.1 (Int.le_refl _) (by omega))
            have h3 := mem_diffL (h1.2 (q.1 + q.2 - 1) (by omega) (by omega))
            refine ⟨h1.1, h2.1, by have := h3.2.1; have e : (((8192 : Int).toNat : Nat) : Int) = 8192 := rfl; omega, fun x hx1 hx2 => ?_⟩
            have h4 := mem_diffL (h1.2 x hx1 hx2)
            have h5 := scat_other (g := g) (l := r.segs) (f := f.toNat) (D := D) (o := x - 2147483648) (by rw [hgg]; exact fun e => h4.2.2 e.symm)
            rw [show 2147483648 + (x - 2147483648) = x from by omega] at h5
            exact inSeg_of h5
          have HLI := hid hLin
          clear hLin
          obtain ⟨N, hN⟩ : ∃ N, r.segs.length = N := ⟨_, rfl⟩
          have hN5 : N ≤ 100000 := by have := HSOK.out.len; omega
          have hLM := HLM.out
          obtain ⟨M, hM⟩ : ∃ M, L.length = M := ⟨_, rfl⟩
          rw [hM] at hLM
          rw [hN] at HX7
          have HNN := hid hN
          have HMM := hid hM
          simp only [hM, hN]
          clear hN hM
          go_wp2_with fail
          go_loopw [14] (fun iv wr => ∃ k : Nat, k ≤ M ∧ iv = .int .i64 k ∧ Kept No w7 wr) (fun iv _ => M - (intOf iv).toNat)
          case atStart => exact ⟨0, by omega, rfl, Kept.refl _ _⟩
          case round =>
            obtain ⟨k, hk, rfl, hK⟩ := hrel
            have HKK := hid hK
            clear hK
            by_cases hlt : k < M
            · obtain ⟨q0, hq⟩ : ∃ q, L[k]? = some q := ⟨_, List.getElem?_eq_getElem (by rw [HMM.out]; exact hlt)⟩
              have hqc := spcells_at hq
              have hqi := HLI.out q0 (List.mem_of_getElem? hq)
              obtain ⟨x, nn⟩ := q0
              simp only at hqc hqi
              obtain ⟨b, o, rfl, -, hbl, y0⟩ := HO7.out.at_ hqc.1
              obtain ⟨b', o', e', -, -, y1⟩ := HO7.out.at_ hqc.2
              obtain ⟨rfl, rfl⟩ : b = b' ∧ o = o' := by simpa using e'
              rw [← Nat.add_assoc] at y1
              obtain ⟨q1, q2, q3, q4⟩ := hqi
              have HQ4 := hid q4
              have HY := hid (And.intro hbl (And.intro y0 y1))
              have v0 := (HKK.out.reads.1 _ _ hbl).trans y0
              clear hqc hq e' q4 y0 y1 hbl
              have hlt' : (k : Int) < M := by omega
              have hk0 : (0 : Int) ≤ k := by omega
              go_wp2_with fail
              clear v0
              obtain ⟨wo, hwo⟩ : ∃ wo : World, wo = wr := ⟨_, rfl⟩
              go_loopw [15] (fun zv wr => ∃ z : Int, x ≤ z ∧ z ≤ x + nn ∧ zv = .int .u64 z ∧ Kept No w7 wr) (fun zv _ => (x + nn - intOf zv).toNat)
              case atStart => exact ⟨x, by omega, by omega, rfl, HKK.out⟩
              case round =>
                clear HKK
                obtain ⟨z, hz1, hz2, rfl, hK⟩ := hrel
                have HKK := hid hK
                clear hK
                have v0 := (HKK.out.reads.1 _ _ HY.out.1).trans HY.out.2.1
                have v1 := (HKK.out.reads.1 _ _ HY.out.1).trans HY.out.2.2
                by_cases hzn : z - x < nn
                · go_wp2_with fail
                  go_quiet (fail)
                  clear v0 v1
                  go_wp2_with fail
                  obtain ⟨wp, hwp⟩ : ∃ wp : World, wp = wr := ⟨_, rfl⟩
                  go_loopw [16, 17] (fun bv jv wr => ∃ (j : Nat) (bb : Bool), j ≤ N ∧ jv = .int .i64 j ∧ bv = .bool bb ∧ Hid (bb = (r.segs.take j).any (inSeg z)) ∧ Kept No w7 wr) (fun _ jv _ => N - (intOf jv).toNat)
                  case atStart => exact ⟨0, false, by omega, rfl, rfl, hid rfl, HKK.out.drewN _⟩
                  case round =>
                    clear HKK
                    obtain ⟨j, bb, hj, rfl, rfl, HBB, hK⟩ := hrel
                    have HKK := hid hK
                    have HX := hid (at_kept HX7.out hK (fun h => h))
                    have x8 := fun i => cells_of HX.out i
                    clear hK
                    by_cases hj2 : j < N
                    · obtain ⟨sg, hs⟩ : ∃ s, r.segs[j]? = some s := ⟨_, List.getElem?_eq_getElem (by rw [HNN.out]; exact hj2)⟩
                      have hsc := scells_at hs
                      have hat := HSOK.out.at_ (List.mem_of_getElem? hs)
                      have hany : (r.segs.take (j + 1)).any (inSeg z) = (bb || inSeg z sg) := by rw [take_seg hs, List.any_append, ← HBB.out]; simp
                      obtain ⟨sa, sl, sw⟩ := sg
                      simp only at hsc hat
                      obtain ⟨l0, l1, a0, a1⟩ := hat
                      obtain ⟨b2, o2, rfl, -, -, s0⟩ := (HS7.out.no HKK.out).at_ hsc.1
                      obtain ⟨b', o', e', -, -, s1⟩ := (HS7.out.no HKK.out).at_ hsc.2.1
                      obtain ⟨rfl, rfl⟩ : b2 = b' ∧ o2 = o' := by simpa using e'
                      obtain ⟨b', o', e', -, -, s2⟩ := (HS7.out.no HKK.out).at_ hsc.2.2
                      obtain ⟨rfl, rfl⟩ : b2 = b' ∧ o2 = o' := by simpa using e'
                      rw [← Nat.add_assoc] at s1 s2
                      have HANY := hid hany
                      have zx := lt_of HX.out
                      clear e' hsc hs hany HBB
                      have hj2' : (j : Int) < N := by omega
                      have hj0 : (0 : Int) ≤ j := by omega
                      cases bb with
                      | true =>
                        go_wp2
                        go_roundw
                        case rel => exact ⟨j + 1, true, by omega, by go_num, rfl, hid (by rw [HANY.out]; rfl), HKK.out.alloc _⟩
                        case measure => simp [intOf]; omega
                      | false =>
                        cases sw with
                        | false =>
                          go_wp2
                          go_roundw
                          case rel => exact ⟨j + 1, false, by omega, by go_num, rfl, hid (by rw [HANY.out]; rfl), HKK.out.alloc _⟩
                          case measure => simp [intOf]; omega
                        | true =>
                          by_cases h1 : sa ≤ z
                          · by_cases h2 : z - sa < sl
                            · go_wp2
                              go_roundw
                              case rel => exact ⟨j + 1, true, by omega, by go_num, rfl, hid (by rw [HANY.out]; simp [inSeg]; omega), HKK.out.alloc _⟩
                              case measure => simp [intOf]; omega
                            · go_wp2
                              go_roundw
                              case rel => exact ⟨j + 1, false, by omega, by go_num, rfl, hid (by rw [HANY.out]; simp [inSeg]; omega), HKK.out.alloc _⟩
                              case measure => simp [intOf]; omega
                          · go_wp2
                            go_roundw
                            case rel => exact ⟨j + 1, false, by omega, by go_num, rfl, hid (by rw [HANY.out]; simp [inSeg]; omega), HKK.out.alloc _⟩
                            case measure => simp [intOf]; omega
                    · have hjj : j = N := by omega
                      subst hjj
                      have hbb : bb = true := by rw [HBB.out, ← HNN.out, List.take_length]; exact HQ4.out z hz1 (by omega)
                      subst hbb
                      clear HBB
                      go_wp2
                      go_roundw
                      case rel => exact ⟨z + 1, by omega, by omega, rfl, HKK.out⟩
                      case measure => simp [intOf]; omega
                · go_wp2_with fail
                  go_quiet (fail)
                  clear v0 v1
                  go_wp2
                  go_roundw
                  case rel => exact ⟨k + 1, by omega, by go_num, HKK.out.drewN _⟩
                  case measure => simp [intOf]; omega
            · have hkk : k = M := by omega
              subst hkk
              go_wp2
              go_ret
              exact ⟨rfl, HK0.out.trans (HK7.out.trans HKK.out)⟩
      · have HCODE := hid hcode
        go_wp2_with (rw [← HW4.out])
        go_ret
        exact ⟨rfl, HK0.out.trans HK4.out⟩
    · have HC := hid hc
      clear hcd
      go_wp2
      go_ret
      exact ⟨rfl, HK0.out.trans HK3.out⟩
  · have HK2 := hid (HK1.out.trans hk2)
    clear hk2
    go_wp2
    go_ret
    exact ⟨rfl, (HK0.out.trans HK2.out).alloc _⟩
end Go.Proofs.Ytognedbehplaeaa
