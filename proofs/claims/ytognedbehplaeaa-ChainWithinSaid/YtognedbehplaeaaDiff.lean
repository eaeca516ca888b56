/- Where two memories differ: the program's Differ. -/
import Derived.Test.YtognedbehplaeaaSpan
import Derived.Test.YtognedbehplaeaaRam
import Derived.Deep.QuietTactic
import Derived.BigQuiet
set_option linter.unusedVariables false
namespace Go.Proofs.Ytognedbehplaeaa
open Go.RowKit

def SpansPost (L : List (Int × Int)) (w : World) (e : Ending) (w' : World) : Prop :=
  ∃ A c, e = .returned (.slice A L.length c) ∧ w'.ownsRow w.heap.size 38 2 (.slice A L.length c) L.length (spcells L) ∧ Kept No w w'
/-- Where it stands: m addresses are behind it. -/
structure DfSt (g g2 : Int → Int) (most : Nat) (w : World) (m : Nat) (A : Option Addr) (n c : Nat) (L : List (Int × Int)) (W : World) : Prop where
  len : L.length = n
  own : W.ownsRow w.heap.size 38 2 (.slice A n c) n (spcells L)
  spans : spansOf most (diffL g g2 m) = (L, false)
  le : n ≤ most
  kept : Kept No w W
section
variable {g g2 : Int → Int} {most : Nat} {w : World} {m : Nat} {A : Option Addr} {n c : Nat} {L : List (Int × Int)} {W W' : World}
theorem DfSt.no (h : DfSt g g2 most w m A n c L W) (k : Kept No W W') : DfSt g g2 most w m A n c L W' := ⟨h.len, own_no0 h.own k, h.spans, h.le, h.kept.trans k⟩
theorem DfSt.same (h : DfSt g g2 most w m A n c L W) (hg : g m = g2 m) : DfSt g g2 most w (m + 1) A n c L W := ⟨h.len, h.own, by rw [diffL_same hg]; exact h.spans, h.le, h.kept⟩
theorem DfSt.skip (h : DfSt g g2 most w m A n c L W) (k : Nat) (hg : ∀ i, i < k → g (m + i : Nat) = g2 (m + i : Nat)) : DfSt g g2 most w (m + k) A n c L W := ⟨h.len, h.own, by rw [diffL_skip m k hg]; exact h.spans, h.le, h.kept⟩
theorem DfSt.as {m' : Nat} (h : DfSt g g2 most w m A n c L W) (e : m = m') : DfSt g g2 most w m' A n c L W := e ▸ h
theorem DfSt.push {a : Int} {gg cap : Nat} {X : World} (h : DfSt g g2 most w m A n c L W) (own : W'.ownsRow w.heap.size 38 2 (.slice (some ⟨gg, 0, none⟩) (n + 1) cap) (n + 1) (spcells L ++ [.int .u64 a, .int .u64 1])) (hg : X.grownBy W' (Value.slice A n c).ownBlock) (hX : Kept No W X)
    (hst : spansOf most (diffL g g2 (m + 1)) = (L ++ [(a, 1)], false)) (hn : n + 1 ≤ most) : DfSt g g2 most w (m + 1) (some ⟨gg, 0, none⟩) (n + 1) cap (L ++ [(a, 1)]) W' :=
  ⟨by rw [List.length_append, h.len]; rfl, by rw [spcells_snoc]; exact own, hst, hn, (h.kept.trans hX).grown hg (fun k hk => .inr (own_lt h.own hk).1)⟩
theorem DfSt.more {gb k : Nat} {L0 : List (Int × Int)} {x y : Int} (h : DfSt g g2 most w m (some ⟨gb, 0, none⟩) n c (L0 ++ [(x, y)]) W) (hg : g m ≠ g2 m) (hx : x + y = 2147483648 + m) (hk : L0.length = k) :
    DfSt g g2 most w (m + 1) (some ⟨gb, 0, none⟩) n c (L0 ++ [(x, y + 1)]) (W.setCell ⟨gb, k * 2 + 1, none⟩ (.int .u64 (y + 1))) := by
  subst hk
  refine ⟨by have := h.len; simpa using this, ?_, by rw [diffL_other hg, spansOf_snoc, h.spans, spanStep_more hx], h.le, ?_⟩
  · have := own_set h.own (j := L0.length * 2 + 1) (by rw [spcells_length]; simp; omega) (.int .u64 (y + 1))
    rwa [spcells_set] at this
  · exact h.kept.set (.inr (own_lt h.own (k := gb) rfl).1) _
end
theorem info_span : (Try.prog.info? 38).map (fun i => (i.zero, i.size, i.bytes)) = some (some (.agg #[.int .u64 0, .int .u64 0]), 2, 16) := by kernel_rfl

set_option maxHeartbeats 4000000 in
set_option maxRecDepth 100000 in
theorem differ_calls (p q : Nat) (F F2 : Nat → Prop) (size : Int) (g g2 : Int → Int) (most : Nat) (w : World) (h1 : RamAt w p F size g) (h2 : RamAt w q F2 size g2) (hs : size % 4096 = 0) (hm : 0 < most ∧ most ≤ 100000) :
    Calls Try.prog 23 #[.pointer (some ⟨p, 0, none⟩), .pointer (some ⟨q, 0, none⟩), .int .i64 most] w (SpansPost (diffS g g2 size.toNat most) w) := by
  have hsz := h1.size
  obtain ⟨np, hnp⟩ : ∃ np : Nat, size = 4096 * (np : Int) := ⟨(size / 4096).toNat, by omega⟩
  obtain ⟨R, hRR⟩ : ∃ R, diffS g g2 size.toNat most = R := ⟨_, rfl⟩
  rw [hRR]
  have hto : size.toNat = 4096 * np := by omega
  rw [hto] at hRR
  have HFR : Hid ((∀ L, spansOf most (diffL g g2 (4096 * np)) = (L, false) → R = L) ∧ ∀ m L, m ≤ 4096 * np → spansOf most (diffL g g2 m) = (L, true) → R = L) := hid ⟨fun L h => by rw [← hRR, diffS, h], fun m L hm h => by
    obtain ⟨l, hl⟩ := diffL_add g g2 m (4096 * np - m)
    rw [show m + (4096 * np - m) = 4096 * np from by omega] at hl
    rw [← hRR, diffS, hl, spansOf_done h]⟩
  have hdiv : size / 4096 = np := by omega
  have hnp1 : np ≤ 65536 := by omega
  have HDIV := hid hdiv
  clear hdiv
  obtain ⟨m0, m1⟩ := hm
  have H1 := hid h1
  have H2 := hid h2
  obtain ⟨r1, es1, cl1, hp1, -, -, -, -, hP1⟩ := h1
  obtain ⟨r2, es2, cl2, hp2, -, -, -, -, hP2⟩ := h2
  have HP1 := hid hP1
  have HP2 := hid hP2
  have HB1 := hid hp1
  have HB2 := hid hp2
  have cp := fun i => cells_of hp1 i
  have cq := fun i => cells_of hp2 i
  obtain ⟨ti, hti, hz0, hz1, hz2⟩ := info_parts info_span
  have HTI := hid hti
  clear hRR hto hP1 hP2 hp1 hp2 hnp hs hti
  go_enter Try.func23, Try.ntmps23
  go_wp2_with fail
  go_quiet (fail)
  go_wp2_with fail
  clear cp cq
  go_loopw [7, 8] (fun v nv wr => ∃ (k n c : Nat) (A : Option Addr) (L : List (Int × Int)), k ≤ np ∧ nv = .int .u64 k ∧ v = .slice A n c ∧ DfSt g g2 most w (4096 * k) A n c L wr) (fun _ nv _ => np - (intOf nv).toNat)
  case atStart => exact ⟨0, 0, 0, none, [], by omega, rfl, rfl, ⟨rfl, World.ownsRow_nil _ _ _ _, rfl, by omega, (Kept.refl No w).drewN _⟩⟩
  case round =>
    obtain ⟨k, n, c, A, L, hk, rfl, rfl, hS⟩ := hrel
    have HS := hid hS
    have hK := hS.kept
    have cp := fun i => cells_of (at_kept HB1.out hK (fun h => h)) i
    have cq := fun i => cells_of (at_kept HB2.out hK (fun h => h)) i
    by_cases hlt : k < np
    · have hlt' : (k : Int) < size / 4096 := by rw [HDIV.out]; omega
      have hl1 := run_look_word (P := Try.prog) (t := 172) (kt := 23) (et := 176) Try.underlying172 Try.underlying23 zero_page (at_kept HP1.out.map hK (fun h => h)) HP1.out.words (k : Int)
      have hl2 := run_look_word (P := Try.prog) (t := 172) (kt := 23) (et := 176) Try.underlying172 Try.underlying23 zero_page (at_kept HP2.out.map hK (fun h => h)) HP2.out.words (k : Int)
      clear hS hK
      obtain ⟨V1, b1, hv1, hn1⟩ : ∃ V1 b1, (Value.tuple #[(entryOf es1.toList (k : Int)).getD (.pointer none), .bool (entryOf es1.toList (k : Int)).isSome]) = .tuple #[V1, .bool b1] ∧ (b1 = false → entryOf es1.toList (k : Int) = none) := ⟨_, _, rfl, fun h => by simpa using h⟩
      obtain ⟨V2, b2, hv2, hn2⟩ : ∃ V2 b2, (Value.tuple #[(entryOf es2.toList (k : Int)).getD (.pointer none), .bool (entryOf es2.toList (k : Int)).isSome]) = .tuple #[V2, .bool b2] ∧ (b2 = false → entryOf es2.toList (k : Int) = none) := ⟨_, _, rfl, fun h => by simpa using h⟩
      rw [hv1] at hl1
      rw [hv2] at hl2
      have HN1 := hid hn1
      have HN2 := hid hn2
      clear hv1 hv2 hn1 hn2
      cases b1 with
      | true =>
        go_wp2_with fail
        clear hl1 hl2 cp cq
        obtain ⟨wo, hwo⟩ : ∃ wo : World, wo = wr := ⟨_, rfl⟩
        go_loopw [7, 58] (fun v iv wq => ∃ (j n c : Nat) (A : Option Addr) (L : List (Int × Int)), j ≤ 4096 ∧ iv = .int .u64 j ∧ v = .slice A n c ∧ DfSt g g2 most w (4096 * k + j) A n c L wq) (fun _ iv _ => 4096 - (intOf iv).toNat)
        case atStart => exact ⟨0, n, c, A, L, by omega, rfl, rfl, HS.out⟩
        case round =>
          clear HS
          obtain ⟨j, n, c, A, L, hj, rfl, rfl, hS⟩ := hrel
          have HS := hid hS
          clear hS
          by_cases hj2 : j < 4096
          · have hpos : (2147483648 + (k : Int) * 4096 + (j : Int) - 2147483648) % 18446744073709551616 = ((4096 * k + j : Nat) : Int) := by omega
            have hadr : 2147483648 + (k : Int) * 4096 + (j : Int) = 2147483648 + ((4096 * k + j : Nat) : Int) := by omega
            have HPOS := hid hpos
            have HADR := hid hadr
            obtain ⟨o, ho⟩ : ∃ o : Nat, o = 4096 * k + j := ⟨_, rfl⟩
            have HOO := hid ho
            have hom : o ≤ 1000000000 := by omega
            rw [← ho] at HPOS HADR HS
            clear hpos hadr ho
            by_cases hg : g (o : Int) = g2 (o : Int)
            · obtain ⟨x, hx⟩ : ∃ x, g (o : Int) = x := ⟨_, rfl⟩
              have hx2 : g2 (o : Int) = x := by rw [← hg, hx]
              have HX := hid hx
              have HX2 := hid hx2
              have HSA := hid (HS.out.same hg)
              clear hg hx hx2
              go_wp2_with (first | (go_at_call 80; ((with_reducible refine (get_calls p F size g _ _ (H1.out.no HS.out.kept)).mono ?_); (rintro e w2 ⟨rfl, h2⟩; have h3 := h2.symm; subst h3; rw [HPOS.out, HX.out]))) | (go_at_call 80; ((with_reducible refine (get_calls q F2 size g2 _ _ (H2.out.no HS.out.kept)).mono ?_); (rintro e w2 ⟨rfl, h2⟩; have h3 := h2.symm; subst h3; rw [HPOS.out, HX2.out]))))
              go_roundw
              case rel => exact ⟨j + 1, n, c, A, L, by omega, by go_num, rfl, HSA.out.as (by have := HOO.out; omega)⟩
              case measure => simp [intOf]; omega
            · obtain ⟨x, hx⟩ : ∃ x, g (o : Int) = x := ⟨_, rfl⟩
              obtain ⟨y, hy⟩ : ∃ y, g2 (o : Int) = y := ⟨_, rfl⟩
              have hxy : (x == y) = false := by simp; rw [← hx, ← hy]; exact hg
              have HG := hid hg
              have HX := hid hx
              have HY := hid hy
              clear hg hx hy
              rcases List.eq_nil_or_concat L with rfl | ⟨L0, ⟨x0, n0⟩, hL⟩
              · have hn0 : n = 0 := HS.out.len.symm
                subst hn0
                have HSP : Hid (spansOf most (diffL g g2 (o + 1)) = ([(2147483648 + (o : Int), 1)], false)) := hid (by rw [diffL_other HG.out, spansOf_snoc, HS.out.spans, spanStep_first m0])
                have hmo : ¬ (most : Int) ≤ 0 := by omega
                go_wp2_with (first | (go_at_call 80; ((with_reducible refine (get_calls p F size g _ _ (H1.out.no HS.out.kept)).mono ?_); (rintro e w2 ⟨rfl, h2⟩; have h3 := h2.symm; subst h3; rw [HPOS.out, HX.out]))) | (go_at_call 80; ((with_reducible refine (get_calls q F2 size g2 _ _ (H2.out.no HS.out.kept)).mono ?_); (rintro e w2 ⟨rfl, h2⟩; have h3 := h2.symm; subst h3; rw [HPOS.out, HY.out]))))
                go_quiet (fail)
                have HOD := hid (fun nq => own_keep (w' := wr.drewN nq) HS.out.own (fun _ _ => rfl))
                go_wp2_with (at_builtin; refine wpList_append_lies _ rfl (.tmp 106) (.tmp 109) _ rfl w.heap.size 38 ti _ 2 16 Try.underlying54 HTI.out hz0 hz1 hz2 rfl (by omega) (.slice A 0 c) 0 (spcells ([])) rfl ((HOD.out _).alloc _) ⟨wr.heap.size, 0, none⟩ 1 1 [.int .u64 (2147483648 + (k : Int) * 4096 + (j : Int)), .int .u64 1] rfl rfl (World.news_of_block (cs := #[.int .u64 (2147483648 + (k : Int) * 4096 + (j : Int)), .int .u64 1]) (t := 38) (fr := (0, 0)) (heap_alloc_new _ _)) (by simp [Value.oneCell']) (by omega) (by unfold maxLen; omega) (by omega) (by have := HS.out.kept.size; simp; omega) _ rfl ?_; intro gg cap w5 hown5 hg5 hat5 hlt5)
                simp only [Nat.zero_add] at hown5
                have HD5 := hid (HS.out.push (X := _) (by rw [HADR.out] at hown5; exact hown5) hg5 ((Kept.refl No wr).drewN _ |>.alloc _) HSP.out (by omega))
                clear hown5 hg5 hat5
                go_roundw
                case rel => exact ⟨j + 1, 1, cap, some ⟨gg, 0, none⟩, _, by omega, by go_num, rfl, HD5.out.as (by have := HOO.out; omega)⟩
                case measure => simp [intOf]; omega
              · rw [List.concat_eq_append] at hL
                subst hL
                obtain ⟨K0, hK0⟩ : ∃ K0, L0.length = K0 := ⟨_, rfl⟩
                have hn1 : n = K0 + 1 := by have := HS.out.len; simp at this; omega
                subst hn1
                obtain ⟨gb, rfl, hgb, hgl⟩ := own_gb HS.out.own (by omega)
                have hlast := spcells_last L0 x0 n0
                rw [hK0] at hlast
                have cx := own_at HS.out.own hlast.1
                have cn := own_at HS.out.own hlast.2
                have cf := own_free HS.out.own (K0 * 2 + 1)
                have hmem := mem_spansOf (most := most) (diffL g g2 o) (x0, n0) (by rw [HS.out.spans]; simp)
                have hm1 := mem_diffL (hmem.2 x0 (by simp) (by have := hmem.1; simp at this ⊢; omega))
                have hm2 := mem_diffL (hmem.2 (x0 + n0 - 1) (by have := hmem.1; simp at this ⊢; omega) (by simp; omega))
                have hn0 : 1 ≤ n0 := hmem.1
                have hxa : 2147483648 ≤ x0 := hm1.1
                have hxb : x0 + n0 ≤ 2147483648 + o := by have := hm2.2.1; omega
                have hK1 := HS.out.le
                have HK0 := hid hK0
                clear hlast hmem hm1 hm2 hK0
                have hk0 : (0 : Int) ≤ (K0 : Int) := by omega
                by_cases hxe : x0 + n0 = 2147483648 + (o : Int)
                · have hb : (x0 + n0 == 2147483648 + (k : Int) * 4096 + (j : Int)) = true := by rw [HADR.out]; simp [hxe]
                  have HM := hid (HS.out.more HG.out hxe HK0.out)
                  clear hxe
                  go_wp2_with (first | (go_at_call 80; ((with_reducible refine (get_calls p F size g _ _ (H1.out.no HS.out.kept)).mono ?_); (rintro e w2 ⟨rfl, h2⟩; have h3 := h2.symm; subst h3; rw [HPOS.out, HX.out]))) | (go_at_call 80; ((with_reducible refine (get_calls q F2 size g2 _ _ (H2.out.no HS.out.kept)).mono ?_); (rintro e w2 ⟨rfl, h2⟩; have h3 := h2.symm; subst h3; rw [HPOS.out, HY.out]))))
                  go_quiet (fail)
                  go_wp2
                  go_roundw
                  case rel => exact ⟨j + 1, K0 + 1, c, some ⟨gb, 0, none⟩, _, by omega, by go_num, by simp, (HM.out.no ((Kept.refl _ _).drewN _)).as (by have := HOO.out; omega)⟩
                  case measure => simp [intOf]; omega
                · have hb : (x0 + n0 == 2147483648 + (k : Int) * 4096 + (j : Int)) = false := by rw [HADR.out]; simp [hxe]
                  have HXE := hid hxe
                  clear hxe
                  by_cases hmo : K0 + 1 < most
                  · have HSP : Hid (spansOf most (diffL g g2 (o + 1)) = (L0 ++ [(x0, n0)] ++ [(2147483648 + (o : Int), 1)], false)) := hid (by rw [diffL_other HG.out, spansOf_snoc, HS.out.spans, spanStep_new HXE.out (by rw [List.length_append, HK0.out]; exact hmo)])
                    go_wp2_with (first | (go_at_call 80; ((with_reducible refine (get_calls p F size g _ _ (H1.out.no HS.out.kept)).mono ?_); (rintro e w2 ⟨rfl, h2⟩; have h3 := h2.symm; subst h3; rw [HPOS.out, HX.out]))) | (go_at_call 80; ((with_reducible refine (get_calls q F2 size g2 _ _ (H2.out.no HS.out.kept)).mono ?_); (rintro e w2 ⟨rfl, h2⟩; have h3 := h2.symm; subst h3; rw [HPOS.out, HY.out]))))
                    go_quiet (fail)
                    have HOD := hid (fun nq => own_keep (w' := wr.drewN nq) HS.out.own (fun _ _ => rfl))
                    go_wp2_with (at_builtin; refine wpList_append_lies _ rfl (.tmp 106) (.tmp 109) _ rfl w.heap.size 38 ti _ 2 16 Try.underlying54 HTI.out hz0 hz1 hz2 rfl (by omega) (.slice (some ⟨gb, 0, none⟩) (K0 + 1) c) (K0 + 1) (spcells (L0 ++ [(x0, n0)])) rfl ((HOD.out _).alloc _) ⟨wr.heap.size, 0, none⟩ 1 1 [.int .u64 (2147483648 + (k : Int) * 4096 + (j : Int)), .int .u64 1] rfl rfl (World.news_of_block (cs := #[.int .u64 (2147483648 + (k : Int) * 4096 + (j : Int)), .int .u64 1]) (t := 38) (fr := (0, 0)) (heap_alloc_new _ _)) (by simp [Value.oneCell']) (by omega) (by unfold maxLen; omega) (by omega) (by have := HS.out.kept.size; simp; omega) _ rfl ?_; intro gg cap w5 hown5 hg5 hat5 hlt5)
                    have HD5 := hid (HS.out.push (X := _) (by rw [HADR.out] at hown5; exact hown5) hg5 ((Kept.refl No wr).drewN _ |>.alloc _) HSP.out (by omega))
                    clear hown5 hg5 hat5
                    go_roundw
                    case rel => exact ⟨j + 1, K0 + 1 + 1, cap, some ⟨gg, 0, none⟩, _, by omega, by go_num, by simp, HD5.out.as (by have := HOO.out; omega)⟩
                    case measure => simp [intOf]; omega
                  · have hspf : spansOf most (diffL g g2 (o + 1)) = (L0 ++ [(x0, n0)], true) := by rw [diffL_other HG.out, spansOf_snoc, HS.out.spans, spanStep_full HXE.out (by rw [List.length_append, HK0.out]; simp; omega)]
                    have hR := HFR.out.2 (o + 1) _ (by have := HOO.out; omega) hspf
                    have hfin : ∀ a, SpansPost R w (.returned (.slice (some ⟨gb, 0, none⟩) (K0 + 1) c)) (wr.drewN a) := fun a => ⟨some ⟨gb, 0, none⟩, c, by rw [hR, List.length_append, HK0.out]; rfl, by rw [hR, List.length_append, HK0.out]; exact own_keep HS.out.own (fun _ _ => rfl), HS.out.kept.drewN a⟩
                    have HFIN := hid hfin
                    clear hspf hR hfin
                    go_wp2_with (first | (go_at_call 80; ((with_reducible refine (get_calls p F size g _ _ (H1.out.no HS.out.kept)).mono ?_); (rintro e w2 ⟨rfl, h2⟩; have h3 := h2.symm; subst h3; rw [HPOS.out, HX.out]))) | (go_at_call 80; ((with_reducible refine (get_calls q F2 size g2 _ _ (H2.out.no HS.out.kept)).mono ?_); (rintro e w2 ⟨rfl, h2⟩; have h3 := h2.symm; subst h3; rw [HPOS.out, HY.out]))))
                    go_quiet (fail)
                    go_wp2
                    go_ret
                    exact HFIN.out _
          · have hjj : j = 4096 := by omega
            subst hjj
            go_wp2
            go_roundw
            case rel => exact ⟨k + 1, n, c, A, L, by omega, by go_num, rfl, HS.out.as (by omega)⟩
            case measure => simp [intOf]; omega
      | false =>
        cases b2 with
        | true =>
          go_wp2_with fail
          clear hl1 hl2 cp cq
          obtain ⟨wo, hwo⟩ : ∃ wo : World, wo = wr := ⟨_, rfl⟩
          go_loopw [7, 58] (fun v iv wq => ∃ (j n c : Nat) (A : Option Addr) (L : List (Int × Int)), j ≤ 4096 ∧ iv = .int .u64 j ∧ v = .slice A n c ∧ DfSt g g2 most w (4096 * k + j) A n c L wq) (fun _ iv _ => 4096 - (intOf iv).toNat)
          case atStart => exact ⟨0, n, c, A, L, by omega, rfl, rfl, HS.out⟩
          case round =>
            clear HS
            obtain ⟨j, n, c, A, L, hj, rfl, rfl, hS⟩ := hrel
            have HS := hid hS
            clear hS
            by_cases hj2 : j < 4096
            · have hpos : (2147483648 + (k : Int) * 4096 + (j : Int) - 2147483648) % 18446744073709551616 = ((4096 * k + j : Nat) : Int) := by omega
              have hadr : 2147483648 + (k : Int) * 4096 + (j : Int) = 2147483648 + ((4096 * k + j : Nat) : Int) := by omega
              have HPOS := hid hpos
              have HADR := hid hadr
              obtain ⟨o, ho⟩ : ∃ o : Nat, o = 4096 * k + j := ⟨_, rfl⟩
              have HOO := hid ho
              have hom : o ≤ 1000000000 := by omega
              rw [← ho] at HPOS HADR HS
              clear hpos hadr ho
              by_cases hg : g (o : Int) = g2 (o : Int)
              · obtain ⟨x, hx⟩ : ∃ x, g (o : Int) = x := ⟨_, rfl⟩
                have hx2 : g2 (o : Int) = x := by rw [← hg, hx]
                have HX := hid hx
                have HX2 := hid hx2
                have HSA := hid (HS.out.same hg)
                clear hg hx hx2
                go_wp2_with (first | (go_at_call 80; ((with_reducible refine (get_calls p F size g _ _ (H1.out.no HS.out.kept)).mono ?_); (rintro e w2 ⟨rfl, h2⟩; have h3 := h2.symm; subst h3; rw [HPOS.out, HX.out]))) | (go_at_call 80; ((with_reducible refine (get_calls q F2 size g2 _ _ (H2.out.no HS.out.kept)).mono ?_); (rintro e w2 ⟨rfl, h2⟩; have h3 := h2.symm; subst h3; rw [HPOS.out, HX2.out]))))
                go_roundw
                case rel => exact ⟨j + 1, n, c, A, L, by omega, by go_num, rfl, HSA.out.as (by have := HOO.out; omega)⟩
                case measure => simp [intOf]; omega
              · obtain ⟨x, hx⟩ : ∃ x, g (o : Int) = x := ⟨_, rfl⟩
                obtain ⟨y, hy⟩ : ∃ y, g2 (o : Int) = y := ⟨_, rfl⟩
                have hxy : (x == y) = false := by simp; rw [← hx, ← hy]; exact hg
                have HG := hid hg
                have HX := hid hx
                have HY := hid hy
                clear hg hx hy
                rcases List.eq_nil_or_concat L with rfl | ⟨L0, ⟨x0, n0⟩, hL⟩
                · have hn0 : n = 0 := HS.out.len.symm
                  subst hn0
                  have HSP : Hid (spansOf most (diffL g g2 (o + 1)) = ([(2147483648 + (o : Int), 1)], false)) := hid (by rw [diffL_other HG.out, spansOf_snoc, HS.out.spans, spanStep_first m0])
                  have hmo : ¬ (most : Int) ≤ 0 := by omega
                  go_wp2_with (first | (go_at_call 80; ((with_reducible refine (get_calls p F size g _ _ (H1.out.no HS.out.kept)).mono ?_); (rintro e w2 ⟨rfl, h2⟩; have h3 := h2.symm; subst h3; rw [HPOS.out, HX.out]))) | (go_at_call 80; ((with_reducible refine (get_calls q F2 size g2 _ _ (H2.out.no HS.out.kept)).mono ?_); (rintro e w2 ⟨rfl, h2⟩; have h3 := h2.symm; subst h3; rw [HPOS.out, HY.out]))))
                  go_quiet (fail)
                  have HOD := hid (fun nq => own_keep (w' := wr.drewN nq) HS.out.own (fun _ _ => rfl))
                  go_wp2_with (at_builtin; refine wpList_append_lies _ rfl (.tmp 106) (.tmp 109) _ rfl w.heap.size 38 ti _ 2 16 Try.underlying54 HTI.out hz0 hz1 hz2 rfl (by omega) (.slice A 0 c) 0 (spcells ([])) rfl ((HOD.out _).alloc _) ⟨wr.heap.size, 0, none⟩ 1 1 [.int .u64 (2147483648 + (k : Int) * 4096 + (j : Int)), .int .u64 1] rfl rfl (World.news_of_block (cs := #[.int .u64 (2147483648 + (k : Int) * 4096 + (j : Int)), .int .u64 1]) (t := 38) (fr := (0, 0)) (heap_alloc_new _ _)) (by simp [Value.oneCell']) (by omega) (by unfold maxLen; omega) (by omega) (by have := HS.out.kept.size; simp; omega) _ rfl ?_; intro gg cap w5 hown5 hg5 hat5 hlt5)
                  simp only [Nat.zero_add] at hown5
                  have HD5 := hid (HS.out.push (X := _) (by rw [HADR.out] at hown5; exact hown5) hg5 ((Kept.refl No wr).drewN _ |>.alloc _) HSP.out (by omega))
                  clear hown5 hg5 hat5
                  go_roundw
                  case rel => exact ⟨j + 1, 1, cap, some ⟨gg, 0, none⟩, _, by omega, by go_num, rfl, HD5.out.as (by have := HOO.out; omega)⟩
                  case measure => simp [intOf]; omega
                · rw [List.concat_eq_append] at hL
                  subst hL
                  obtain ⟨K0, hK0⟩ : ∃ K0, L0.length = K0 := ⟨_, rfl⟩
                  have hn1 : n = K0 + 1 := by have := HS.out.len; simp at this; omega
                  subst hn1
                  obtain ⟨gb, rfl, hgb, hgl⟩ := own_gb HS.out.own (by omega)
                  have hlast := spcells_last L0 x0 n0
                  rw [hK0] at hlast
                  have cx := own_at HS.out.own hlast.1
                  have cn := own_at HS.out.own hlast.2
                  have cf := own_free HS.out.own (K0 * 2 + 1)
                  have hmem := mem_spansOf (most := most) (diffL g g2 o) (x0, n0) (by rw [HS.out.spans]; simp)
                  have hm1 := mem_diffL (hmem.2 x0 (by simp) (by have := hmem.1; simp at this ⊢; omega))
                  have hm2 := mem_diffL (hmem.2 (x0 + n0 - 1) (by have := hmem.1; simp at this ⊢; omega) (by simp; omega))
                  have hn0 : 1 ≤ n0 := hmem.1
                  have hxa : 2147483648 ≤ x0 := hm1.1
                  have hxb : x0 + n0 ≤ 2147483648 + o := by have := hm2.2.1; omega
                  have hK1 := HS.out.le
                  have HK0 := hid hK0
                  clear hlast hmem hm1 hm2 hK0
                  have hk0 : (0 : Int) ≤ (K0 : Int) := by omega
                  by_cases hxe : x0 + n0 = 2147483648 + (o : Int)
                  · have hb : (x0 + n0 == 2147483648 + (k : Int) * 4096 + (j : Int)) = true := by rw [HADR.out]; simp [hxe]
                    have HM := hid (HS.out.more HG.out hxe HK0.out)
                    clear hxe
                    go_wp2_with (first | (go_at_call 80; ((with_reducible refine (get_calls p F size g _ _ (H1.out.no HS.out.kept)).mono ?_); (rintro e w2 ⟨rfl, h2⟩; have h3 := h2.symm; subst h3; rw [HPOS.out, HX.out]))) | (go_at_call 80; ((with_reducible refine (get_calls q F2 size g2 _ _ (H2.out.no HS.out.kept)).mono ?_); (rintro e w2 ⟨rfl, h2⟩; have h3 := h2.symm; subst h3; rw [HPOS.out, HY.out]))))
                    go_quiet (fail)
                    go_wp2
                    go_roundw
                    case rel => exact ⟨j + 1, K0 + 1, c, some ⟨gb, 0, none⟩, _, by omega, by go_num, by simp, (HM.out.no ((Kept.refl _ _).drewN _)).as (by have := HOO.out; omega)⟩
                    case measure => simp [intOf]; omega
                  · have hb : (x0 + n0 == 2147483648 + (k : Int) * 4096 + (j : Int)) = false := by rw [HADR.out]; simp [hxe]
                    have HXE := hid hxe
                    clear hxe
                    by_cases hmo : K0 + 1 < most
                    · have HSP : Hid (spansOf most (diffL g g2 (o + 1)) = (L0 ++ [(x0, n0)] ++ [(2147483648 + (o : Int), 1)], false)) := hid (by rw [diffL_other HG.out, spansOf_snoc, HS.out.spans, spanStep_new HXE.out (by rw [List.length_append, HK0.out]; exact hmo)])
                      go_wp2_with (first | (go_at_call 80; ((with_reducible refine (get_calls p F size g _ _ (H1.out.no HS.out.kept)).mono ?_); (rintro e w2 ⟨rfl, h2⟩; have h3 := h2.symm; subst h3; rw [HPOS.out, HX.out]))) | (go_at_call 80; ((with_reducible refine (get_calls q F2 size g2 _ _ (H2.out.no HS.out.kept)).mono ?_); (rintro e w2 ⟨rfl, h2⟩; have h3 := h2.symm; subst h3; rw [HPOS.out, HY.out]))))
                      go_quiet (fail)
                      have HOD := hid (fun nq => own_keep (w' := wr.drewN nq) HS.out.own (fun _ _ => rfl))
                      go_wp2_with (at_builtin; refine wpList_append_lies _ rfl (.tmp 106) (.tmp 109) _ rfl w.heap.size 38 ti _ 2 16 Try.underlying54 HTI.out hz0 hz1 hz2 rfl (by omega) (.slice (some ⟨gb, 0, none⟩) (K0 + 1) c) (K0 + 1) (spcells (L0 ++ [(x0, n0)])) rfl ((HOD.out _).alloc _) ⟨wr.heap.size, 0, none⟩ 1 1 [.int .u64 (2147483648 + (k : Int) * 4096 + (j : Int)), .int .u64 1] rfl rfl (World.news_of_block (cs := #[.int .u64 (2147483648 + (k : Int) * 4096 + (j : Int)), .int .u64 1]) (t := 38) (fr := (0, 0)) (heap_alloc_new _ _)) (by simp [Value.oneCell']) (by omega) (by unfold maxLen; omega) (by omega) (by have := HS.out.kept.size; simp; omega) _ rfl ?_; intro gg cap w5 hown5 hg5 hat5 hlt5)
                      have HD5 := hid (HS.out.push (X := _) (by rw [HADR.out] at hown5; exact hown5) hg5 ((Kept.refl No wr).drewN _ |>.alloc _) HSP.out (by omega))
                      clear hown5 hg5 hat5
                      go_roundw
                      case rel => exact ⟨j + 1, K0 + 1 + 1, cap, some ⟨gg, 0, none⟩, _, by omega, by go_num, by simp, HD5.out.as (by have := HOO.out; omega)⟩
                      case measure => simp [intOf]; omega
                    · have hspf : spansOf most (diffL g g2 (o + 1)) = (L0 ++ [(x0, n0)], true) := by rw [diffL_other HG.out, spansOf_snoc, HS.out.spans, spanStep_full HXE.out (by rw [List.length_append, HK0.out]; simp; omega)]
                      have hR := HFR.out.2 (o + 1) _ (by have := HOO.out; omega) hspf
                      have hfin : ∀ a, SpansPost R w (.returned (.slice (some ⟨gb, 0, none⟩) (K0 + 1) c)) (wr.drewN a) := fun a => ⟨some ⟨gb, 0, none⟩, c, by rw [hR, List.length_append, HK0.out]; rfl, by rw [hR, List.length_append, HK0.out]; exact own_keep HS.out.own (fun _ _ => rfl), HS.out.kept.drewN a⟩
                      have HFIN := hid hfin
                      clear hspf hR hfin
                      go_wp2_with (first | (go_at_call 80; ((with_reducible refine (get_calls p F size g _ _ (H1.out.no HS.out.kept)).mono ?_); (rintro e w2 ⟨rfl, h2⟩; have h3 := h2.symm; subst h3; rw [HPOS.out, HX.out]))) | (go_at_call 80; ((with_reducible refine (get_calls q F2 size g2 _ _ (H2.out.no HS.out.kept)).mono ?_); (rintro e w2 ⟨rfl, h2⟩; have h3 := h2.symm; subst h3; rw [HPOS.out, HY.out]))))
                      go_quiet (fail)
                      go_wp2
                      go_ret
                      exact HFIN.out _
            · have hjj : j = 4096 := by omega
              subst hjj
              go_wp2
              go_roundw
              case rel => exact ⟨k + 1, n, c, A, L, by omega, by go_num, rfl, HS.out.as (by omega)⟩
              case measure => simp [intOf]; omega
        | false =>
          have hsk := HS.out.skip 4096 (fun i hi => by
            have e1 := HP1.out.rest k (by omega) (HN1.out rfl) i hi
            have e2 := HP2.out.rest k (by omega) (HN2.out rfl) i hi
            rw [show ((4096 * k + i : Nat) : Int) = (k : Int) * (4096 : Nat) + (i : Nat) from by omega, e1, e2])
          have HSK := hid hsk
          clear hsk
          go_wp2
          go_roundw
          case rel => exact ⟨k + 1, n, c, A, L, by omega, by go_num, rfl, HSK.out.as (by omega)⟩
          case measure => simp [intOf]; omega
    · have hkk : k = np := by omega
      subst hkk
      have hge : size / 4096 ≤ (k : Int) := by rw [HDIV.out]; omega
      have hR := HFR.out.1 L hS.spans
      have hlen := hS.len
      have hfin : SpansPost R w (.returned (.slice A n c)) wr := ⟨A, c, by rw [hR, hlen], by rw [hR, hlen]; exact hS.own, hS.kept⟩
      have HFIN := hid hfin
      clear hR hlen hfin hS hK
      go_wp2
      go_ret
      exact HFIN.out
end Go.Proofs.Ytognedbehplaeaa
