/- A disk's device uses a chain: requests of other kinds than it has. -/
import Derived.Test.YtognedbehplaeaaBlkb
import Derived.Test.YtognedbehplaeaaSpan
import Derived.Deep.RegionHeld3
import Derived.Deep.AppendLies
import Derived.Deep.RegionLaw
set_option linter.unusedVariables false
namespace Go.Proofs.Ytognedbehplaeaa
open Go.RowKit

set_option maxRecDepth 100000 in
theorem request_other (b : Nat) (A : Option Addr) (n c : Nat) (ta tl kind sector r v : Int) (w : World) (h0 : kind ≠ 0) (h1 : kind ≠ 1) (h4 : kind ≠ 4) (h8 : kind ≠ 8) :
    Calls Try.prog 97 #[.pointer (some ⟨b, 0, none⟩), .agg #[.slice A n c, .int .u64 ta, .int .u64 tl], .agg #[.int .u32 kind, .int .u64 sector], .int .u64 r, .int .u64 v] w
      (fun e w' => e = .returned (.tuple #[.int .u8 2, .int .u32 0]) ∧ Kept No w w') := by
  have e0 : (kind == 0) = false := by simp [h0]
  have e1 : (kind == 1) = false := by simp [h1]
  have e4 : (kind == 4) = false := by simp [h4]
  have e8 : (kind == 8) = false := by simp [h8]
  have HK := hid (((Kept.refl No w).alloc (.cells #[.slice A n c, .int .u64 ta, .int .u64 tl] 40)).alloc (.cells #[.int .u32 kind, .int .u64 sector] 61))
  clear h0 h1 h4 h8
  go_enter Try.func97, Try.ntmps97
  go_wp2
  go_ret2
  exact ⟨rfl, HK.out⟩

theorem boxC_2 (rp dp p : Nat) (name : List Int) (lv : Value) : (boxC rp dp p name lv)[2]? = some (.pointer (some ⟨p, 0, none⟩)) := by
  rw [← Array.getElem?_toList, boxC_list]; rfl
theorem boxC_23 (rp dp p : Nat) (name : List Int) (lv : Value) (h : name.length = 20) : (boxC rp dp p name lv)[23]? = some lv := by
  rw [← Array.getElem?_toList, boxC_list, List.getElem?_append_right (by simp), List.getElem?_append_right (by rw [by8_length, h]; simp), by8_length, h]; rfl
theorem boxC_set (rp dp p : Nat) (name : List Int) (lv lv' : Value) (h : name.length = 20) : (boxC rp dp p name lv).setIfInBounds 23 lv' = boxC rp dp p name lv' := by
  apply Array.ext'
  rw [Array.toList_setIfInBounds, boxC_list, boxC_list, List.set_append_right _ _ (by simp), List.set_append_right _ _ (by rw [by8_length, h]; simp), by8_length, h]
  rfl
theorem own_cap {w : World} {base : Nat} {e : TypeId} {size n c : Nat} {A : Option Addr} {xs : List Value} (h : w.ownsRow base e size (.slice A n c) n xs) : n ≤ c ∧ c ≤ 9223372036854775807 := by
  rcases h.2 with ⟨h1, rfl⟩ | ⟨g, cap, cur, h1, _, _, hn, hm, _⟩
  · obtain ⟨_, _, rfl⟩ : A = none ∧ (0 : Nat) = 0 ∧ c = 0 := by simpa using h1
    omega
  · obtain ⟨_, _, rfl⟩ : A = some ⟨g, 0, none⟩ ∧ n = n ∧ c = cap := by simpa using h1
    unfold maxLen at hm
    exact ⟨hn, by omega⟩
theorem info_done : (Try.prog.info? 108).map (fun i => (i.zero, i.size, i.bytes)) = some (some (.agg #[.int .u32 0, .int .u64 0, .int .u8 0, .int .u32 0]), 4, 24) := by kernel_rfl

/-- What the device may change: its memory's blocks, its own, its log's. -/
def UseF (F : Nat → Prop) (b : Nat) (lv : Value) : Nat → Prop := fun k => F k ∨ k = b ∨ lv.ownBlock = some k
/-- What a use ends in. -/
def UsePost (p : Nat) (F : Nat → Prop) (size : Int) (g : Int → Int) (count : Int) (rp dp b base : Nat) (name : List Int) (lv : Value) (ln : Nat) (lc : List Value) (w : World) (e : Ending) (w' : World) : Prop :=
  ∃ F', e = .returned (.tuple #[.int .u32 count, .bool true]) ∧ RamAt w' p F' size g ∧ (∀ k, F' k → F k ∨ w.heap.size ≤ k) ∧ Kept (UseF F b lv) w w'

theorem use_end {p b rp dp base ln : Nat} {F F5 : Nat → Prop} {size : Int} {g : Int → Int} {name : List Int} {lv v : Value} {lc : List Value} {w w4 w5 wz : World} {o : Obj} (hk4 : Kept No w w4) (hk5 : Kept F w4 w5) (hn5 : ∀ k, F5 k → F k ∨ w4.heap.size ≤ k) (hR5 : RamAt w5 p F5 size g) (hbF : ¬ F b) (hbw : b < w.heap.size)
    (hoF : ∀ k, lv.ownBlock = some k → ¬ F k) (hol : ∀ k, lv.ownBlock = some k → k < w.heap.size) (hgrow : ((w5.alloc o).drew).grownBy wz lv.ownBlock) :
    UsePost p F size g 1 rp dp b base name lv ln lc w (.returned (.tuple #[.int .u32 1, .bool true])) (wz.setCell ⟨b, 23, none⟩ v) := by
  have hs := hk4.size
  have K : Kept (fun k => k = b ∨ lv.ownBlock = some k) w5 (wz.setCell ⟨b, 23, none⟩ v) := (((Kept.refl _ w5).alloc o).drew.grown hgrow (fun k hk => .inl (.inr hk))).set (.inl (.inl rfl)) _
  refine ⟨F5, rfl, hR5.kept K ?_, fun k hk => (hn5 k hk).imp id (fun h => by omega), ?_⟩
  · rintro k hk (rfl | ho)
    · rcases hn5 _ hk with h | h
      · exact hbF h
      · omega
    · rcases hn5 _ hk with h | h
      · exact hoF _ ho h
      · have := hol _ ho; omega
  · have a1 : Kept (UseF F b lv) w w4 := hk4.mono (fun k hk _ => hk.elim)
    have a2 : Kept (UseF F b lv) w4 w5 := hk5.mono (fun k hk _ => .inl hk)
    exact (a1.trans a2).trans (K.mono (fun k hk _ => hk.elim (fun h => .inr (.inl h)) (fun h => .inr (.inr h))))

set_option maxHeartbeats 2000000 in
set_option maxRecDepth 100000 in
theorem use_other (p rp dp b base : Nat) (F : Nat → Prop) (size : Int) (g : Int → Int) (name : List Int) (AL : Option Addr) (cL ln : Nat) (lc : List Value) (A : Option Addr) (n c : Nat) (l : List Seg) (ta tl : Int) (w : World) (hR : RamAt w p F size g)
    (hB : w.heap[b]? = some (.cells (boxC rp dp p name (.slice AL ln cL)) 150 (0, 0))) (hname : name.length = 20) (hbF : ¬ F b) (hown : w.ownsRow base 108 4 (.slice AL ln cL) ln lc) (hoF : ∀ k, (Value.slice AL ln cL).ownBlock = some k → ¬ F k) (hbase : base ≤ w.heap.size) (hln : ln < 4096)
    (hA : Sl w F A (scells l)) (hn : l.length = n) (ho : SegsOk size l) (hrf : Rdf l) (h16 : 16 ≤ segSum false l) (h1 : 1 ≤ segSum true l)
    (hk0 : le ((gath g l 0 16).take 4) ≠ 0 ∧ le ((gath g l 0 16).take 4) ≠ 1 ∧ le ((gath g l 0 16).take 4) ≠ 4 ∧ le ((gath g l 0 16).take 4) ≠ 8) :
    Calls Try.prog 32 #[.pointer (some ⟨b, 0, none⟩), .agg #[.slice A n c, .int .u64 ta, .int .u64 tl]] w
      (UsePost p F size (scat g l (segSum true l - 1).toNat [2]) 1 rp dp b base name (.slice AL ln cL) ln lc w) := by
  have hR0 := ho.sum' false
  have hV0 := ho.sum' true
  obtain ⟨R, hRe⟩ : ∃ R, segSum false l = R := ⟨_, rfl⟩
  obtain ⟨V, hVe⟩ : ∃ V, segSum true l = V := ⟨_, rfl⟩
  have hbt := rdA_byt hR.byte (((addrs false l).drop 0).take 16)
  have hgl : (gath g l 0 16).length = 16 := by
    have := Go.Proofs.Ytognedbehplaeaa.addrs_length false (l := l) (fun s hs => (ho.at_ hs).1)
    rw [gath_length]; omega
  obtain ⟨G, hG⟩ : ∃ G, gath g l 0 16 = G := ⟨_, rfl⟩
  rw [hG] at hgl hk0
  have hbt : Byt G := hG ▸ hbt
  rw [hRe] at hR0 h16
  rw [hVe] at hV0 h1 ⊢
  have eV : ((V - 1).toNat : Int) = IntKind.u64.wrap (V - 1) := by rw [IntKind.wrap_u64]; omega
  obtain ⟨gs, hgs⟩ : ∃ gs, scat g l (V - 1).toNat [2] = gs := ⟨_, rfl⟩
  rw [hgs]
  obtain ⟨R0, R1⟩ := hR0
  obtain ⟨V0, V1⟩ := hV0
  have HRE := hid hRe
  have HVE := hid hVe
  have HG := hid hG
  have HGL := hid hgl
  have HKND := hid hk0
  have HN := hid hn
  have HO := hid ho
  have HRF := hid hrf
  have HNM := hid hname
  have HBB := hid hB
  have HBF := hid hbF
  have HRR := hid hR
  have HOW := hid hown
  have hk := (Kept.refl No w).alloc (.cells #[.slice A n c, .int .u64 ta, .int .u64 tl] 40)
  have hx0 := at_new w (.cells #[.slice A n c, .int .u64 ta, .int .u64 tl] 40)
  have HK := hid hk
  have HX := hid hx0
  have hbw := lt_of hB
  have HGA : Hid (∀ W, Kept No w W → Calls Try.prog 96 #[.agg #[.slice A n c, .int .u64 ta, .int .u64 tl], .pointer (some ⟨p, 0, none⟩), .int .u64 0, .int .u64 16] W (GathPost (gath g l 0 16) W)) := hid (fun W k => gather_yes p F size g A n c l ta tl 0 16 W (hR.no k) ((hA.less (F := No) (fun _ h => h.elim)).no k) hn ho hrf (by omega) (by rw [hRe]; omega))
  have HSC : Hid (∀ (W : World) (x : Nat), Kept No w W → Sl W F (some ⟨x, 0, none⟩) (by8 [2]) → Calls Try.prog 22 #[.agg #[.slice A n c, .int .u64 ta, .int .u64 tl], .pointer (some ⟨p, 0, none⟩), .int .u64 (IntKind.u64.wrap (V - 1)), .slice (some ⟨x, 0, none⟩) 1 1] W (RamPost W p F size (.bool true) gs)) := hid (fun W x k hs => by have hq := scatter_yes p F size g A n c l ta tl (V - 1).toNat (some ⟨x, 0, none⟩) [2] 1 1 W (hR.no k) (hA.no k) hn ho hs (by intro y hy; simp at hy; omega) rfl (by omega) (by omega) (by rw [hVe]; simp; omega); rw [eV, hgs] at hq; exact hq)
  have HFL := hid hR.lt
  clear hgs eV
  clear hRe hVe hG hgl hk0 hn ho hrf hname hB hbF hR hown hk hx0
  go_enter Try.func32, Try.ntmps32
  go_wp2_with fail
  refine (sizes_calls size A n c l ta tl _ ((hA.less (F := No) (fun _ h => h.elim)).no HK.out) HN.out HO.out).mono ?_
  rw [HRE.out, HVE.out]
  rintro e w1 ⟨rfl, hk1⟩
  have HK1 := hid (HK.out.trans hk1)
  have HX1 := hid (at_kept HX.out hk1 (fun h => h))
  clear hk1 HK HX
  have x0 : w1.cell? ⟨w.heap.size, 0, none⟩ = some (.slice A n c) := cells_of HX1.out 0
  have x1 : w1.cell? ⟨w.heap.size, 1, none⟩ = some (.int .u64 ta) := cells_of HX1.out 1
  have x2 : w1.cell? ⟨w.heap.size, 2, none⟩ = some (.int .u64 tl) := cells_of HX1.out 2
  have b2 : w1.cell? ⟨b, 2, none⟩ = some (.pointer (some ⟨p, 0, none⟩)) := (cells_of (at_kept HBB.out HK1.out (fun h => h)) 2).trans (boxC_2 _ _ _ _ _)
  have HS1 := hid (And.intro x0 (And.intro x1 (And.intro x2 b2)))
  go_wp2_with fail
  go_region_held3 (fun W => W.cell? ⟨w.heap.size, 0, none⟩ = some (.slice A n c) ∧ W.cell? ⟨w.heap.size, 1, none⟩ = some (.int .u64 ta) ∧ W.cell? ⟨w.heap.size, 2, none⟩ = some (.int .u64 tl) ∧ W.cell? ⟨b, 2, none⟩ = some (.pointer (some ⟨p, 0, none⟩)))
    (first | (with_reducible exact ⟨y0, y1, y2, y3⟩) | (with_reducible exact HS1.out) | go_keep)
    ((go_at_call 96; ((with_reducible refine (HGA.out _ ?_).mono ?_); ((first | (exact HK1.out) | (exact HK1.out.drew))); (rintro e w2 ⟨A2, c2, rfl, ho2, hk2⟩; rw [HG.out] at ho2 ⊢; rw [HGL.out] at ho2 ⊢; have hk2' : Kept No w1 w2 := (by first | (with_reducible exact hk2) | (exact (Kept.refl No w1).drew.trans hk2)); have HK2 : Hid (Kept No w w2) := hid (HK1.out.trans hk2'); have HX2 : Hid (w2.heap[w.heap.size]? = some (.cells #[.slice A n c, .int .u64 ta, .int .u64 tl] 40 (0, 0))) := hid (at_kept HX1.out hk2' (fun h => h)); have y0 : w2.cell? ⟨w.heap.size, 0, none⟩ = some (.slice A n c) := cells_of HX2.out 0; have y1 : w2.cell? ⟨w.heap.size, 1, none⟩ = some (.int .u64 ta) := cells_of HX2.out 1; have y2 : w2.cell? ⟨w.heap.size, 2, none⟩ = some (.int .u64 tl) := cells_of HX2.out 2; have y3 : w2.cell? ⟨b, 2, none⟩ = some (.pointer (some ⟨p, 0, none⟩)) := (cells_of (at_kept HBB.out HK2.out (fun h => h)) 2).trans (boxC_2 _ _ _ _ _); have HO2 := hid ho2; clear ho2 hk2 hk2' x0 x1 x2 b2))))
  clear y0 y1 y2 y3
  obtain ⟨gb, rfl, hgb1, hgb2⟩ := own_gb HO2.out (by omega)
  have hcap := own_cap HO2.out
  go_wp2_with fail
  refine (parse_yes gb 0 16 c2 G w2 (own_sl HO2.out (fun _ _ h => h)) hbt HGL.out (by omega) hcap.1 hcap.2).mono ?_
  obtain ⟨kind, hkind⟩ : ∃ k, le (G.take 4) = k := ⟨_, rfl⟩
  obtain ⟨sect, hsect⟩ : ∃ k, le ((G.drop 8).take 8) = k := ⟨_, rfl⟩
  have hkk := HKND.out
  rw [hkind] at hkk ⊢
  rw [hsect]
  rintro e w3 ⟨rfl, hk3⟩
  have HKK := hid hkk
  have hx3 := at_new w3 (.cells #[.int .u32 kind, .int .u64 sect] 61)
  have hka := hk3.alloc (.cells #[.int .u32 kind, .int .u64 sect] 61)
  obtain ⟨W3, hW3⟩ : ∃ W, W = w3.alloc (.cells #[.int .u32 kind, .int .u64 sect] 61) := ⟨_, rfl⟩
  rw [← hW3] at hx3 hka
  have HK3 := hid (HK2.out.trans hka)
  have HX3 := hid (at_kept HX2.out hka (fun h => h))
  have HH3 := hid hx3
  have HW3 := hid hW3
  have c3 := fun i => cells_of HX3.out i
  have h3 := fun i => cells_of HH3.out i
  have z3 := lt_of HX3.out
  have z4 := lt_of HH3.out
  have s3 := hid (Nat.le_trans HK2.out.size hk3.size)
  clear hk3 hx3 hka hW3 hkind hsect hkk hcap
  go_wp2_with (rw [← HW3.out])
  refine (request_other b A n c ta tl kind sect _ _ _ HKK.out.1 HKK.out.2.1 HKK.out.2.2.1 HKK.out.2.2.2).mono ?_
  rintro e w4 ⟨rfl, hk4⟩
  have HK4 := hid (HK3.out.trans hk4)
  have HX4 := hid (at_kept HX3.out hk4 (fun h => h))
  have HH4 := hid (at_kept HH3.out hk4 (fun h => h))
  have x0 : w4.cell? ⟨w.heap.size, 0, none⟩ = some (.slice A n c) := cells_of HX4.out 0
  have x1 : w4.cell? ⟨w.heap.size, 1, none⟩ = some (.int .u64 ta) := cells_of HX4.out 1
  have x2 : w4.cell? ⟨w.heap.size, 2, none⟩ = some (.int .u64 tl) := cells_of HX4.out 2
  have b2 : w4.cell? ⟨b, 2, none⟩ = some (.pointer (some ⟨p, 0, none⟩)) := (cells_of (at_kept HBB.out HK4.out (fun h => h)) 2).trans (boxC_2 _ _ _ _ _)
  have HS4 := hid (And.intro x0 (And.intro x1 (And.intro x2 b2)))
  clear c3 h3 z3 z4 hk4
  go_wp2_with fail
  have hNX : ¬ F w4.heap.size := fun hf => by have := HFL.out _ hf; have := HK4.out.size; omega
  have HNX := hid hNX
  clear hNX
  go_region_held3 (fun W => W.cell? ⟨w.heap.size, 0, none⟩ = some (.slice A n c) ∧ W.cell? ⟨w.heap.size, 1, none⟩ = some (.int .u64 ta) ∧ W.cell? ⟨w.heap.size, 2, none⟩ = some (.int .u64 tl) ∧ W.cell? ⟨b, 2, none⟩ = some (.pointer (some ⟨p, 0, none⟩)))
    (first | (with_reducible exact ⟨y0, y1, y2, y3⟩) | (with_reducible exact HS4.out) | go_keep)
    ((go_at_call 22; ((with_reducible refine (HSC.out _ w4.heap.size ?_ ?_).mono ?_); (first | (exact HK4.out.drew.alloc _) | (exact (HK4.out.alloc _).drew)); (first | (exact Sl.of_block (cs := by8 [2]) (at_new w4.drew _) HNX.out) | (exact Sl.of_block (cs := by8 [2]) (at_new w4 _) HNX.out)); (rintro e w5 ⟨F5, rfl, hR5, hC5⟩; have hk5 : Kept F w4 w5 := (by first | (exact ((Kept.refl F w4).drew.alloc _).trans hC5.kept) | (exact (((Kept.refl F w4).alloc _).drew).trans hC5.kept)); have hn5 : ∀ k, F5 k → F k ∨ w4.heap.size ≤ k := (fun k hk => (hC5.new k hk).imp id (fun h => by simp at h; omega)); have HK5 := hid hk5; have HN5 := hid hn5; have HR5 := hid hR5; have HX5 : Hid (w5.heap[w.heap.size]? = some (.cells #[.slice A n c, .int .u64 ta, .int .u64 tl] 40 (0, 0))) := hid (at_kept HX4.out hk5 (fun hf => by have := HFL.out _ hf; omega)); have HB5 : Hid (w5.heap[b]? = some (.cells (boxC rp dp p name (.slice AL ln cL)) 150 (0, 0))) := hid (at_kept (at_kept HBB.out HK4.out (fun h => h)) hk5 HBF.out); have y0 : w5.cell? ⟨w.heap.size, 0, none⟩ = some (.slice A n c) := cells_of HX5.out 0; have y1 : w5.cell? ⟨w.heap.size, 1, none⟩ = some (.int .u64 ta) := cells_of HX5.out 1; have y2 : w5.cell? ⟨w.heap.size, 2, none⟩ = some (.int .u64 tl) := cells_of HX5.out 2; have y3 : w5.cell? ⟨b, 2, none⟩ = some (.pointer (some ⟨p, 0, none⟩)) := (cells_of HB5.out 2).trans (boxC_2 _ _ _ _ _); clear hR5 hC5 hk5 hn5 x0 x1 x2 b2))))
  clear y0 y1 y2 y3
  have HH5 := hid (at_kept HH4.out HK5.out (fun hf => by have := HFL.out _ hf; have := s3.out; omega))
  have HO5 := hid (own_no (own_no0 HOW.out HK4.out) HK5.out (fun k hf he => hoF k he hf))
  have c23 : w5.cell? ⟨b, 23, none⟩ = some (.slice AL ln cL) := (cells_of HB5.out 23).trans (boxC_23 _ _ _ _ _ HNM.out)
  have hln' : (ln : Int) < 4096 := by omega
  have h0 : w5.cell? ⟨w3.heap.size, 0, none⟩ = some (.int .u32 kind) := cells_of HH5.out 0
  have h1' : w5.cell? ⟨w3.heap.size, 1, none⟩ = some (.int .u64 sect) := cells_of HH5.out 1
  obtain ⟨ti, hti, hz0, hz1, hz2⟩ := info_parts info_done
  have HTI := hid hti
  have hbl := lt_of HB5.out
  have hdl := lt_of HH5.out
  have hbn := own_ne HO5.out HB5.out (by decide)
  have hdn := own_ne HO5.out HH5.out (by decide)
  have hbs : base ≤ w5.heap.size := Nat.le_trans hbase (Nat.le_trans HK4.out.size HK5.out.size)
  clear hti
  go_wp2_with fail
  go_region_law
    ((refine step_append_lies _ (by rfl) _ _ _ (by rfl) base 108 ti _ 4 24 Try.underlying104 HTI.out hz0 hz1 hz2 rfl (by omega) (.slice AL ln cL) ln lc (by rfl) ((HO5.out.alloc _).drew) ⟨w5.heap.size, 0, none⟩ 1 1 [.int .u32 kind, .int .u64 sect, .int .u8 2, .int .u32 1] (by rfl) (by rfl) (World.news_of_block (cs := #[.int .u32 kind, .int .u64 sect, .int .u8 2, .int .u32 1]) (t := 108) (fr := (0, 0)) (heap_alloc_new w5 _)) (by simp [Value.oneCell']) (by omega) (by unfold maxLen; omega) (by omega) (by simp; omega) (w5.heap.size + 1) (by simp) ?_; intro gg cap wz hownz hgrow hat hlt; have hb1 := (hgrow.block b (by simp; omega) hbn.symm).trans (at_alloc HB5.out _); have hd1 := (hgrow.block w3.heap.size (by simp; omega) hdn.symm).trans (at_alloc HH5.out _); have f1 := frozen_of hb1; have s0 : wz.cell? ⟨b, 23, none⟩ = some (.slice AL ln cL) := (cells_of hb1 23).trans (boxC_23 _ _ _ _ _ HNM.out); have s1 : wz.cell? ⟨w3.heap.size, 0, none⟩ = some (.int .u32 kind) := cells_of hd1 0; have s2 : wz.cell? ⟨w3.heap.size, 1, none⟩ = some (.int .u64 sect) := cells_of hd1 1))
  all_goals
    go_wp2
    go_ret2
    exact use_end HK4.out HK5.out HN5.out HR5.out HBF.out hbw hoF (fun k hk => (own_lt HOW.out hk).2.elim (fun _ h => lt_of h)) hgrow
end Go.Proofs.Ytognedbehplaeaa
