/- Bytes written through a chain: the program's Scatter. -/
import Derived.Test.YtognedbehplaeaaSizes
set_option linter.unusedVariables false
namespace Go.Proofs.Ytognedbehplaeaa
open Go.RowKit

/-- Is there so much room? -/
def fits (l : List Seg) (f m : Int) : Bool := decide (f + m ≤ segSum true l)
theorem piece_zero {a : Int} {sl L f m : Nat} (h : pieceN a sl L f m = 0) : min (sl - (f - L)) (m - (L - f)) = 0 := by
  unfold pieceN at h
  split at h <;> omega
theorem piece_pos {a : Int} {sl L f m K : Nat} (h : pieceN a sl L f m = K) (hK : 0 < K) : K = min (sl - (f - L)) (m - (L - f)) ∧ min m (L - f) = L - f ∧ pieceA a sl L f m = a + ((f - L : Nat) : Int) ∧ (f - L) + K ≤ sl ∧ (L - f) + K ≤ m := by
  unfold pieceN at h
  unfold pieceA
  split at h
  · rename_i hc
    rw [if_pos hc]
    omega
  · omega
/-- A part of a slice of bytes. -/
theorem sl_part {w : World} {N : Nat → Prop} {bd od : Nat} {D : List Int} (h : Sl w N (some ⟨bd, od, none⟩) (by8 D)) (k n : Nat) : Sl w N (some ⟨bd, od + k, none⟩) (by8 ((D.drop k).take n)) := by
  rcases h with h | ⟨b, o, h1, h2, h3, h4⟩
  · have : D = [] := by simpa [by8] using h
    subst this
    exact .inl (by simp [by8])
  · obtain ⟨rfl, rfl⟩ : bd = b ∧ od = o := by simpa using h1
    refine .inr ⟨bd, od + k, rfl, h2, h3, fun j u hu => ?_⟩
    rw [Nat.add_assoc]
    refine h4 (k + j) u ?_
    rw [by8, List.getElem?_map, List.getElem?_take] at hu
    split at hu
    · rw [List.getElem?_drop] at hu
      rw [by8, List.getElem?_map]
      exact hu
    · cases hu
theorem pieceN_nat (a : Int) (sl L f m : Nat) : ∃ K : Nat, pieceN a sl L f m = K := by
  refine ⟨(pieceN a sl L f m).toNat, ?_⟩
  unfold pieceN
  split <;> omega

set_option maxHeartbeats 1000000 in
set_option maxRecDepth 100000 in
theorem scatter_yes (p : Nat) (F : Nat → Prop) (size : Int) (g : Int → Int) (A : Option Addr) (n c : Nat) (l : List Seg) (ta tl : Int) (f : Nat) (AD : Option Addr) (D : List Int) (m cD : Nat) (w : World) (h : RamAt w p F size g)
    (hA : Sl w F A (scells l)) (hn : l.length = n) (ho : SegsOk size l) (hD : Sl w F AD (by8 D)) (hb : Byt D) (hm : D.length = m) (hcd : m ≤ cD) (hm2 : m ≤ 1000000000) (hfit : (f : Int) + m ≤ segSum true l) :
    Calls Try.prog 22 #[.agg #[.slice A n c, .int .u64 ta, .int .u64 tl], .pointer (some ⟨p, 0, none⟩), .int .u64 f, .slice AD m cD] w (RamPost w p F size (.bool true) (scat g l f D)) := by
  have hS := ho.sum' true
  obtain ⟨S, hSe⟩ : ∃ S, segSum true l = S := ⟨_, rfl⟩
  have hl := ho.len
  rw [hn] at hl
  rw [hSe] at hS hfit
  obtain ⟨S0, S1⟩ := hS
  have HSE := hid hSe
  have HN := hid hn
  have HO := hid ho
  have HMM := hid hm
  have hk0 := (Kept.refl No w).alloc (.cells #[.slice A n c, .int .u64 ta, .int .u64 tl] 40)
  have HB0 := hid (at_new w (.cells #[.slice A n c, .int .u64 ta, .int .u64 tl] 40))
  have HK0 := hid hk0
  clear hSe hn ho hm hk0
  go_enter Try.func22, Try.ntmps22
  go_wp2_with fail
  refine (sizes_calls size A n c l ta tl _ ((hA.less (F := No) (fun _ h => h.elim)).no HK0.out) HN.out HO.out).mono ?_
  rw [HSE.out]
  rintro e w1 ⟨rfl, hk1⟩
  have HK1 := hid (HK0.out.trans hk1)
  have hb1 := at_kept HB0.out hk1 (fun h => h)
  have c1 := fun i => cells_of hb1 i
  have HR1 := hid (h.no HK1.out)
  have HA1 := hid (hA.no HK1.out)
  have HD1 := hid (hD.no HK1.out)
  clear hk1 HK0 HB0 hb1
  go_wp2_with fail
  clear c1
  go_loopw [12, 13, 39] (fun bv dv i wr => ∃ (k L dn : Nat) (F' : Nat → Prop), k ≤ n ∧ i = .int .i64 k ∧ bv = .int .u64 L ∧ dv = .int .u64 dn ∧ Hid (L = (addrs true (l.take k)).length ∧ dn = min m (L - f)) ∧ RamAt wr p F' size (scat g (l.take k) f D) ∧ Change F F' w1 wr) (fun _ _ i _ => n - (intOf i).toNat)
  case atStart => exact ⟨0, 0, 0, F, by omega, rfl, rfl, rfl, hid ⟨rfl, by omega⟩, HR1.out.as (by rw [List.take_zero, scat_nil]), Change.refl _ _⟩
  case round =>
    obtain ⟨k, L, dn, F', hk, rfl, rfl, rfl, HL, hR, hC⟩ := hrel
    have HR := hid hR
    have HC := hid hC
    clear hR hC HR1
    by_cases hlt : k < n
    · obtain ⟨s, hs⟩ : ∃ s, l[k]? = some s := ⟨_, List.getElem?_eq_getElem (by rw [HN.out]; exact hlt)⟩
      have hsc := scells_at hs
      obtain ⟨b, o, rfl, -, -, x0⟩ := (HA1.out.change HC.out).at_ hsc.1
      obtain ⟨b', o', e', -, -, x1⟩ := (HA1.out.change HC.out).at_ hsc.2.1
      obtain ⟨rfl, rfl⟩ : b = b' ∧ o = o' := by simpa using e'
      obtain ⟨b', o', e', -, -, x2⟩ := (HA1.out.change HC.out).at_ hsc.2.2
      obtain ⟨rfl, rfl⟩ : b = b' ∧ o = o' := by simpa using e'
      rw [← Nat.add_assoc] at x1 x2
      have hat := HO.out.at_ (List.mem_of_getElem? hs)
      have hLs := HO.out.sum true k
      rw [← HO.out.addrs_length true k, ← HL.out.1] at hLs
      obtain ⟨sa, sl, sw⟩ := s
      simp only at x0 x1 x2 hat
      obtain ⟨l0, l1, a0, a1⟩ := hat
      obtain ⟨sn, rfl⟩ : ∃ sn : Nat, sl = sn := ⟨sl.toNat, by omega⟩
      have L1 := hLs.2
      have hsz := HO.out.size.2
      have HTK := hid (take_seg hs)
      clear e' hsc hs hLs
      cases sw with
      | false =>
        have hfin : scat g (l.take (k + 1)) f D = scat g (l.take k) f D := by rw [HTK.out, scat_skip _ _ _ _ _ rfl]
        have hfa : addrs true (l.take (k + 1)) = addrs true (l.take k) := by rw [HTK.out, addrs_snoc]; simp
        have HFIN := hid (And.intro hfin hfa)
        clear hfin hfa
        go_wp2
        go_roundw
        case rel => exact ⟨k + 1, L, dn, F', by omega, by go_num, rfl, rfl, hid ⟨by rw [HFIN.out.2]; exact HL.out.1, HL.out.2⟩, (HR.out.no ((Kept.refl _ _).alloc _)).as HFIN.out.1.symm, HC.out.then_no ((Kept.refl _ _).alloc _)⟩
        case measure => simp [intOf]; omega
      | true =>
        have hfa : (addrs true (l.take (k + 1))).length = L + sn := by rw [HTK.out, addrs_snoc, if_pos rfl, List.length_append, seqA_length, ← HL.out.1]; rfl
        have hfg : scat g (l.take (k + 1)) f D = Go.Proofs.Ytognedbehplaeaa.wr (scat g (l.take k) f D) (sa + ((f - L : Nat) : Int) - 2147483648) ((D.drop (L - f)).take (min (sn - (f - L)) (m - (L - f)))) := by
          have h0 := scat_seg g (l.take k) ⟨sa, sn, true⟩ f D rfl
          rw [← HTK.out, ← HL.out.1, HMM.out] at h0
          exact h0
        have HFG := hid hfg
        have HFA := hid hfa
        clear hfa hfg
        obtain ⟨K, hK⟩ := pieceN_nat sa sn L f m
        obtain ⟨PA, hPA⟩ : ∃ PA, pieceA sa sn L f m = PA := ⟨_, rfl⟩
        go_wp2_with fail
        refine (piece_calls sa sn L f m true _ (by omega) (by omega) (by omega) (by omega) (by omega)).mono ?_
        rw [hK, hPA]
        rintro e w2 ⟨rfl, hk2⟩
        have HK2 := hid (((Kept.refl No wr).alloc (.cells #[.int .u64 sa, .int .u64 sn, .bool true] 57)).trans hk2)
        have hbx := at_kept (at_new wr (.cells #[.int .u64 sa, .int .u64 sn, .bool true] 57)) hk2 (fun h => h)
        have HR2 := hid (HR.out.no HK2.out)
        have HC2 := hid (HC.out.then_no HK2.out)
        have HBX := hid hbx
        have hdl := HL.out.2
        have HLT := hid HR.out.lt
        clear HR HC hk2 hbx x0 x1 x2
        by_cases hK0 : K = 0
        · subst hK0
          have hz := piece_zero hK
          have HZ := hid hz
          have bx := fun i => cells_of HBX.out i
          have HDL := hid hdl
          clear hK hPA hz hdl
          go_wp2
          go_roundw
          case rel =>
            have hz := HZ.out
            have hdl := HDL.out
            refine ⟨k + 1, L + sn, dn, F', by omega, by go_num, by go_num, rfl, hid ⟨HFA.out.symm, by omega⟩, HR2.out.as ?_, HC2.out⟩
            rw [HFG.out, HZ.out, List.take_zero, wr_nil]
          case measure => simp [intOf]; omega
        · have hpos := piece_pos hK (by omega)
          rw [hPA] at hpos
          obtain ⟨q1, q2, q3, q4, q5⟩ := hpos
          have hdn : dn = L - f := by omega
          have hdm : dn + K ≤ m := by omega
          have hkp : 0 < K := by omega
          obtain ⟨bd, od, rfl, -, -, -⟩ := HD1.out.at_ (j := 0) (by8_at (by rw [HMM.out]; omega))
          have HDK : Hid (((D.drop dn).take K).length = K) := hid (by rw [List.length_take, List.length_drop, HMM.out]; omega)
          have HDB : Hid (Byt ((D.drop dn).take K)) := hid (fun x hx => hb x (List.mem_of_mem_drop (List.mem_of_mem_take hx)))
          have HDS : Hid (Sl w2 F' (some ⟨bd, od + dn, none⟩) (by8 ((D.drop dn).take K))) := hid (sl_part (HD1.out.change HC2.out) dn K)
          have hin : inside PA K 2147483648 size = true := in_of (by omega)
          have HIN := hid hin
          have HQ3 := hid q3
          have HDN := hid hdn
          have HKE := hid q1
          have hPA0 : 0 ≤ PA ∧ PA ≤ 18446744073709551615 := by omega
          have hcn : ¬ cD = dn := by omega
          have hdc : dn + K ≤ cD := by omega
          have hkk0 : (K : Int) > 0 := by omega
          clear hK hPA q1 q2 q3 q4 q5 hdn hdl hin hK0
          go_wp2_with fail
          refine (write_calls' p F' size _ PA _ ((D.drop dn).take K) K (cD - dn) w2 HDK.out HR2.out hPA0 HDS.out HDB.out (by omega)).mono ?_
          rw [HIN.out, if_pos rfl]
          rintro e w3 ⟨F3, rfl, hR3, hC3⟩
          have hb3 := at_kept HBX.out hC3.kept (fun hf => by have := HLT.out _ hf; omega)
          have bx := fun i => cells_of hb3 i
          have HR3 := hid hR3
          have HC3 := hid hC3
          clear hR3 hC3 hb3 HR2 HBX
          go_wp2
          go_roundw
          case rel =>
            refine ⟨k + 1, L + sn, dn + K, F3, by omega, by go_num, by go_num, by go_num, hid ⟨HFA.out.symm, ?_⟩, HR3.out.as ?_, HC2.out.trans HC3.out⟩
            · have h1 := HKE.out
              have h2 := HDN.out
              omega
            · rw [HFG.out, HQ3.out, ← HKE.out, ← HDN.out]
          case measure => simp [intOf]; omega
    · have hkk : k = n := by omega
      subst hkk
      have hR := HR.out
      rw [← HN.out, List.take_length] at hR
      have HR2 := hid hR
      clear hR
      go_wp2
      go_ret
      exact ⟨F', rfl, HR2.out, Change.no_then HK1.out HC.out⟩

theorem scatter_no (p : Nat) (F : Nat → Prop) (size : Int) (g : Int → Int) (A : Option Addr) (n c : Nat) (l : List Seg) (ta tl : Int) (f : Int) (AD : Option Addr) (m cD : Nat) (w : World) (h : RamAt w p F size g)
    (hA : Sl w F A (scells l)) (hn : l.length = n) (ho : SegsOk size l) (hf : 0 ≤ f ∧ f ≤ 18446744073709551615) (hm2 : m ≤ 1000000000) (hfit : ¬ f + m ≤ segSum true l) :
    Calls Try.prog 22 #[.agg #[.slice A n c, .int .u64 ta, .int .u64 tl], .pointer (some ⟨p, 0, none⟩), .int .u64 f, .slice AD m cD] w (RamPost w p F size (.bool false) g) := by
  have hS := ho.sum' true
  obtain ⟨S, hSe⟩ : ∃ S, segSum true l = S := ⟨_, rfl⟩
  rw [hSe] at hS hfit
  obtain ⟨S0, S1⟩ := hS
  obtain ⟨f0, f1⟩ := hf
  have HSE := hid hSe
  have HK0 := hid ((Kept.refl No w).alloc (.cells #[.slice A n c, .int .u64 ta, .int .u64 tl] 40))
  have hfin : ∀ W, Kept No w W → RamPost w p F size (.bool false) g (.returned (.bool false)) W := fun W k => ⟨F, rfl, h.no k, (Change.refl F w).then_no k⟩
  have HFIN := hid hfin
  clear hSe hfin
  by_cases h1 : S < f
  · go_enter Try.func22, Try.ntmps22
    go_wp2_with fail
    refine (sizes_calls size A n c l ta tl _ ((hA.less (F := No) (fun _ h => h.elim)).no HK0.out) hn ho).mono ?_
    rw [HSE.out]
    rintro e w1 ⟨rfl, hk1⟩
    have HK1 := hid (HK0.out.trans hk1)
    clear hk1 hn
    go_wp2
    go_ret
    exact HFIN.out _ HK1.out
  · have h2 : S - f < (m : Int) := by omega
    go_enter Try.func22, Try.ntmps22
    go_wp2_with fail
    refine (sizes_calls size A n c l ta tl _ ((hA.less (F := No) (fun _ h => h.elim)).no HK0.out) hn ho).mono ?_
    rw [HSE.out]
    rintro e w1 ⟨rfl, hk1⟩
    have HK1 := hid (HK0.out.trans hk1)
    clear hk1 hn
    go_wp2
    go_ret
    exact HFIN.out _ HK1.out
theorem scatter_calls (p : Nat) (F : Nat → Prop) (size : Int) (g : Int → Int) (A : Option Addr) (n c : Nat) (l : List Seg) (ta tl : Int) (f : Int) (AD : Option Addr) (D : List Int) (m cD : Nat) (w : World) (h : RamAt w p F size g)
    (hA : Sl w F A (scells l)) (hn : l.length = n) (ho : SegsOk size l) (hf : 0 ≤ f ∧ f ≤ 18446744073709551615) (hD : Sl w F AD (by8 D)) (hb : Byt D) (hm : D.length = m) (hcd : m ≤ cD) (hm2 : m ≤ 1000000000) :
    Calls Try.prog 22 #[.agg #[.slice A n c, .int .u64 ta, .int .u64 tl], .pointer (some ⟨p, 0, none⟩), .int .u64 f, .slice AD m cD] w (RamPost w p F size (.bool (fits l f m)) (if fits l f m = true then scat g l f.toNat D else g)) := by
  by_cases hfit : f + m ≤ segSum true l
  · obtain ⟨fn, rfl⟩ := Int.eq_ofNat_of_zero_le hf.1
    have e : fits l fn m = true := decide_eq_true hfit
    rw [e, if_pos rfl, Int.toNat_natCast]
    exact scatter_yes p F size g A n c l ta tl fn AD D m cD w h hA hn ho hD hb hm hcd hm2 hfit
  · have e : fits l f m = false := decide_eq_false hfit
    rw [e]
    exact scatter_no p F size g A n c l ta tl f AD m cD w h hA hn ho hf hm2 hfit
end Go.Proofs.Ytognedbehplaeaa
