/- Bytes read through a chain: the program's Gather. -/
import Derived.Test.YtognedbehplaeaaScat
import Derived.Test.YtognedbehplaeaaApp
import Derived.Test.YtognedbehplaeaaRing
import Derived.Test.YtognedbehplaeaaChainc
set_option linter.unusedVariables false
namespace Go.Proofs.Ytognedbehplaeaa
open Go.RowKit

/-- The bytes at some addresses. -/
def rdA (g : Int → Int) (l : List Int) : List Int := l.map fun a => g (a - 2147483648)
theorem rdA_append (g : Int → Int) (l l' : List Int) : rdA g (l ++ l') = rdA g l ++ rdA g l' := by simp [rdA]
theorem rdA_seq (g : Int → Int) (a : Int) (n : Nat) : rdA g (seqA a n) = rdl g (a - 2147483648) n := by
  simp [rdA, seqA, rdl]
  intro i _
  congr 1
  omega
theorem rdA_length (g : Int → Int) (l : List Int) : (rdA g l).length = l.length := by simp [rdA]
theorem rdA_byt {g : Int → Int} (hg : ∀ o, 0 ≤ g o ∧ g o ≤ 255) (l : List Int) : Byt (rdA g l) := by
  intro x hx
  obtain ⟨a, _, rfl⟩ := List.mem_map.1 hx
  exact hg _
/-- What is to be read stands ahead of what is to be written. -/
def Rdf (l : List Seg) : Prop := ∀ (i j : Nat) (s t : Seg), i < j → l[i]? = some s → l[j]? = some t → s.write = true → t.write = true
theorem rdf_rest {l : List Seg} (h : Rdf l) {k : Nat} {s : Seg} (hs : l[k]? = some s) (hw : s.write = true) : addrs false (l.take k) = addrs false l := by
  have hl : l = l.take k ++ l.drop k := (List.take_append_drop k l).symm
  have hd : addrs false (l.drop k) = [] := by
    unfold addrs
    rw [List.flatMap_eq_nil_iff]
    intro t ht
    obtain ⟨j, hj⟩ := List.getElem?_of_mem ht
    rw [List.getElem?_drop] at hj
    have : t.write = true := by
      rcases Nat.eq_zero_or_pos j with h0 | h0
      · subst h0; rw [Nat.add_zero, hs] at hj; injection hj with hj; rw [← hj]; exact hw
      · exact h k (k + j) s t (by omega) hs hj hw
    rw [if_neg (by rw [this]; decide)]
  conv => rhs; rw [hl]
  unfold addrs at hd ⊢
  rw [List.flatMap_append, hd, List.append_nil]
/-- Bytes read through a chain, from one on. -/
def gath (g : Int → Int) (l : List Seg) (f n : Nat) : List Int := rdA g (((addrs false l).drop f).take n)
theorem gath_nil (g : Int → Int) (f n : Nat) : gath g [] f n = [] := by simp [gath, addrs, rdA]
theorem gath_step (g : Int → Int) (xs : List Int) (a : Int) (m f n : Nat) : rdA g (((xs ++ seqA a m).drop f).take n) = rdA g ((xs.drop f).take n) ++ rdl g (a + ((f - xs.length : Nat) : Int) - 2147483648) (min (m - (f - xs.length)) (n - (xs.length - f))) := by
  rw [List.drop_append, List.take_append, List.length_drop, rdA_append, seqA_drop, seqA_take, rdA_seq]
  congr 2
  omega
theorem gath_seg (g : Int → Int) (l : List Seg) (s : Seg) (f n : Nat) (h : s.write = false) :
    gath g (l ++ [s]) f n = gath g l f n ++ rdl g (s.at_ + ((f - (addrs false l).length : Nat) : Int) - 2147483648) (min (s.len.toNat - (f - (addrs false l).length)) (n - ((addrs false l).length - f))) := by
  unfold gath; rw [addrs_snoc, if_pos h, gath_step]
theorem gath_length (g : Int → Int) (l : List Seg) (f n : Nat) : (gath g l f n).length = min n ((addrs false l).length - f) := by
  unfold gath; rw [rdA_length, List.length_take, List.length_drop]
def GathPost (L : List Int) (w : World) (e : Ending) (w' : World) : Prop :=
  ∃ A c, e = .returned (.tuple #[.slice A L.length c, .bool true]) ∧ w'.ownsRow w.heap.size 5 1 (.slice A L.length c) L.length (by8 L) ∧ Kept No w w'
theorem by8_append (l l' : List Int) : by8 (l ++ l') = by8 l ++ by8 l' := by simp [by8]
theorem by8_one (l : List Int) : ∀ u ∈ by8 l, u.oneCell' = true := by
  intro u hu
  obtain ⟨x, _, rfl⟩ := List.mem_map.1 hu
  rfl

set_option maxHeartbeats 1000000 in
set_option maxRecDepth 100000 in
theorem gather_yes (p : Nat) (F : Nat → Prop) (size : Int) (g : Int → Int) (A : Option Addr) (n c : Nat) (l : List Seg) (ta tl : Int) (f m : Nat) (w : World) (h : RamAt w p F size g)
    (hA : Sl w No A (scells l)) (hn : l.length = n) (ho : SegsOk size l) (hrf : Rdf l) (hm2 : m ≤ 1000000000) (hfit : (f : Int) + m ≤ segSum false l) :
    Calls Try.prog 96 #[.agg #[.slice A n c, .int .u64 ta, .int .u64 tl], .pointer (some ⟨p, 0, none⟩), .int .u64 f, .int .u64 m] w (GathPost (gath g l f m) w) := by
  have hS := ho.sum' false
  obtain ⟨S, hSe⟩ : ∃ S, segSum false l = S := ⟨_, rfl⟩
  have hl := ho.len
  rw [hn] at hl
  have hlen : (gath g l f m).length = m := by
    have := Go.Proofs.Ytognedbehplaeaa.addrs_length false (l := l) (fun s hs => (ho.at_ hs).1)
    rw [gath_length]; omega
  have hG : gath g l f m = gath g (l.take n) f m := by rw [← hn, List.take_length]
  rw [hSe] at hS hfit
  obtain ⟨S0, S1⟩ := hS
  have HSE := hid hSe
  have HN := hid hn
  have HO := hid ho
  have HRF := hid hrf
  have hfin : ∀ (k : Nat) (A' : Option Addr) (c' q : Nat) (W : World), gath g (l.take k) f m = gath g l f m → (gath g (l.take k) f m).length = q → W.ownsRow w.heap.size 5 1 (.slice A' q c') q (by8 (gath g (l.take k) f m)) → Kept No w W → GathPost (gath g l f m) w (.returned (.tuple #[.slice A' q c', .bool true])) W := by
    intro k A' c' q W e1 e2 ho hk
    rw [e1] at e2 ho
    exact ⟨A', c', by rw [e2], by rw [e2]; exact ho, hk⟩
  have HFIN := hid hfin
  have hk0 := (Kept.refl No w).alloc (.cells #[.slice A n c, .int .u64 ta, .int .u64 tl] 40)
  have HB0 := hid (at_new w (.cells #[.slice A n c, .int .u64 ta, .int .u64 tl] 40))
  have HK0 := hid hk0
  obtain ⟨ti, hti, hz0, hz1, hz2⟩ := info_parts info_u8
  have HTI := hid hti
  clear hSe hn ho hk0 hlen hG hfin hti hrf
  go_enter Try.func96, Try.ntmps96
  go_wp2_with fail
  refine (sizes_calls size A n c l ta tl _ (hA.no HK0.out) HN.out HO.out).mono ?_
  rw [HSE.out]
  rintro e w1 ⟨rfl, hk1⟩
  have HK1 := hid (HK0.out.trans hk1)
  have hb1 := at_kept HB0.out hk1 (fun h => h)
  have c1 := fun i => cells_of hb1 i
  clear hk1 HK0 HB0 hb1
  go_wp2_with fail
  clear c1
  go_loopw [12, 13, 38] (fun ov bv i wr => ∃ (k L q c' : Nat) (A' : Option Addr), k ≤ n ∧ i = .int .i64 k ∧ bv = .int .u64 L ∧ ov = .slice A' q c' ∧ q ≤ m ∧ Hid (L = (addrs false (l.take k)).length ∧ (gath g (l.take k) f m).length = q) ∧ wr.ownsRow w.heap.size 5 1 (.slice A' q c') q (by8 (gath g (l.take k) f m)) ∧ Kept No w wr) (fun _ _ i _ => n - (intOf i).toNat)
  case atStart => exact ⟨0, 0, 0, 0, none, by omega, rfl, rfl, rfl, by omega, hid ⟨rfl, by rw [List.take_zero, gath_nil]; rfl⟩, by rw [List.take_zero, gath_nil]; exact World.ownsRow_nil _ _ _ _, HK1.out⟩
  case round =>
    obtain ⟨k, L, q, c', A', hk, rfl, rfl, rfl, hqm, HL, hO, hK⟩ := hrel
    have HOW := hid hO
    have HK := hid hK
    clear hO hK HK1
    by_cases hlt : k < n
    · obtain ⟨s, hs⟩ : ∃ s, l[k]? = some s := ⟨_, List.getElem?_eq_getElem (by rw [HN.out]; exact hlt)⟩
      have hsc := scells_at hs
      obtain ⟨b, o, rfl, -, -, x0⟩ := (hA.no HK.out).at_ hsc.1
      obtain ⟨b', o', e', -, -, x1⟩ := (hA.no HK.out).at_ hsc.2.1
      obtain ⟨rfl, rfl⟩ : b = b' ∧ o = o' := by simpa using e'
      obtain ⟨b', o', e', -, -, x2⟩ := (hA.no HK.out).at_ hsc.2.2
      obtain ⟨rfl, rfl⟩ : b = b' ∧ o = o' := by simpa using e'
      rw [← Nat.add_assoc] at x1 x2
      have hat := HO.out.at_ (List.mem_of_getElem? hs)
      have hLs := HO.out.sum false k
      rw [← HO.out.addrs_length false k, ← HL.out.1] at hLs
      have hrest := fun hw => rdf_rest HRF.out hs hw
      obtain ⟨sa, sl, sw⟩ := s
      simp only at x0 x1 x2 hat hrest
      obtain ⟨l0, l1, a0, a1⟩ := hat
      obtain ⟨sn, rfl⟩ : ∃ sn : Nat, sl = sn := ⟨sl.toNat, by omega⟩
      have L1 := hLs.2
      have hsz := HO.out.size.2
      have HTK := hid (take_seg hs)
      have HRE := hid hrest
      clear e' hsc hs hLs hrest
      cases sw with
      | true =>
        have hgo : gath g (l.take k) f m = gath g l f m := by unfold gath; rw [HRE.out rfl]
        have HP := hid (HFIN.out k A' c' q _ hgo HL.out.2 (own_no0 HOW.out ((Kept.refl _ _).alloc (.cells #[.int .u64 sa, .int .u64 sn, .bool true] 57))) (HK.out.alloc _))
        clear hgo
        go_wp2
        go_ret2
        exact HP.out
      | false =>
        have hfa : (addrs false (l.take (k + 1))).length = L + sn := by rw [HTK.out, addrs_snoc, if_pos rfl, List.length_append, seqA_length, ← HL.out.1]; rfl
        have hfg : gath g (l.take (k + 1)) f m = gath g (l.take k) f m ++ rdl g (sa + ((f - L : Nat) : Int) - 2147483648) (min (sn - (f - L)) (m - (L - f))) := by
          have h0 := gath_seg g (l.take k) ⟨sa, sn, false⟩ f m rfl
          rw [← HTK.out, ← HL.out.1] at h0
          exact h0
        have hql : q = min m (L - f) := by rw [← HL.out.2, gath_length, ← HL.out.1]
        have HFG := hid hfg
        have HFA := hid hfa
        have HQL := hid hql
        clear hfa hfg hql
        obtain ⟨K, hKp⟩ := pieceN_nat sa sn L f m
        obtain ⟨PA, hPA⟩ : ∃ PA, pieceA sa sn L f m = PA := ⟨_, rfl⟩
        go_wp2_with fail
        refine (piece_calls sa sn L f m false _ (by omega) (by omega) (by omega) (by omega) (by omega)).mono ?_
        rw [hKp, hPA]
        rintro e w2 ⟨rfl, hk2⟩
        have hk3 := ((Kept.refl No wr).alloc (.cells #[.int .u64 sa, .int .u64 sn, .bool false] 57)).trans hk2
        have HK2 := hid (HK.out.trans hk3)
        have HOW2 := hid (own_no0 HOW.out hk3)
        have hbx := at_kept (at_new wr (.cells #[.int .u64 sa, .int .u64 sn, .bool false] 57)) hk2 (fun h => h)
        have HBX := hid hbx
        clear HK HOW hk2 hk3 hbx x0 x1 x2
        by_cases hK0 : K = 0
        · subst hK0
          have HZ := hid (piece_zero hKp)
          have bx := fun i => cells_of HBX.out i
          have hg2 : gath g (l.take (k + 1)) f m = gath g (l.take k) f m := by rw [HFG.out, HZ.out]; simp [rdl]
          have HG2 := hid hg2
          clear hKp hPA hg2
          go_wp2
          go_roundw
          case rel => exact ⟨k + 1, L + sn, q, c', A', by omega, by go_num, by go_num, rfl, by omega, hid ⟨HFA.out.symm, by rw [HG2.out]; exact HL.out.2⟩, by rw [HG2.out]; exact HOW2.out, HK2.out⟩
          case measure => simp [intOf]; omega
        · have hpos := piece_pos hKp (by omega)
          rw [hPA] at hpos
          obtain ⟨q1, q2, q3, q4, q5⟩ := hpos
          have hql := HQL.out
          have hin : inside PA K 2147483648 size = true := in_of (by omega)
          have hPA0 : 0 ≤ PA ∧ PA ≤ 18446744073709551615 := by omega
          have hkk0 : (K : Int) > 0 := by omega
          have hqk : q + K ≤ m := by omega
          have HIN := hid hin
          have hg2 : gath g (l.take (k + 1)) f m = gath g (l.take k) f m ++ rdl g (PA - 2147483648) K := by rw [HFG.out, ← q3, ← q1]
          have HG2 := hid hg2
          clear hKp hPA q1 q2 q3 q4 q5 hin hg2 hql hK0
          go_wp2_with fail
          refine (read_yes p F size g PA K w2 (h.no HK2.out) hPA0 (by omega) HIN.out).mono ?_
          rintro e w3 ⟨br, rfl, hbn, hbr, hk3⟩
          rw [Int.toNat_natCast] at hbr ⊢
          obtain ⟨R, hR⟩ : ∃ R, rdl g (PA - 2147483648) K = R := ⟨_, rfl⟩
          have hRl : R.length = K := by rw [← hR, rdl_length]
          rw [hR] at hbr ⊢
          rw [hRl]
          have HRR := hid hR
          have HRL := hid hRl
          have HSL := hid (Sl.of_block hbr (N := No) (fun h => h))
          have HK3 := hid (HK2.out.trans hk3)
          have HOW3 := hid (own_no0 HOW2.out hk3)
          have hb3 := at_kept HBX.out hk3 (fun h => h)
          have HB3 := hid hb3
          have bx := fun i => cells_of hb3 i
          have hws := HK3.out.size
          clear hb3 hk3 hbr hR hRl HK2 HOW2 HBX
          go_wp2_with (at_builtin; refine wpList_append_sl _ rfl (.tmp 63) (.tmp 64) _ rfl w.heap.size 5 ti _ 1 1 Try.underlying49 HTI.out hz0 hz1 hz2 rfl (by omega) (.slice A' q c') q (by8 (gath g (l.take k) f m)) rfl HOW3.out No _ K _ (by8 R) rfl HSL.out (by rw [by8_length, HRL.out]; omega) (by8_one R) (by unfold maxLen; omega) (by omega) hws ?_; intro v5 w5 hown5 hg5 hat5; obtain ⟨A5, c5, rfl⟩ := own_slice hown5; have HK5 := hid (HK3.out.grown hg5 (fun kk hkk => .inr (own_lt HOW3.out hkk).1)); have bx := fun i => cells_of ((hg5.block _ (lt_of HB3.out) (fun hee => own_ne HOW3.out HB3.out (by decide) hee.symm)).trans HB3.out) i; have HO5 := hid hown5; clear hown5 hg5 hat5)
          go_roundw
          case rel => exact ⟨k + 1, L + sn, q + K, c5, A5, by omega, by go_num, by go_num, rfl, by omega, hid ⟨HFA.out.symm, by rw [HG2.out, List.length_append, HL.out.2, HRR.out, HRL.out]⟩, by rw [HG2.out, by8_append, HRR.out]; exact HO5.out, HK5.out⟩
          case measure => simp [intOf]; omega
    · have hkk : k = n := by omega
      subst hkk
      have HP := hid (HFIN.out k A' c' q _ (by rw [← HN.out, List.take_length]) HL.out.2 HOW.out HK.out)
      go_wp2
      go_ret2
      exact HP.out
end Go.Proofs.Ytognedbehplaeaa
