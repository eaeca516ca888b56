/- The document's walk of a whole chain. -/
import Derived.Test.YtognedbehplaeaaRefd
set_option linter.unusedVariables false
namespace Go.Proofs.Ytognedbehplaeaa
open Go.RowKit

/-- What a call that changes nothing leaves readable. -/
theorem Kept.reads {w w' : World} (k : Kept No w w') : (∀ b o, b < w.heap.size → w'.cell? ⟨b, o, none⟩ = w.cell? ⟨b, o, none⟩) ∧ (∀ b o, b < w.heap.size → w'.frozen? ⟨b, o, none⟩ = w.frozen? ⟨b, o, none⟩) :=
  ⟨fun b o h => World.cell?_of_block (a := ⟨b, o, none⟩) (k.block b h (fun h => h)), fun b o h => World.frozen?_of_block (a := ⟨b, o, none⟩) (k.block b h (fun h => h))⟩

theorem nested_f0 {r : Along} {b : Bool} (hc : r.code = 0) (h4 : decide (r.d.flags / 4 % 2 = 1) = b) : nested false r = if b = true then 153 else 0 := by
  unfold nested
  rw [hc, h4]
  cases b <;> rfl
theorem nested_fc {r : Along} (hc : r.code ≠ 0) : nested false r = r.code := by
  unfold nested
  rw [decide_eq_false hc]
  rfl
theorem tabCode_len {size : Int} {d : DescV} (hd : d.Ok) (h : d.len % 16 ≠ 0 ∨ d.len < 16 ∨ 4096 < d.len) : tabCode size d = 154 := by
  unfold tabCode
  rw [decide_eq_false (by omega)]
  rfl
theorem tabCode_at {size : Int} {d : DescV} (h0 : d.len % 16 = 0) (h1 : 16 ≤ d.len) (h2 : d.len ≤ 4096) (hi : inside d.addr d.len 2147483648 size = false) : tabCode size d = 21 := by
  unfold tabCode
  rw [decide_eq_true (by omega), hi]
  rfl
theorem tabCode_ok {size : Int} {d : DescV} (h0 : d.len % 16 = 0) (h1 : 16 ≤ d.len) (h2 : d.len ≤ 4096) (hi : inside d.addr d.len 2147483648 size = true) : tabCode size d = 0 := by
  unfold tabCode
  rw [decide_eq_true (by omega), hi]
  rfl

/-- The walk's result is laid. -/
theorem rw_fin {w W0 W : World} {v : Value} {n : Nat} {xs : List Value} (a l : Int) (hk0 : Kept No w W0) (hb2 : W0.heap[w.heap.size + 1 + 1]? = some (.cells #[.slice none 0 0, .int .u64 0, .int .u64 0] 44 (0, 0))) (hk : Kept No W0 W) (ho : W.ownsRow W0.heap.size 57 3 v n xs) :
    (∀ i, (((W.setCell ⟨w.heap.size + 1 + 1, 0, none⟩ v).setCell ⟨w.heap.size + 1 + 1, 1, none⟩ (.int .u64 a)).setCell ⟨w.heap.size + 1 + 1, 2, none⟩ (.int .u64 l)).cell? ⟨w.heap.size + 1 + 1, i, none⟩ = (#[v, .int .u64 a, .int .u64 l] : Array Value)[i]?) ∧
    (((W.setCell ⟨w.heap.size + 1 + 1, 0, none⟩ v).setCell ⟨w.heap.size + 1 + 1, 1, none⟩ (.int .u64 a)).setCell ⟨w.heap.size + 1 + 1, 2, none⟩ (.int .u64 l)).ownsRow w.heap.size 57 3 v n xs ∧
    Kept No w (((W.setCell ⟨w.heap.size + 1 + 1, 0, none⟩ v).setCell ⟨w.heap.size + 1 + 1, 1, none⟩ (.int .u64 a)).setCell ⟨w.heap.size + 1 + 1, 2, none⟩ (.int .u64 l)) := by
  have hr0 := at_kept hb2 hk (fun h => h)
  have hr := at_set (at_set (at_set hr0 0 v) 1 (.int .u64 a)) 2 (.int .u64 l)
  refine ⟨fun i => cells_of hr i, own_mono (own_keep ho (fun k hk => ?_)) hk0.size, ?_⟩
  · have hne : k ≠ w.heap.size + 1 + 1 := by rintro rfl; exact own_ne ho hr0 (by decide) hk
    rw [Below.heap_setCell _ _ _ _ hne, Below.heap_setCell _ _ _ _ hne, Below.heap_setCell _ _ _ _ hne]
  · have hn2 : No (w.heap.size + 1 + 1) ∨ w.heap.size ≤ w.heap.size + 1 + 1 := .inr (by omega)
    exact (((hk0.trans hk).set (p := ⟨w.heap.size + 1 + 1, 0, none⟩) hn2 _).set (p := ⟨w.heap.size + 1 + 1, 1, none⟩) hn2 _).set (p := ⟨w.heap.size + 1 + 1, 2, none⟩) hn2 _

set_option maxHeartbeats 2000000 in
set_option maxRecDepth 100000 in
theorem rwalk_calls (size : Int) (A : Option Addr) (n c : Nat) (N : Nat → Prop) (g : Int → Int) (bs : List (Int × Int)) (t av us head : Int) (sz : Nat) (ind : Bool) (w : World) (hM : RefM w N A n size g bs) (ht : 0 ≤ t ∧ t ≤ 18446744073709551615) (hs : sz ≤ 256) :
    Calls Try.prog 19 #[.agg #[.int .u64 size, .slice A n c], .agg #[.int .i64 sz, .int .u64 t, .int .u64 av, .int .u64 us], .int .i64 head, .bool ind] w (WalkPost (walkS g size t sz head ind) w) := by
  obtain ⟨r, hr⟩ : ∃ r, alongS g size t sz sz head [] = r := ⟨_, rfl⟩
  obtain ⟨cc, hcc⟩ : ∃ cc, walkS g size t sz head ind = cc := ⟨_, rfl⟩
  rw [hcc]
  have HRR := hid hr
  have HCC := hid hcc
  have HRD := hid (hr ▸ alongS_ok hM.byte size t sz sz head [])
  have HLN := hid (hr ▸ alongS_len (g := g) size t sz sz head [])
  have HM := hid hM
  have hsz := hM.size
  clear hr hcc hM
  go_enter Try.func19, Try.ntmps19
  go_wp2_with fail
  obtain ⟨W0, hW0⟩ : ∃ W, W = ((w.alloc (.cells #[.int .u64 size, .slice A n c] 32)).alloc (.cells #[.int .i64 sz, .int .u64 t, .int .u64 av, .int .u64 us] 25)).alloc (.cells #[.slice none 0 0, .int .u64 0, .int .u64 0] 44) := ⟨_, rfl⟩
  rw [← hW0]
  have HK0 : Hid (Kept No w W0) := hid (by rw [hW0]; exact (((Kept.refl No w).alloc _).alloc _).alloc _)
  have hb0 : W0.heap[w.heap.size]? = some (.cells #[.int .u64 size, .slice A n c] 32 (0, 0)) := by rw [hW0]; exact at_alloc (at_alloc (at_new w _) _) _
  have hb2 : W0.heap[w.heap.size + 1 + 1]? = some (.cells #[.slice none 0 0, .int .u64 0, .int .u64 0] 44 (0, 0)) := by
    rw [hW0]
    have := at_new ((w.alloc (.cells #[.int .u64 size, .slice A n c] 32)).alloc (.cells #[.int .i64 sz, .int .u64 t, .int .u64 av, .int .u64 us] 25)) (.cells #[.slice none 0 0, .int .u64 0, .int .u64 0] 44)
    simpa using this
  clear hW0
  refine (ralong_calls size A n c N g bs W0.heap.size t sz 0 0 sz head none 0 0 [] W0 (HM.out.no HK0.out) ht (by simp; omega) (Nat.le_refl _) (World.ownsRow_nil _ _ _ _) rfl).mono ?_
  rw [HRR.out]
  rintro e w1 ⟨d, B, k, m, rfl, hok, hk1⟩
  have hww0 := lt_of hb0
  have hww2 := lt_of hb2
  have HK1 := hid hk1
  have HOK := hid hok
  have c0 := fun i => cells_of hb0 i
  have c2 := fun i => cells_of hb2 i
  have f2 := frozen_of hb2
  have HB0 := hid hb0
  have HB2 := hid hb2
  obtain ⟨hr1, hf1⟩ := hk1.reads
  have z0 : w.heap.size < w1.heap.size := Nat.lt_of_lt_of_le hww0 hk1.size
  have z1 : w.heap.size + 1 < w1.heap.size := Nat.lt_of_lt_of_le (by omega) hk1.size
  have z2 : w.heap.size + 1 + 1 < w1.heap.size := Nat.lt_of_lt_of_le hww2 hk1.size
  clear hb0 hb2 hk1 hok
  unfold DescV.val
  by_cases hc : r.code = 0
  · obtain ⟨hd, hm, hown⟩ := HOK.out hc
    subst hm
    have HD := hid hd
    have HDO : Hid d.Ok := hid (hd ▸ HRD.out)
    have HC := hid hc
    have HSN : Hid (r.segs.length ≤ 256) := hid (by have := HLN.out; simp at this; omega)
    rw [hc]
    clear hd hc
    have n0 : ¬ w.heap.size = w1.heap.size + 1 := by omega
    have n2 : ¬ w.heap.size + 1 + 1 = w1.heap.size + 1 := by omega
    go_wp2_with fail
    refine (rflag_calls' d HDO.out 4 (by decide) _).mono ?_
    rintro e w2 ⟨rfl, hk2⟩
    have hD2 := at_kept (at_alloc (at_new w1 (.cells #[.int .u64 d.addr, .int .u32 d.len, .int .u16 d.flags, .int .u16 d.next] 165)) (.cells #[.slice B r.segs.length k, .int .u64 0, .int .u64 0] 44)) hk2 (fun h => h)
    have hE2 : w2.heap[w1.heap.size + 1]? = some (.cells #[.slice B r.segs.length k, .int .u64 0, .int .u64 0] 44 (0, 0)) := at_kept (by have := at_new (w1.alloc (.cells #[.int .u64 d.addr, .int .u32 d.len, .int .u16 d.flags, .int .u16 d.next] 165)) (.cells #[.slice B r.segs.length k, .int .u64 0, .int .u64 0] 44); simpa using this) hk2 (fun h => h)
    have hk12 := (((Kept.refl No w1).alloc (.cells #[.int .u64 d.addr, .int .u32 d.len, .int .u16 d.flags, .int .u16 d.next] 165)).alloc (.cells #[.slice B r.segs.length k, .int .u64 0, .int .u64 0] 44)).trans hk2
    have HK2 := hid (HK1.out.trans hk12)
    have HO2 := hid (own_no0 hown hk12)
    have HD2 := hid hD2
    have HE2 := hid hE2
    have z3 := Nat.lt_of_lt_of_le z0 hk12.size
    have z4 := Nat.lt_of_lt_of_le z1 hk12.size
    have z5 := Nat.lt_of_lt_of_le z2 hk12.size
    have z6 := lt_of hD2
    have z7 := lt_of hE2
    clear hr1 hf1 z0 z1 z2 hown hk2 hk12 hD2 hE2
    obtain ⟨hr2, hf2⟩ := HK2.out.reads
    have d2 := fun i => cells_of HD2.out i
    have e2 := fun i => cells_of HE2.out i
    have fe := frozen_of HE2.out
    cases h4 : decide (d.flags / 4 % 2 = 1) with
    | false =>
      have hcc : cc = ⟨0, r.segs, 0, 0⟩ := HCC.out ▸ walkS_plain HRR.out HC.out (by rw [← HD.out]; exact h4)
      have HC2 := hid hcc
      clear hcc h4
      go_wp2
      refine bodyPost_ret (v := .tuple #[.agg #[.slice B r.segs.length k, .int .u64 0, .int .u64 0], .int .i64 0]) (by simp [results, Try.results19, go_sem, (rw_fin 0 0 HK0.out HB2.out (HK2.out) (HO2.out)).1]) rfl ⟨B, k, by rw [HC2.out], by rw [HC2.out]; exact (rw_fin 0 0 HK0.out HB2.out (HK2.out) (HO2.out)).2.1, (rw_fin 0 0 HK0.out HB2.out (HK2.out) (HO2.out)).2.2⟩
    | true =>
      have H4 : Hid (decide (r.d.flags / 4 % 2 = 1) = true) := hid (by rw [← HD.out]; exact h4)
      clear h4
      cases ind with
      | false =>
        have hcc : cc = ⟨153, [], 0, 0⟩ := HCC.out ▸ walkS_nest HRR.out HC.out H4.out rfl
        have HC2 := hid hcc
        clear hcc
        go_wp2
        refine bodyPost_ret (v := .tuple #[.agg #[.slice none 0 0, .int .u64 0, .int .u64 0], .int .i64 153]) (by simp [results, Try.results19, go_sem, (rw_fin 0 0 HK0.out HB2.out (HK2.out) (World.ownsRow_nil _ _ _ _)).1]) rfl ⟨none, 0, by rw [HC2.out]; rfl, by rw [HC2.out]; exact (rw_fin 0 0 HK0.out HB2.out (HK2.out) (World.ownsRow_nil _ _ _ _)).2.1, (rw_fin 0 0 HK0.out HB2.out (HK2.out) (World.ownsRow_nil _ _ _ _)).2.2⟩
      | true =>
        go_wp2_with fail
        refine (rflag_calls' d HDO.out 1 (by decide) _).mono ?_
        rintro e w3 ⟨rfl, hk3⟩
        have HK3 := hid (HK2.out.trans hk3)
        have HO3 := hid (own_no0 HO2.out hk3)
        have HD3 := hid (at_kept HD2.out hk3 (fun h => h))
        have HE3 := hid (at_kept HE2.out hk3 (fun h => h))
        have y3 := Nat.lt_of_lt_of_le z3 hk3.size
        have y4 := Nat.lt_of_lt_of_le z4 hk3.size
        have y5 := Nat.lt_of_lt_of_le z5 hk3.size
        have y6 := lt_of HD3.out
        have y7 := lt_of HE3.out
        clear hr2 hf2 d2 e2 fe z3 z4 z5 z6 z7 HK2 HO2 HD2 HE2 hk3
        obtain ⟨hr2, hf2⟩ := HK3.out.reads
        have d2 := fun i => cells_of HD3.out i
        have e2 := fun i => cells_of HE3.out i
        have fe := frozen_of HE3.out
        cases h1 : decide (d.flags / 1 % 2 = 1) with
        | true =>
          have hcc : cc = ⟨153, [], 0, 0⟩ := HCC.out ▸ walkS_nest HRR.out HC.out H4.out (by rw [← HD.out, h1]; rfl)
          have HC2 := hid hcc
          clear hcc h1
          go_wp2
          refine bodyPost_ret (v := .tuple #[.agg #[.slice none 0 0, .int .u64 0, .int .u64 0], .int .i64 153]) (by simp [results, Try.results19, go_sem, (rw_fin 0 0 HK0.out HB2.out (HK3.out) (World.ownsRow_nil _ _ _ _)).1]) rfl ⟨none, 0, by rw [HC2.out]; rfl, by rw [HC2.out]; exact (rw_fin 0 0 HK0.out HB2.out (HK3.out) (World.ownsRow_nil _ _ _ _)).2.1, (rw_fin 0 0 HK0.out HB2.out (HK3.out) (World.ownsRow_nil _ _ _ _)).2.2⟩
        | false =>
          have H1 : Hid ((!true || decide (r.d.flags / 1 % 2 = 1)) = false) := hid (by rw [← HD.out, h1]; rfl)
          have ⟨l0, l1⟩ := HDO.out.len
          clear h1
          by_cases hlen : d.len % 16 ≠ 0 ∨ d.len < 16 ∨ 4096 < d.len
          · have hcc : cc = ⟨154, [], 0, 0⟩ := HCC.out ▸ (by have := walkS_notab HRR.out HC.out H4.out H1.out (by rw [← HD.out, tabCode_len HDO.out hlen]; decide); rw [← HD.out, tabCode_len HDO.out hlen] at this; exact this)
            have HC2 := hid hcc
            have hcase : (d.len % 16 != 0) = true ∨ ((d.len % 16 != 0) = false ∧ d.len < 16) ∨ ((d.len % 16 != 0) = false ∧ 16 ≤ d.len ∧ 4096 < d.len) := by simp; omega
            clear hcc hlen
            rcases hcase with h | ⟨h, h2⟩ | ⟨h, h2, h3⟩
            · go_wp2
              refine bodyPost_ret (v := .tuple #[.agg #[.slice none 0 0, .int .u64 0, .int .u64 0], .int .i64 154]) (by simp [results, Try.results19, go_sem, (rw_fin 0 0 HK0.out HB2.out (HK3.out) (World.ownsRow_nil _ _ _ _)).1]) rfl ⟨none, 0, by rw [HC2.out]; rfl, by rw [HC2.out]; exact (rw_fin 0 0 HK0.out HB2.out (HK3.out) (World.ownsRow_nil _ _ _ _)).2.1, (rw_fin 0 0 HK0.out HB2.out (HK3.out) (World.ownsRow_nil _ _ _ _)).2.2⟩
            · go_wp2
              refine bodyPost_ret (v := .tuple #[.agg #[.slice none 0 0, .int .u64 0, .int .u64 0], .int .i64 154]) (by simp [results, Try.results19, go_sem, (rw_fin 0 0 HK0.out HB2.out (HK3.out) (World.ownsRow_nil _ _ _ _)).1]) rfl ⟨none, 0, by rw [HC2.out]; rfl, by rw [HC2.out]; exact (rw_fin 0 0 HK0.out HB2.out (HK3.out) (World.ownsRow_nil _ _ _ _)).2.1, (rw_fin 0 0 HK0.out HB2.out (HK3.out) (World.ownsRow_nil _ _ _ _)).2.2⟩
            · go_wp2
              refine bodyPost_ret (v := .tuple #[.agg #[.slice none 0 0, .int .u64 0, .int .u64 0], .int .i64 154]) (by simp [results, Try.results19, go_sem, (rw_fin 0 0 HK0.out HB2.out (HK3.out) (World.ownsRow_nil _ _ _ _)).1]) rfl ⟨none, 0, by rw [HC2.out]; rfl, by rw [HC2.out]; exact (rw_fin 0 0 HK0.out HB2.out (HK3.out) (World.ownsRow_nil _ _ _ _)).2.1, (rw_fin 0 0 HK0.out HB2.out (HK3.out) (World.ownsRow_nil _ _ _ _)).2.2⟩
          · have hb16 : (d.len % 16 != 0) = false := by simp; omega
            have hl16 : 16 ≤ d.len := by omega
            have hl40 : d.len ≤ 4096 := by omega
            have hm16 : d.len % 16 = 0 := by omega
            have wl : IntKind.u64.wrap d.len = d.len := w64 _ l0 (by omega)
            have HL := hid (And.intro hm16 (And.intro hl16 hl40))
            clear hlen hm16
            go_wp2_with fail
            refine (rhas_calls size A n c d.addr d.len _ hsz HDO.out.addr ⟨l0, by have := HL.out; clear wl; omega⟩).mono ?_
            rintro e w4 ⟨rfl, hk4⟩
            have HK4 := hid (HK3.out.trans hk4)
            have HO4 := hid (own_no0 HO3.out hk4)
            have HD4 := hid (at_kept HD3.out hk4 (fun h => h))
            have HE4 := hid (at_kept HE3.out hk4 (fun h => h))
            have z3 := Nat.lt_of_lt_of_le y3 hk4.size
            have z4 := Nat.lt_of_lt_of_le y4 hk4.size
            have z5 := Nat.lt_of_lt_of_le y5 hk4.size
            have z6 := lt_of HD4.out
            have z7 := lt_of HE4.out
            clear hr2 hf2 d2 e2 fe y3 y4 y5 y6 y7 HK3 HO3 HD3 HE3 hk4
            obtain ⟨hr2, hf2⟩ := HK4.out.reads
            have d2 := fun i => cells_of HD4.out i
            have e2 := fun i => cells_of HE4.out i
            have fe := frozen_of HE4.out
            cases hin : inside d.addr d.len 2147483648 size with
            | false =>
              have htc := tabCode_at HL.out.1 HL.out.2.1 HL.out.2.2 hin
              have hcc : cc = ⟨21, [], 0, 0⟩ := HCC.out ▸ (by have := walkS_notab HRR.out HC.out H4.out H1.out (by rw [← HD.out, htc]; decide); rw [← HD.out, htc] at this; exact this)
              have HC2 := hid hcc
              clear hcc htc hin
              go_wp2
              refine bodyPost_ret (v := .tuple #[.agg #[.slice none 0 0, .int .u64 0, .int .u64 0], .int .i64 21]) (by simp [results, Try.results19, go_sem, (rw_fin 0 0 HK0.out HB2.out (HK4.out) (World.ownsRow_nil _ _ _ _)).1]) rfl ⟨none, 0, by rw [HC2.out]; rfl, by rw [HC2.out]; exact (rw_fin 0 0 HK0.out HB2.out (HK4.out) (World.ownsRow_nil _ _ _ _)).2.1, (rw_fin 0 0 HK0.out HB2.out (HK4.out) (World.ownsRow_nil _ _ _ _)).2.2⟩
            | true =>
              have HTC : Hid (tabCode size r.d = 0) := hid (by rw [← HD.out]; exact tabCode_ok HL.out.1 HL.out.2.1 HL.out.2.2 hin)
              obtain ⟨n2, hn2⟩ : ∃ n2 : Nat, n2 = (d.len / 16).toNat := ⟨_, rfl⟩
              have hnn : d.len / 16 = n2 := by clear wl; omega
              have hn0 : 1 ≤ n2 := by clear wl; omega
              have hn1 : n2 ≤ 256 := by clear wl; omega
              obtain ⟨r2, hr2'⟩ : ∃ r2, alongS g size d.addr n2 n2 0 r.segs = r2 := ⟨_, rfl⟩
              have HR2 : Hid (alongS g size r.d.addr ((r.d.len / 16).toNat : Int) (r.d.len / 16).toNat 0 r.segs = r2) := hid (by rw [← HD.out, ← hn2]; exact hr2')
              have HR2' := hid hr2'
              clear hr2' hn2 hin
              obtain ⟨W5, hW5⟩ : ∃ W, W = (w4.setCell ⟨w1.heap.size + 1, 1, none⟩ (.int .u64 d.addr)).setCell ⟨w1.heap.size + 1, 2, none⟩ (.int .u64 d.len) := ⟨_, rfl⟩
              have HE5 : Hid (W5.heap[w1.heap.size + 1]? = some (.cells #[.slice B r.segs.length k, .int .u64 d.addr, .int .u64 d.len] 44 (0, 0))) := hid (by rw [hW5]; exact at_set (at_set HE4.out 1 _) 2 _)
              have HD5 : Hid (W5.heap[w1.heap.size]? = some (.cells #[.int .u64 d.addr, .int .u32 d.len, .int .u16 d.flags, .int .u16 d.next] 165 (0, 0))) := hid (by rw [hW5]; exact at_far (at_far HD4.out (p := ⟨w1.heap.size + 1, 1, none⟩) (by simp) _) (p := ⟨w1.heap.size + 1, 2, none⟩) (by simp) _)
              have HK5 : Hid (Kept No W0 W5) := hid (by rw [hW5]; exact (HK4.out.set (p := ⟨w1.heap.size + 1, 1, none⟩) (.inr (Nat.le_succ_of_le HK1.out.size)) _).set (p := ⟨w1.heap.size + 1, 2, none⟩) (.inr (Nat.le_succ_of_le HK1.out.size)) _)
              have HO5 : Hid (W5.ownsRow W0.heap.size 57 3 (.slice B r.segs.length k) r.segs.length (scells r.segs)) := hid (by
                rw [hW5]
                refine own_keep HO4.out (fun kk hkk => ?_)
                have hne : kk ≠ w1.heap.size + 1 := by rintro rfl; exact own_ne HO4.out HE4.out (by decide) hkk
                rw [Below.heap_setCell _ _ _ _ hne, Below.heap_setCell _ _ _ _ hne])
              have HW5 := hid hW5
              clear hW5
              go_wp2_with (fail)
              rw [← HW5.out]
              refine (ralong_calls size A n c N g bs W0.heap.size d.addr n2 d.addr d.len n2 0 B k r.segs.length r.segs _ (HM.out.no (HK0.out.trans HK5.out)) HDO.out.addr (by have := HSN.out; omega) HK5.out.size HO5.out rfl).mono ?_
              rw [HR2'.out]
              rintro e w6 ⟨dd, B6, k6, m6, rfl, hok6, hk6⟩
              have HOK6 := hid hok6
              have HK6 := hid (HK5.out.trans hk6)
              have HD6 := hid (at_kept HD5.out hk6 (fun h => h))
              have HE6 := hid (at_kept HE5.out hk6 (fun h => h))
              have HC1 := hid HK1.out.size
              clear hr2 hf2 d2 e2 fe z3 z4 z5 z6 z7 HK4 HO4 HD4 HE4 HK5 HO5 HD5 HE5 HW5 hok6 hk6
              obtain ⟨hr2, hf2⟩ := HK6.out.reads
              have d2 := fun i => cells_of HD6.out i
              have e2 := fun i => cells_of HE6.out i
              have fe := frozen_of HE6.out
              have z6 := lt_of HD6.out
              have z7 := lt_of HE6.out
              have z0 : w.heap.size < w6.heap.size := Nat.lt_of_lt_of_le hww0 HK6.out.size
              have z2 : w.heap.size + 1 + 1 < w6.heap.size := Nat.lt_of_lt_of_le hww2 HK6.out.size
              obtain ⟨S6, hS6⟩ : ∃ W, W = (((w6.setCell ⟨w1.heap.size + 1, 0, none⟩ (.slice B6 m6 k6)).setCell ⟨w1.heap.size + 1, 1, none⟩ (.int .u64 d.addr)).setCell ⟨w1.heap.size + 1, 2, none⟩ (.int .u64 d.len)) := ⟨_, rfl⟩
              have HES : Hid (S6.heap[w1.heap.size + 1]? = some (.cells #[.slice B6 m6 k6, .int .u64 d.addr, .int .u64 d.len] 44 (0, 0))) := hid (by rw [hS6]; exact at_set (at_set (at_set HE6.out 0 _) 1 _) 2 _)
              have HKS : Hid (Kept No W0 S6) := hid (by rw [hS6]; exact ((HK6.out.set (p := ⟨w1.heap.size + 1, 0, none⟩) (.inr (Nat.le_succ_of_le HC1.out)) _).set (p := ⟨w1.heap.size + 1, 1, none⟩) (.inr (Nat.le_succ_of_le HC1.out)) _).set (p := ⟨w1.heap.size + 1, 2, none⟩) (.inr (Nat.le_succ_of_le HC1.out)) _)
              have HOS : Hid (∀ nn vv xx, w6.ownsRow W0.heap.size 57 3 vv nn xx → S6.ownsRow W0.heap.size 57 3 vv nn xx) := hid (fun nn vv xx ho => by
                rw [hS6]
                refine own_keep ho (fun kk hkk => ?_)
                have hne : kk ≠ w1.heap.size + 1 := by rintro rfl; exact own_ne ho HE6.out (by decide) hkk
                rw [Below.heap_setCell _ _ _ _ hne, Below.heap_setCell _ _ _ _ hne, Below.heap_setCell _ _ _ _ hne])
              have HSS : Hid (S6.heap.size = w6.heap.size) := hid (by rw [hS6]; simp)
              have HW6 := hid hS6
              clear hS6
              unfold DescV.val
              by_cases hc2 : r2.code = 0
              · obtain ⟨hdd, hm6, hown6⟩ := HOK6.out hc2
                subst hm6
                have HDD := hid hdd
                have HDDO : Hid dd.Ok := hid (hdd ▸ (HR2'.out ▸ alongS_ok HM.out.byte size d.addr n2 n2 0 r.segs))
                have HC3 := hid hc2
                rw [hc2]
                clear hdd hc2
                go_wp2_with fail
                rw [← HW6.out]
                refine (rflag_calls' dd HDDO.out 4 (by decide) _).mono ?_
                rintro e w7 ⟨rfl, hk7⟩
                have HK7 := hid ((HKS.out.alloc _).trans hk7)
                have HO7 := hid (own_no0 (HOS.out _ _ _ hown6) (((Kept.refl No S6).alloc _).trans hk7))
                have HE7 := hid (at_kept (at_alloc HES.out _) hk7 (fun h => h))
                clear hr2 hf2 d2 e2 fe z6 z7 z0 z2 HK6 HD6 HE6 HES HKS HOS HSS HW6 hown6 hk7
                obtain ⟨hr2, hf2⟩ := HK7.out.reads
                have e2 := fun i => cells_of HE7.out i
                have fe := frozen_of HE7.out
                have z7 := lt_of HE7.out
                cases h4 : decide (dd.flags / 4 % 2 = 1) with
                | true =>
                  have hcc : cc = ⟨153, [], 0, 0⟩ := HCC.out ▸ (by have hn : nested false r2 = 153 := (nested_f0 (b := true) HC3.out (by rw [← HDD.out]; exact h4)).trans rfl; have := walkS_tabno HRR.out HC.out H4.out H1.out HTC.out HR2.out (by rw [hn]; decide); rw [hn] at this; exact this)
                  have HC2 := hid hcc
                  clear hcc h4
                  go_wp2
                  refine bodyPost_ret (v := .tuple #[.agg #[.slice none 0 0, .int .u64 0, .int .u64 0], .int .i64 153]) (by simp [results, Try.results19, go_sem, (rw_fin 0 0 HK0.out HB2.out (HK7.out) (World.ownsRow_nil _ _ _ _)).1]) rfl ⟨none, 0, by rw [HC2.out]; rfl, by rw [HC2.out]; exact (rw_fin 0 0 HK0.out HB2.out (HK7.out) (World.ownsRow_nil _ _ _ _)).2.1, (rw_fin 0 0 HK0.out HB2.out (HK7.out) (World.ownsRow_nil _ _ _ _)).2.2⟩
                | false =>
                  have hcc : cc = ⟨0, r2.segs, d.addr, d.len⟩ := HCC.out ▸ (by have hn : nested false r2 = 0 := (nested_f0 (b := false) HC3.out (by rw [← HDD.out]; exact h4)).trans rfl; have := walkS_tab HRR.out HC.out H4.out H1.out HTC.out HR2.out hn; rw [← HD.out] at this; exact this)
                  have HC2 := hid hcc
                  clear hcc h4
                  go_wp2
                  refine bodyPost_ret (v := .tuple #[.agg #[.slice B6 r2.segs.length k6, .int .u64 d.addr, .int .u64 d.len], .int .i64 0]) (by simp [results, Try.results19, go_sem, (rw_fin d.addr d.len HK0.out HB2.out (HK7.out) (HO7.out)).1]) rfl ⟨B6, k6, by rw [HC2.out], by rw [HC2.out]; exact (rw_fin d.addr d.len HK0.out HB2.out (HK7.out) (HO7.out)).2.1, (rw_fin d.addr d.len HK0.out HB2.out (HK7.out) (HO7.out)).2.2⟩
              · have hcc : cc = ⟨r2.code, [], 0, 0⟩ := HCC.out ▸ (by have hn : nested false r2 = r2.code := nested_fc hc2; have := walkS_tabno HRR.out HC.out H4.out H1.out HTC.out HR2.out (by rw [hn]; exact hc2); rw [hn] at this; exact this)
                have HC2 := hid hcc
                have hF := rw_fin 0 0 HK0.out HB2.out HKS.out (World.ownsRow_nil _ _ _ _)
                have hq := fun D i => cells_of (at_alloc (at_set (at_set (at_set (at_kept HB2.out HKS.out (fun h => h)) 0 (.slice none 0 0)) 1 (.int .u64 0)) 2 (.int .u64 0)) D) i
                have HQ := hid hq
                have HF := hid hF
                clear hcc hq hF c0 d2 n0 z0 hnn wl
                obtain ⟨hs1, hs2⟩ := HKS.out.reads
                have hs3 : w.heap.size + 1 + 1 < S6.heap.size := by rw [HSS.out]; exact z2
                go_wp2_with (rw [← HW6.out])
                refine bodyPost_ret (v := .tuple #[.agg #[.slice none 0 0, .int .u64 0, .int .u64 0], .int .i64 r2.code]) (by simp [results, Try.results19, go_sem, HQ.out]) rfl ⟨none, 0, by rw [HC2.out]; rfl, by rw [HC2.out]; exact World.ownsRow_nil _ _ _ _, HF.out.2.2.alloc _⟩
  · have hcc : cc = ⟨r.code, [], 0, 0⟩ := HCC.out ▸ walkS_bad HRR.out hc
    have HC2 := hid hcc
    clear hcc
    have hF := rw_fin 0 0 HK0.out HB2.out HK1.out (World.ownsRow_nil _ _ _ _)
    have hq := fun D E i => cells_of (at_alloc (at_alloc (at_set (at_set (at_set (at_kept HB2.out HK1.out (fun h => h)) 0 (.slice none 0 0)) 1 (.int .u64 0)) 2 (.int .u64 0)) D) E) i
    have HQ := hid hq
    have HF := hid hF
    clear hq hF
    go_wp2
    refine bodyPost_ret (v := .tuple #[.agg #[.slice none 0 0, .int .u64 0, .int .u64 0], .int .i64 r.code]) (by simp [results, Try.results19, go_sem, HQ.out]) rfl ⟨none, 0, by rw [HC2.out]; rfl, by rw [HC2.out]; exact World.ownsRow_nil _ _ _ _, (HF.out.2.2.alloc _).alloc _⟩
end Go.Proofs.Ytognedbehplaeaa
