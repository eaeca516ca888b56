/- A memory of 8 KiB with bytes, and the document's: what both hold. -/
import Derived.Test.YtognedbehplaeaaRefw
import Derived.Deep.RegionHeld3
import Derived.Deep.DeepMust
import Derived.Deep.RegionWith
set_option linter.unusedVariables false
namespace Go.Proofs.Ytognedbehplaeaa
open Go.RowKit

/-- Bytes that are put into memory. -/
structure PutV where
  at_ : Int
  A : Option Addr
  l : List Int
  c : Nat
def PutV.cells (p : PutV) : List Value := [.int .u64 p.at_, .slice p.A p.l.length p.c]
def pcells (ps : List PutV) : List Value := ps.flatMap PutV.cells
theorem pcells_at {ps : List PutV} {k : Nat} {p : PutV} (h : ps[k]? = some p) : (pcells ps)[k * 2]? = some (.int .u64 p.at_) ∧ (pcells ps)[k * 2 + 1]? = some (.slice p.A p.l.length p.c) := by
  induction ps generalizing k with
  | nil => simp at h
  | cons t l ih =>
    cases k with
    | zero => simp at h; subst h; simp [pcells, PutV.cells]
    | succ k =>
      have := ih (k := k) (by simpa using h)
      have e : (k + 1) * 2 = k * 2 + 1 + 1 := by omega
      rw [e]
      simpa [pcells, PutV.cells] using this
structure PutV.Ok (w : World) (p : PutV) : Prop where
  at_ : 0 ≤ p.at_ ∧ p.at_ ≤ 18446744073709551615
  sl : Sl w No p.A (by8 p.l)
  byt : Byt p.l
  len : p.l.length ≤ 9223372036854775807
/-- A list of such. -/
structure PutsAt (w : World) (A : Option Addr) (ps : List PutV) : Prop where
  sl : Sl w No A (pcells ps)
  ok : ∀ p ∈ ps, p.Ok w
  len : ps.length ≤ 9223372036854775807
theorem PutV.Ok.no {w w' : World} {p : PutV} (h : p.Ok w) (k : Kept No w w') : p.Ok w' := ⟨h.at_, h.sl.no k, h.byt, h.len⟩
theorem PutsAt.no {w w' : World} {A : Option Addr} {ps : List PutV} (h : PutsAt w A ps) (k : Kept No w w') : PutsAt w' A ps := ⟨h.sl.no k, fun p hp => (h.ok p hp).no k, h.len⟩

/-- A memory p and the document's (A, n) hold the same g; both lie in what is new since w. -/
structure Mems (w W : World) (p : Nat) (F : Nat → Prop) (size : Int) (g : Int → Int) (A : Option Addr) (n c : Nat) (bs : List (Int × Int)) : Prop where
  ram : RamAt W p F size g
  ref : RefM W F A n size g bs
  new : ∀ b, F b → w.heap.size ≤ b
  kept : Kept No w W
def MemPost (w : World) (e : Ending) (w' : World) : Prop :=
  (∃ p F g A n c bs, e = .returned (.tuple #[.pointer (some ⟨p, 0, none⟩), .agg #[.int .u64 8192, .slice A n c]]) ∧ Mems w w' p F 8192 g A n c bs ∧ n ≤ 12000) ∨
  (∃ A n c, e = .returned (.tuple #[.pointer none, .agg #[.int .u64 8192, .slice A n c]]) ∧ Kept No w w')

/-- Inside. -/
def BoxN (w : World) (F : Nat → Prop) : Nat → Prop := fun b => F b ∨ b = w.heap.size ∨ b = w.heap.size + 1
structure MemSt (w W : World) (p : Nat) (F : Nat → Prop) (g gr : Int → Int) (A : Option Addr) (n c : Nat) (bs : List (Int × Int)) : Prop where
  ret : W.heap[w.heap.size]? = some (.cells #[.int .u64 0, .slice none 0 0] 32 (0, 0))
  box : W.heap[w.heap.size + 1]? = some (.cells #[.int .u64 8192, .slice A n c] 32 (0, 0))
  ram : RamAt W p F 8192 g
  ref : RefM W (BoxN w F) A n 8192 gr bs
  new : ∀ b, F b → w.heap.size + 1 + 1 ≤ b
  kept : Kept No w W
theorem Kept.of_new {F : Nat → Prop} {w W W' : World} (h : Kept No w W) (k : Kept F W W') (hF : ∀ b, F b → w.heap.size ≤ b) : Kept No w W' := h.then_ k (fun b hb => .inr (hF b hb))
section
variable {w W W' : World} {p : Nat} {F F' : Nat → Prop} {g g' gr gr' : Int → Int} {A A' : Option Addr} {n c n' c' : Nat} {bs bs' : List (Int × Int)}
theorem MemSt.no (h : MemSt w W p F g gr A n c bs) (k : Kept No W W') : MemSt w W' p F g gr A n c bs :=
  ⟨at_kept h.ret k (fun h => h), at_kept h.box k (fun h => h), h.ram.no k, h.ref.no k, h.new, h.kept.trans k⟩
theorem MemSt.drew (h : MemSt w W p F g gr A n c bs) : MemSt w W.drew p F g gr A n c bs := h.no ((Kept.refl _ _).drew)
theorem MemSt.m0 (h : MemSt w W p F g gr A n c bs) : W.cell? ⟨w.heap.size + 1, 0, none⟩ = some (.int .u64 8192) := cells_of h.box 0
theorem MemSt.m1 (h : MemSt w W p F g gr A n c bs) : W.cell? ⟨w.heap.size + 1, 1, none⟩ = some (.slice A n c) := cells_of h.box 1
theorem MemSt.lt (h : MemSt w W p F g gr A n c bs) : ∀ b, BoxN w F b → b < W.heap.size := by
  rintro b (hb | rfl | rfl)
  · exact h.ram.lt b hb
  · exact lt_of h.ret
  · exact lt_of h.box
theorem MemSt.up (h : MemSt w W p F g gr A n c bs) : ∀ b, BoxN w F b → w.heap.size ≤ b := by
  rintro b (hb | rfl | rfl)
  · have := h.new b hb; omega
  · exact Nat.le_refl _
  · omega
theorem MemSt.wram (h : MemSt w W p F g gr A n c bs) (hR : RamAt W' p F' 8192 g') (k : Change F F' W W') : MemSt w W' p F' g' gr A n c bs := by
  have hn : ∀ b, F' b → w.heap.size + 1 + 1 ≤ b := fun b hb => by
    rcases k.new b hb with h1 | h1
    · exact h.new b h1
    · have := lt_of h.box; omega
  have hk : Change (BoxN w F) (BoxN w F') W W' := ⟨k.kept.mono (fun b hb _ => .inl hb), fun b hb => hb.imp (k.up b) id, fun b hb => by
    rcases hb with h1 | h1
    · exact (k.new b h1).imp .inl id
    · exact .inl (.inr h1)⟩
  exact ⟨at_kept h.ret k.kept (fun hf => by have := h.new _ hf; omega), at_kept h.box k.kept (fun hf => by have := h.new _ hf; omega), hR, h.ref.change hk, hn, h.kept.of_new k.kept (fun b hb => by have := h.new b hb; omega)⟩
theorem MemSt.wref (h : MemSt w W p F g gr A n c bs) (hR : RefM W' (BoxN w F) A' n' 8192 gr' bs') (k : Kept No W W') : MemSt w ((W'.setCell ⟨w.heap.size + 1, 0, none⟩ (.int .u64 8192)).setCell ⟨w.heap.size + 1, 1, none⟩ (.slice A' n' c')) p F g gr' A' n' c' bs' := by
  have h' := h.no k
  have nF : ¬ F (w.heap.size + 1) := fun hf => by have := h.new _ hf; omega
  have ne : w.heap.size ≠ w.heap.size + 1 := by omega
  exact ⟨at_far (at_far h'.ret (p := ⟨w.heap.size + 1, 0, none⟩) ne _) (p := ⟨w.heap.size + 1, 1, none⟩) ne _, at_set (at_set h'.box 0 _) 1 _, (h'.ram.set _ nF).set _ nF, (hR.set _ (.inr (.inr rfl))).set _ (.inr (.inr rfl)), h.new,
    (h'.kept.set (p := ⟨w.heap.size + 1, 0, none⟩) (.inr (Nat.le_succ _)) _).set (p := ⟨w.heap.size + 1, 1, none⟩) (.inr (Nat.le_succ _)) _⟩
theorem MemSt.fin (h : MemSt w W p F g g A n c bs) : ((W.setCell ⟨w.heap.size, 0, none⟩ (.int .u64 8192)).setCell ⟨w.heap.size, 1, none⟩ (.slice A n c)).heap[w.heap.size]? = some (.cells #[.int .u64 8192, .slice A n c] 32 (0, 0)) ∧
    Mems w ((W.setCell ⟨w.heap.size, 0, none⟩ (.int .u64 8192)).setCell ⟨w.heap.size, 1, none⟩ (.slice A n c)).drew p F 8192 g A n c bs := by
  have nF : ¬ F w.heap.size := fun hf => by have := h.new _ hf; omega
  refine ⟨at_set (at_set h.ret 0 _) 1 _, ((h.ram.set _ nF).set _ nF).no (Kept.refl _ _).drew, ?_, fun b hb => by have := h.new b hb; omega, ?_⟩
  · exact ((((h.ref.set _ (.inr (.inl rfl))).set _ (.inr (.inl rfl))).less (fun b hb _ => .inl hb)).no (Kept.refl _ _).drew)
  · exact (((h.kept.set (p := ⟨w.heap.size, 0, none⟩) (.inr (Nat.le_refl _)) _).set (p := ⟨w.heap.size, 1, none⟩) (.inr (Nat.le_refl _)) _).drew)
theorem MemSt.none_ (h : MemSt w W p F g gr A n c bs) : ((W.setCell ⟨w.heap.size, 0, none⟩ (.int .u64 8192)).setCell ⟨w.heap.size, 1, none⟩ (.slice A n c)).heap[w.heap.size]? = some (.cells #[.int .u64 8192, .slice A n c] 32 (0, 0)) ∧
    Kept No w ((W.setCell ⟨w.heap.size, 0, none⟩ (.int .u64 8192)).setCell ⟨w.heap.size, 1, none⟩ (.slice A n c)).drew :=
  ⟨at_set (at_set h.ret 0 _) 1 _, (((h.kept.set (p := ⟨w.heap.size, 0, none⟩) (.inr (Nat.le_refl _)) _).set (p := ⟨w.heap.size, 1, none⟩) (.inr (Nat.le_refl _)) _).drew)⟩
end

set_option maxHeartbeats 2000000 in
set_option maxRecDepth 100000 in
theorem memory_calls (A : Option Addr) (c : Nat) (ps : List PutV) (w : World) (hP : PutsAt w A ps) :
    Calls Try.prog 16 #[.slice A ps.length c] w (MemPost w) := by
  obtain ⟨n, hn⟩ : ∃ n, ps.length = n := ⟨_, rfl⟩
  have hnm := hP.len
  rw [hn] at hnm ⊢
  have HN := hid hn
  clear hn
  go_enter Try.func16, Try.ntmps16
  go_wp2_with fail
  have HK0 := hid (((Kept.refl No w).alloc (.cells #[.int .u64 0, .slice none 0 0] 32)).alloc (.cells #[.int .u64 8192, .slice none 0 0] 32))
  have hr0 := at_alloc (at_new w (.cells #[.int .u64 0, .slice none 0 0] 32)) (.cells #[.int .u64 8192, .slice none 0 0] 32)
  have hr1 := at_new (w.alloc (.cells #[.int .u64 0, .slice none 0 0] 32)) (.cells #[.int .u64 8192, .slice none 0 0] 32)
  rw [show (w.alloc (.cells #[.int .u64 0, .slice none 0 0] 32)).heap.size = w.heap.size + 1 from by simp] at hr1
  refine (new_calls 8192 _ (by omega) (by omega) (by omega)).mono ?_
  rintro e w1 ⟨p, F, rfl, hR, hk1, hF⟩
  have hS : MemSt w w1 p F (fun _ => 0) (fun _ => 0) none 0 0 [] := ⟨at_kept hr0 hk1 (fun h => h), at_kept hr1 hk1 (fun h => h), hR, ⟨rfl, Sl.nil _ _ _, by simp, by intro o _ _; rfl, by omega, fun _ => ⟨Int.le_refl 0, show (0 : Int) ≤ 255 by decide⟩, by omega⟩,
    fun b hb => by have := hF b hb; simp at this; omega, HK0.out.trans hk1⟩
  have HS := hid hS
  clear hr0 hr1 hk1 hF hR hS HK0
  by_cases hn60 : 60 < n
  · have m0 := HS.out.m0
    have m1 := HS.out.m1
    have r0 := fun i => cells_of HS.out.ret i
    have f0 := frozen_of HS.out.ret
    go_wp2_with fail
    go_region
    go_wp2
    have hq := fun i => cells_of HS.out.none_.1 i
    refine bodyPost_ret (v := .tuple #[.pointer none, .agg #[.int .u64 8192, .slice none 0 0]]) (by simp [results, Try.results16, go_sem, hq]) (by with_reducible rfl) (.inr ⟨none, 0, 0, rfl, ?_⟩)
    with_reducible exact HS.out.none_.2
  · have hn60' : n ≤ 60 := by omega
    go_wp2_with fail
    go_loopw [7] (fun i wr => ∃ (k : Nat) (F : Nat → Prop) (g : Int → Int) (A' : Option Addr) (m c' : Nat) (bs : List (Int × Int)), k ≤ n ∧ i = .int .i64 k ∧ m ≤ 200 * k ∧ MemSt w wr p F g g A' m c' bs) (fun i _ => n - (intOf i).toNat)
    case atStart => exact ⟨0, F, fun _ => 0, none, 0, 0, [], by omega, rfl, by omega, HS.out⟩
    case round =>
      obtain ⟨k, F, g, A', m, c', bs, hk, rfl, hm, hS⟩ := hrel
      clear HS
      have HS := hid hS
      have m0 := hS.m0
      have m1 := hS.m1
      have r0 := fun i => cells_of hS.ret i
      have f0 := frozen_of hS.ret
      clear hS
      by_cases hlt : k < n
      · obtain ⟨q, hq⟩ : ∃ q, ps[k]? = some q := ⟨_, List.getElem?_eq_getElem (by rw [HN.out]; exact hlt)⟩
        have hqo := hP.ok q (List.mem_of_getElem? hq)
        have hqc := pcells_at hq
        obtain ⟨qa, qA, ql, qc⟩ := q
        obtain ⟨L, hL⟩ : ∃ L, ql.length = L := ⟨_, rfl⟩
        simp only [hL] at hqc
        have hqa := hqo.at_
        simp only at hqa
        obtain ⟨b, o, rfl, -, hbl, xw0⟩ := hP.sl.at_ hqc.1
        obtain ⟨b', o', e', -, -, xw1⟩ := hP.sl.at_ hqc.2
        obtain ⟨rfl, rfl⟩ : b = b' ∧ o = o' := by simpa using e'
        rw [← Nat.add_assoc] at xw1
        have x0 := (HS.out.kept.reads.1 _ _ hbl).trans xw0
        have x1 := (HS.out.kept.reads.1 _ _ hbl).trans xw1
        have XW := hid (And.intro hbl (And.intro xw0 xw1))
        clear hbl xw0 xw1
        have HL := hid hL
        have HQ := hid hqo
        clear hqc hqo hq e' hL
        have hlt' : (k : Int) < n := by omega
        have hk0 : (0 : Int) ≤ k := by omega
        by_cases h200 : 200 < L
        · go_wp2_with fail
          go_region
          go_wp2
          have hq := fun i => cells_of HS.out.none_.1 i
          refine bodyPost_ret (v := .tuple #[.pointer none, .agg #[.int .u64 8192, .slice A' m c']]) (by simp [results, Try.results16, go_sem, hq]) (by with_reducible rfl) (.inr ⟨A', m, c', rfl, ?_⟩)
          with_reducible exact HS.out.none_.2
        · have hL2 : L ≤ 200 := by omega
          go_wp2_with fail
          go_region_held3 (fun W => W.cell? ⟨b, o + k * 2, none⟩ = some (.int .u64 qa) ∧ W.cell? ⟨b, o + k * 2 + 1, none⟩ = some (.slice qA L qc))
            (first | (with_reducible exact ⟨x0, x1⟩) | go_keep)
            ((go_at_call 31; ((with_reducible refine (write_calls' p F 8192 g qa qA ql L qc _ HL.out ?_ hqa ?_ HQ.out.byt (by omega)).mono ?_); (first | (with_reducible exact HS.out.ram) | (with_reducible exact HS.out.drew.ram)); (exact HQ.out.sl.far (HS.out.kept.drew) (fun b hb => by have := HS.out.new b hb; omega)); (rintro e w2 ⟨F2, rfl, hR2, hC2⟩; have hS2 : MemSt w w2 p F2 (if inside qa L 2147483648 8192 = true then Go.Proofs.Ytognedbehplaeaa.wr g (qa - 2147483648) ql else g) g A' m c' bs := (by first | (with_reducible exact HS.out.wram hR2 hC2) | (with_reducible exact HS.out.drew.wram hR2 hC2)); clear HS m0 m1 r0 f0 x0 x1 hR2 hC2; have HS := hid hS2; have m0 := hS2.m0; have m1 := hS2.m1; have x0 := (hS2.kept.reads.1 _ _ XW.out.1).trans XW.out.2.1; have x1 := (hS2.kept.reads.1 _ _ XW.out.1).trans XW.out.2.2; have f0 := frozen_of hS2.box; clear hS2))))
          go_wp2_with fail
          generalize hg2 : (if inside qa L 2147483648 8192 = true then Go.Proofs.Ytognedbehplaeaa.wr g (qa - 2147483648) ql else g) = g2 at HS
          have HG2 := hid hg2
          clear hg2
          go_region_with ((go_at_call 71; ((with_reducible refine (rwrite_any' 8192 A' m c' qa g bs (BoxN w F2) qA ql L qc _ HL.out ?_ hqa ?_ HQ.out.byt ?_ (by omega)).mono ?_); (first | (with_reducible exact HS.out.ref) | (with_reducible exact HS.out.drew.ref)); (exact HQ.out.sl.far (HS.out.kept.drew) HS.out.up); (exact HS.out.drew.lt); (rintro e w3 ⟨A3, c3, bs3, rfl, hR3, hk3⟩; have hn3 : (if inside qa L 2147483648 8192 = true then m + L else m) ≤ m + L := (by split <;> omega); generalize (if inside qa L 2147483648 8192 = true then m + L else m) = n3 at hR3 hn3 ⊢; generalize inside qa L 2147483648 8192 = ib; have hS3 : MemSt w w3 p F2 g2 g A' m c' bs := (by first | (with_reducible exact HS.out.no hk3) | (with_reducible exact HS.out.drew.no hk3)); have hS4 := hS3.wref (c' := c3) hR3 (Kept.refl No w3); clear HS m0 m1 f0 x0 x1 hk3 hR3; have HS := hid hS4; have m0 := hS3.m0; have m1 := hS3.m1; have f0 := frozen_of hS3.box; have x0 := (hS3.kept.reads.1 _ _ XW.out.1).trans XW.out.2.1; have x1 := (hS3.kept.reads.1 _ _ XW.out.1).trans XW.out.2.2; have y0 := (hS4.kept.reads.1 _ _ XW.out.1).trans XW.out.2.1; have y1 := (hS4.kept.reads.1 _ _ XW.out.1).trans XW.out.2.2; clear hS3 hS4))))
          all_goals
            go_wp2
            go_roundw
            case rel =>
              have e : (if inside qa L 2147483648 8192 = true then Go.Proofs.Ytognedbehplaeaa.wr g (qa - 2147483648) ql else g) = g2 := HG2.out
              rw [e] at HS
              exact ⟨k + 1, F2, g2, A3, n3, c3, bs3, by omega, by go_num, by omega, HS.out⟩
            case measure => simp [intOf]; omega
      · have hkk : k = n := by omega
        subst hkk
        go_wp2_with fail
        go_region
        go_wp2
        have hq := fun i => cells_of HS.out.fin.1 i
        refine bodyPost_ret (v := .tuple #[.pointer (some ⟨p, 0, none⟩), .agg #[.int .u64 8192, .slice A' m c']]) (by simp [results, Try.results16, go_sem, hq]) (by with_reducible rfl) (.inl ⟨p, F, g, A', m, c', bs, rfl, ?_, by omega⟩)
        with_reducible exact HS.out.fin.2
end Go.Proofs.Ytognedbehplaeaa
