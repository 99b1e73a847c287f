/- Contract: sha.spread makes a block's 64 words. -/
import Derived.Test.YtokddhidcjkadaaProg
import Derived.Test.YtokddhidcjkadaaShaRot
import Derived.Test.YtokddhidcjkadaaBytes
namespace Go.Proofs.Ytokddhidcjkadaa
open Go.RowKit Go.Bz Go.Bz.Sha
def cW (x : Nat) : Value := .int .u32 (x : Int)
def cWs (l : List Nat) : List Value := l.map cW
def zz (n : Nat) : List Value := List.replicate n (.int .u32 0)
theorem Try.arr123 : (Try.prog.info? 123).map (fun i => (i.zero, i.size)) = some (some (.agg (zz 64).toArray), 64) := by kernel_rfl

theorem Try.sz119 : (Try.prog.info? 119).map (·.size) = some 1 := by kernel_rfl
theorem Try.sz123 : (Try.prog.info? 123).map (·.size) = some 64 := by kernel_rfl
def wst (b : List UInt8) (k : Nat) : List Value := cWs (words b k) ++ zz (64 - k)
theorem wst_len (b : List UInt8) (k : Nat) (hk : k ≤ 64) : (wst b k).length = 64 := by simp [wst, cWs, zz]; omega

theorem wst_lo (b : List UInt8) (k : Nat) (hk : k < 16) : (wst b k).set k (cW (word b k)) = wst b (k + 1) := by
  have hl : (cWs (words b k)).length = k := by simp [cWs]
  unfold wst
  rw [List.set_append_right _ _ (by omega), hl, Nat.sub_self, show 64 - k = (64 - (k + 1)) + 1 by omega]
  simp [words, hk, cWs, zz, List.replicate_succ]
theorem wst_hi (b : List UInt8) (k : Nat) (hk : 16 ≤ k) (h : k < 64) {x : Nat} (hw : words b (k + 1) = words b k ++ [x]) : (wst b k).set k (cW x) = wst b (k + 1) := by
  have hl : (cWs (words b k)).length = k := by simp [cWs]
  unfold wst
  rw [List.set_append_right _ _ (by omega), hl, Nat.sub_self, show 64 - k = (64 - (k + 1)) + 1 by omega, hw]
  simp [cWs, zz, List.replicate_succ]
theorem sched_eq (y16 y15 y7 y2 : Nat) (_l16 : y16 < 4294967296) (l15 : y15 < 4294967296) (_l7 : y7 < 4294967296) (l2 : y2 < 4294967296) :
    IntKind.u32.wrap (IntKind.u32.wrap (IntKind.u32.wrap (↑y16 + bits BinOp.xor IntKind.u32 (bits BinOp.xor IntKind.u32 ↑(rr 7 y15) ↑(rr 18 y15)) (↑y15 / 8)) + ↑y7) + bits BinOp.xor IntKind.u32 (bits BinOp.xor IntKind.u32 ↑(rr 17 y2) ↑(rr 19 y2)) (↑y2 / 1024)) =
    (((y16 + sg0 y15 + y7 + sg1 y2) % M : Nat) : Int) := by
  have a1 : bits BinOp.xor IntKind.u32 (bits BinOp.xor IntKind.u32 ↑(rr 7 y15) ↑(rr 18 y15)) ((y15 : Int) / 8) = ((sg0 y15 : Nat) : Int) := by
    rw [u32_xor_nat _ _ (rr_lt l15) (rr_lt l15), show (y15 : Int) / 8 = ((y15 / 8 : Nat) : Int) by omega, u32_xor_nat _ _ (xor_lt (rr_lt l15) (rr_lt l15)) (by omega)]; rfl
  have a2 : bits BinOp.xor IntKind.u32 (bits BinOp.xor IntKind.u32 ↑(rr 17 y2) ↑(rr 19 y2)) ((y2 : Int) / 1024) = ((sg1 y2 : Nat) : Int) := by
    rw [u32_xor_nat _ _ (rr_lt l2) (rr_lt l2), show (y2 : Int) / 1024 = ((y2 / 1024 : Nat) : Int) by omega, u32_xor_nat _ _ (xor_lt (rr_lt l2) (rr_lt l2)) (by omega)]; rfl
  rw [a1, a2]
  simp only [IntKind.wrap_u32, M]
  omega
theorem wst_64 (b : List UInt8) : wst b 64 = cWs (words b 64) := by simp [wst, zz]
theorem wst_one (b : List UInt8) (k : Nat) : ∀ u ∈ wst b k, u.oneCell' = true := by
  intro u hu
  simp only [wst, cWs, zz, List.mem_append, List.mem_map, List.mem_replicate] at hu
  rcases hu with ⟨x, _, rfl⟩ | ⟨_, rfl⟩ <;> rfl
theorem word_bits (x0 x1 x2 x3 : Nat) (h0 : x0 < 256) (h1 : x1 < 256) (h2 : x2 < 256) (h3 : x3 < 256) :
    bits .or .u32 (bits .or .u32 (bits .or .u32 (IntKind.u32.wrap (IntKind.u32.wrap ↑x0 * 16777216)) (IntKind.u32.wrap (IntKind.u32.wrap ↑x1 * 65536))) (IntKind.u32.wrap (IntKind.u32.wrap ↑x2 * 256))) (IntKind.u32.wrap ↑x3) = ((x0 * 16777216 + x1 * 65536 + x2 * 256 + x3 : Nat) : Int) := by
  have e0 : IntKind.u32.wrap (IntKind.u32.wrap ↑x0 * 16777216) = ((x0 * 16777216 : Nat) : Int) := by simp only [IntKind.wrap_u32]; omega
  have e1 : IntKind.u32.wrap (IntKind.u32.wrap ↑x1 * 65536) = ((x1 * 65536 : Nat) : Int) := by simp only [IntKind.wrap_u32]; omega
  have e2 : IntKind.u32.wrap (IntKind.u32.wrap ↑x2 * 256) = ((x2 * 256 : Nat) : Int) := by simp only [IntKind.wrap_u32]; omega
  have e3 : IntKind.u32.wrap (x3 : Int) = ((x3 : Nat) : Int) := by simp only [IntKind.wrap_u32]; omega
  rw [e0, e1, e2, e3, u32_or_nat _ _ (by omega) (by omega), nat_join 24 (x0 * 16777216) (x1 * 65536) (by omega) (by omega), u32_or_nat _ _ (by omega) (by omega), nat_join 16 _ (x2 * 256) (by omega) (by omega), u32_or_nat _ _ (by omega) (by omega), nat_join 8 _ x3 (by omega) (by omega)]
set_option maxRecDepth 100000 in
set_option maxHeartbeats 2000000 in
theorem spread_calls (b : List UInt8) (hb : b.length = 64) (v : Value) (w : World) (hr : RdB w v b) :
    Calls Try.prog 89 #[v] w fun e w' => e = .returned (.agg (cWs (words b 64)).toArray) ∧ Ext w w' := by
  obtain ⟨bb, off, cap, rfl, hcap, _, hbb, hcell⟩ := hr.cells (by simp; omega)
  have HB := Lib.hid hb
  rw [hb] at hcap
  clear hb
  go_enter Try.func89, Try.ntmps89
  rw [HB.out]
  go_wp2_with (with_reducible refine stop_alloc ?_)
  refine wpl_ex (ex_alloc 123 Try.arr123 rfl) rfl ?_
  rintro _ w1 ⟨rfl, h1, hx1, hs1⟩
  go_wp2_with (with_reducible refine stop_alloc ?_)
  refine wpl_ex (ex_alloc 123 Try.arr123 rfl) rfl ?_
  rintro _ w2 ⟨rfl, h2, hx2, hs2⟩
  go_wp2_with (with_reducible refine stop_alloc ?_)
  obtain ⟨g, hg⟩ : ∃ g, w.heap.size + 1 = g := ⟨_, rfl⟩
  obtain ⟨r, hrr⟩ : ∃ r, w.heap.size = r := ⟨_, rfl⟩
  rw [hs1, hg] at h2
  rw [hrr] at h1 hbb hg
  rw [hrr, hg]
  have hB : Below w.heap.size w w2 := Below.ext (Below.ext (Below.refl _ _) hx1 (Nat.le_refl _)) hx2 hx1.size
  have h1' : Blk w2 r (zz 64) 123 := h1.ext hx2
  rw [hrr] at hB
  have HG := Lib.hid hg
  have HR := Lib.hid hrr
  have HC := Lib.hid hcell
  clear hx1 hx2 hs1 hs2 h1 hg hrr hr hcell
  have hgr : r < g := by have := HG.out; omega
  go_loopw [10] (fun i wr => ∃ k : Nat, k ≤ 16 ∧ i = .int .i64 k ∧ Blk wr g (wst b k) 123 ∧ Blk wr r (zz 64) 123 ∧ Below r w wr) (fun i _ => 16 - (intOf i).toNat)
  case atStart => exact ⟨0, by omega, rfl, h2, h1', hB⟩
  case round =>
    obtain ⟨k, hk, rfl, hG, hRr, hBr⟩ := hrel
    by_cases hlt : k < 16
    · have hc : ∀ j, j < 64 → wr.cell? ⟨bb, off + j, none⟩ = some (.int .u8 ((b.getD j 0).toNat : Int)) := fun j hj => by
        rw [hBr.cell (p := ⟨bb, off + j, none⟩) hbb]
        exact HC.out j _ (by have := HB.out; simp [cBs, cB, List.getD_eq_getElem?_getD, show j < b.length by omega])
      have c0 := hc (4 * k) (by omega)
      have c1 := hc (4 * k + 1) (by omega)
      have c2 := hc (4 * k + 2) (by omega)
      have c3 := hc (4 * k + 3) (by omega)
      have hi0 : (0 : Int) ≤ (k : Int) := by omega
      have hi1 : (k : Int) < 16 := by omega
      clear hc
      obtain ⟨x0, hx0, l0⟩ : ∃ x : Nat, (b.getD (4 * k) 0).toNat = x ∧ (x : Int) < 256 := ⟨_, rfl, by have := (b.getD (4 * k) 0).toNat_lt; omega⟩
      obtain ⟨x1, hx1, l1⟩ : ∃ x : Nat, (b.getD (4 * k + 1) 0).toNat = x ∧ (x : Int) < 256 := ⟨_, rfl, by have := (b.getD (4 * k + 1) 0).toNat_lt; omega⟩
      obtain ⟨x2, hx2, l2⟩ : ∃ x : Nat, (b.getD (4 * k + 2) 0).toNat = x ∧ (x : Int) < 256 := ⟨_, rfl, by have := (b.getD (4 * k + 2) 0).toNat_lt; omega⟩
      obtain ⟨x3, hx3, l3⟩ : ∃ x : Nat, (b.getD (4 * k + 3) 0).toNat = x ∧ (x : Int) < 256 := ⟨_, rfl, by have := (b.getD (4 * k + 3) 0).toNat_lt; omega⟩
      rw [hx0] at c0
      rw [hx1] at c1
      rw [hx2] at c2
      rw [hx3] at c3
      have HX : Hid (word b k = x0 * 16777216 + x1 * 65536 + x2 * 256 + x3) := by show word b k = _; unfold word; rw [hx0, hx1, hx2, hx3]
      clear hx0 hx1 hx2 hx3
      have e0 : IntKind.i64.wrap (4 * (k : Int)) = 4 * (k : Int) := IntWalk.i64_in _ (by omega)
      have e1 : IntKind.i64.wrap (4 * (k : Int) + 1) = 4 * (k : Int) + 1 := IntWalk.i64_in _ (by omega)
      have e2 : IntKind.i64.wrap (4 * (k : Int) + 2) = 4 * (k : Int) + 2 := IntWalk.i64_in _ (by omega)
      have e3 : IntKind.i64.wrap (4 * (k : Int) + 3) = 4 * (k : Int) + 3 := IntWalk.i64_in _ (by omega)
      have n0 : (4 * (k : Int)).toNat = 4 * k := by omega
      have n1 : (4 * (k : Int) + 1).toNat = 4 * k + 1 := by omega
      have n2 : (4 * (k : Int) + 2).toNat = 4 * k + 2 := by omega
      have n3 : (4 * (k : Int) + 3).toNat = 4 * k + 3 := by omega
      have p0 : (0 : Int) ≤ 4 * (k : Int) := by omega
      have p1 : (0 : Int) ≤ 4 * (k : Int) + 1 := by omega
      have p2 : (0 : Int) ≤ 4 * (k : Int) + 2 := by omega
      have p3 : (0 : Int) ≤ 4 * (k : Int) + 3 := by omega
      have q0 : 4 * (k : Int) < 64 := by omega
      have q1 : 4 * (k : Int) + 1 < 64 := by omega
      have q2 : 4 * (k : Int) + 2 < 64 := by omega
      have q3 : 4 * (k : Int) + 3 < 64 := by omega
      have q4 : (k : Int) < 64 := by omega
      go_wp2_with fail
      go_still_tail 35, (by kernel_rfl)
      have hGd : Blk wr.drew g (wst b k) 123 := hG
      have E : bits .or .u32 (bits .or .u32 (bits .or .u32 (IntKind.u32.wrap (IntKind.u32.wrap ↑x0 * 16777216)) (IntKind.u32.wrap (IntKind.u32.wrap ↑x1 * 65536))) (IntKind.u32.wrap (IntKind.u32.wrap ↑x2 * 256))) (IntKind.u32.wrap ↑x3) = ((word b k : Nat) : Int) := by
        rw [HX.out]; exact word_bits x0 x1 x2 x3 (by omega) (by omega) (by omega) (by omega)
      refine wpl_sk (ex_store1 119 (.tmp 47) (.tmp 46) (v := cW (word b k)) hGd (j := k) (by rw [wst_len b k (by omega)]; omega) rfl (congrArg (Value.int .u32) E) rfl Try.sz119 rfl) rfl ?_
      rintro w3 ⟨hG3, hx3, hs3⟩
      rw [wst_lo b k hlt] at hG3
      have hR3 : Blk w3 r (zz 64) 123 := hRr.keep (K := (· = g)) (w := wr.drew) hx3 (by omega)
      have hB3 : Below r w w3 := Chg.below hx3 hBr.drew (by have := hRr.lt; show r ≤ wr.heap.size; omega) (fun _ h => by omega)
      clear hx3 hs3 hGd hG hRr hBr E
      go_wp2
      go_roundw
      case rel => exact ⟨k + 1, by omega, by go_num, hG3, hR3, hB3⟩
      case measure => simp [intOf]; omega
    · obtain rfl : k = 16 := by omega
      clear hk hlt h2 h1' hB
      rw [show (((16 : Nat) : Int)) = 16 from rfl]
      go_wp2
      go_loopw [5] (fun i wr => ∃ k : Nat, 16 ≤ k ∧ k ≤ 64 ∧ i = .int .i64 k ∧ Blk wr g (wst b k) 123 ∧ Blk wr r (zz 64) 123 ∧ Below r w wr) (fun i _ => 64 - (intOf i).toNat)
      case atStart => exact ⟨16, by omega, by omega, rfl, hG, hRr, hBr⟩
      case round =>
        clear hG hRr hBr
        obtain ⟨k, hk16, hk, rfl, hG, hRr, hBr⟩ := hrel
        by_cases hlt : k < 64
        · have hc : ∀ j, j < k → wr.cell? ⟨g, j, none⟩ = some (.int .u32 (((words b k).getD j 0 : Nat) : Int)) := fun j hj => by
            rw [hG.cell j]; unfold wst cWs cW; rw [List.getElem?_append_left (by simp; omega)]; simp [List.getD_eq_getElem?_getD, hj]
          have hl := fun j => getD_lt (words_lt b k) j
          obtain ⟨y15, hy15, l15⟩ : ∃ y : Nat, (words b k).getD (k - 15) 0 = y ∧ y < 4294967296 := ⟨_, rfl, hl _⟩
          obtain ⟨y2, hy2, l2⟩ : ∃ y : Nat, (words b k).getD (k - 2) 0 = y ∧ y < 4294967296 := ⟨_, rfl, hl _⟩
          obtain ⟨y16, hy16, l16⟩ : ∃ y : Nat, (words b k).getD (k - 16) 0 = y ∧ y < 4294967296 := ⟨_, rfl, hl _⟩
          obtain ⟨y7, hy7, l7⟩ : ∃ y : Nat, (words b k).getD (k - 7) 0 = y ∧ y < 4294967296 := ⟨_, rfl, hl _⟩
          have c15 := hc (k - 15) (by omega)
          have c2 := hc (k - 2) (by omega)
          have c16 := hc (k - 16) (by omega)
          have c7 := hc (k - 7) (by omega)
          rw [hy15] at c15
          rw [hy2] at c2
          rw [hy16] at c16
          rw [hy7] at c7
          have HY : Hid (words b (k + 1) = words b k ++ [(y16 + sg0 y15 + y7 + sg1 y2) % M]) := by
            show words b (k + 1) = _
            rw [words, if_neg (by omega), hy16, hy15, hy7, hy2]
          clear hy15 hy2 hy16 hy7 hl hc
          have e15 : IntKind.i64.wrap ((k : Int) - 15) = (k : Int) - 15 := IntWalk.i64_in _ (by omega)
          have e2 : IntKind.i64.wrap ((k : Int) - 2) = (k : Int) - 2 := IntWalk.i64_in _ (by omega)
          have e16 : IntKind.i64.wrap ((k : Int) - 16) = (k : Int) - 16 := IntWalk.i64_in _ (by omega)
          have e7 : IntKind.i64.wrap ((k : Int) - 7) = (k : Int) - 7 := IntWalk.i64_in _ (by omega)
          have n15 : ((k : Int) - 15).toNat = k - 15 := by omega
          have n2 : ((k : Int) - 2).toNat = k - 2 := by omega
          have n16 : ((k : Int) - 16).toNat = k - 16 := by omega
          have n7 : ((k : Int) - 7).toNat = k - 7 := by omega
          have p15 : (0 : Int) ≤ (k : Int) - 15 := by omega
          have p2 : (0 : Int) ≤ (k : Int) - 2 := by omega
          have p16 : (0 : Int) ≤ (k : Int) - 16 := by omega
          have p7 : (0 : Int) ≤ (k : Int) - 7 := by omega
          have q15 : (k : Int) - 15 < 64 := by omega
          have q2 : (k : Int) - 2 < 64 := by omega
          have q16 : (k : Int) - 16 < 64 := by omega
          have q7 : (k : Int) - 7 < 64 := by omega
          have q0 : (k : Int) < 64 := by omega
          have r15 : (15 : Int) ≤ (k : Int) := by omega
          have r2 : (2 : Int) ≤ (k : Int) := by omega
          have r16 : (16 : Int) ≤ (k : Int) := by omega
          have r7 : (7 : Int) ≤ (k : Int) := by omega
          go_wp2_with fail
          go_quiet (fail)
          have hd : Ext wr (wr.drewN nq) := Ext.drewN _ _
          generalize wr.drewN nq = w5 at hd ⊢
          have hrs : r ≤ wr.heap.size := by have := hRr.lt; omega
          replace c16 := hd.cell c16
          replace c7 := hd.cell c7
          replace hG := hG.ext hd
          replace hRr := hRr.ext hd
          replace hBr := Below.ext hBr hd hrs
          clear c15 c2 hd hrs
          go_wp2_with fail
          refine (rot_7 y15 l15 _).mono ?_
          rintro e w' ⟨rfl, rfl⟩
          go_wp2_with fail
          refine (rot_18 y15 l15 _).mono ?_
          rintro e w' ⟨rfl, rfl⟩
          go_wp2_with fail
          refine (rot_17 y2 l2 _).mono ?_
          rintro e w' ⟨rfl, rfl⟩
          go_wp2_with fail
          refine (rot_19 y2 l2 _).mono ?_
          rintro e w' ⟨rfl, rfl⟩
          go_wp2_with fail
          go_still_tail 15, (by kernel_rfl)
          have hGd : Blk w5.drew g (wst b k) 123 := hG
          refine wpl_sk (ex_store1 119 (.tmp 91) (.tmp 90) (v := cW ((y16 + sg0 y15 + y7 + sg1 y2) % M)) hGd (j := k) (by rw [wst_len b k (by omega)]; omega) rfl ?E rfl Try.sz119 rfl) rfl ?_
          case E =>
            refine congrArg (Value.int .u32) ?_
            rw [← sched_eq y16 y15 y7 y2 l16 l15 l7 l2]
          rintro w3 ⟨hG3, hx3, hs3⟩
          rw [wst_hi b k hk16 hlt HY.out] at hG3
          have hR3 : Blk w3 r (zz 64) 123 := hRr.keep (K := (· = g)) (w := w5.drew) hx3 (by omega)
          have hB3 : Below r w w3 := Chg.below hx3 hBr.drew (by have := hRr.lt; show r ≤ w5.heap.size; omega) (fun _ h => by omega)
          clear hx3 hs3 hGd hG hRr hBr
          go_wp2
          go_roundw
          case rel => exact ⟨k + 1, by omega, by omega, by go_num, hG3, hR3, hB3⟩
          case measure => simp [intOf]; omega
        · obtain rfl : k = 64 := by omega
          go_wp2_with (first | (with_reducible refine stop_load ?_) | (with_reducible refine stop_store ?_))
          refine wpl_ex (ex_load 123 (.tmp 3) hG rfl rfl Try.underlying123 rfl (Try.sz123.trans (by rw [wst_len b 64 (by omega)]))) rfl ?_
          rintro _ _ ⟨rfl, rfl⟩
          go_wp2_with (first | (with_reducible refine stop_load ?_) | (with_reducible refine stop_store ?_))
          refine wpl_sk (ex_store 123 (.tmp 2) (.tmp 92) (cs := wst b 64) hRr rfl rfl rfl (Try.sz123.trans (by rw [wst_len b 64 (by omega)])) (by rw [wst_len b 64 (by omega)]; rfl) (wst_one b 64)) rfl ?_
          rintro w3 ⟨hR3, hx3, hs3⟩
          have hB3 : Below r w w3 := Chg.below hx3 hBr (by have := hRr.lt; omega) (fun _ h => by omega)
          clear hx3 hs3 hG hRr hBr
          go_wp2
          refine bodyPost_ret (results_cell_row rfl _ _ r 123 _ (0, 0) _ rfl hR3 Try.underlying123 rfl (Try.sz123.trans (by simp [wst_len b 64 (by omega)]))) rfl ⟨?_, ?_⟩
          · rw [wst_64]
          · rw [← HR.out] at hB3; exact Ext.of_below hB3
end Go.Proofs.Ytokddhidcjkadaa
