/- The standard's sum of any bytes and of parts, as the reference makes it. -/
import Derived.Test.YticaefnpapppoaaRef02
import Derived.Test.YticaefnpapppoaaOpenP
namespace Go.Bz.Sha
theorem pad_step (b : List UInt8) (m : Nat) : b ++ [128] ++ List.replicate m 0 ++ [0] = b ++ [128] ++ List.replicate (m + 1) 0 := by
  rw [List.replicate_succ', ← List.append_assoc]
theorem be8_step' (p : List UInt8) (N : Nat) {k : Nat} (h : k < 8) : p ++ (be8 N).take (8 - (k + 1)) ++ [UInt8.ofNat (N / 2 ^ (8 * k))] = p ++ (be8 N).take (8 - k) := by
  rw [List.append_assoc, ← be8_ref N h, show 8 - (k + 1) = 7 - k by omega]
theorem padded_ref (b : List UInt8) : b ++ [128] ++ List.replicate (zeros b.length) 0 ++ (be8 (b.length * 8)).take (8 - 0) = padded b := by
  unfold padded; rw [List.take_of_length_le (by simp [be8])]; simp
theorem blocks_go {s0 s : St} {p : List UInt8} {n j : Nat} (h : blocks s0 p n = blocks s (p.drop (64 * j)) (n - j)) (hj : j < n) : blocks s0 p n = blocks (comp s (List.take (64 * j + 64 - 64 * j) (List.drop (64 * j) p))) (p.drop (64 * (j + 1))) (n - (j + 1)) := by
  rw [h, show n - j = (n - (j + 1)) + 1 by omega, blocks, List.drop_drop, show 64 * j + 64 - 64 * j = 64 by omega, show 64 * j + 64 = 64 * (j + 1) by omega]
theorem blocks_end {s0 s : St} {p : List UInt8} {n j : Nat} (h : blocks s0 p n = blocks s (p.drop (64 * j)) (n - j)) (hj : n ≤ j) : s = blocks s0 p n := by
  rw [h, show n - j = 0 by omega]; rfl
theorem flat_next {ls : List (List UInt8)} {i : Nat} (h : i < ls.length) : flat (ls.take (i + 1)) = flat (ls.take i) ++ be4 (ls.getD i []).length ++ ls.getD i [] := by
  rw [flat_take ls i h]; simp [List.getD_eq_getElem?_getD, h]
theorem flat_len2 {ls : List (List UInt8)} {i : Nat} (_ : i < ls.length) (hl : (flat ls).length ≤ 1000000) (hn : flat (ls.take (i + 1)) = flat (ls.take i) ++ be4 (ls.getD i []).length ++ ls.getD i []) : (flat (ls.take i)).length + 4 + (ls.getD i []).length ≤ 1000000 := by
  have h := flat_le ls (i + 1)
  rw [hn] at h
  simp only [List.length_append, be4_length] at h
  omega
end Go.Bz.Sha
namespace Go.Proofs.Yticaefnpapppoaa
open Go.RowKit Go.Bz Go.Bz.Sha
attribute [local irreducible] wpList Code.wp wpAnyX
theorem rdP_row {w : World} {e : TypeId} {v : Value} {l : List V1} {ls : List (List UInt8)} (h : Own w e 1 v l.length (l.flatMap cV1)) (ha : All2 (RdB w) (l.map (·.1)) ls) : RdP w v ls := by
  have hl : l.length = ls.length := by have := All2.length ha; simpa using this
  exact ⟨l.flatMap cV1, hl ▸ Own.rd h (row_one cV1_one), by rw [cV1_flat]; exact ha⟩
/-- Parts that came in, and stay. -/
structure StabP (N : Nat → Prop) (w0 : World) (v : Value) (vs : List Value) (ls : List (List UInt8)) : Prop where
  row : Stab N w0 1 v ls.length vs
  each : ∀ i, i < ls.length → vs[i]? = some (vs.getD i (.slice none 0 0)) ∧ StabB N w0 (vs.getD i (.slice none 0 0)) (ls.getD i [])
theorem StabP.of {w : World} {v : Value} {vs : List Value} {ls : List (List UInt8)} (h : Rd w 1 v ls.length vs) (ha : All2 (RdB w) vs ls) : StabP (newN w) w v vs ls := by
  refine ⟨h.stab, fun i hi => ?_⟩
  obtain ⟨x, hx, hr⟩ := All2.get ha i _ (List.getElem?_eq_getElem hi)
  have e : vs.getD i (.slice none 0 0) = x := by rw [List.getD_eq_getElem?_getD, hx]; rfl
  have e2 : ls.getD i [] = ls[i] := by simp [List.getD_eq_getElem?_getD, hi]
  rw [e, e2]
  exact ⟨hx, Rd.stab hr⟩

set_option maxRecDepth 100000 in
set_option maxHeartbeats 4000000 in
theorem of02_calls (b : List UInt8) (hb : b.length ≤ 1000000) (v : Value) (w : World) (hr0 : RdB w v b) :
    Calls Try.prog 18 #[v] w fun e'' w' => (∃ v', e'' = .returned v' ∧ OwnB w' v' (sum b) ∧ ∀ k, v'.ownBlock = some k → w.heap.size ≤ k) ∧ Ext w w' := by
  refine calls_fr (args := [v]) (n := 87) Try.func18 rfl rfl (show 1 ≤ 87 by decide) ?_
  have hr := Rd.stab hr0
  have hH : Heap (newN w) w w [] := Heap.fresh
  refine wp_seq ?_
  refine wp_gen (fun F' => F' 0 = v) rfl ?_
  rintro F e0
  refine wp_regionF ?_
  refine lf_val (v := .slice none 0 0) (wantAll rfl) (rv_assign rfl rfl) ?_
  refine lf_nil ?_
  refine then_n ?_
  refine wp_seq ?_
  refine wp_gen (fun F' => F' 0 = v ∧ F' 2 = .slice none 0 0) ⟨e0, rfl⟩ ?_
  clear e0
  clear F
  rintro F ⟨e0, e2⟩
  refine wp_regionF ?_
  refine lf_call (wantAll rfl) (rv_call (args := []) rfl evn Try.call53) (constants_calls _) ?_
  rintro _ w1 ⟨⟨y1, rfl, ho, hg⟩, hx⟩
  refine ⟨_, rfl, ?_⟩
  replace hH : Heap (newN w) w w1 [oRow c32 65 1 y1 ks] := hH.addOwn hx hg ho
  clear ho hg
  clear hx
  refine lf_val (v := y1) (wantAll rfl) (rv_assign rfl (fr_eval rfl rfl)) ?_
  refine lf_nil ?_
  refine then_n ?_
  refine wp_seq ?_
  refine wp_gen (fun F' => F' 0 = v ∧ F' 2 = .slice none 0 0 ∧ F' 3 = y1) ⟨e0, e2, rfl⟩ ?_
  clear e0 e2
  clear F
  rintro F ⟨e0, e2, e3⟩
  refine wp_regionF ?_
  refine lf_ex (wantAll rfl) (hx_lits hH Try.st32 (n := 8) (nm := List.length [1779033703, 3144134277, 1013904242, 2773480762, 1359893119, 2600822924, 528734635, 1541459225]) [(.const (.int .u32 1779033703)), (.const (.int .u32 3144134277)), (.const (.int .u32 1013904242)), (.const (.int .u32 2773480762)), (.const (.int .u32 1359893119)), (.const (.int .u32 2600822924)), (.const (.int .u32 528734635)), (.const (.int .u32 1541459225))] (vs := [(.int .u32 1779033703), (.int .u32 3144134277), (.int .u32 1013904242), (.int .u32 2773480762), (.int .u32 1359893119), (.int .u32 2600822924), (.int .u32 528734635), (.int .u32 1541459225)]) (cs := List.flatMap c32 [1779033703, 3144134277, 1013904242, 2773480762, 1359893119, 2600822924, 528734635, 1541459225]) rfl (evc rfl (evc rfl (evc rfl (evc rfl (evc rfl (evc rfl (evc rfl (evc rfl evn)))))))) (row_one (l := [1779033703, 3144134277, 1013904242, 2773480762, 1359893119, 2600822924, 528734635, 1541459225]) c32_one) rfl (by decide) rfl rfl) ?_
  clear hH
  rintro y2 w2 ⟨hH, hx⟩
  replace hH : Heap (newN w) w w2 [oRow c32 65 1 y1 ks, oRow c32 65 1 y2 [1779033703, 3144134277, 1013904242, 2773480762, 1359893119, 2600822924, 528734635, 1541459225]] := hH
  clear hx
  refine lf_val (v := y2) (wantAll rfl) (rv_assign rfl (fr_eval rfl rfl)) ?_
  refine lf_nil ?_
  refine then_n ?_
  refine wp_seq ?_
  refine wp_gen (fun F' => F' 0 = v ∧ F' 2 = .slice none 0 0 ∧ F' 3 = y1 ∧ F' 4 = y2) ⟨e0, e2, e3, rfl⟩ ?_
  clear e0 e2 e3
  clear F
  rintro F ⟨e0, e2, e3, e4⟩
  refine wp_regionF ?_
  refine lf_ex (wantAll rfl) (hx_lits hH Try.stB (n := 0) (nm := List.length ([] : List UInt8)) [] (vs := []) (cs := cBs []) rfl evn (cBs_one []) rfl (by decide) rfl rfl) ?_
  clear hH
  rintro y3 w3 ⟨hH, hx⟩
  replace hH : Heap (newN w) w w3 [oRow c32 65 1 y1 ks, oRow c32 65 1 y2 [1779033703, 3144134277, 1013904242, 2773480762, 1359893119, 2600822924, 528734635, 1541459225], oB y3 []] := hH
  clear hx
  refine lf_val (v := v) (wantAll rfl) (rv_move rfl (fr_eval rfl e0)) ?_
  refine lf_ex (wantAll rfl) (hx_append hH Try.stB (i := 2) (xs' := cBs (b)) (nm := (b).length) rfl rfl (fun _ => rfl) (Nat.zero_add _) (List.nil_append _) (hr.rd _ hH.chg) (fr_eval rfl rfl) (fr_eval rfl rfl) (by rw [Nat.mul_one]; exact Nat.le_trans hb (by decide))) ?_
  clear hH
  rintro y4 w4 ⟨hH, hx⟩
  replace hH : Heap (newN w) w w4 [oRow c32 65 1 y1 ks, oRow c32 65 1 y2 [1779033703, 3144134277, 1013904242, 2773480762, 1359893119, 2600822924, 528734635, 1541459225], oB y4 b] := hH
  clear hx
  refine lf_val (v := y4) (wantAll rfl) (rv_assign rfl (fr_eval rfl rfl)) ?_
  refine lf_nil ?_
  refine then_n ?_
  refine wp_seq ?_
  refine wp_gen (fun F' => F' 0 = v ∧ F' 2 = .slice none 0 0 ∧ F' 3 = y1 ∧ F' 4 = y2 ∧ F' 5 = y4) ⟨e0, e2, e3, e4, rfl⟩ ?_
  clear e0 e2 e3 e4
  clear F
  rintro F ⟨e0, e2, e3, e4, e5⟩
  refine wp_regionF ?_
  refine lf_val (v := y4) (wantAll rfl) (rv_move rfl (fr_eval rfl e5)) ?_
  refine lf_ex (wantAll rfl) (hx_lits hH Try.stB (n := 1) (nm := List.length [128]) [(.const (cB 128))] (vs := [(cB 128)]) (cs := cBs [128]) rfl (evc rfl evn) (cBs_one [128]) rfl (by decide) rfl rfl) ?_
  clear hH
  rintro y5 w5 ⟨hH, hx⟩
  replace hH : Heap (newN w) w w5 [oRow c32 65 1 y1 ks, oRow c32 65 1 y2 [1779033703, 3144134277, 1013904242, 2773480762, 1359893119, 2600822924, 528734635, 1541459225], oB y4 b, oB y5 [128]] := hH
  clear hx
  refine lf_ex (wantAll rfl) (hx_append hH Try.stB (i := 2) (xs' := cBs (b ++ [128])) (nm := (b ++ [128]).length) rfl rfl (fun _ => rfl) List.length_append.symm (cBs_append _ _).symm (OwnB.rd (hH.own (i := 3) rfl)) (fr_eval rfl rfl) (fr_eval rfl rfl) (by simp only [List.length_append, List.length_cons, List.length_nil]; omega)) ?_
  clear hH
  rintro y6 w6 ⟨hH, hx⟩
  replace hH : Heap (newN w) w w6 [oRow c32 65 1 y1 ks, oRow c32 65 1 y2 [1779033703, 3144134277, 1013904242, 2773480762, 1359893119, 2600822924, 528734635, 1541459225], oB y6 (b ++ [128]), oB y5 [128]] := hH
  clear hx
  refine lf_val (v := y6) (wantAll rfl) (rv_assign rfl (fr_eval rfl rfl)) ?_
  refine lf_nil ?_
  refine then_n ?_
  refine wp_seq ?_
  refine wp_block ?_
  have hz := zeros_63 b.length
  replace hH : Heap (newN w) w w6 [oRow c32 65 1 y1 ks, oRow c32 65 1 y2 [1779033703, 3144134277, 1013904242, 2773480762, 1359893119, 2600822924, 528734635, 1541459225], oB y6 (b ++ [128] ++ List.replicate 0 0), oB y5 [128]] := by have e : b ++ [128] = b ++ [128] ++ List.replicate 0 0 := (List.append_nil _).symm; rw [← e]; exact hH
  replace hH : Heap (newN w) w w6 [oRow c32 65 1 y1 ks, oRow c32 65 1 y2 [1779033703, 3144134277, 1013904242, 2773480762, 1359893119, 2600822924, 528734635, 1541459225], oB y6 (b ++ [128] ++ List.replicate 0 0)] := hH.drop (.cons_cons _ (.cons_cons _ (.cons_cons _ (.cons _ .slnil))))
  refine wp_gen (fun F' => F' 0 = v ∧ F' 2 = .slice none 0 0 ∧ F' 3 = y1 ∧ F' 4 = y2 ∧ F' 5 = y6) ⟨e0, e2, e3, e4, rfl⟩ ?_
  clear e0 e2 e3 e4 e5
  clear F
  rintro F ⟨e0, e2, e3, e4, e5⟩
  refine wp_loopF (fun m F wr => ∃ q : Nat, ∃ yv : Value, m = zeros b.length - q ∧ q ≤ zeros b.length ∧ F 0 = v ∧ F 2 = .slice none 0 0 ∧ F 3 = y1 ∧ F 4 = y2 ∧ F 5 = yv ∧ Heap (newN w) w wr [oRow c32 65 1 y1 ks, oRow c32 65 1 y2 [1779033703, 3144134277, 1013904242, 2773480762, 1359893119, 2600822924, 528734635, 1541459225], oB yv (b ++ [128] ++ List.replicate q 0)]) ⟨0, _, rfl, Nat.zero_le _, e0, e2, e3, e4, e5, hH⟩ ?_
  clear e0 e2 e3 e4 e5 hH
  clear F
  rintro m F w7 ⟨q, yv, rfl, pq0, e0, e2, e3, e4, e5, hH⟩
  refine wp_seq ?_
  refine wp_seq ?_
  refine wp_regionF ?_
  refine lf_val (v := yv) (wantAll rfl) (rv_move rfl (fr_eval rfl e5)) ?_
  refine lf_val (v := .int .i64 ((b.length + 1 + q : Nat) : Int)) (wantAll rfl) (rv_len rfl (fr_eval rfl rfl) (RdB.rn (OwnB.rd (hH.own (i := 2) rfl)) (by simp; omega)) Try.underlying22) ?_
  refine lf_val (v := .int .i64 (((b.length + 1 + q) % 64 : Nat) : Int)) (wantAll rfl) (rv_rem rfl (fr_eval rfl rfl) rfl (by decide) (rem_nat _ 64)) ?_
  by_cases hc1 : (b.length + 1 + q) % 64 = 56
  · refine lf_val (v := .bool false) (wantAll rfl) (rv_neq rfl (fr_eval rfl rfl) rfl (decide_eq_true (by omega))) ?_
    refine lf_nil ?_
    refine then_n ?_
    refine wp_gen (fun F' => F' 0 = v ∧ F' 2 = .slice none 0 0 ∧ F' 3 = y1 ∧ F' 4 = y2 ∧ F' 5 = yv ∧ F' 22 = .bool false) ⟨e0, e2, e3, e4, e5, rfl⟩ ?_
    clear e0 e2 e3 e4 e5
    clear F
    rintro F ⟨e0, e2, e3, e4, e5, e22⟩
    refine wp_cond_false (fr_eval rfl e22) ?_
    refine wp_exit ?_
    refine then_exit ?_
    refine then_exit ?_
    refine blk_exit ?_
    refine then_n ?_
    refine wp_seq ?_
    obtain rfl : q = zeros b.length := zeros_end pq0 (by assumption)
    refine wp_regionF ?_
    refine lf_val (v := v) (wantAll rfl) (rv_move rfl (fr_eval rfl e0)) ?_
    refine lf_val (v := .int .i64 ((b.length : Nat) : Int)) (wantAll rfl) (rv_len rfl (fr_eval rfl rfl) (RdB.rn (hr.rd _ hH.chg) rfl) Try.underlying22) ?_
    refine lf_val (v := .int .u64 ((b.length : Nat) : Int)) (wantAll rfl) (rv_conv rfl (fr_eval rfl rfl) Try.underlying3 Try.underlying76 (wrapU64 (by omega))) ?_
    refine lf_val (v := .int .u64 ((b.length * 8 : Nat) : Int)) (wantAll rfl) (rv_mul rfl (fr_eval rfl rfl) (show _ = Value.int _ ((8 : Nat) : Int) from rfl) (mul64 (by omega))) ?_
    refine lf_val (v := .int .u64 ((b.length * 8 : Nat) : Int)) (wantAll rfl) (rv_assign rfl (fr_eval rfl rfl)) ?_
    refine lf_nil ?_
    refine then_n ?_
    refine wp_seq ?_
    refine wp_seq ?_
    refine wp_gen (fun F' => F' 0 = v ∧ F' 2 = .slice none 0 0 ∧ F' 3 = y1 ∧ F' 4 = y2 ∧ F' 5 = yv ∧ F' 6 = .int .u64 ((b.length * 8 : Nat) : Int) ∧ F' 22 = .bool false) ⟨e0, e2, e3, e4, e5, rfl, e22⟩ ?_
    clear e0 e2 e3 e4 e5 e22
    clear F
    rintro F ⟨e0, e2, e3, e4, e5, e6, e22⟩
    refine wp_regionF ?_
    refine lf_val (v := .int .i64 7) (wantAll rfl) (rv_assign rfl rfl) ?_
    refine lf_nil ?_
    refine then_n ?_
    refine wp_block ?_
    replace hH : Heap (newN w) w w7 [oRow c32 65 1 y1 ks, oRow c32 65 1 y2 [1779033703, 3144134277, 1013904242, 2773480762, 1359893119, 2600822924, 528734635, 1541459225], oB yv (b ++ [128] ++ List.replicate (zeros b.length) 0 ++ (be8 (b.length * 8)).take (8 - 8))] := by have e : b ++ [128] ++ List.replicate (zeros b.length) 0 = b ++ [128] ++ List.replicate (zeros b.length) 0 ++ (be8 (b.length * 8)).take (8 - 8) := (List.append_nil _).symm; rw [← e]; exact hH
    refine wp_gen (fun F' => F' 0 = v ∧ F' 2 = .slice none 0 0 ∧ F' 3 = y1 ∧ F' 4 = y2 ∧ F' 5 = yv ∧ F' 6 = .int .u64 ((b.length * 8 : Nat) : Int) ∧ F' 7 = .int .i64 7 ∧ F' 22 = .bool false) ⟨e0, e2, e3, e4, e5, e6, rfl, e22⟩ ?_
    clear e0 e2 e3 e4 e5 e6 e22
    clear F
    rintro F ⟨e0, e2, e3, e4, e5, e6, e7, e22⟩
    refine wp_loopF (fun m F wr => ∃ k : Nat, ∃ yv : Value, m = k + 1 ∧ k ≤ 8 ∧ F 0 = v ∧ F 2 = .slice none 0 0 ∧ F 3 = y1 ∧ F 4 = y2 ∧ F 5 = yv ∧ F 6 = .int .u64 ((b.length * 8 : Nat) : Int) ∧ F 7 = .int .i64 ((k : Int) - 1) ∧ F 22 = .bool false ∧ Heap (newN w) w wr [oRow c32 65 1 y1 ks, oRow c32 65 1 y2 [1779033703, 3144134277, 1013904242, 2773480762, 1359893119, 2600822924, 528734635, 1541459225], oB yv (b ++ [128] ++ List.replicate (zeros b.length) 0 ++ (be8 (b.length * 8)).take (8 - k))]) ⟨8, _, rfl, Nat.le_refl _, e0, e2, e3, e4, e5, e6, e7, e22, hH⟩ ?_
    clear e0 e2 e3 e4 e5 e6 e7 e22 hH
    clear F
    rintro m F w8 ⟨k, yv, rfl, pk0, e0, e2, e3, e4, e5, e6, e7, e22, hH⟩
    refine wp_seq ?_
    refine wp_seq ?_
    refine wp_regionF ?_
    refine lf_val (v := .int .i64 ((k : Int) - 1)) (wantAll rfl) (rv_move rfl (fr_eval rfl e7)) ?_
    by_cases hc2 : (k : Int) - 1 ≥ 0
    · refine lf_val (v := .bool true) (wantAll rfl) (rv_geq rfl (fr_eval rfl rfl) rfl (decide_eq_true (by omega))) ?_
      refine lf_nil ?_
      refine then_n ?_
      refine wp_gen (fun F' => F' 0 = v ∧ F' 2 = .slice none 0 0 ∧ F' 3 = y1 ∧ F' 4 = y2 ∧ F' 5 = yv ∧ F' 6 = .int .u64 ((b.length * 8 : Nat) : Int) ∧ F' 7 = .int .i64 ((k : Int) - 1) ∧ F' 22 = .bool false ∧ F' 31 = .bool true) ⟨e0, e2, e3, e4, e5, e6, e7, e22, rfl⟩ ?_
      clear e0 e2 e3 e4 e5 e6 e7 e22
      clear F
      rintro F ⟨e0, e2, e3, e4, e5, e6, e7, e22, e31⟩
      refine wp_cond_true (fr_eval rfl e31) ?_
      refine wp_skip ?_
      refine then_n ?_
      refine wp_seq ?_
      refine wp_block ?_
      obtain ⟨j, rfl⟩ : ∃ j, k = j + 1 := ⟨k - 1, by omega⟩
      refine wp_regionF ?_
      refine lf_val (v := yv) (wantAll rfl) (rv_move rfl (fr_eval rfl e5)) ?_
      refine lf_val (v := .int .u64 ((b.length * 8 : Nat) : Int)) (wantAll rfl) (rv_move rfl (fr_eval rfl e6)) ?_
      refine lf_val (v := .int .i64 ((j : Nat) : Int)) (wantAll rfl) (rv_move rfl (fr_eval rfl (e7.trans (congrArg (Value.int .i64) (by omega))))) ?_
      refine lf_val (v := .int .i64 ((8 * j : Nat) : Int)) (wantAll rfl) (rv_mul rfl rfl (fr_eval rfl rfl) (wrap_i64 (by omega) (by omega) (by omega))) ?_
      refine lf_val (v := .int .u64 (((b.length * 8) / 2 ^ (8 * j) : Nat) : Int)) (wantAll rfl) (rv_shr rfl (fr_eval rfl rfl) (fr_eval rfl rfl) (shr_nat (8 * j) (by show _ ≤ 64; omega))) ?_
      refine lf_val (v := cB (UInt8.ofNat ((b.length * 8) / 2 ^ (8 * j)))) (wantAll rfl) (rv_conv rfl (fr_eval rfl rfl) Try.underlying76 Try.underlying5 (wrap_u8 (byte_nat _))) ?_
      refine lf_ex (wantAll rfl) (hx_lits hH Try.stB (n := 1) (nm := List.length [UInt8.ofNat ((b.length * 8) / 2 ^ (8 * j))]) [(.tmp 39)] (vs := [(cB (UInt8.ofNat ((b.length * 8) / 2 ^ (8 * j))))]) (cs := cBs [UInt8.ofNat ((b.length * 8) / 2 ^ (8 * j))]) rfl (evc (fr_eval rfl rfl) evn) (cBs_one [UInt8.ofNat ((b.length * 8) / 2 ^ (8 * j))]) rfl (by decide) rfl rfl) ?_
      clear hH
      rintro y7 w9 ⟨hH, hx⟩
      replace hH : Heap (newN w) w w9 [oRow c32 65 1 y1 ks, oRow c32 65 1 y2 [1779033703, 3144134277, 1013904242, 2773480762, 1359893119, 2600822924, 528734635, 1541459225], oB yv (b ++ [128] ++ List.replicate (zeros b.length) 0 ++ (be8 (b.length * 8)).take (8 - (j + 1))), oB y7 [UInt8.ofNat ((b.length * 8) / 2 ^ (8 * j))]] := hH
      clear hx
      refine lf_ex (wantAll rfl) (hx_append hH Try.stB (i := 2) (xs' := cBs ((b ++ [128] ++ List.replicate (zeros b.length) 0 ++ (be8 (b.length * 8)).take (8 - (j + 1))) ++ [UInt8.ofNat ((b.length * 8) / 2 ^ (8 * j))])) (nm := ((b ++ [128] ++ List.replicate (zeros b.length) 0 ++ (be8 (b.length * 8)).take (8 - (j + 1))) ++ [UInt8.ofNat ((b.length * 8) / 2 ^ (8 * j))]).length) rfl rfl (fun _ => rfl) List.length_append.symm (cBs_append _ _).symm (OwnB.rd (hH.own (i := 3) rfl)) (fr_eval rfl rfl) (fr_eval rfl rfl) (by simp only [List.length_append, List.length_cons, List.length_nil, List.length_replicate, List.length_take]; omega)) ?_
      clear hH
      rintro y8 w10 ⟨hH, hx⟩
      replace hH : Heap (newN w) w w10 [oRow c32 65 1 y1 ks, oRow c32 65 1 y2 [1779033703, 3144134277, 1013904242, 2773480762, 1359893119, 2600822924, 528734635, 1541459225], oB y8 ((b ++ [128] ++ List.replicate (zeros b.length) 0 ++ (be8 (b.length * 8)).take (8 - (j + 1))) ++ [UInt8.ofNat ((b.length * 8) / 2 ^ (8 * j))]), oB y7 [UInt8.ofNat ((b.length * 8) / 2 ^ (8 * j))]] := hH
      replace hH : Heap (newN w) w w10 [oRow c32 65 1 y1 ks, oRow c32 65 1 y2 [1779033703, 3144134277, 1013904242, 2773480762, 1359893119, 2600822924, 528734635, 1541459225], oB y8 (b ++ [128] ++ List.replicate (zeros b.length) 0 ++ (be8 (b.length * 8)).take (8 - j)), oB y7 [UInt8.ofNat ((b.length * 8) / 2 ^ (8 * j))]] := by have e : (b ++ [128] ++ List.replicate (zeros b.length) 0 ++ (be8 (b.length * 8)).take (8 - (j + 1))) ++ [UInt8.ofNat ((b.length * 8) / 2 ^ (8 * j))] = b ++ [128] ++ List.replicate (zeros b.length) 0 ++ (be8 (b.length * 8)).take (8 - j) := be8_step' _ _ (by omega); rw [e] at hH; exact hH
      clear hx
      refine lf_val (v := y8) (wantAll rfl) (rv_assign rfl (fr_eval rfl rfl)) ?_
      refine lf_nil ?_
      refine blk_n ?_
      refine then_n ?_
      replace hH : Heap (newN w) w w10 [oRow c32 65 1 y1 ks, oRow c32 65 1 y2 [1779033703, 3144134277, 1013904242, 2773480762, 1359893119, 2600822924, 528734635, 1541459225], oB y8 (b ++ [128] ++ List.replicate (zeros b.length) 0 ++ (be8 (b.length * 8)).take (8 - j))] := hH.drop (.cons_cons _ (.cons_cons _ (.cons_cons _ (.cons _ .slnil))))
      refine wp_gen (fun F' => F' 0 = v ∧ F' 2 = .slice none 0 0 ∧ F' 3 = y1 ∧ F' 4 = y2 ∧ F' 5 = y8 ∧ F' 6 = .int .u64 ((b.length * 8 : Nat) : Int) ∧ F' 7 = .int .i64 ((j : Nat) : Int) ∧ F' 22 = .bool false ∧ F' 31 = .bool true) ⟨e0, e2, e3, e4, rfl, e6, (e7.trans (congrArg (Value.int .i64) (by omega))), e22, e31⟩ ?_
      clear e0 e2 e3 e4 e5 e6 e7 e22 e31
      clear F
      rintro F ⟨e0, e2, e3, e4, e5, e6, e7, e22, e31⟩
      refine wp_regionF ?_
      refine lf_val (v := .int .i64 ((j : Nat) : Int)) (wantAll rfl) (rv_move rfl (fr_eval rfl e7)) ?_
      refine lf_val (v := .int .i64 ((j : Int) - 1)) (wantAll rfl) (rv_sub rfl (fr_eval rfl rfl) rfl (wrap_i64 (by omega) (by omega) (by omega))) ?_
      refine lf_val (v := .int .i64 ((j : Int) - 1)) (wantAll rfl) (rv_assign rfl (fr_eval rfl rfl)) ?_
      refine lf_nil ?_
      refine then_n ?_
      exact ⟨_, _, (by omega), rfl, j, _, rfl, (by omega), e0, e2, e3, e4, e5, e6, rfl, e22, hH⟩
    · refine lf_val (v := .bool false) (wantAll rfl) (rv_geq rfl (fr_eval rfl rfl) rfl (decide_eq_false (by omega))) ?_
      refine lf_nil ?_
      refine then_n ?_
      refine wp_gen (fun F' => F' 0 = v ∧ F' 2 = .slice none 0 0 ∧ F' 3 = y1 ∧ F' 4 = y2 ∧ F' 5 = yv ∧ F' 6 = .int .u64 ((b.length * 8 : Nat) : Int) ∧ F' 7 = .int .i64 ((k : Int) - 1) ∧ F' 22 = .bool false ∧ F' 31 = .bool false) ⟨e0, e2, e3, e4, e5, e6, e7, e22, rfl⟩ ?_
      clear e0 e2 e3 e4 e5 e6 e7 e22
      clear F
      rintro F ⟨e0, e2, e3, e4, e5, e6, e7, e22, e31⟩
      refine wp_cond_false (fr_eval rfl e31) ?_
      refine wp_exit ?_
      refine then_exit ?_
      refine then_exit ?_
      refine blk_exit ?_
      refine then_n ?_
      refine wp_seq ?_
      refine wp_seq ?_
      obtain rfl : k = 0 := by omega
      replace hH : Heap (newN w) w w8 [oRow c32 65 1 y1 ks, oRow c32 65 1 y2 [1779033703, 3144134277, 1013904242, 2773480762, 1359893119, 2600822924, 528734635, 1541459225], oB yv (padded b)] := by have e : b ++ [128] ++ List.replicate (zeros b.length) 0 ++ (be8 (b.length * 8)).take (8 - 0) = padded b := padded_ref b; rw [← e]; exact hH
      replace hH : Heap (newN w) w w8 [oRow c32 65 1 y1 ks, oRow c32 65 1 y2 st0.list, oB yv (padded b)] := by have e : [1779033703, 3144134277, 1013904242, 2773480762, 1359893119, 2600822924, 528734635, 1541459225] = st0.list := rfl; rw [← e]; exact hH
      obtain ⟨hp1, hp2⟩ := padded_length b
      refine wp_regionF ?_
      refine lf_val (v := .int .i64 0) (wantAll rfl) (rv_assign rfl rfl) ?_
      refine lf_nil ?_
      refine then_n ?_
      refine wp_block ?_
      refine wp_gen (fun F' => F' 0 = v ∧ F' 2 = .slice none 0 0 ∧ F' 3 = y1 ∧ F' 4 = y2 ∧ F' 5 = yv ∧ F' 6 = .int .u64 ((b.length * 8 : Nat) : Int) ∧ F' 7 = .int .i64 ((0 : Int) - 1) ∧ F' 8 = .int .i64 0 ∧ F' 22 = .bool false ∧ F' 31 = .bool false) ⟨e0, e2, e3, e4, e5, e6, e7, rfl, e22, e31⟩ ?_
      clear e0 e2 e3 e4 e5 e6 e7 e22 e31
      clear F
      rintro F ⟨e0, e2, e3, e4, e5, e6, e7, e8, e22, e31⟩
      refine wp_loopF (fun m F wr => ∃ j : Nat, ∃ s : St, ∃ yh : Value, m = (padded b).length / 64 - j ∧ s.Ok ∧ blocks st0 (padded b) ((padded b).length / 64) = blocks s ((padded b).drop (64 * j)) ((padded b).length / 64 - j) ∧ 64 * j ≤ (padded b).length ∧ F 0 = v ∧ F 2 = .slice none 0 0 ∧ F 3 = y1 ∧ F 4 = yh ∧ F 5 = yv ∧ F 6 = .int .u64 ((b.length * 8 : Nat) : Int) ∧ F 7 = .int .i64 ((0 : Int) - 1) ∧ F 8 = .int .i64 ((64 * j : Nat) : Int) ∧ F 22 = .bool false ∧ F 31 = .bool false ∧ Heap (newN w) w wr [oRow c32 65 1 y1 ks, oRow c32 65 1 yh s.list, oB yv (padded b)]) ⟨0, _, _, rfl, st0_ok, rfl, (by omega), e0, e2, e3, e4, e5, e6, e7, e8, e22, e31, hH⟩ ?_
      clear e0 e2 e3 e4 e5 e6 e7 e8 e22 e31 hH
      clear F
      rintro m F w11 ⟨j, s, yh, rfl, pj0, pj1, pj2, e0, e2, e3, e4, e5, e6, e7, e8, e22, e31, hH⟩
      refine wp_seq ?_
      refine wp_seq ?_
      refine wp_regionF ?_
      refine lf_val (v := .int .i64 ((64 * j : Nat) : Int)) (wantAll rfl) (rv_move rfl (fr_eval rfl e8)) ?_
      refine lf_val (v := yv) (wantAll rfl) (rv_move rfl (fr_eval rfl e5)) ?_
      refine lf_val (v := .int .i64 (((padded b).length : Nat) : Int)) (wantAll rfl) (rv_len rfl (fr_eval rfl rfl) (RdB.rn (OwnB.rd (hH.own (i := 2) rfl)) rfl) Try.underlying22) ?_
      by_cases hc3 : 64 * j < (padded b).length
      · refine lf_val (v := .bool true) (wantAll rfl) (rv_lss rfl (fr_eval rfl rfl) (fr_eval rfl rfl) (decide_eq_true (by omega))) ?_
        refine lf_nil ?_
        refine then_n ?_
        refine wp_gen (fun F' => F' 0 = v ∧ F' 2 = .slice none 0 0 ∧ F' 3 = y1 ∧ F' 4 = yh ∧ F' 5 = yv ∧ F' 6 = .int .u64 ((b.length * 8 : Nat) : Int) ∧ F' 7 = .int .i64 ((0 : Int) - 1) ∧ F' 8 = .int .i64 ((64 * j : Nat) : Int) ∧ F' 22 = .bool false ∧ F' 31 = .bool false ∧ F' 45 = .bool true) ⟨e0, e2, e3, e4, e5, e6, e7, e8, e22, e31, rfl⟩ ?_
        clear e0 e2 e3 e4 e5 e6 e7 e8 e22 e31
        clear F
        rintro F ⟨e0, e2, e3, e4, e5, e6, e7, e8, e22, e31, e45⟩
        refine wp_cond_true (fr_eval rfl e45) ?_
        refine wp_skip ?_
        refine then_n ?_
        refine wp_seq ?_
        refine wp_block ?_
        refine wp_regionF ?_
        refine lf_val (v := yh) (wantAll rfl) (rv_move rfl (fr_eval rfl e4)) ?_
        refine lf_val (v := y1) (wantAll rfl) (rv_move rfl (fr_eval rfl e3)) ?_
        refine lf_val (v := yv) (wantAll rfl) (rv_move rfl (fr_eval rfl e5)) ?_
        refine lf_val (v := .int .i64 ((64 * j : Nat) : Int)) (wantAll rfl) (rv_move rfl (fr_eval rfl e8)) ?_
        refine lf_val (v := .int .i64 ((64 * j : Nat) : Int)) (wantAll rfl) (rv_move rfl (fr_eval rfl e8)) ?_
        refine lf_val (v := .int .i64 (((64 * j) + 64 : Nat) : Int)) (wantAll rfl) (rv_add rfl (fr_eval rfl rfl) rfl (wrap_i64 (by omega) (by omega) (by omega))) ?_
        refine lf_val (v := slcV yv 1 (64 * j) ((64 * j) + 64)) (wantAll rfl) (rv_slcLH (l := 64 * j) (h := (64 * j) + 64) Try.stB rfl (fr_eval rfl rfl) (RdB.rn (OwnB.rd (hH.own (i := 2) rfl)) rfl) (fr_eval rfl rfl) (fr_eval rfl rfl) (by omega) (by omega)) ?_
        refine lf_call (wantAll rfl) (rv_call (args := [yh, y1, slcV yv 1 (64 * j) ((64 * j) + 64)]) rfl (evc (fr_eval rfl rfl) (evc (fr_eval rfl rfl) (evc (fr_eval rfl rfl) evn))) Try.call54) (one_calls s pj0 (List.take ((64 * j) + 64 - 64 * j) (List.drop (64 * j) (padded b))) (by simp only [List.length_take, List.length_drop]; omega) _ _ _ _ (Own.rd (hH.own (i := 1) rfl) (row_one c32_one)) (Own.rd (hH.own (i := 0) rfl) (row_one c32_one)) (rdB_slc (l := 64 * j) (h := (64 * j) + 64) (RdB.rn (OwnB.rd (hH.own (i := 2) rfl)) rfl) (by omega) (by omega))) ?_
        rintro _ w12 ⟨⟨y9, rfl, ho, hg⟩, hx⟩
        refine ⟨_, rfl, ?_⟩
        replace hH : Heap (newN w) w w12 [oRow c32 65 1 y1 ks, oRow c32 65 1 yh s.list, oB yv (padded b), oRow c32 65 1 y9 ((comp s (List.take ((64 * j) + 64 - 64 * j) (List.drop (64 * j) (padded b)))).list)] := hH.addOwn hx hg ho
        clear ho hg
        clear hx
        refine lf_val (v := y9) (wantAll rfl) (rv_assign rfl (fr_eval rfl rfl)) ?_
        refine lf_nil ?_
        refine blk_n ?_
        refine then_n ?_
        replace hH : Heap (newN w) w w12 [oRow c32 65 1 y1 ks, oB yv (padded b), oRow c32 65 1 y9 ((comp s (List.take ((64 * j) + 64 - 64 * j) (List.drop (64 * j) (padded b)))).list)] := hH.drop (.cons_cons _ (.cons _ (.cons_cons _ (.cons_cons _ .slnil))))
        refine wp_gen (fun F' => F' 0 = v ∧ F' 2 = .slice none 0 0 ∧ F' 3 = y1 ∧ F' 4 = y9 ∧ F' 5 = yv ∧ F' 6 = .int .u64 ((b.length * 8 : Nat) : Int) ∧ F' 7 = .int .i64 ((0 : Int) - 1) ∧ F' 8 = .int .i64 ((64 * j : Nat) : Int) ∧ F' 22 = .bool false ∧ F' 31 = .bool false ∧ F' 45 = .bool true) ⟨e0, e2, e3, rfl, e5, e6, e7, e8, e22, e31, e45⟩ ?_
        clear e0 e2 e3 e4 e5 e6 e7 e8 e22 e31 e45
        clear F
        rintro F ⟨e0, e2, e3, e4, e5, e6, e7, e8, e22, e31, e45⟩
        refine wp_regionF ?_
        refine lf_val (v := .int .i64 ((64 * j : Nat) : Int)) (wantAll rfl) (rv_move rfl (fr_eval rfl e8)) ?_
        refine lf_val (v := .int .i64 ((64 * (j + 1) : Nat) : Int)) (wantAll rfl) (rv_add rfl (fr_eval rfl rfl) rfl (wrap_i64 (by omega) (by omega) (by omega))) ?_
        refine lf_val (v := .int .i64 ((64 * (j + 1) : Nat) : Int)) (wantAll rfl) (rv_assign rfl (fr_eval rfl rfl)) ?_
        refine lf_nil ?_
        refine then_n ?_
        replace hH : Heap (newN w) w w12 [oRow c32 65 1 y1 ks, oRow c32 65 1 y9 ((comp s (List.take ((64 * j) + 64 - 64 * j) (List.drop (64 * j) (padded b)))).list), oB yv (padded b)] := hH.perm (.cons _ (.trans (.swap _ _ _) (.cons _ (.refl _))))
        exact ⟨_, _, (by omega), rfl, j + 1, _, _, rfl, comp_ok _ _, blocks_go pj1 (by omega), (by omega), e0, e2, e3, e4, e5, e6, e7, rfl, e22, e31, hH⟩
      · refine lf_val (v := .bool false) (wantAll rfl) (rv_lss rfl (fr_eval rfl rfl) (fr_eval rfl rfl) (decide_eq_false (by omega))) ?_
        refine lf_nil ?_
        refine then_n ?_
        refine wp_gen (fun F' => F' 0 = v ∧ F' 2 = .slice none 0 0 ∧ F' 3 = y1 ∧ F' 4 = yh ∧ F' 5 = yv ∧ F' 6 = .int .u64 ((b.length * 8 : Nat) : Int) ∧ F' 7 = .int .i64 ((0 : Int) - 1) ∧ F' 8 = .int .i64 ((64 * j : Nat) : Int) ∧ F' 22 = .bool false ∧ F' 31 = .bool false ∧ F' 45 = .bool false) ⟨e0, e2, e3, e4, e5, e6, e7, e8, e22, e31, rfl⟩ ?_
        clear e0 e2 e3 e4 e5 e6 e7 e8 e22 e31
        clear F
        rintro F ⟨e0, e2, e3, e4, e5, e6, e7, e8, e22, e31, e45⟩
        refine wp_cond_false (fr_eval rfl e45) ?_
        refine wp_exit ?_
        refine then_exit ?_
        refine then_exit ?_
        refine blk_exit ?_
        refine then_n ?_
        refine wp_seq ?_
        obtain rfl := blocks_end pj1 (by omega)
        refine wp_regionF ?_
        refine lf_val (v := .slice none 0 0) (wantAll rfl) (rv_assign rfl rfl) ?_
        refine lf_nil ?_
        refine then_n ?_
        refine wp_seq ?_
        refine wp_seq ?_
        refine wp_gen (fun F' => F' 0 = v ∧ F' 2 = .slice none 0 0 ∧ F' 3 = y1 ∧ F' 4 = yh ∧ F' 5 = yv ∧ F' 6 = .int .u64 ((b.length * 8 : Nat) : Int) ∧ F' 7 = .int .i64 ((0 : Int) - 1) ∧ F' 8 = .int .i64 ((64 * j : Nat) : Int) ∧ F' 9 = .slice none 0 0 ∧ F' 22 = .bool false ∧ F' 31 = .bool false ∧ F' 45 = .bool false) ⟨e0, e2, e3, e4, e5, e6, e7, e8, rfl, e22, e31, e45⟩ ?_
        clear e0 e2 e3 e4 e5 e6 e7 e8 e22 e31 e45
        clear F
        rintro F ⟨e0, e2, e3, e4, e5, e6, e7, e8, e9, e22, e31, e45⟩
        refine wp_regionF ?_
        refine lf_val (v := .int .i64 0) (wantAll rfl) (rv_assign rfl rfl) ?_
        refine lf_nil ?_
        refine then_n ?_
        refine wp_block ?_
        replace hH : Heap (newN w) w w11 [oRow c32 65 1 y1 ks, oRow c32 65 1 yh ((blocks st0 (padded b) ((padded b).length / 64)).list), oB yv (padded b), oB (.slice none 0 0) []] := hH.addNil 5 1
        replace hH : Heap (newN w) w w11 [oRow c32 65 1 y1 ks, oRow c32 65 1 yh ((blocks st0 (padded b) ((padded b).length / 64)).list), oB yv (padded b), oB (.slice none 0 0) ((out (blocks st0 (padded b) ((padded b).length / 64))).take (4 * 0))] := by have e : [] = (out (blocks st0 (padded b) ((padded b).length / 64))).take (4 * 0) := rfl; rw [← e]; exact hH
        refine wp_gen (fun F' => F' 0 = v ∧ F' 2 = .slice none 0 0 ∧ F' 3 = y1 ∧ F' 4 = yh ∧ F' 5 = yv ∧ F' 6 = .int .u64 ((b.length * 8 : Nat) : Int) ∧ F' 7 = .int .i64 ((0 : Int) - 1) ∧ F' 8 = .int .i64 ((64 * j : Nat) : Int) ∧ F' 9 = (.slice none 0 0) ∧ F' 10 = .int .i64 0 ∧ F' 22 = .bool false ∧ F' 31 = .bool false ∧ F' 45 = .bool false) ⟨e0, e2, e3, e4, e5, e6, e7, e8, e9, rfl, e22, e31, e45⟩ ?_
        clear e0 e2 e3 e4 e5 e6 e7 e8 e9 e22 e31 e45
        clear F
        rintro F ⟨e0, e2, e3, e4, e5, e6, e7, e8, e9, e10, e22, e31, e45⟩
        refine wp_loopF (fun m F wr => ∃ k : Nat, ∃ yo : Value, m = 8 - k ∧ k ≤ 8 ∧ F 0 = v ∧ F 2 = .slice none 0 0 ∧ F 3 = y1 ∧ F 4 = yh ∧ F 5 = yv ∧ F 6 = .int .u64 ((b.length * 8 : Nat) : Int) ∧ F 7 = .int .i64 ((0 : Int) - 1) ∧ F 8 = .int .i64 ((64 * j : Nat) : Int) ∧ F 9 = yo ∧ F 10 = .int .i64 ((k : Nat) : Int) ∧ F 22 = .bool false ∧ F 31 = .bool false ∧ F 45 = .bool false ∧ Heap (newN w) w wr [oRow c32 65 1 y1 ks, oRow c32 65 1 yh ((blocks st0 (padded b) ((padded b).length / 64)).list), oB yv (padded b), oB yo ((out (blocks st0 (padded b) ((padded b).length / 64))).take (4 * k))]) ⟨0, _, rfl, (by decide), e0, e2, e3, e4, e5, e6, e7, e8, e9, e10, e22, e31, e45, hH⟩ ?_
        clear e0 e2 e3 e4 e5 e6 e7 e8 e9 e10 e22 e31 e45 hH
        clear F
        rintro m F w13 ⟨k, yo, rfl, pk0, e0, e2, e3, e4, e5, e6, e7, e8, e9, e10, e22, e31, e45, hH⟩
        refine wp_seq ?_
        refine wp_seq ?_
        refine wp_regionF ?_
        refine lf_val (v := .int .i64 ((k : Nat) : Int)) (wantAll rfl) (rv_move rfl (fr_eval rfl e10)) ?_
        by_cases hc4 : k < 8
        · refine lf_val (v := .bool true) (wantAll rfl) (rv_lss rfl (fr_eval rfl rfl) rfl (decide_eq_true (by omega))) ?_
          refine lf_nil ?_
          refine then_n ?_
          refine wp_gen (fun F' => F' 0 = v ∧ F' 2 = .slice none 0 0 ∧ F' 3 = y1 ∧ F' 4 = yh ∧ F' 5 = yv ∧ F' 6 = .int .u64 ((b.length * 8 : Nat) : Int) ∧ F' 7 = .int .i64 ((0 : Int) - 1) ∧ F' 8 = .int .i64 ((64 * j : Nat) : Int) ∧ F' 9 = yo ∧ F' 10 = .int .i64 ((k : Nat) : Int) ∧ F' 22 = .bool false ∧ F' 31 = .bool false ∧ F' 45 = .bool false ∧ F' 57 = .bool true) ⟨e0, e2, e3, e4, e5, e6, e7, e8, e9, e10, e22, e31, e45, rfl⟩ ?_
          clear e0 e2 e3 e4 e5 e6 e7 e8 e9 e10 e22 e31 e45
          clear F
          rintro F ⟨e0, e2, e3, e4, e5, e6, e7, e8, e9, e10, e22, e31, e45, e57⟩
          refine wp_cond_true (fr_eval rfl e57) ?_
          refine wp_skip ?_
          refine then_n ?_
          refine wp_seq ?_
          refine wp_block ?_
          refine wp_regionX (fun _ => False) 25 (by kernel_rfl) (by kernel_rfl) ?_
          refine xl_take (i := 0) (v := yo) rfl (by kernel_rfl) (by kernel_rfl) (by kernel_rfl) (by kernel_rfl) (yx_val (wantAll rfl) (fun w' hx' => rv_move rfl (fr_eval rfl e9))) ?_
          refine xl_take (i := 1) (v := yh) rfl (by kernel_rfl) (by kernel_rfl) (by kernel_rfl) (by kernel_rfl) (yx_val (wantAll rfl) (fun w' hx' => rv_move rfl (fr_eval rfl e4))) ?_
          refine xl_take (i := 2) (v := .int .i64 ((k : Nat) : Int)) rfl (by kernel_rfl) (by kernel_rfl) (by kernel_rfl) (by kernel_rfl) (yx_val (wantAll rfl) (fun w' hx' => rv_move rfl (fr_eval rfl e10))) ?_
          refine xl_take (i := 3) (v := .pointer (some (elemA yh (k * 1)))) rfl (by kernel_rfl) (by kernel_rfl) (by kernel_rfl) (by kernel_rfl) (yx_val (wantAll rfl) (fun w' hx' => rv_index rfl (fr_eval rfl rfl) (fr_eval rfl rfl) (rdN (Own.rd ((hH.ext hx').own (i := 1) rfl) (row_one c32_one)) rfl) (show k < (blocks st0 (padded b) ((padded b).length / 64)).list.length from (show k < 8 from by omega)) Try.underlying74 Try.sz65 (by decide))) ?_
          refine xl_take (i := 4) (v := .int .u32 ((List.getD (St.list (blocks st0 (padded b) ((padded b).length / 64))) k 0 : Nat) : Int)) rfl (by kernel_rfl) (by kernel_rfl) (by kernel_rfl) (by kernel_rfl) (yx_val (wantAll rfl) (fun w' hx' => rv_loadCell rfl (fr_eval rfl rfl) (Nat.mul_one _) (Own.rd ((hH.ext hx').own (i := 1) rfl) (row_one c32_one)) (flat_get1 0 c32_len (show k < (blocks st0 (padded b) ((padded b).length / 64)).list.length from (show k < 8 from by omega)) rfl) Try.underlying65 rfl Try.sz65)) ?_
          refine xl_take (i := 5) (v := .int .u32 (((List.getD (St.list (blocks st0 (padded b) ((padded b).length / 64))) k 0) / 2 ^ 24 : Nat) : Int)) rfl (by kernel_rfl) (by kernel_rfl) (by kernel_rfl) (by kernel_rfl) (yx_val (wantAll rfl) (fun w' hx' => rv_shr rfl (fr_eval rfl rfl) (show _ = Value.int _ ((24 : Nat) : Int) from rfl) (shr_nat 24 (by show _ ≤ 32; omega)))) ?_
          refine xl_take (i := 6) (v := cB (UInt8.ofNat ((List.getD (St.list (blocks st0 (padded b) ((padded b).length / 64))) k 0) / 2 ^ 24))) rfl (by kernel_rfl) (by kernel_rfl) (by kernel_rfl) (by kernel_rfl) (yx_val (wantAll rfl) (fun w' hx' => rv_conv rfl (fr_eval rfl rfl) Try.underlying65 Try.underlying5 (wrap_u8 (byte_nat _)))) ?_
          refine xl_take (i := 7) (v := yh) rfl (by kernel_rfl) (by kernel_rfl) (by kernel_rfl) (by kernel_rfl) (yx_val (wantAll rfl) (fun w' hx' => rv_move rfl (fr_eval rfl e4))) ?_
          refine xl_take (i := 8) (v := .int .i64 ((k : Nat) : Int)) rfl (by kernel_rfl) (by kernel_rfl) (by kernel_rfl) (by kernel_rfl) (yx_val (wantAll rfl) (fun w' hx' => rv_move rfl (fr_eval rfl e10))) ?_
          refine xl_take (i := 9) (v := .pointer (some (elemA yh (k * 1)))) rfl (by kernel_rfl) (by kernel_rfl) (by kernel_rfl) (by kernel_rfl) (yx_val (wantAll rfl) (fun w' hx' => rv_index rfl (fr_eval rfl rfl) (fr_eval rfl rfl) (rdN (Own.rd ((hH.ext hx').own (i := 1) rfl) (row_one c32_one)) rfl) (show k < (blocks st0 (padded b) ((padded b).length / 64)).list.length from (show k < 8 from by omega)) Try.underlying74 Try.sz65 (by decide))) ?_
          refine xl_take (i := 10) (v := .int .u32 ((List.getD (St.list (blocks st0 (padded b) ((padded b).length / 64))) k 0 : Nat) : Int)) rfl (by kernel_rfl) (by kernel_rfl) (by kernel_rfl) (by kernel_rfl) (yx_val (wantAll rfl) (fun w' hx' => rv_loadCell rfl (fr_eval rfl rfl) (Nat.mul_one _) (Own.rd ((hH.ext hx').own (i := 1) rfl) (row_one c32_one)) (flat_get1 0 c32_len (show k < (blocks st0 (padded b) ((padded b).length / 64)).list.length from (show k < 8 from by omega)) rfl) Try.underlying65 rfl Try.sz65)) ?_
          refine xl_take (i := 11) (v := .int .u32 (((List.getD (St.list (blocks st0 (padded b) ((padded b).length / 64))) k 0) / 2 ^ 16 : Nat) : Int)) rfl (by kernel_rfl) (by kernel_rfl) (by kernel_rfl) (by kernel_rfl) (yx_val (wantAll rfl) (fun w' hx' => rv_shr rfl (fr_eval rfl rfl) (show _ = Value.int _ ((16 : Nat) : Int) from rfl) (shr_nat 16 (by show _ ≤ 32; omega)))) ?_
          refine xl_take (i := 12) (v := cB (UInt8.ofNat ((List.getD (St.list (blocks st0 (padded b) ((padded b).length / 64))) k 0) / 2 ^ 16))) rfl (by kernel_rfl) (by kernel_rfl) (by kernel_rfl) (by kernel_rfl) (yx_val (wantAll rfl) (fun w' hx' => rv_conv rfl (fr_eval rfl rfl) Try.underlying65 Try.underlying5 (wrap_u8 (byte_nat _)))) ?_
          refine xl_take (i := 13) (v := yh) rfl (by kernel_rfl) (by kernel_rfl) (by kernel_rfl) (by kernel_rfl) (yx_val (wantAll rfl) (fun w' hx' => rv_move rfl (fr_eval rfl e4))) ?_
          refine xl_take (i := 14) (v := .int .i64 ((k : Nat) : Int)) rfl (by kernel_rfl) (by kernel_rfl) (by kernel_rfl) (by kernel_rfl) (yx_val (wantAll rfl) (fun w' hx' => rv_move rfl (fr_eval rfl e10))) ?_
          refine xl_take (i := 15) (v := .pointer (some (elemA yh (k * 1)))) rfl (by kernel_rfl) (by kernel_rfl) (by kernel_rfl) (by kernel_rfl) (yx_val (wantAll rfl) (fun w' hx' => rv_index rfl (fr_eval rfl rfl) (fr_eval rfl rfl) (rdN (Own.rd ((hH.ext hx').own (i := 1) rfl) (row_one c32_one)) rfl) (show k < (blocks st0 (padded b) ((padded b).length / 64)).list.length from (show k < 8 from by omega)) Try.underlying74 Try.sz65 (by decide))) ?_
          refine xl_take (i := 16) (v := .int .u32 ((List.getD (St.list (blocks st0 (padded b) ((padded b).length / 64))) k 0 : Nat) : Int)) rfl (by kernel_rfl) (by kernel_rfl) (by kernel_rfl) (by kernel_rfl) (yx_val (wantAll rfl) (fun w' hx' => rv_loadCell rfl (fr_eval rfl rfl) (Nat.mul_one _) (Own.rd ((hH.ext hx').own (i := 1) rfl) (row_one c32_one)) (flat_get1 0 c32_len (show k < (blocks st0 (padded b) ((padded b).length / 64)).list.length from (show k < 8 from by omega)) rfl) Try.underlying65 rfl Try.sz65)) ?_
          refine xl_take (i := 17) (v := .int .u32 (((List.getD (St.list (blocks st0 (padded b) ((padded b).length / 64))) k 0) / 2 ^ 8 : Nat) : Int)) rfl (by kernel_rfl) (by kernel_rfl) (by kernel_rfl) (by kernel_rfl) (yx_val (wantAll rfl) (fun w' hx' => rv_shr rfl (fr_eval rfl rfl) (show _ = Value.int _ ((8 : Nat) : Int) from rfl) (shr_nat 8 (by show _ ≤ 32; omega)))) ?_
          refine xl_take (i := 18) (v := cB (UInt8.ofNat ((List.getD (St.list (blocks st0 (padded b) ((padded b).length / 64))) k 0) / 2 ^ 8))) rfl (by kernel_rfl) (by kernel_rfl) (by kernel_rfl) (by kernel_rfl) (yx_val (wantAll rfl) (fun w' hx' => rv_conv rfl (fr_eval rfl rfl) Try.underlying65 Try.underlying5 (wrap_u8 (byte_nat _)))) ?_
          refine xl_take (i := 19) (v := yh) rfl (by kernel_rfl) (by kernel_rfl) (by kernel_rfl) (by kernel_rfl) (yx_val (wantAll rfl) (fun w' hx' => rv_move rfl (fr_eval rfl e4))) ?_
          refine xl_take (i := 20) (v := .int .i64 ((k : Nat) : Int)) rfl (by kernel_rfl) (by kernel_rfl) (by kernel_rfl) (by kernel_rfl) (yx_val (wantAll rfl) (fun w' hx' => rv_move rfl (fr_eval rfl e10))) ?_
          refine xl_take (i := 21) (v := .pointer (some (elemA yh (k * 1)))) rfl (by kernel_rfl) (by kernel_rfl) (by kernel_rfl) (by kernel_rfl) (yx_val (wantAll rfl) (fun w' hx' => rv_index rfl (fr_eval rfl rfl) (fr_eval rfl rfl) (rdN (Own.rd ((hH.ext hx').own (i := 1) rfl) (row_one c32_one)) rfl) (show k < (blocks st0 (padded b) ((padded b).length / 64)).list.length from (show k < 8 from by omega)) Try.underlying74 Try.sz65 (by decide))) ?_
          refine xl_take (i := 22) (v := .int .u32 ((List.getD (St.list (blocks st0 (padded b) ((padded b).length / 64))) k 0 : Nat) : Int)) rfl (by kernel_rfl) (by kernel_rfl) (by kernel_rfl) (by kernel_rfl) (yx_val (wantAll rfl) (fun w' hx' => rv_loadCell rfl (fr_eval rfl rfl) (Nat.mul_one _) (Own.rd ((hH.ext hx').own (i := 1) rfl) (row_one c32_one)) (flat_get1 0 c32_len (show k < (blocks st0 (padded b) ((padded b).length / 64)).list.length from (show k < 8 from by omega)) rfl) Try.underlying65 rfl Try.sz65)) ?_
          refine xl_take (i := 23) (v := cB (UInt8.ofNat (List.getD (St.list (blocks st0 (padded b) ((padded b).length / 64))) k 0))) rfl (by kernel_rfl) (by kernel_rfl) (by kernel_rfl) (by kernel_rfl) (yx_val (wantAll rfl) (fun w' hx' => rv_conv rfl (fr_eval rfl rfl) Try.underlying65 Try.underlying5 (wrap_u8 (byte_nat _)))) ?_
          refine anyX_ready (rs := [24]) (by kernel_rfl) ?_
          intro w14 hx
          replace hH := hH.ext hx
          clear hx
          refine (anyX_cons ?_ anyX_nil)
          refine xl_step (i := 24) rfl (wantAll rfl) ?_
          refine of_ex (hx_lits hH Try.stB (n := 4) (nm := List.length [UInt8.ofNat ((List.getD (St.list (blocks st0 (padded b) ((padded b).length / 64))) k 0) / 2 ^ 24), UInt8.ofNat ((List.getD (St.list (blocks st0 (padded b) ((padded b).length / 64))) k 0) / 2 ^ 16), UInt8.ofNat ((List.getD (St.list (blocks st0 (padded b) ((padded b).length / 64))) k 0) / 2 ^ 8), UInt8.ofNat (List.getD (St.list (blocks st0 (padded b) ((padded b).length / 64))) k 0)]) [(.tmp 66), (.tmp 72), (.tmp 78), (.tmp 83)] (vs := [(cB (UInt8.ofNat ((List.getD (St.list (blocks st0 (padded b) ((padded b).length / 64))) k 0) / 2 ^ 24))), (cB (UInt8.ofNat ((List.getD (St.list (blocks st0 (padded b) ((padded b).length / 64))) k 0) / 2 ^ 16))), (cB (UInt8.ofNat ((List.getD (St.list (blocks st0 (padded b) ((padded b).length / 64))) k 0) / 2 ^ 8))), (cB (UInt8.ofNat (List.getD (St.list (blocks st0 (padded b) ((padded b).length / 64))) k 0)))]) (cs := cBs [UInt8.ofNat ((List.getD (St.list (blocks st0 (padded b) ((padded b).length / 64))) k 0) / 2 ^ 24), UInt8.ofNat ((List.getD (St.list (blocks st0 (padded b) ((padded b).length / 64))) k 0) / 2 ^ 16), UInt8.ofNat ((List.getD (St.list (blocks st0 (padded b) ((padded b).length / 64))) k 0) / 2 ^ 8), UInt8.ofNat (List.getD (St.list (blocks st0 (padded b) ((padded b).length / 64))) k 0)]) rfl (evc (fr_eval rfl rfl) (evc (fr_eval rfl rfl) (evc (fr_eval rfl rfl) (evc (fr_eval rfl rfl) evn)))) (cBs_one [UInt8.ofNat ((List.getD (St.list (blocks st0 (padded b) ((padded b).length / 64))) k 0) / 2 ^ 24), UInt8.ofNat ((List.getD (St.list (blocks st0 (padded b) ((padded b).length / 64))) k 0) / 2 ^ 16), UInt8.ofNat ((List.getD (St.list (blocks st0 (padded b) ((padded b).length / 64))) k 0) / 2 ^ 8), UInt8.ofNat (List.getD (St.list (blocks st0 (padded b) ((padded b).length / 64))) k 0)]) rfl (by decide) rfl rfl) ?_
          clear hH
          rintro y10 w15 ⟨hH, hx⟩
          replace hH : Heap (newN w) w w15 [oRow c32 65 1 y1 ks, oRow c32 65 1 yh ((blocks st0 (padded b) ((padded b).length / 64)).list), oB yv (padded b), oB yo ((out (blocks st0 (padded b) ((padded b).length / 64))).take (4 * k)), oB y10 [UInt8.ofNat ((List.getD (St.list (blocks st0 (padded b) ((padded b).length / 64))) k 0) / 2 ^ 24), UInt8.ofNat ((List.getD (St.list (blocks st0 (padded b) ((padded b).length / 64))) k 0) / 2 ^ 16), UInt8.ofNat ((List.getD (St.list (blocks st0 (padded b) ((padded b).length / 64))) k 0) / 2 ^ 8), UInt8.ofNat (List.getD (St.list (blocks st0 (padded b) ((padded b).length / 64))) k 0)]] := hH
          refine ⟨hx, ?_⟩
          clear hx
          refine xl_tail (s := 25) rfl ?_
          intro w16 hx
          replace hH := hH.ext hx
          clear hx
          refine lf_ex (wantAll rfl) (hx_append hH Try.stB (i := 3) (xs' := cBs (((out (blocks st0 (padded b) ((padded b).length / 64))).take (4 * k)) ++ [UInt8.ofNat ((List.getD (St.list (blocks st0 (padded b) ((padded b).length / 64))) k 0) / 2 ^ 24), UInt8.ofNat ((List.getD (St.list (blocks st0 (padded b) ((padded b).length / 64))) k 0) / 2 ^ 16), UInt8.ofNat ((List.getD (St.list (blocks st0 (padded b) ((padded b).length / 64))) k 0) / 2 ^ 8), UInt8.ofNat (List.getD (St.list (blocks st0 (padded b) ((padded b).length / 64))) k 0)])) (nm := (((out (blocks st0 (padded b) ((padded b).length / 64))).take (4 * k)) ++ [UInt8.ofNat ((List.getD (St.list (blocks st0 (padded b) ((padded b).length / 64))) k 0) / 2 ^ 24), UInt8.ofNat ((List.getD (St.list (blocks st0 (padded b) ((padded b).length / 64))) k 0) / 2 ^ 16), UInt8.ofNat ((List.getD (St.list (blocks st0 (padded b) ((padded b).length / 64))) k 0) / 2 ^ 8), UInt8.ofNat (List.getD (St.list (blocks st0 (padded b) ((padded b).length / 64))) k 0)]).length) rfl rfl (fun _ => rfl) List.length_append.symm (cBs_append _ _).symm (OwnB.rd (hH.own (i := 4) rfl)) (fr_eval rfl rfl) (fr_eval rfl rfl) (by simp only [List.length_append, List.length_cons, List.length_nil, List.length_take]; omega)) ?_
          clear hH
          rintro y11 w17 ⟨hH, hx⟩
          replace hH : Heap (newN w) w w17 [oRow c32 65 1 y1 ks, oRow c32 65 1 yh ((blocks st0 (padded b) ((padded b).length / 64)).list), oB yv (padded b), oB y11 (((out (blocks st0 (padded b) ((padded b).length / 64))).take (4 * k)) ++ [UInt8.ofNat ((List.getD (St.list (blocks st0 (padded b) ((padded b).length / 64))) k 0) / 2 ^ 24), UInt8.ofNat ((List.getD (St.list (blocks st0 (padded b) ((padded b).length / 64))) k 0) / 2 ^ 16), UInt8.ofNat ((List.getD (St.list (blocks st0 (padded b) ((padded b).length / 64))) k 0) / 2 ^ 8), UInt8.ofNat (List.getD (St.list (blocks st0 (padded b) ((padded b).length / 64))) k 0)]), oB y10 [UInt8.ofNat ((List.getD (St.list (blocks st0 (padded b) ((padded b).length / 64))) k 0) / 2 ^ 24), UInt8.ofNat ((List.getD (St.list (blocks st0 (padded b) ((padded b).length / 64))) k 0) / 2 ^ 16), UInt8.ofNat ((List.getD (St.list (blocks st0 (padded b) ((padded b).length / 64))) k 0) / 2 ^ 8), UInt8.ofNat (List.getD (St.list (blocks st0 (padded b) ((padded b).length / 64))) k 0)]] := hH
          replace hH : Heap (newN w) w w17 [oRow c32 65 1 y1 ks, oRow c32 65 1 yh ((blocks st0 (padded b) ((padded b).length / 64)).list), oB yv (padded b), oB y11 ((out (blocks st0 (padded b) ((padded b).length / 64))).take (4 * (k + 1))), oB y10 [UInt8.ofNat ((List.getD (St.list (blocks st0 (padded b) ((padded b).length / 64))) k 0) / 2 ^ 24), UInt8.ofNat ((List.getD (St.list (blocks st0 (padded b) ((padded b).length / 64))) k 0) / 2 ^ 16), UInt8.ofNat ((List.getD (St.list (blocks st0 (padded b) ((padded b).length / 64))) k 0) / 2 ^ 8), UInt8.ofNat (List.getD (St.list (blocks st0 (padded b) ((padded b).length / 64))) k 0)]] := by have e : ((out (blocks st0 (padded b) ((padded b).length / 64))).take (4 * k)) ++ [UInt8.ofNat ((List.getD (St.list (blocks st0 (padded b) ((padded b).length / 64))) k 0) / 2 ^ 24), UInt8.ofNat ((List.getD (St.list (blocks st0 (padded b) ((padded b).length / 64))) k 0) / 2 ^ 16), UInt8.ofNat ((List.getD (St.list (blocks st0 (padded b) ((padded b).length / 64))) k 0) / 2 ^ 8), UInt8.ofNat (List.getD (St.list (blocks st0 (padded b) ((padded b).length / 64))) k 0)] = (out (blocks st0 (padded b) ((padded b).length / 64))).take (4 * (k + 1)) := out_step _ (by omega); rw [e] at hH; exact hH
          clear hx
          refine lf_val (v := y11) (wantAll rfl) (rv_assign rfl (fr_eval rfl rfl)) ?_
          refine lf_nil ?_
          refine blk_n ?_
          refine then_n ?_
          replace hH : Heap (newN w) w w17 [oRow c32 65 1 y1 ks, oRow c32 65 1 yh ((blocks st0 (padded b) ((padded b).length / 64)).list), oB yv (padded b), oB y11 ((out (blocks st0 (padded b) ((padded b).length / 64))).take (4 * (k + 1)))] := hH.drop (.cons_cons _ (.cons_cons _ (.cons_cons _ (.cons_cons _ (.cons _ .slnil)))))
          refine wp_gen (fun F' => F' 0 = v ∧ F' 2 = .slice none 0 0 ∧ F' 3 = y1 ∧ F' 4 = yh ∧ F' 5 = yv ∧ F' 6 = .int .u64 ((b.length * 8 : Nat) : Int) ∧ F' 7 = .int .i64 ((0 : Int) - 1) ∧ F' 8 = .int .i64 ((64 * j : Nat) : Int) ∧ F' 9 = y11 ∧ F' 10 = .int .i64 ((k : Nat) : Int) ∧ F' 22 = .bool false ∧ F' 31 = .bool false ∧ F' 45 = .bool false ∧ F' 57 = .bool true) ⟨e0, e2, e3, e4, e5, e6, e7, e8, rfl, e10, e22, e31, e45, e57⟩ ?_
          clear e0 e2 e3 e4 e5 e6 e7 e8 e9 e10 e22 e31 e45 e57
          clear F
          rintro F ⟨e0, e2, e3, e4, e5, e6, e7, e8, e9, e10, e22, e31, e45, e57⟩
          refine wp_regionF ?_
          refine lf_val (v := .int .i64 ((k : Nat) : Int)) (wantAll rfl) (rv_move rfl (fr_eval rfl e10)) ?_
          refine lf_val (v := .int .i64 ((k + 1 : Nat) : Int)) (wantAll rfl) (rv_add rfl (fr_eval rfl rfl) rfl (wrap_i64 (by omega) (by omega) (by omega))) ?_
          refine lf_val (v := .int .i64 ((k + 1 : Nat) : Int)) (wantAll rfl) (rv_assign rfl (fr_eval rfl rfl)) ?_
          refine lf_nil ?_
          refine then_n ?_
          exact ⟨_, _, (by omega), rfl, k + 1, _, rfl, (by omega), e0, e2, e3, e4, e5, e6, e7, e8, e9, rfl, e22, e31, e45, hH⟩
        · refine lf_val (v := .bool false) (wantAll rfl) (rv_lss rfl (fr_eval rfl rfl) rfl (decide_eq_false (by omega))) ?_
          refine lf_nil ?_
          refine then_n ?_
          refine wp_gen (fun F' => F' 0 = v ∧ F' 2 = .slice none 0 0 ∧ F' 3 = y1 ∧ F' 4 = yh ∧ F' 5 = yv ∧ F' 6 = .int .u64 ((b.length * 8 : Nat) : Int) ∧ F' 7 = .int .i64 ((0 : Int) - 1) ∧ F' 8 = .int .i64 ((64 * j : Nat) : Int) ∧ F' 9 = yo ∧ F' 10 = .int .i64 ((k : Nat) : Int) ∧ F' 22 = .bool false ∧ F' 31 = .bool false ∧ F' 45 = .bool false ∧ F' 57 = .bool false) ⟨e0, e2, e3, e4, e5, e6, e7, e8, e9, e10, e22, e31, e45, rfl⟩ ?_
          clear e0 e2 e3 e4 e5 e6 e7 e8 e9 e10 e22 e31 e45
          clear F
          rintro F ⟨e0, e2, e3, e4, e5, e6, e7, e8, e9, e10, e22, e31, e45, e57⟩
          refine wp_cond_false (fr_eval rfl e57) ?_
          refine wp_exit ?_
          refine then_exit ?_
          refine then_exit ?_
          refine blk_exit ?_
          refine then_n ?_
          refine wp_seq ?_
          obtain rfl : k = 8 := by omega
          replace hH : Heap (newN w) w w13 [oRow c32 65 1 y1 ks, oRow c32 65 1 yh ((blocks st0 (padded b) ((padded b).length / 64)).list), oB yv (padded b), oB yo (sum b)] := by have e : (out (blocks st0 (padded b) ((padded b).length / 64))).take (4 * 8) = sum b := rfl; rw [← e]; exact hH
          refine wp_regionF ?_
          refine lf_val (v := yo) (wantAll rfl) (rv_move rfl (fr_eval rfl e9)) ?_
          refine lf_val (v := yo) (wantAll rfl) (rv_assign rfl (fr_eval rfl rfl)) ?_
          refine lf_nil ?_
          refine then_n ?_
          refine wp_gen (fun F' => F' 0 = v ∧ F' 2 = yo ∧ F' 3 = y1 ∧ F' 4 = yh ∧ F' 5 = yv ∧ F' 6 = .int .u64 ((b.length * 8 : Nat) : Int) ∧ F' 7 = .int .i64 ((0 : Int) - 1) ∧ F' 8 = .int .i64 ((64 * j : Nat) : Int) ∧ F' 9 = yo ∧ F' 10 = .int .i64 ((8 : Nat) : Int) ∧ F' 22 = .bool false ∧ F' 31 = .bool false ∧ F' 45 = .bool false ∧ F' 57 = .bool false) ⟨e0, rfl, e3, e4, e5, e6, e7, e8, e9, e10, e22, e31, e45, e57⟩ ?_
          clear e0 e2 e3 e4 e5 e6 e7 e8 e9 e10 e22 e31 e45 e57
          clear F
          rintro F ⟨e0, e2, e3, e4, e5, e6, e7, e8, e9, e10, e22, e31, e45, e57⟩
          refine wp_ret ?_
          exact bodyPost_ret (v := yo) (res1 rfl (ro_tmp rfl e2)) rfl (⟨⟨_, rfl, hH.own (i := 3) rfl, hH.ge (i := 3) rfl⟩, hH.done⟩)
  · refine lf_val (v := .bool true) (wantAll rfl) (rv_neq rfl (fr_eval rfl rfl) rfl (decide_eq_false (by omega))) ?_
    refine lf_nil ?_
    refine then_n ?_
    refine wp_gen (fun F' => F' 0 = v ∧ F' 2 = .slice none 0 0 ∧ F' 3 = y1 ∧ F' 4 = y2 ∧ F' 5 = yv ∧ F' 22 = .bool true) ⟨e0, e2, e3, e4, e5, rfl⟩ ?_
    clear e0 e2 e3 e4 e5
    clear F
    rintro F ⟨e0, e2, e3, e4, e5, e22⟩
    refine wp_cond_true (fr_eval rfl e22) ?_
    refine wp_skip ?_
    refine then_n ?_
    refine wp_block ?_
    refine wp_regionF ?_
    refine lf_val (v := yv) (wantAll rfl) (rv_move rfl (fr_eval rfl e5)) ?_
    refine lf_ex (wantAll rfl) (hx_lits hH Try.stB (n := 1) (nm := List.length [0]) [(.const (cB 0))] (vs := [(cB 0)]) (cs := cBs [0]) rfl (evc rfl evn) (cBs_one [0]) rfl (by decide) rfl rfl) ?_
    clear hH
    rintro y12 w18 ⟨hH, hx⟩
    replace hH : Heap (newN w) w w18 [oRow c32 65 1 y1 ks, oRow c32 65 1 y2 [1779033703, 3144134277, 1013904242, 2773480762, 1359893119, 2600822924, 528734635, 1541459225], oB yv (b ++ [128] ++ List.replicate q 0), oB y12 [0]] := hH
    clear hx
    refine lf_ex (wantAll rfl) (hx_append hH Try.stB (i := 2) (xs' := cBs ((b ++ [128] ++ List.replicate q 0) ++ [0])) (nm := ((b ++ [128] ++ List.replicate q 0) ++ [0]).length) rfl rfl (fun _ => rfl) List.length_append.symm (cBs_append _ _).symm (OwnB.rd (hH.own (i := 3) rfl)) (fr_eval rfl rfl) (fr_eval rfl rfl) (by simp only [List.length_append, List.length_cons, List.length_nil, List.length_replicate]; omega)) ?_
    clear hH
    rintro y13 w19 ⟨hH, hx⟩
    replace hH : Heap (newN w) w w19 [oRow c32 65 1 y1 ks, oRow c32 65 1 y2 [1779033703, 3144134277, 1013904242, 2773480762, 1359893119, 2600822924, 528734635, 1541459225], oB y13 ((b ++ [128] ++ List.replicate q 0) ++ [0]), oB y12 [0]] := hH
    replace hH : Heap (newN w) w w19 [oRow c32 65 1 y1 ks, oRow c32 65 1 y2 [1779033703, 3144134277, 1013904242, 2773480762, 1359893119, 2600822924, 528734635, 1541459225], oB y13 (b ++ [128] ++ List.replicate (q + 1) 0), oB y12 [0]] := by have e : (b ++ [128] ++ List.replicate q 0) ++ [0] = b ++ [128] ++ List.replicate (q + 1) 0 := pad_step b q; rw [e] at hH; exact hH
    clear hx
    refine lf_val (v := y13) (wantAll rfl) (rv_assign rfl (fr_eval rfl rfl)) ?_
    refine lf_nil ?_
    refine blk_n ?_
    refine then_n ?_
    replace hH : Heap (newN w) w w19 [oRow c32 65 1 y1 ks, oRow c32 65 1 y2 [1779033703, 3144134277, 1013904242, 2773480762, 1359893119, 2600822924, 528734635, 1541459225], oB y13 (b ++ [128] ++ List.replicate (q + 1) 0)] := hH.drop (.cons_cons _ (.cons_cons _ (.cons_cons _ (.cons _ .slnil))))
    exact ⟨_, _, (by have := zeros_more pq0 (by assumption); omega), rfl, q + 1, _, rfl, zeros_more pq0 (by assumption), e0, e2, e3, e4, rfl, hH⟩

set_option maxRecDepth 100000 in
set_option maxHeartbeats 4000000 in
theorem join02_calls (tag : UInt8) (ls : List (List UInt8)) (hb : (flat ls).length ≤ 900000) (vs : List Value) (v : Value) (w : World) (hp0 : Rd w 1 v ls.length vs) (ha0 : All2 (RdB w) vs ls) :
    Calls Try.prog 21 #[cB tag, v] w fun e'' w' => (∃ v', e'' = .returned v' ∧ OwnB w' v' (join tag ls) ∧ ∀ k, v'.ownBlock = some k → w.heap.size ≤ k) ∧ Ext w w' := by
  refine calls_fr (args := [cB tag, v]) (n := 43) Try.func21 rfl rfl (show 2 ≤ 43 by decide) ?_
  have hp := StabP.of hp0 ha0
  have hlm := Rd.max hp0
  have hH : Heap (newN w) w w [] := Heap.fresh
  refine wp_seq ?_
  refine wp_gen (fun F' => F' 0 = cB tag ∧ F' 1 = v) ⟨rfl, rfl⟩ ?_
  rintro F ⟨e0, e1⟩
  refine wp_regionF ?_
  refine lf_val (v := .slice none 0 0) (wantAll rfl) (rv_assign rfl rfl) ?_
  refine lf_nil ?_
  refine then_n ?_
  refine wp_seq ?_
  refine wp_gen (fun F' => F' 0 = cB tag ∧ F' 1 = v ∧ F' 4 = .slice none 0 0) ⟨e0, e1, rfl⟩ ?_
  clear e0 e1
  clear F
  rintro F ⟨e0, e1, e4⟩
  refine wp_regionF ?_
  refine lf_val (v := cB tag) (wantAll rfl) (rv_move rfl (fr_eval rfl e0)) ?_
  refine lf_ex (wantAll rfl) (hx_lits hH Try.stB (n := 1) (nm := List.length [tag]) [(.tmp 8)] (vs := [(cB tag)]) (cs := cBs [tag]) rfl (evc (fr_eval rfl rfl) evn) (cBs_one [tag]) rfl (by decide) rfl rfl) ?_
  clear hH
  rintro y1 w1 ⟨hH, hx⟩
  replace hH : Heap (newN w) w w1 [oB y1 [tag]] := hH
  clear hx
  refine lf_val (v := y1) (wantAll rfl) (rv_assign rfl (fr_eval rfl rfl)) ?_
  refine lf_nil ?_
  refine then_n ?_
  refine wp_seq ?_
  refine wp_seq ?_
  refine wp_gen (fun F' => F' 0 = cB tag ∧ F' 1 = v ∧ F' 4 = .slice none 0 0 ∧ F' 5 = y1) ⟨e0, e1, e4, rfl⟩ ?_
  clear e0 e1 e4
  clear F
  rintro F ⟨e0, e1, e4, e5⟩
  refine wp_regionF ?_
  refine lf_val (v := .int .i64 0) (wantAll rfl) (rv_assign rfl rfl) ?_
  refine lf_nil ?_
  refine then_n ?_
  refine wp_block ?_
  replace hH : Heap (newN w) w w1 [oB y1 (tag :: flat (ls.take 0))] := by have e : [tag] = tag :: flat (ls.take 0) := rfl; rw [← e]; exact hH
  refine wp_gen (fun F' => F' 0 = cB tag ∧ F' 1 = v ∧ F' 4 = .slice none 0 0 ∧ F' 5 = y1 ∧ F' 6 = .int .i64 0) ⟨e0, e1, e4, e5, rfl⟩ ?_
  clear e0 e1 e4 e5
  clear F
  rintro F ⟨e0, e1, e4, e5, e6⟩
  refine wp_loopF (fun m F wr => ∃ i : Nat, ∃ yv : Value, m = ls.length - i ∧ i ≤ ls.length ∧ F 0 = cB tag ∧ F 1 = v ∧ F 4 = .slice none 0 0 ∧ F 5 = yv ∧ F 6 = .int .i64 ((i : Nat) : Int) ∧ Heap (newN w) w wr [oB yv (tag :: flat (ls.take i))]) ⟨0, _, rfl, Nat.zero_le _, e0, e1, e4, e5, e6, hH⟩ ?_
  clear e0 e1 e4 e5 e6 hH
  clear F
  rintro m F w2 ⟨i, yv, rfl, pi0, e0, e1, e4, e5, e6, hH⟩
  refine wp_seq ?_
  refine wp_seq ?_
  refine wp_regionF ?_
  refine lf_val (v := .int .i64 ((i : Nat) : Int)) (wantAll rfl) (rv_move rfl (fr_eval rfl e6)) ?_
  refine lf_val (v := v) (wantAll rfl) (rv_move rfl (fr_eval rfl e1)) ?_
  refine lf_val (v := .int .i64 ((ls.length : Nat) : Int)) (wantAll rfl) (rv_len rfl (fr_eval rfl rfl) (hp.row.rd _ hH.chg) Try.underlying32) ?_
  by_cases hc1 : i < ls.length
  · refine lf_val (v := .bool true) (wantAll rfl) (rv_lss rfl (fr_eval rfl rfl) (fr_eval rfl rfl) (decide_eq_true (by omega))) ?_
    refine lf_nil ?_
    refine then_n ?_
    refine wp_gen (fun F' => F' 0 = cB tag ∧ F' 1 = v ∧ F' 4 = .slice none 0 0 ∧ F' 5 = yv ∧ F' 6 = .int .i64 ((i : Nat) : Int) ∧ F' 13 = .bool true) ⟨e0, e1, e4, e5, e6, rfl⟩ ?_
    clear e0 e1 e4 e5 e6
    clear F
    rintro F ⟨e0, e1, e4, e5, e6, e13⟩
    refine wp_cond_true (fr_eval rfl e13) ?_
    refine wp_skip ?_
    refine then_n ?_
    refine wp_seq ?_
    refine wp_block ?_
    refine wp_seq ?_
    have hfn := flat_next (ls := ls) (i := i) (by omega)
    have hfl := flat_len2 (ls := ls) (i := i) (by omega) (by omega) hfn
    refine wp_regionF ?_
    refine lf_val (v := v) (wantAll rfl) (rv_move rfl (fr_eval rfl e1)) ?_
    refine lf_val (v := .int .i64 ((i : Nat) : Int)) (wantAll rfl) (rv_move rfl (fr_eval rfl e6)) ?_
    refine lf_val (v := .pointer (some (elemA v (i * 1)))) (wantAll rfl) (rv_index rfl (fr_eval rfl rfl) (fr_eval rfl rfl) (hp.row.rd _ hH.chg) (by omega) Try.underlying32 Try.sz22 (by decide)) ?_
    refine lf_val (v := List.getD vs i (.slice none 0 0)) (wantAll rfl) (rv_loadCell rfl (fr_eval rfl rfl) (Nat.mul_one _) (hp.row.rd _ hH.chg) (hp.each i (by omega)).1 Try.underlying22 rfl Try.sz22) ?_
    refine lf_val (v := .int .i64 ((List.length (List.getD ls i []) : Nat) : Int)) (wantAll rfl) (rv_len rfl (fr_eval rfl rfl) (RdB.rn ((hp.each i (by omega)).2.rd _ hH.chg) rfl) Try.underlying22) ?_
    refine lf_val (v := .int .i64 ((List.length (List.getD ls i []) : Nat) : Int)) (wantAll rfl) (rv_assign rfl (fr_eval rfl rfl)) ?_
    refine lf_nil ?_
    refine then_n ?_
    refine wp_seq ?_
    refine wp_gen (fun F' => F' 0 = cB tag ∧ F' 1 = v ∧ F' 4 = .slice none 0 0 ∧ F' 5 = yv ∧ F' 6 = .int .i64 ((i : Nat) : Int) ∧ F' 7 = .int .i64 ((List.length (List.getD ls i []) : Nat) : Int) ∧ F' 13 = .bool true) ⟨e0, e1, e4, e5, e6, rfl, e13⟩ ?_
    clear e0 e1 e4 e5 e6 e13
    clear F
    rintro F ⟨e0, e1, e4, e5, e6, e7, e13⟩
    refine wp_regionF ?_
    refine lf_val (v := yv) (wantAll rfl) (rv_move rfl (fr_eval rfl e5)) ?_
    refine lf_val (v := .int .i64 ((List.length (List.getD ls i []) : Nat) : Int)) (wantAll rfl) (rv_move rfl (fr_eval rfl e7)) ?_
    refine lf_val (v := .int .i64 (((List.length (List.getD ls i [])) / 16777216 : Nat) : Int)) (wantAll rfl) (rv_quo rfl (fr_eval rfl rfl) rfl (by decide) (quo_nat (n := 16777216) (by omega))) ?_
    refine lf_val (v := cB (UInt8.ofNat ((List.length (List.getD ls i [])) / 16777216))) (wantAll rfl) (rv_conv rfl (fr_eval rfl rfl) Try.underlying3 Try.underlying5 (wrap_u8 (byte_nat _))) ?_
    refine lf_val (v := .int .i64 ((List.length (List.getD ls i []) : Nat) : Int)) (wantAll rfl) (rv_move rfl (fr_eval rfl e7)) ?_
    refine lf_val (v := .int .i64 (((List.length (List.getD ls i [])) / 65536 : Nat) : Int)) (wantAll rfl) (rv_quo rfl (fr_eval rfl rfl) rfl (by decide) (quo_nat (n := 65536) (by omega))) ?_
    refine lf_val (v := cB (UInt8.ofNat ((List.length (List.getD ls i [])) / 65536))) (wantAll rfl) (rv_conv rfl (fr_eval rfl rfl) Try.underlying3 Try.underlying5 (wrap_u8 (byte_nat _))) ?_
    refine lf_val (v := .int .i64 ((List.length (List.getD ls i []) : Nat) : Int)) (wantAll rfl) (rv_move rfl (fr_eval rfl e7)) ?_
    refine lf_val (v := .int .i64 (((List.length (List.getD ls i [])) / 256 : Nat) : Int)) (wantAll rfl) (rv_quo rfl (fr_eval rfl rfl) rfl (by decide) (quo_nat (n := 256) (by omega))) ?_
    refine lf_val (v := cB (UInt8.ofNat ((List.length (List.getD ls i [])) / 256))) (wantAll rfl) (rv_conv rfl (fr_eval rfl rfl) Try.underlying3 Try.underlying5 (wrap_u8 (byte_nat _))) ?_
    refine lf_val (v := .int .i64 ((List.length (List.getD ls i []) : Nat) : Int)) (wantAll rfl) (rv_move rfl (fr_eval rfl e7)) ?_
    refine lf_val (v := cB (UInt8.ofNat (List.length (List.getD ls i [])))) (wantAll rfl) (rv_conv rfl (fr_eval rfl rfl) Try.underlying3 Try.underlying5 (wrap_u8 (byte_nat _))) ?_
    refine lf_ex (wantAll rfl) (hx_lits hH Try.stB (n := 4) (nm := List.length [UInt8.ofNat ((List.length (List.getD ls i [])) / 16777216), UInt8.ofNat ((List.length (List.getD ls i [])) / 65536), UInt8.ofNat ((List.length (List.getD ls i [])) / 256), UInt8.ofNat (List.length (List.getD ls i []))]) [(.tmp 24), (.tmp 27), (.tmp 30), (.tmp 32)] (vs := [(cB (UInt8.ofNat ((List.length (List.getD ls i [])) / 16777216))), (cB (UInt8.ofNat ((List.length (List.getD ls i [])) / 65536))), (cB (UInt8.ofNat ((List.length (List.getD ls i [])) / 256))), (cB (UInt8.ofNat (List.length (List.getD ls i []))))]) (cs := cBs [UInt8.ofNat ((List.length (List.getD ls i [])) / 16777216), UInt8.ofNat ((List.length (List.getD ls i [])) / 65536), UInt8.ofNat ((List.length (List.getD ls i [])) / 256), UInt8.ofNat (List.length (List.getD ls i []))]) rfl (evc (fr_eval rfl rfl) (evc (fr_eval rfl rfl) (evc (fr_eval rfl rfl) (evc (fr_eval rfl rfl) evn)))) (cBs_one [UInt8.ofNat ((List.length (List.getD ls i [])) / 16777216), UInt8.ofNat ((List.length (List.getD ls i [])) / 65536), UInt8.ofNat ((List.length (List.getD ls i [])) / 256), UInt8.ofNat (List.length (List.getD ls i []))]) rfl (by decide) rfl rfl) ?_
    clear hH
    rintro y2 w3 ⟨hH, hx⟩
    replace hH : Heap (newN w) w w3 [oB yv (tag :: flat (ls.take i)), oB y2 ([UInt8.ofNat ((List.length (List.getD ls i [])) / 16777216), UInt8.ofNat ((List.length (List.getD ls i [])) / 65536), UInt8.ofNat ((List.length (List.getD ls i [])) / 256), UInt8.ofNat (List.length (List.getD ls i []))])] := hH
    clear hx
    refine lf_ex (wantAll rfl) (hx_append hH Try.stB (i := 0) (xs' := cBs ((tag :: flat (ls.take i)) ++ ([UInt8.ofNat ((List.length (List.getD ls i [])) / 16777216), UInt8.ofNat ((List.length (List.getD ls i [])) / 65536), UInt8.ofNat ((List.length (List.getD ls i [])) / 256), UInt8.ofNat (List.length (List.getD ls i []))]))) (nm := ((tag :: flat (ls.take i)) ++ ([UInt8.ofNat ((List.length (List.getD ls i [])) / 16777216), UInt8.ofNat ((List.length (List.getD ls i [])) / 65536), UInt8.ofNat ((List.length (List.getD ls i [])) / 256), UInt8.ofNat (List.length (List.getD ls i []))])).length) rfl rfl (fun _ => rfl) List.length_append.symm (cBs_append _ _).symm (OwnB.rd (hH.own (i := 1) rfl)) (fr_eval rfl rfl) (fr_eval rfl rfl) (by simp only [List.length_append, List.length_cons, List.length_nil, be4_length]; omega)) ?_
    clear hH
    rintro y3 w4 ⟨hH, hx⟩
    replace hH : Heap (newN w) w w4 [oB y3 ((tag :: flat (ls.take i)) ++ ([UInt8.ofNat ((List.length (List.getD ls i [])) / 16777216), UInt8.ofNat ((List.length (List.getD ls i [])) / 65536), UInt8.ofNat ((List.length (List.getD ls i [])) / 256), UInt8.ofNat (List.length (List.getD ls i []))])), oB y2 ([UInt8.ofNat ((List.length (List.getD ls i [])) / 16777216), UInt8.ofNat ((List.length (List.getD ls i [])) / 65536), UInt8.ofNat ((List.length (List.getD ls i [])) / 256), UInt8.ofNat (List.length (List.getD ls i []))])] := hH
    replace hH : Heap (newN w) w w4 [oB y3 (tag :: flat (ls.take i) ++ be4 (List.getD ls i []).length), oB y2 ([UInt8.ofNat ((List.length (List.getD ls i [])) / 16777216), UInt8.ofNat ((List.length (List.getD ls i [])) / 65536), UInt8.ofNat ((List.length (List.getD ls i [])) / 256), UInt8.ofNat (List.length (List.getD ls i []))])] := by have e : (tag :: flat (ls.take i)) ++ ([UInt8.ofNat ((List.length (List.getD ls i [])) / 16777216), UInt8.ofNat ((List.length (List.getD ls i [])) / 65536), UInt8.ofNat ((List.length (List.getD ls i [])) / 256), UInt8.ofNat (List.length (List.getD ls i []))]) = tag :: flat (ls.take i) ++ be4 (List.getD ls i []).length := rfl; rw [e] at hH; exact hH
    clear hx
    refine lf_val (v := y3) (wantAll rfl) (rv_assign rfl (fr_eval rfl rfl)) ?_
    refine lf_nil ?_
    refine then_n ?_
    replace hH : Heap (newN w) w w4 [oB y3 (tag :: flat (ls.take i) ++ be4 (List.getD ls i []).length)] := hH.drop (.cons_cons _ (.cons _ .slnil))
    refine wp_gen (fun F' => F' 0 = cB tag ∧ F' 1 = v ∧ F' 4 = .slice none 0 0 ∧ F' 5 = y3 ∧ F' 6 = .int .i64 ((i : Nat) : Int) ∧ F' 7 = .int .i64 ((List.length (List.getD ls i []) : Nat) : Int) ∧ F' 13 = .bool true) ⟨e0, e1, e4, rfl, e6, e7, e13⟩ ?_
    clear e0 e1 e4 e5 e6 e7 e13
    clear F
    rintro F ⟨e0, e1, e4, e5, e6, e7, e13⟩
    refine wp_regionF ?_
    refine lf_val (v := y3) (wantAll rfl) (rv_move rfl (fr_eval rfl e5)) ?_
    refine lf_val (v := v) (wantAll rfl) (rv_move rfl (fr_eval rfl e1)) ?_
    refine lf_val (v := .int .i64 ((i : Nat) : Int)) (wantAll rfl) (rv_move rfl (fr_eval rfl e6)) ?_
    refine lf_val (v := .pointer (some (elemA v (i * 1)))) (wantAll rfl) (rv_index rfl (fr_eval rfl rfl) (fr_eval rfl rfl) (hp.row.rd _ hH.chg) (by omega) Try.underlying32 Try.sz22 (by decide)) ?_
    refine lf_val (v := List.getD vs i (.slice none 0 0)) (wantAll rfl) (rv_loadCell rfl (fr_eval rfl rfl) (Nat.mul_one _) (hp.row.rd _ hH.chg) (hp.each i (by omega)).1 Try.underlying22 rfl Try.sz22) ?_
    refine lf_ex (wantAll rfl) (hx_append hH Try.stB (i := 0) (xs' := cBs ((tag :: flat (ls.take i) ++ be4 (List.getD ls i []).length) ++ (List.getD ls i []))) (nm := ((tag :: flat (ls.take i) ++ be4 (List.getD ls i []).length) ++ (List.getD ls i [])).length) rfl rfl (fun _ => rfl) List.length_append.symm (cBs_append _ _).symm ((hp.each i (by omega)).2.rd _ hH.chg) (fr_eval rfl rfl) (fr_eval rfl rfl) (by simp only [List.length_append, List.length_cons, List.length_nil, be4_length]; omega)) ?_
    clear hH
    rintro y4 w5 ⟨hH, hx⟩
    replace hH : Heap (newN w) w w5 [oB y4 ((tag :: flat (ls.take i) ++ be4 (List.getD ls i []).length) ++ (List.getD ls i []))] := hH
    replace hH : Heap (newN w) w w5 [oB y4 (tag :: flat (ls.take (i + 1)))] := by have e : (tag :: flat (ls.take i) ++ be4 (List.getD ls i []).length) ++ (List.getD ls i []) = tag :: flat (ls.take (i + 1)) := (by rw [hfn]; simp); rw [e] at hH; exact hH
    clear hx
    refine lf_val (v := y4) (wantAll rfl) (rv_assign rfl (fr_eval rfl rfl)) ?_
    refine lf_nil ?_
    refine blk_n ?_
    refine then_n ?_
    refine wp_gen (fun F' => F' 0 = cB tag ∧ F' 1 = v ∧ F' 4 = .slice none 0 0 ∧ F' 5 = y4 ∧ F' 6 = .int .i64 ((i : Nat) : Int) ∧ F' 7 = .int .i64 ((List.length (List.getD ls i []) : Nat) : Int) ∧ F' 13 = .bool true) ⟨e0, e1, e4, rfl, e6, e7, e13⟩ ?_
    clear e0 e1 e4 e5 e6 e7 e13
    clear F
    rintro F ⟨e0, e1, e4, e5, e6, e7, e13⟩
    refine wp_regionF ?_
    refine lf_val (v := .int .i64 ((i : Nat) : Int)) (wantAll rfl) (rv_move rfl (fr_eval rfl e6)) ?_
    refine lf_val (v := .int .i64 ((i + 1 : Nat) : Int)) (wantAll rfl) (rv_add rfl (fr_eval rfl rfl) rfl (wrap_i64 (by omega) (by omega) (by omega))) ?_
    refine lf_val (v := .int .i64 ((i + 1 : Nat) : Int)) (wantAll rfl) (rv_assign rfl (fr_eval rfl rfl)) ?_
    refine lf_nil ?_
    refine then_n ?_
    exact ⟨_, _, (by omega), rfl, i + 1, _, rfl, (by omega), e0, e1, e4, e5, rfl, hH⟩
  · refine lf_val (v := .bool false) (wantAll rfl) (rv_lss rfl (fr_eval rfl rfl) (fr_eval rfl rfl) (decide_eq_false (by omega))) ?_
    refine lf_nil ?_
    refine then_n ?_
    refine wp_gen (fun F' => F' 0 = cB tag ∧ F' 1 = v ∧ F' 4 = .slice none 0 0 ∧ F' 5 = yv ∧ F' 6 = .int .i64 ((i : Nat) : Int) ∧ F' 13 = .bool false) ⟨e0, e1, e4, e5, e6, rfl⟩ ?_
    clear e0 e1 e4 e5 e6
    clear F
    rintro F ⟨e0, e1, e4, e5, e6, e13⟩
    refine wp_cond_false (fr_eval rfl e13) ?_
    refine wp_exit ?_
    refine then_exit ?_
    refine then_exit ?_
    refine blk_exit ?_
    refine then_n ?_
    refine wp_seq ?_
    obtain rfl : i = ls.length := by omega
    replace hH : Heap (newN w) w w2 [oB yv (tag :: flat ls)] := by have e : tag :: flat (ls.take ls.length) = tag :: flat ls := (by rw [List.take_length]); rw [← e]; exact hH
    refine wp_regionF ?_
    refine lf_val (v := yv) (wantAll rfl) (rv_move rfl (fr_eval rfl e5)) ?_
    refine lf_call (wantAll rfl) (rv_call (args := [yv]) rfl (evc (fr_eval rfl rfl) evn) Try.call18) (of02_calls (tag :: flat ls) (by simp only [List.length_cons]; omega) _ _ (OwnB.rd (hH.own (i := 0) rfl))) ?_
    rintro _ w6 ⟨⟨y5, rfl, ho, hg⟩, hx⟩
    refine ⟨_, rfl, ?_⟩
    replace hH : Heap (newN w) w w6 [oB yv (tag :: flat ls), oB y5 (sum (tag :: flat ls))] := hH.addOwn hx hg ho
    clear ho hg
    clear hx
    refine lf_val (v := y5) (wantAll rfl) (rv_assign rfl (fr_eval rfl rfl)) ?_
    refine lf_nil ?_
    refine then_n ?_
    refine wp_gen (fun F' => F' 0 = cB tag ∧ F' 1 = v ∧ F' 4 = y5 ∧ F' 5 = yv ∧ F' 6 = .int .i64 ((ls.length : Nat) : Int) ∧ F' 13 = .bool false) ⟨e0, e1, rfl, e5, e6, e13⟩ ?_
    clear e0 e1 e4 e5 e6 e13
    clear F
    rintro F ⟨e0, e1, e4, e5, e6, e13⟩
    refine wp_ret ?_
    exact bodyPost_ret (v := y5) (res1 rfl (ro_tmp rfl e4)) rfl (⟨⟨_, rfl, hH.own (i := 1) rfl, hH.ge (i := 1) rfl⟩, hH.done⟩)

end Go.Proofs.Yticaefnpapppoaa
