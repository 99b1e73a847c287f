/- Contracts of lamport: a secret, what is shown of it, a text's digest, a bit of it; a key, a signature, what it leads to. -/
import Derived.Test.YtokddhidcjkadaaByt
import Derived.Test.YtokddhidcjkadaaShaJoin
import Derived.Test.YtokddhidcjkadaaOpen
import Derived.Test.YtokddhidcjkadaaMem
import Derived.Test.YtokddhidcjkadaaEq
import Derived.Test.YtokddhidcjkadaaTypes
import Derived.Test.YtokddhidcjkadaaLampSpec
namespace Go.Proofs.Ytokddhidcjkadaa
open Go.RowKit Go.Bz Go.Bz.Sha Go.Bz.Lamp
theorem flat_le1 {l : List UInt8} (h : l.length ≤ 1099511620000) : (flat [l]).length ≤ 1099511627000 := by simp [flat]; omega
theorem flat_le2 {l m : List UInt8} (h : l.length ≤ 549755810000) (h2 : m.length ≤ 549755810000) : (flat [l, m]).length ≤ 1099511627000 := by simp [flat]; omega
theorem RdP.nil {w : World} : RdP w (.slice none 0 0) [] := ⟨[], Rd.nil, .nil⟩

set_option maxRecDepth 100000 in
set_option maxHeartbeats 4000000 in
theorem secretL_calls (s : List UInt8) (hs : s.length = 32) (n b : Int) (w : World) :
    Calls Try.prog 70 #[.agg (cBs s).toArray, .int .i64 n, .int .i64 b] w fun e w' => e = .returned (.agg (cBs (sec s n (bitsOf .and .i64 b 1))).toArray) ∧ Ext w w' := by
  refine calls_fr (args := [.agg (cBs s).toArray, .int .i64 n, .int .i64 b]) (n := 16) Try.func70 rfl rfl (show 3 ≤ 16 by decide) ?_
  have hC : Ext w w := Chg.refl _ _
  refine wp_seq ?_
  refine wp_gen (fun F' => F' 0 = .agg (cBs s).toArray ∧ F' 1 = .int .i64 n ∧ F' 2 = .int .i64 b) ⟨rfl, rfl, rfl⟩ ?_
  rintro F ⟨e0, e1, e2⟩
  refine wp_regionF ?_
  refine lf_ex (wantAll rfl) (ex_boxG 23 (.tmp 0) (cs := cBs s) (fr_eval rfl e0) (by rfl) rfl) ?_
  rintro _ w1 ⟨g1, hg_g1, rfl, h_g1, hx⟩
  have ge_g1 : w.heap.size ≤ g1 := by have := hC.size; omega
  replace hC := hC.trans hx
  clear hx hg_g1
  refine lf_ex (wantAll rfl) (ex_allocG 23 (z := .agg (cBs (List.replicate 32 0)).toArray) (n := 32) (cs := cBs (List.replicate 32 0)) (by kernel_rfl) (by rfl) rfl) ?_
  rintro _ w2 ⟨g2, hg_g2, rfl, h_g2, hx⟩
  have ge_g2 : w.heap.size ≤ g2 := by have := hC.size; omega
  have lt_g1_g2 : g1 < g2 := by have := Blk.lt h_g1; omega
  replace hC := hC.trans hx
  replace h_g1 := Blk.ext h_g1 hx
  clear hx hg_g2
  refine lf_nil ?_
  refine then_n ?_
  refine wp_seq ?_
  refine wp_gen (fun F' => F' 0 = .agg (cBs s).toArray ∧ F' 1 = .int .i64 n ∧ F' 2 = .int .i64 b ∧ F' 3 = .pointer (some ⟨g1, 0, none⟩) ∧ F' 6 = .pointer (some ⟨g2, 0, none⟩)) ⟨e0, e1, e2, rfl, rfl⟩ ?_
  clear e0 e1 e2
  clear F
  rintro F ⟨e0, e1, e2, e3, e6⟩
  refine wp_regionF ?_
  refine lf_val (v := .slice (some ⟨g1, 0, none⟩) 32 32) (wantAll rfl) (rv_sliceArr rfl (fr_eval rfl e3) Try.underlying23 Try.sz5 (by decide)) ?_
  refine lf_val (v := .int .i64 n) (wantAll rfl) (rv_move rfl (fr_eval rfl e1)) ?_
  refine lf_val (v := cB (ofI n)) (wantAll rfl) (rv_conv rfl (fr_eval rfl rfl) Try.underlying3 Try.underlying5 (wrap_u8 (byte_int _))) ?_
  refine lf_val (v := .int .i64 b) (wantAll rfl) (rv_move rfl (fr_eval rfl e2)) ?_
  refine lf_val (v := .int .i64 (bitsOf .and .i64 b 1)) (wantAll rfl) (rv_and rfl (fr_eval rfl rfl) rfl rfl) ?_
  refine lf_val (v := cB (ofI (bitsOf .and .i64 b 1))) (wantAll rfl) (rv_conv rfl (fr_eval rfl rfl) Try.underlying3 Try.underlying5 (wrap_u8 (byte_int _))) ?_
  refine lf_ex (wantAll rfl) (ex_lits (n := 2) Try.stB [(.tmp 9), (.tmp 12)] (vs := [cB (ofI n), cB (ofI (bitsOf .and .i64 b 1))]) (evc (fr_eval rfl rfl) (evc (fr_eval rfl rfl) evn)) (cBs_one [ofI n, ofI (bitsOf .and .i64 b 1)]) rfl (by decide) rfl) ?_
  rintro _ w3 ⟨g3, hg_g3, rfl, h_g3, hx⟩
  replace h_g3 : Blk w3 g3 (cBs [ofI n, ofI (bitsOf .and .i64 b 1)]) 5 := h_g3
  have ge_g3 : w.heap.size ≤ g3 := by have := hC.size; omega
  have lt_g1_g3 : g1 < g3 := by have := Blk.lt h_g1; omega
  have lt_g2_g3 : g2 < g3 := by have := Blk.lt h_g2; omega
  replace hC := hC.trans hx
  replace h_g1 := Blk.ext h_g1 hx
  replace h_g2 := Blk.ext h_g2 hx
  clear hx hg_g3
  refine lf_ex (wantAll rfl) (ex_lits (n := 2) Try.stBB [(.tmp 7), (.tmp 13)] (vs := [.slice (some ⟨g1, 0, none⟩) 32 32, .slice (some ⟨g3, 0, none⟩) 2 2]) (evc (fr_eval rfl rfl) (evc (fr_eval rfl rfl) evn)) (ones_cons (Rd.oneV (rdB_blkn h_g1 hs (by decide))) (ones_cons (Rd.oneV (rdB_blkn h_g3 rfl (by decide))) ones_nil)) rfl (by decide) rfl) ?_
  rintro _ w4 ⟨g4, hg_g4, rfl, h_g4, hx⟩
  have ge_g4 : w.heap.size ≤ g4 := by have := hC.size; omega
  have lt_g1_g4 : g1 < g4 := by have := Blk.lt h_g1; omega
  have lt_g2_g4 : g2 < g4 := by have := Blk.lt h_g2; omega
  have lt_g3_g4 : g3 < g4 := by have := Blk.lt h_g3; omega
  replace hC := hC.trans hx
  replace h_g1 := Blk.ext h_g1 hx
  replace h_g2 := Blk.ext h_g2 hx
  replace h_g3 := Blk.ext h_g3 hx
  clear hx hg_g4
  refine lf_call (wantAll rfl) (rv_call (args := [cB 11, .slice (some ⟨g4, 0, none⟩) 2 2]) rfl (evc rfl (evc (fr_eval rfl rfl) evn)) Try.call45) (join_calls 11 [s, [ofI n, ofI (bitsOf .and .i64 b 1)]] (flat_le2 (Nat.le_trans (show List.length s ≤ 32 from (Nat.le_of_eq hs)) (by decide)) (Nat.le_trans (show List.length [ofI n, ofI (bitsOf .and .i64 b 1)] ≤ 2 from (Nat.le_of_eq rfl)) (by decide))) _ _ (rdP_blk h_g4 (.cons (rdB_blkn h_g1 hs (by decide)) (.cons (rdB_blkn h_g3 rfl (by decide)) .nil)) rfl (by decide))) ?_
  rintro _ w5 ⟨rfl, hx⟩
  refine ⟨_, rfl, ?_⟩
  replace hC := hC.trans hx
  replace h_g1 := Blk.ext h_g1 hx
  replace h_g2 := Blk.ext h_g2 hx
  replace h_g3 := Blk.ext h_g3 hx
  replace h_g4 := Blk.ext h_g4 hx
  clear hx
  refine lf_sk (wantAll rfl) (ex_storeW (cs := cBs (join 11 [s, [ofI n, ofI (bitsOf .and .i64 b 1)]])) rfl h_g2 (fr_eval rfl e6) (fr_eval rfl rfl) (sz_len Try.sz23 (cBs_len (join_length _ _))) (((cBs_len (List.length_replicate ..))).trans ((cBs_len (join_length _ _))).symm) (cBs_one _)) ?_
  rintro w6 ⟨h_g2', hx⟩
  replace h_g2' : Blk w6 g2 (cBs (join 11 [s, [ofI n, ofI (bitsOf .and .i64 b 1)]])) 23 := h_g2'
  replace h_g1 := Blk.keep h_g1 hx (fun e => by have e : g1 = g2 := e; omega)
  replace h_g3 := Blk.keep h_g3 hx (fun e => by have e : g3 = g2 := e; omega)
  replace h_g4 := Blk.keep h_g4 hx (fun e => by have e : g4 = g2 := e; omega)
  replace hC := Chg.then hC hx (fun i hi e => absurd hi (by have e : i = g2 := e; omega))
  replace h_g2 := h_g2'
  clear h_g2'
  clear hx
  refine lf_nil ?_
  refine then_n ?_
  clear h_g3 h_g4
  refine wp_gen (fun F' => F' 0 = .agg (cBs s).toArray ∧ F' 1 = .int .i64 n ∧ F' 2 = .int .i64 b ∧ F' 3 = .pointer (some ⟨g1, 0, none⟩) ∧ F' 6 = .pointer (some ⟨g2, 0, none⟩)) ⟨e0, e1, e2, e3, e6⟩ ?_
  clear e0 e1 e2 e3 e6
  clear F
  rintro F ⟨e0, e1, e2, e3, e6⟩
  refine wp_ret ?_
  exact bodyPost_ret (v := (.agg (cBs (join 11 [s, [ofI n, ofI (bitsOf .and .i64 b 1)]])).toArray)) (res1 rfl (ro_cell rfl e6 h_g2 Try.underlying23 rfl (sz_len Try.sz23 (cBs_len (join_length _ _))))) rfl (⟨rfl, hC⟩)

set_option maxRecDepth 100000 in
set_option maxHeartbeats 4000000 in
theorem shown_calls (s : List UInt8) (hs : s.length = 32) (w : World) :
    Calls Try.prog 71 #[.agg (cBs s).toArray] w fun e w' => e = .returned (.agg (cBs (shw s)).toArray) ∧ Ext w w' := by
  refine calls_fr (args := [.agg (cBs s).toArray]) (n := 6) Try.func71 rfl rfl (show 1 ≤ 6 by decide) ?_
  have hC : Ext w w := Chg.refl _ _
  refine wp_seq ?_
  refine wp_gen (fun F' => F' 0 = .agg (cBs s).toArray) rfl ?_
  rintro F e0
  refine wp_regionF ?_
  refine lf_ex (wantAll rfl) (ex_boxG 23 (.tmp 0) (cs := cBs s) (fr_eval rfl e0) (by rfl) rfl) ?_
  rintro _ w1 ⟨g1, hg_g1, rfl, h_g1, hx⟩
  have ge_g1 : w.heap.size ≤ g1 := by have := hC.size; omega
  replace hC := hC.trans hx
  clear hx hg_g1
  refine lf_ex (wantAll rfl) (ex_allocG 23 (z := .agg (cBs (List.replicate 32 0)).toArray) (n := 32) (cs := cBs (List.replicate 32 0)) (by kernel_rfl) (by rfl) rfl) ?_
  rintro _ w2 ⟨g2, hg_g2, rfl, h_g2, hx⟩
  have ge_g2 : w.heap.size ≤ g2 := by have := hC.size; omega
  have lt_g1_g2 : g1 < g2 := by have := Blk.lt h_g1; omega
  replace hC := hC.trans hx
  replace h_g1 := Blk.ext h_g1 hx
  clear hx hg_g2
  refine lf_nil ?_
  refine then_n ?_
  refine wp_seq ?_
  refine wp_gen (fun F' => F' 0 = .agg (cBs s).toArray ∧ F' 1 = .pointer (some ⟨g1, 0, none⟩) ∧ F' 2 = .pointer (some ⟨g2, 0, none⟩)) ⟨e0, rfl, rfl⟩ ?_
  clear e0
  clear F
  rintro F ⟨e0, e1, e2⟩
  refine wp_regionF ?_
  refine lf_val (v := .slice (some ⟨g1, 0, none⟩) 32 32) (wantAll rfl) (rv_sliceArr rfl (fr_eval rfl e1) Try.underlying23 Try.sz5 (by decide)) ?_
  refine lf_ex (wantAll rfl) (ex_lits (n := 1) Try.stBB [(.tmp 3)] (vs := [.slice (some ⟨g1, 0, none⟩) 32 32]) (evc (fr_eval rfl rfl) evn) (ones_cons (Rd.oneV (rdB_blkn h_g1 hs (by decide))) ones_nil) rfl (by decide) rfl) ?_
  rintro _ w3 ⟨g3, hg_g3, rfl, h_g3, hx⟩
  have ge_g3 : w.heap.size ≤ g3 := by have := hC.size; omega
  have lt_g1_g3 : g1 < g3 := by have := Blk.lt h_g1; omega
  have lt_g2_g3 : g2 < g3 := by have := Blk.lt h_g2; omega
  replace hC := hC.trans hx
  replace h_g1 := Blk.ext h_g1 hx
  replace h_g2 := Blk.ext h_g2 hx
  clear hx hg_g3
  refine lf_call (wantAll rfl) (rv_call (args := [cB 12, .slice (some ⟨g3, 0, none⟩) 1 1]) rfl (evc rfl (evc (fr_eval rfl rfl) evn)) Try.call45) (join_calls 12 [s] (flat_le1 (Nat.le_trans (show List.length s ≤ 32 from (Nat.le_of_eq hs)) (by decide))) _ _ (rdP_blk h_g3 (.cons (rdB_blkn h_g1 hs (by decide)) .nil) rfl (by decide))) ?_
  rintro _ w4 ⟨rfl, hx⟩
  refine ⟨_, rfl, ?_⟩
  replace hC := hC.trans hx
  replace h_g1 := Blk.ext h_g1 hx
  replace h_g2 := Blk.ext h_g2 hx
  replace h_g3 := Blk.ext h_g3 hx
  clear hx
  refine lf_sk (wantAll rfl) (ex_storeW (cs := cBs (join 12 [s])) rfl h_g2 (fr_eval rfl e2) (fr_eval rfl rfl) (sz_len Try.sz23 (cBs_len (join_length _ _))) (((cBs_len (List.length_replicate ..))).trans ((cBs_len (join_length _ _))).symm) (cBs_one _)) ?_
  rintro w5 ⟨h_g2', hx⟩
  replace h_g2' : Blk w5 g2 (cBs (join 12 [s])) 23 := h_g2'
  replace h_g1 := Blk.keep h_g1 hx (fun e => by have e : g1 = g2 := e; omega)
  replace h_g3 := Blk.keep h_g3 hx (fun e => by have e : g3 = g2 := e; omega)
  replace hC := Chg.then hC hx (fun i hi e => absurd hi (by have e : i = g2 := e; omega))
  replace h_g2 := h_g2'
  clear h_g2'
  clear hx
  refine lf_nil ?_
  refine then_n ?_
  clear h_g3
  refine wp_gen (fun F' => F' 0 = .agg (cBs s).toArray ∧ F' 1 = .pointer (some ⟨g1, 0, none⟩) ∧ F' 2 = .pointer (some ⟨g2, 0, none⟩)) ⟨e0, e1, e2⟩ ?_
  clear e0 e1 e2
  clear F
  rintro F ⟨e0, e1, e2⟩
  refine wp_ret ?_
  exact bodyPost_ret (v := (.agg (cBs (join 12 [s])).toArray)) (res1 rfl (ro_cell rfl e2 h_g2 Try.underlying23 rfl (sz_len Try.sz23 (cBs_len (join_length _ _))))) rfl (⟨rfl, hC⟩)

set_option maxRecDepth 100000 in
set_option maxHeartbeats 4000000 in
theorem digest_calls (b : List UInt8) (hb : b.length ≤ 1000000) (v : Value) (w : World) (hr0 : RdB w v b) :
    Calls Try.prog 68 #[v] w fun e w' => e = .returned (.agg (cBs (join 14 [b])).toArray) ∧ Ext w w' := by
  refine calls_fr (args := [v]) (n := 6) Try.func68 rfl rfl (show 1 ≤ 6 by decide) ?_
  have hC : Ext w w := Chg.refl _ _
  have hr := hr0
  refine wp_seq ?_
  refine wp_gen (fun F' => F' 0 = v) rfl ?_
  rintro F e0
  refine wp_regionF ?_
  refine lf_ex (wantAll rfl) (ex_allocG 23 (z := .agg (cBs (List.replicate 32 0)).toArray) (n := 32) (cs := cBs (List.replicate 32 0)) (by kernel_rfl) (by rfl) rfl) ?_
  rintro _ w1 ⟨g1, hg_g1, rfl, h_g1, hx⟩
  have ge_g1 : w.heap.size ≤ g1 := by have := hC.size; omega
  replace hC := hC.trans hx
  replace hr := Rd.ext hr hx
  clear hx hg_g1
  refine lf_nil ?_
  refine then_n ?_
  refine wp_seq ?_
  refine wp_gen (fun F' => F' 0 = v ∧ F' 2 = .pointer (some ⟨g1, 0, none⟩)) ⟨e0, rfl⟩ ?_
  clear e0
  clear F
  rintro F ⟨e0, e2⟩
  refine wp_regionF ?_
  refine lf_val (v := v) (wantAll rfl) (rv_move rfl (fr_eval rfl e0)) ?_
  refine lf_ex (wantAll rfl) (ex_lits (n := 1) Try.stBB [(.tmp 3)] (vs := [v]) (evc (fr_eval rfl rfl) evn) (ones_cons (Rd.oneV hr) ones_nil) rfl (by decide) rfl) ?_
  rintro _ w2 ⟨g2, hg_g2, rfl, h_g2, hx⟩
  have ge_g2 : w.heap.size ≤ g2 := by have := hC.size; omega
  have lt_g1_g2 : g1 < g2 := by have := Blk.lt h_g1; omega
  replace hC := hC.trans hx
  replace hr := Rd.ext hr hx
  replace h_g1 := Blk.ext h_g1 hx
  clear hx hg_g2
  refine lf_call (wantAll rfl) (rv_call (args := [cB 14, .slice (some ⟨g2, 0, none⟩) 1 1]) rfl (evc rfl (evc (fr_eval rfl rfl) evn)) Try.call45) (join_calls 14 [b] (flat_le1 (Nat.le_trans (show List.length b ≤ 1000000 from hb) (by decide))) _ _ (rdP_blk h_g2 (.cons hr .nil) rfl (by decide))) ?_
  rintro _ w3 ⟨rfl, hx⟩
  refine ⟨_, rfl, ?_⟩
  replace hC := hC.trans hx
  replace hr := Rd.ext hr hx
  replace h_g1 := Blk.ext h_g1 hx
  replace h_g2 := Blk.ext h_g2 hx
  clear hx
  refine lf_sk (wantAll rfl) (ex_storeW (cs := cBs (join 14 [b])) rfl h_g1 (fr_eval rfl e2) (fr_eval rfl rfl) (sz_len Try.sz23 (cBs_len (join_length _ _))) (((cBs_len (List.length_replicate ..))).trans ((cBs_len (join_length _ _))).symm) (cBs_one _)) ?_
  rintro w4 ⟨h_g1', hx⟩
  replace h_g1' : Blk w4 g1 (cBs (join 14 [b])) 23 := h_g1'
  replace hr := Rd.keep hr hx (fun b hb h0 e => by have e : b = g1 := e; have := Rd.lt hr0 h0 b hb; omega)
  replace h_g2 := Blk.keep h_g2 hx (fun e => by have e : g2 = g1 := e; omega)
  replace hC := Chg.then hC hx (fun i hi e => absurd hi (by have e : i = g1 := e; omega))
  replace h_g1 := h_g1'
  clear h_g1'
  clear hx
  refine lf_nil ?_
  refine then_n ?_
  clear h_g2
  refine wp_gen (fun F' => F' 0 = v ∧ F' 2 = .pointer (some ⟨g1, 0, none⟩)) ⟨e0, e2⟩ ?_
  clear e0 e2
  clear F
  rintro F ⟨e0, e2⟩
  refine wp_ret ?_
  exact bodyPost_ret (v := (.agg (cBs (join 14 [b])).toArray)) (res1 rfl (ro_cell rfl e2 h_g1 Try.underlying23 rfl (sz_len Try.sz23 (cBs_len (join_length _ _))))) rfl (⟨rfl, hC⟩)

theorem secretN_calls (s : List UInt8) (hs : s.length = 32) (n b : Nat) (hb : b < 2) (w : World) : Calls Try.prog 70 #[.agg (cBs s).toArray, .int .i64 ((n : Nat) : Int), .int .i64 ((b : Nat) : Int)] w fun e w' => e = .returned (.agg (cBs (secN s n b)).toArray) ∧ Ext w w' := by
  have h := secretL_calls s hs (n : Int) (b : Int) w
  rw [and1_nat b (by omega), Nat.mod_eq_of_lt hb] at h
  exact h

set_option maxRecDepth 100000 in
set_option maxHeartbeats 4000000 in
theorem bit_calls (s : List UInt8) (hs : s.length = 32) (i : Nat) (hi : i < 64) (w : World) :
    Calls Try.prog 69 #[.agg (cBs s).toArray, .int .i64 ((i : Nat) : Int)] w fun e w' => e = .returned (.int .i64 ((bitN s i : Nat) : Int)) ∧ Ext w w' := by
  refine calls_fr (args := [.agg (cBs s).toArray, .int .i64 ((i : Nat) : Int)]) (n := 15) Try.func69 rfl rfl (show 2 ≤ 15 by decide) ?_
  have hC : Ext w w := Chg.refl _ _
  refine wp_seq ?_
  refine wp_gen (fun F' => F' 0 = .agg (cBs s).toArray ∧ F' 1 = .int .i64 ((i : Nat) : Int)) ⟨rfl, rfl⟩ ?_
  rintro F ⟨e0, e1⟩
  refine wp_regionF ?_
  refine lf_ex (wantAll rfl) (ex_boxG 23 (.tmp 0) (cs := cBs s) (fr_eval rfl e0) (by rfl) rfl) ?_
  rintro _ w1 ⟨g1, hg_g1, rfl, h_g1, hx⟩
  have ge_g1 : w.heap.size ≤ g1 := by have := hC.size; omega
  replace hC := hC.trans hx
  clear hx hg_g1
  refine lf_val (v := .int .i64 0) (wantAll rfl) (rv_assign rfl rfl) ?_
  refine lf_nil ?_
  refine then_n ?_
  refine wp_seq ?_
  refine wp_gen (fun F' => F' 0 = .agg (cBs s).toArray ∧ F' 1 = .int .i64 ((i : Nat) : Int) ∧ F' 2 = .pointer (some ⟨g1, 0, none⟩) ∧ F' 4 = .int .i64 0) ⟨e0, e1, rfl, rfl⟩ ?_
  clear e0 e1
  clear F
  rintro F ⟨e0, e1, e2, e4⟩
  refine wp_regionF ?_
  refine lf_val (v := .int .i64 ((i : Nat) : Int)) (wantAll rfl) (rv_move rfl (fr_eval rfl e1)) ?_
  refine lf_val (v := .int .i64 ((i / 8 : Nat) : Int)) (wantAll rfl) (rv_quo rfl (fr_eval rfl rfl) rfl (by decide) (quo_nat (n := 8) (by omega))) ?_
  refine lf_val (v := .pointer (some ⟨g1, 0 + (i / 8) * 1, none⟩)) (wantAll rfl) (rv_indexArr rfl (fr_eval rfl e2) (fr_eval rfl rfl) (by omega) Try.underlying23 Try.sz5) ?_
  refine lf_val (v := cB (List.getD s (i / 8) 0)) (wantAll rfl) (rv_load1 rfl h_g1 (cell_b (k := i / 8) (by omega) (by rw [hs]; omega)) (fr_eval rfl rfl) Try.underlying5 rfl Try.sz5) ?_
  refine lf_val (v := .int .i64 ((i : Nat) : Int)) (wantAll rfl) (rv_move rfl (fr_eval rfl e1)) ?_
  refine lf_val (v := .int .i64 ((i % 8 : Nat) : Int)) (wantAll rfl) (rv_rem rfl (fr_eval rfl rfl) rfl (by decide) (rem_nat _ 8)) ?_
  refine lf_val (v := .int .i64 ((7 - (i % 8) : Nat) : Int)) (wantAll rfl) (rv_sub rfl rfl (fr_eval rfl rfl) (wrap_i64 (by omega) (by omega) (by omega))) ?_
  refine lf_val (v := .int .u8 ((((List.getD s (i / 8) 0).toNat) / 2 ^ (7 - (i % 8)) : Nat) : Int)) (wantAll rfl) (rv_shr rfl (fr_eval rfl rfl) (fr_eval rfl rfl) (shr_nat (7 - (i % 8)) (by show _ ≤ 8; omega))) ?_
  refine lf_val (v := .int .i64 ((((List.getD s (i / 8) 0).toNat) / 2 ^ (7 - (i % 8)) : Nat) : Int)) (wantAll rfl) (rv_conv rfl (fr_eval rfl rfl) Try.underlying5 Try.underlying3 (wrap_nat (shr_le _ _))) ?_
  refine lf_val (v := .int .i64 (((((List.getD s (i / 8) 0).toNat) / 2 ^ (7 - (i % 8))) % 2 : Nat) : Int)) (wantAll rfl) (rv_and rfl (fr_eval rfl rfl) rfl (and1_nat _ (shr_le _ _))) ?_
  refine lf_val (v := .int .i64 (((((List.getD s (i / 8) 0).toNat) / 2 ^ (7 - (i % 8))) % 2 : Nat) : Int)) (wantAll rfl) (rv_assign rfl (fr_eval rfl rfl)) ?_
  refine lf_nil ?_
  refine then_n ?_
  refine wp_gen (fun F' => F' 0 = .agg (cBs s).toArray ∧ F' 1 = .int .i64 ((i : Nat) : Int) ∧ F' 2 = .pointer (some ⟨g1, 0, none⟩) ∧ F' 4 = .int .i64 (((((List.getD s (i / 8) 0).toNat) / 2 ^ (7 - (i % 8))) % 2 : Nat) : Int)) ⟨e0, e1, e2, rfl⟩ ?_
  clear e0 e1 e2 e4
  clear F
  rintro F ⟨e0, e1, e2, e4⟩
  refine wp_ret ?_
  exact bodyPost_ret (v := (.int .i64 (((((List.getD s (i / 8) 0).toNat) / 2 ^ (7 - (i % 8))) % 2 : Nat) : Int))) (res1 rfl (ro_tmp rfl e4)) rfl (⟨rfl, hC⟩)

set_option maxRecDepth 100000 in
set_option maxHeartbeats 4000000 in
theorem public_calls (s : List UInt8) (hs : s.length = 32) (w : World) :
    Calls Try.prog 67 #[.agg (cBs s).toArray] w fun e w' => e = .returned (.agg (cBs (pub s)).toArray) ∧ Ext w w' := by
  refine calls_fr (args := [.agg (cBs s).toArray]) (n := 27) Try.func67 rfl rfl (show 1 ≤ 27 by decide) ?_
  have hC : Ext w w := Chg.refl _ _
  refine wp_seq ?_
  refine wp_gen (fun F' => F' 0 = .agg (cBs s).toArray) rfl ?_
  rintro F e0
  refine wp_regionF ?_
  refine lf_ex (wantAll rfl) (ex_boxG 23 (.tmp 0) (cs := cBs s) (fr_eval rfl e0) (by rfl) rfl) ?_
  rintro _ w1 ⟨g1, hg_g1, rfl, h_g1, hx⟩
  have ge_g1 : w.heap.size ≤ g1 := by have := hC.size; omega
  replace hC := hC.trans hx
  clear hx hg_g1
  refine lf_ex (wantAll rfl) (ex_allocG 23 (z := .agg (cBs (List.replicate 32 0)).toArray) (n := 32) (cs := cBs (List.replicate 32 0)) (by kernel_rfl) (by rfl) rfl) ?_
  rintro _ w2 ⟨g2, hg_g2, rfl, h_g2, hx⟩
  have ge_g2 : w.heap.size ≤ g2 := by have := hC.size; omega
  have lt_g1_g2 : g1 < g2 := by have := Blk.lt h_g1; omega
  replace hC := hC.trans hx
  replace h_g1 := Blk.ext h_g1 hx
  clear hx hg_g2
  refine lf_nil ?_
  refine then_n ?_
  refine wp_seq ?_
  refine wp_gen (fun F' => F' 0 = .agg (cBs s).toArray ∧ F' 1 = .pointer (some ⟨g1, 0, none⟩) ∧ F' 2 = .pointer (some ⟨g2, 0, none⟩)) ⟨e0, rfl, rfl⟩ ?_
  clear e0
  clear F
  rintro F ⟨e0, e1, e2⟩
  refine wp_regionF ?_
  refine lf_ex (wantAll rfl) (ex_make (n := 0) (c := 4096) (z1 := .int .u8 0) Try.stB (.const (.int .i64 0)) (.const (.int .i64 4096)) (show _ = Value.int _ ((0 : Nat) : Int) from rfl) (show _ = Value.int _ ((4096 : Nat) : Int) from rfl) (by omega) (by omega) rfl rfl) ?_
  rintro _ w3 ⟨g3, hg_g3, rfl, h_g3, hx⟩
  have ho1 := ownB_make h_g3 (by omega)
  have ge_ho1 : ∀ k, (Value.slice (some ⟨g3, 0, none⟩) 0 4096).ownBlock = some k → w.heap.size ≤ k := fun k hk => by simp only [Value.ownBlock, Option.some.injEq] at hk; have := hC.size; omega
  replace hC := hC.trans hx
  replace h_g1 := Blk.ext h_g1 hx
  replace h_g2 := Blk.ext h_g2 hx
  clear hx hg_g3 h_g3
  refine lf_val (v := .slice (some ⟨g3, 0, none⟩) 0 4096) (wantAll rfl) (rv_assign rfl (fr_eval rfl rfl)) ?_
  refine lf_nil ?_
  refine then_n ?_
  refine wp_seq ?_
  refine wp_seq ?_
  refine wp_gen (fun F' => F' 0 = .agg (cBs s).toArray ∧ F' 1 = .pointer (some ⟨g1, 0, none⟩) ∧ F' 2 = .pointer (some ⟨g2, 0, none⟩) ∧ F' 3 = .slice (some ⟨g3, 0, none⟩) 0 4096) ⟨e0, e1, e2, rfl⟩ ?_
  clear e0 e1 e2
  clear F
  rintro F ⟨e0, e1, e2, e3⟩
  refine wp_regionF ?_
  refine lf_val (v := .int .i64 0) (wantAll rfl) (rv_move rfl rfl) ?_
  refine lf_nil ?_
  refine then_n ?_
  refine wp_block ?_
  refine wp_gen (fun F' => F' 0 = .agg (cBs s).toArray ∧ F' 1 = .pointer (some ⟨g1, 0, none⟩) ∧ F' 2 = .pointer (some ⟨g2, 0, none⟩) ∧ F' 3 = .slice (some ⟨g3, 0, none⟩) 0 4096 ∧ F' 8 = .int .i64 0) ⟨e0, e1, e2, e3, rfl⟩ ?_
  clear e0 e1 e2 e3
  clear F
  rintro F ⟨e0, e1, e2, e3, e8⟩
  refine wp_loopF (fun m F wr => ∃ k : Nat, ∃ v : Value, m = 64 - k ∧ k ≤ 64 ∧ F 0 = .agg (cBs s).toArray ∧ F 1 = .pointer (some ⟨g1, 0, none⟩) ∧ F 2 = .pointer (some ⟨g2, 0, none⟩) ∧ F 3 = v ∧ F 8 = .int .i64 ((k : Nat) : Int) ∧ Blk wr g1 (cBs s) 23 ∧ Blk wr g2 (cBs (List.replicate 32 0)) 23 ∧ OwnB wr v (pubs s (2 * k)) ∧ (∀ k, (v : Value).ownBlock = some k → w.heap.size ≤ k) ∧ Ext w wr) ⟨0, _, rfl, Nat.zero_le _, e0, e1, e2, e3, e8, h_g1, h_g2, ho1, ge_ho1, hC⟩ ?_
  clear e0 e1 e2 e3 e8 h_g1 h_g2 ho1 ge_ho1 hC
  clear F
  rintro m F w4 ⟨k, v, rfl, pk0, e0, e1, e2, e3, e8, h_g1, h_g2, ho1, ge_ho1, hC⟩
  refine wp_seq ?_
  refine wp_regionF ?_
  by_cases hc1 : k < 64
  · refine lf_val (v := .bool true) (wantAll rfl) (rv_lss rfl (fr_eval rfl e8) rfl (decide_eq_true (by omega))) ?_
    refine lf_nil ?_
    refine then_n ?_
    refine wp_seq ?_
    refine wp_gen (fun F' => F' 0 = .agg (cBs s).toArray ∧ F' 1 = .pointer (some ⟨g1, 0, none⟩) ∧ F' 2 = .pointer (some ⟨g2, 0, none⟩) ∧ F' 3 = v ∧ F' 8 = .int .i64 ((k : Nat) : Int) ∧ F' 9 = .bool true) ⟨e0, e1, e2, e3, e8, rfl⟩ ?_
    clear e0 e1 e2 e3 e8
    clear F
    rintro F ⟨e0, e1, e2, e3, e8, e9⟩
    refine wp_cond_true (fr_eval rfl e9) ?_
    refine wp_skip ?_
    refine then_n ?_
    refine wp_seq ?_
    refine wp_block ?_
    refine wp_seq ?_
    refine wp_regionF ?_
    refine lf_val (v := .int .i64 ((k : Nat) : Int)) (wantAll rfl) (rv_move rfl (fr_eval rfl e8)) ?_
    refine lf_val (v := .int .i64 ((k : Nat) : Int)) (wantAll rfl) (rv_assign rfl (fr_eval rfl rfl)) ?_
    refine lf_nil ?_
    refine then_n ?_
    refine wp_seq ?_
    refine wp_gen (fun F' => F' 0 = .agg (cBs s).toArray ∧ F' 1 = .pointer (some ⟨g1, 0, none⟩) ∧ F' 2 = .pointer (some ⟨g2, 0, none⟩) ∧ F' 3 = v ∧ F' 4 = .int .i64 ((k : Nat) : Int) ∧ F' 8 = .int .i64 ((k : Nat) : Int) ∧ F' 9 = .bool true) ⟨e0, e1, e2, e3, rfl, e8, e9⟩ ?_
    clear e0 e1 e2 e3 e8 e9
    clear F
    rintro F ⟨e0, e1, e2, e3, e4, e8, e9⟩
    refine wp_regionF ?_
    refine lf_val (v := .int .i64 0) (wantAll rfl) (rv_move rfl rfl) ?_
    refine lf_nil ?_
    refine then_n ?_
    refine wp_block ?_
    refine wp_gen (fun F' => F' 0 = .agg (cBs s).toArray ∧ F' 1 = .pointer (some ⟨g1, 0, none⟩) ∧ F' 2 = .pointer (some ⟨g2, 0, none⟩) ∧ F' 3 = v ∧ F' 4 = .int .i64 ((k : Nat) : Int) ∧ F' 8 = .int .i64 ((k : Nat) : Int) ∧ F' 9 = .bool true ∧ F' 11 = .int .i64 0) ⟨e0, e1, e2, e3, e4, e8, e9, rfl⟩ ?_
    clear e0 e1 e2 e3 e4 e8 e9
    clear F
    rintro F ⟨e0, e1, e2, e3, e4, e8, e9, e11⟩
    refine wp_loopF (fun m F wr => ∃ j : Nat, ∃ v' : Value, m = 2 - j ∧ j ≤ 2 ∧ F 0 = .agg (cBs s).toArray ∧ F 1 = .pointer (some ⟨g1, 0, none⟩) ∧ F 2 = .pointer (some ⟨g2, 0, none⟩) ∧ F 3 = v' ∧ F 4 = .int .i64 ((k : Nat) : Int) ∧ F 8 = .int .i64 ((k : Nat) : Int) ∧ F 9 = .bool true ∧ F 11 = .int .i64 ((j : Nat) : Int) ∧ Blk wr g1 (cBs s) 23 ∧ Blk wr g2 (cBs (List.replicate 32 0)) 23 ∧ OwnB wr v' (pubs s (2 * k + j)) ∧ (∀ k, (v' : Value).ownBlock = some k → w.heap.size ≤ k) ∧ Ext w wr) ⟨0, _, rfl, Nat.zero_le _, e0, e1, e2, e3, e4, e8, e9, e11, h_g1, h_g2, ho1, ge_ho1, hC⟩ ?_
    clear e0 e1 e2 e3 e4 e8 e9 e11 h_g1 h_g2 ho1 ge_ho1 hC
    clear F
    rintro m F w5 ⟨j, v', rfl, pj0, e0, e1, e2, e3, e4, e8, e9, e11, h_g1, h_g2, ho1, ge_ho1, hC⟩
    refine wp_seq ?_
    refine wp_regionF ?_
    by_cases hc2 : j < 2
    · refine lf_val (v := .bool true) (wantAll rfl) (rv_lss rfl (fr_eval rfl e11) rfl (decide_eq_true (by omega))) ?_
      refine lf_nil ?_
      refine then_n ?_
      refine wp_seq ?_
      refine wp_gen (fun F' => F' 0 = .agg (cBs s).toArray ∧ F' 1 = .pointer (some ⟨g1, 0, none⟩) ∧ F' 2 = .pointer (some ⟨g2, 0, none⟩) ∧ F' 3 = v' ∧ F' 4 = .int .i64 ((k : Nat) : Int) ∧ F' 8 = .int .i64 ((k : Nat) : Int) ∧ F' 9 = .bool true ∧ F' 11 = .int .i64 ((j : Nat) : Int) ∧ F' 12 = .bool true) ⟨e0, e1, e2, e3, e4, e8, e9, e11, rfl⟩ ?_
      clear e0 e1 e2 e3 e4 e8 e9 e11
      clear F
      rintro F ⟨e0, e1, e2, e3, e4, e8, e9, e11, e12⟩
      refine wp_cond_true (fr_eval rfl e12) ?_
      refine wp_skip ?_
      refine then_n ?_
      refine wp_seq ?_
      refine wp_block ?_
      refine wp_seq ?_
      refine wp_regionF ?_
      refine lf_val (v := .int .i64 ((j : Nat) : Int)) (wantAll rfl) (rv_move rfl (fr_eval rfl e11)) ?_
      refine lf_val (v := .int .i64 ((j : Nat) : Int)) (wantAll rfl) (rv_assign rfl (fr_eval rfl rfl)) ?_
      refine lf_nil ?_
      refine then_n ?_
      refine wp_seq ?_
      refine wp_gen (fun F' => F' 0 = .agg (cBs s).toArray ∧ F' 1 = .pointer (some ⟨g1, 0, none⟩) ∧ F' 2 = .pointer (some ⟨g2, 0, none⟩) ∧ F' 3 = v' ∧ F' 4 = .int .i64 ((k : Nat) : Int) ∧ F' 5 = .int .i64 ((j : Nat) : Int) ∧ F' 8 = .int .i64 ((k : Nat) : Int) ∧ F' 9 = .bool true ∧ F' 11 = .int .i64 ((j : Nat) : Int) ∧ F' 12 = .bool true) ⟨e0, e1, e2, e3, e4, rfl, e8, e9, e11, e12⟩ ?_
      clear e0 e1 e2 e3 e4 e8 e9 e11 e12
      clear F
      rintro F ⟨e0, e1, e2, e3, e4, e5, e8, e9, e11, e12⟩
      refine wp_regionF ?_
      refine lf_val (v := .agg (cBs s).toArray) (wantAll rfl) (rv_loadW rfl h_g1 (fr_eval rfl e1) Try.underlying23 rfl (sz_len Try.sz23 (cBs_len hs))) ?_
      refine lf_val (v := .int .i64 ((k : Nat) : Int)) (wantAll rfl) (rv_move rfl (fr_eval rfl e4)) ?_
      refine lf_val (v := .int .i64 ((j : Nat) : Int)) (wantAll rfl) (rv_move rfl (fr_eval rfl e5)) ?_
      refine lf_call (wantAll rfl) (rv_call (args := [.agg (cBs s).toArray, .int .i64 ((k : Nat) : Int), .int .i64 ((j : Nat) : Int)]) rfl (evc (fr_eval rfl rfl) (evc (fr_eval rfl rfl) (evc (fr_eval rfl rfl) evn))) Try.call70) (secretN_calls s hs k j (by omega) _) ?_
      rintro _ w6 ⟨rfl, hx⟩
      refine ⟨_, rfl, ?_⟩
      replace hC := hC.trans hx
      replace h_g1 := Blk.ext h_g1 hx
      replace h_g2 := Blk.ext h_g2 hx
      replace ho1 := Own.ext ho1 hx
      clear hx
      refine lf_call (wantAll rfl) (rv_call (args := [.agg (cBs (secN s k j)).toArray]) rfl (evc (fr_eval rfl rfl) evn) Try.call71) (shown_calls (secN s k j) secN_len _) ?_
      rintro _ w7 ⟨rfl, hx⟩
      refine ⟨_, rfl, ?_⟩
      replace hC := hC.trans hx
      replace h_g1 := Blk.ext h_g1 hx
      replace h_g2 := Blk.ext h_g2 hx
      replace ho1 := Own.ext ho1 hx
      clear hx
      refine lf_ex (wantAll rfl) (ex_allocG 23 (z := .agg (cBs (List.replicate 32 0)).toArray) (n := 32) (cs := cBs (List.replicate 32 0)) (by kernel_rfl) (by rfl) rfl) ?_
      rintro _ w8 ⟨g4, hg_g4, rfl, h_g4, hx⟩
      have ge_g4 : w.heap.size ≤ g4 := by have := hC.size; omega
      have lt_g1_g4 : g1 < g4 := by have := Blk.lt h_g1; omega
      have lt_g2_g4 : g2 < g4 := by have := Blk.lt h_g2; omega
      replace hC := hC.trans hx
      replace h_g1 := Blk.ext h_g1 hx
      replace h_g2 := Blk.ext h_g2 hx
      replace ho1 := Own.ext ho1 hx
      clear hx hg_g4
      refine lf_sk (wantAll rfl) (ex_storeW (cs := cBs (shw (secN s k j))) rfl h_g4 (fr_eval rfl rfl) (fr_eval rfl rfl) (sz_len Try.sz23 (cBs_len shw_len)) (((cBs_len (List.length_replicate ..))).trans ((cBs_len shw_len)).symm) (cBs_one _)) ?_
      rintro w9 ⟨h_g4', hx⟩
      replace h_g4' : Blk w9 g4 (cBs (shw (secN s k j))) 23 := h_g4'
      replace h_g1 := Blk.keep h_g1 hx (fun e => by have e : g1 = g4 := e; omega)
      replace h_g2 := Blk.keep h_g2 hx (fun e => by have e : g2 = g4 := e; omega)
      replace ho1 := Own.keep ho1 hx (fun b hb e => (Own.neType ho1 h_g4 (by decide)) (by have e : b = g4 := e; rw [← e]; exact hb))
      replace hC := Chg.then hC hx (fun i hi e => absurd hi (by have e : i = g4 := e; omega))
      replace h_g4 := h_g4'
      clear h_g4'
      clear hx
      refine lf_nil ?_
      refine then_n ?_
      refine wp_gen (fun F' => F' 0 = .agg (cBs s).toArray ∧ F' 1 = .pointer (some ⟨g1, 0, none⟩) ∧ F' 2 = .pointer (some ⟨g2, 0, none⟩) ∧ F' 3 = v' ∧ F' 4 = .int .i64 ((k : Nat) : Int) ∧ F' 5 = .int .i64 ((j : Nat) : Int) ∧ F' 6 = .pointer (some ⟨g4, 0, none⟩) ∧ F' 8 = .int .i64 ((k : Nat) : Int) ∧ F' 9 = .bool true ∧ F' 11 = .int .i64 ((j : Nat) : Int) ∧ F' 12 = .bool true) ⟨e0, e1, e2, e3, e4, e5, rfl, e8, e9, e11, e12⟩ ?_
      clear e0 e1 e2 e3 e4 e5 e8 e9 e11 e12
      clear F
      rintro F ⟨e0, e1, e2, e3, e4, e5, e6, e8, e9, e11, e12⟩
      refine wp_regionF ?_
      refine lf_val (v := v') (wantAll rfl) (rv_move rfl (fr_eval rfl e3)) ?_
      refine lf_val (v := .slice (some ⟨g4, 0, none⟩) 32 32) (wantAll rfl) (rv_sliceArr rfl (fr_eval rfl e6) Try.underlying23 Try.sz5 (by decide)) ?_
      refine lf_ex (wantAll rfl) (ex_apB (xs := pubs s (2 * k + j)) (news := (shw (secN s k j))) (.tmp 19) (.tmp 20) ho1 (rdB_blkn h_g4 shw_len (by decide)) (by rw [pubs_len, shw_len]; omega) (fr_eval rfl rfl) (fr_eval rfl rfl) rfl) ?_
      rintro y1 w10 ⟨ho1', hg⟩
      have hx := hg.chg
      replace ho1' : OwnB w10 y1 (pubs s (2 * k + (j + 1))) := by have e := pubs_at s k j (by omega); rw [e] at ho1'; exact ho1'
      have ge_n := hg.ge (by have := hC.size; omega) ge_ho1
      replace h_g1 := Blk.keep h_g1 hx (fun e => Own.neType ho1 h_g1 (by decide) e)
      replace h_g2 := Blk.keep h_g2 hx (fun e => Own.neType ho1 h_g2 (by decide) e)
      replace h_g4 := Blk.keep h_g4 hx (fun e => Own.neType ho1 h_g4 (by decide) e)
      replace hC := Chg.then hC hx (fun i hi e => absurd hi (by have := ge_ho1 i e; omega))
      replace ge_ho1 := ge_n
      clear ge_n
      replace ho1 := ho1'
      clear ho1'
      clear hx hg
      refine lf_val (v := y1) (wantAll rfl) (rv_assign rfl (fr_eval rfl rfl)) ?_
      refine lf_nil ?_
      refine blk_n ?_
      refine then_n ?_
      refine wp_gen (fun F' => F' 0 = .agg (cBs s).toArray ∧ F' 1 = .pointer (some ⟨g1, 0, none⟩) ∧ F' 2 = .pointer (some ⟨g2, 0, none⟩) ∧ F' 3 = y1 ∧ F' 4 = .int .i64 ((k : Nat) : Int) ∧ F' 5 = .int .i64 ((j : Nat) : Int) ∧ F' 6 = .pointer (some ⟨g4, 0, none⟩) ∧ F' 8 = .int .i64 ((k : Nat) : Int) ∧ F' 9 = .bool true ∧ F' 11 = .int .i64 ((j : Nat) : Int) ∧ F' 12 = .bool true) ⟨e0, e1, e2, rfl, e4, e5, e6, e8, e9, e11, e12⟩ ?_
      clear e0 e1 e2 e3 e4 e5 e6 e8 e9 e11 e12
      clear F
      rintro F ⟨e0, e1, e2, e3, e4, e5, e6, e8, e9, e11, e12⟩
      refine wp_regionF ?_
      refine lf_val (v := .int .i64 ((j + 1 : Nat) : Int)) (wantAll rfl) (rv_add rfl (fr_eval rfl e11) rfl (wrap_i64 (by omega) (by omega) (by omega))) ?_
      refine lf_val (v := .int .i64 ((j + 1 : Nat) : Int)) (wantAll rfl) (rv_move rfl (fr_eval rfl rfl)) ?_
      refine lf_nil ?_
      refine then_n ?_
      exact ⟨_, _, (by omega), rfl, j + 1, _, rfl, (by omega), e0, e1, e2, e3, e4, e8, e9, rfl, h_g1, h_g2, ho1, ge_ho1, hC⟩
    · refine lf_val (v := .bool false) (wantAll rfl) (rv_lss rfl (fr_eval rfl e11) rfl (decide_eq_false (by omega))) ?_
      refine lf_nil ?_
      refine then_n ?_
      refine wp_seq ?_
      refine wp_gen (fun F' => F' 0 = .agg (cBs s).toArray ∧ F' 1 = .pointer (some ⟨g1, 0, none⟩) ∧ F' 2 = .pointer (some ⟨g2, 0, none⟩) ∧ F' 3 = v' ∧ F' 4 = .int .i64 ((k : Nat) : Int) ∧ F' 8 = .int .i64 ((k : Nat) : Int) ∧ F' 9 = .bool true ∧ F' 11 = .int .i64 ((j : Nat) : Int) ∧ F' 12 = .bool false) ⟨e0, e1, e2, e3, e4, e8, e9, e11, rfl⟩ ?_
      clear e0 e1 e2 e3 e4 e8 e9 e11
      clear F
      rintro F ⟨e0, e1, e2, e3, e4, e8, e9, e11, e12⟩
      refine wp_cond_false (fr_eval rfl e12) ?_
      refine wp_exit ?_
      refine then_exit ?_
      refine then_exit ?_
      refine blk_exit ?_
      refine blk_n ?_
      refine then_n ?_
      refine wp_regionF ?_
      refine lf_val (v := .int .i64 ((k + 1 : Nat) : Int)) (wantAll rfl) (rv_add rfl (fr_eval rfl e8) rfl (wrap_i64 (by omega) (by omega) (by omega))) ?_
      refine lf_val (v := .int .i64 ((k + 1 : Nat) : Int)) (wantAll rfl) (rv_move rfl (fr_eval rfl rfl)) ?_
      refine lf_nil ?_
      refine then_n ?_
      obtain rfl : j = 2 := by omega
      exact ⟨_, _, (by omega), rfl, k + 1, _, rfl, (by omega), e0, e1, e2, e3, rfl, h_g1, h_g2, ho1, ge_ho1, hC⟩
  · refine lf_val (v := .bool false) (wantAll rfl) (rv_lss rfl (fr_eval rfl e8) rfl (decide_eq_false (by omega))) ?_
    refine lf_nil ?_
    refine then_n ?_
    refine wp_seq ?_
    refine wp_gen (fun F' => F' 0 = .agg (cBs s).toArray ∧ F' 1 = .pointer (some ⟨g1, 0, none⟩) ∧ F' 2 = .pointer (some ⟨g2, 0, none⟩) ∧ F' 3 = v ∧ F' 8 = .int .i64 ((k : Nat) : Int) ∧ F' 9 = .bool false) ⟨e0, e1, e2, e3, e8, rfl⟩ ?_
    clear e0 e1 e2 e3 e8
    clear F
    rintro F ⟨e0, e1, e2, e3, e8, e9⟩
    refine wp_cond_false (fr_eval rfl e9) ?_
    refine wp_exit ?_
    refine then_exit ?_
    refine then_exit ?_
    refine blk_exit ?_
    refine then_n ?_
    refine wp_seq ?_
    refine wp_regionF ?_
    refine lf_val (v := v) (wantAll rfl) (rv_move rfl (fr_eval rfl e3)) ?_
    refine lf_ex (wantAll rfl) (ex_lits (n := 1) Try.stBB [(.tmp 24)] (vs := [v]) (evc (fr_eval rfl rfl) evn) (ones_cons (Rd.oneV (OwnB.rd ho1)) ones_nil) rfl (by decide) rfl) ?_
    rintro _ w11 ⟨g5, hg_g5, rfl, h_g5, hx⟩
    have ge_g5 : w.heap.size ≤ g5 := by have := hC.size; omega
    have lt_g1_g5 : g1 < g5 := by have := Blk.lt h_g1; omega
    have lt_g2_g5 : g2 < g5 := by have := Blk.lt h_g2; omega
    replace hC := hC.trans hx
    replace h_g1 := Blk.ext h_g1 hx
    replace h_g2 := Blk.ext h_g2 hx
    replace ho1 := Own.ext ho1 hx
    clear hx hg_g5
    refine lf_call (wantAll rfl) (rv_call (args := [cB 13, .slice (some ⟨g5, 0, none⟩) 1 1]) rfl (evc rfl (evc (fr_eval rfl rfl) evn)) Try.call45) (join_calls 13 [pubs s (2 * k)] (flat_le1 (Nat.le_trans (show List.length (pubs s (2 * k)) ≤ 5000 from (by rw [pubs_len]; omega)) (by decide))) _ _ (rdP_blk h_g5 (.cons (OwnB.rd ho1) .nil) rfl (by decide))) ?_
    rintro _ w12 ⟨rfl, hx⟩
    refine ⟨_, rfl, ?_⟩
    replace hC := hC.trans hx
    replace h_g1 := Blk.ext h_g1 hx
    replace h_g2 := Blk.ext h_g2 hx
    replace ho1 := Own.ext ho1 hx
    replace h_g5 := Blk.ext h_g5 hx
    clear hx
    refine lf_sk (wantAll rfl) (ex_storeW (cs := cBs (join 13 [pubs s (2 * k)])) rfl h_g2 (fr_eval rfl e2) (fr_eval rfl rfl) (sz_len Try.sz23 (cBs_len (join_length _ _))) (((cBs_len (List.length_replicate ..))).trans ((cBs_len (join_length _ _))).symm) (cBs_one _)) ?_
    rintro w13 ⟨h_g2', hx⟩
    replace h_g2' : Blk w13 g2 (cBs (join 13 [pubs s (2 * k)])) 23 := h_g2'
    replace h_g1 := Blk.keep h_g1 hx (fun e => by have e : g1 = g2 := e; omega)
    replace ho1 := Own.keep ho1 hx (fun b hb e => (Own.neType ho1 h_g2 (by decide)) (by have e : b = g2 := e; rw [← e]; exact hb))
    replace h_g5 := Blk.keep h_g5 hx (fun e => by have e : g5 = g2 := e; omega)
    replace hC := Chg.then hC hx (fun i hi e => absurd hi (by have e : i = g2 := e; omega))
    replace h_g2 := h_g2'
    clear h_g2'
    clear hx
    refine lf_nil ?_
    refine then_n ?_
    clear h_g5
    refine wp_gen (fun F' => F' 0 = .agg (cBs s).toArray ∧ F' 1 = .pointer (some ⟨g1, 0, none⟩) ∧ F' 2 = .pointer (some ⟨g2, 0, none⟩) ∧ F' 3 = v ∧ F' 8 = .int .i64 ((k : Nat) : Int) ∧ F' 9 = .bool false) ⟨e0, e1, e2, e3, e8, e9⟩ ?_
    clear e0 e1 e2 e3 e8 e9
    clear F
    rintro F ⟨e0, e1, e2, e3, e8, e9⟩
    refine wp_ret ?_
    exact bodyPost_ret (v := (.agg (cBs (join 13 [pubs s (2 * k)])).toArray)) (res1 rfl (ro_cell rfl e2 h_g2 Try.underlying23 rfl (sz_len Try.sz23 (cBs_len (join_length _ _))))) rfl (⟨(by have hk : k = 64 := (by omega); subst hk; rfl), hC⟩)

set_option maxRecDepth 100000 in
set_option maxHeartbeats 4000000 in
theorem sign_calls (s : List UInt8) (hs : s.length = 32) (b : List UInt8) (hb : b.length ≤ 1000000) (v : Value) (w : World) (hr0 : RdB w v b) :
    Calls Try.prog 44 #[.agg (cBs s).toArray, v] w fun e w' => (∃ v', e = .returned v' ∧ OwnB w' v' (sigs s (join 14 [b]) 64) ∧ ∀ k, v'.ownBlock = some k → w.heap.size ≤ k) ∧ Ext w w' := by
  refine calls_fr (args := [.agg (cBs s).toArray, v]) (n := 37) Try.func44 rfl rfl (show 2 ≤ 37 by decide) ?_
  have hC : Ext w w := Chg.refl _ _
  have hr := hr0
  refine wp_seq ?_
  refine wp_gen (fun F' => F' 0 = .agg (cBs s).toArray ∧ F' 1 = v) ⟨rfl, rfl⟩ ?_
  rintro F ⟨e0, e1⟩
  refine wp_regionF ?_
  refine lf_ex (wantAll rfl) (ex_boxG 23 (.tmp 0) (cs := cBs s) (fr_eval rfl e0) (by rfl) rfl) ?_
  rintro _ w1 ⟨g1, hg_g1, rfl, h_g1, hx⟩
  have ge_g1 : w.heap.size ≤ g1 := by have := hC.size; omega
  replace hC := hC.trans hx
  replace hr := Rd.ext hr hx
  clear hx hg_g1
  refine lf_val (v := .slice none 0 0) (wantAll rfl) (rv_assign rfl rfl) ?_
  refine lf_nil ?_
  refine then_n ?_
  refine wp_seq ?_
  refine wp_gen (fun F' => F' 0 = .agg (cBs s).toArray ∧ F' 1 = v ∧ F' 2 = .pointer (some ⟨g1, 0, none⟩) ∧ F' 4 = .slice none 0 0) ⟨e0, e1, rfl, rfl⟩ ?_
  clear e0 e1
  clear F
  rintro F ⟨e0, e1, e2, e4⟩
  refine wp_regionF ?_
  refine lf_val (v := v) (wantAll rfl) (rv_move rfl (fr_eval rfl e1)) ?_
  refine lf_call (wantAll rfl) (rv_call (args := [v]) rfl (evc (fr_eval rfl rfl) evn) Try.call68) (digest_calls b (Nat.le_trans hb (by decide)) _ _ hr) ?_
  rintro _ w2 ⟨rfl, hx⟩
  refine ⟨_, rfl, ?_⟩
  replace hC := hC.trans hx
  replace hr := Rd.ext hr hx
  replace h_g1 := Blk.ext h_g1 hx
  clear hx
  refine lf_ex (wantAll rfl) (ex_allocG 23 (z := .agg (cBs (List.replicate 32 0)).toArray) (n := 32) (cs := cBs (List.replicate 32 0)) (by kernel_rfl) (by rfl) rfl) ?_
  rintro _ w3 ⟨g2, hg_g2, rfl, h_g2, hx⟩
  have ge_g2 : w.heap.size ≤ g2 := by have := hC.size; omega
  have lt_g1_g2 : g1 < g2 := by have := Blk.lt h_g1; omega
  replace hC := hC.trans hx
  replace hr := Rd.ext hr hx
  replace h_g1 := Blk.ext h_g1 hx
  clear hx hg_g2
  refine lf_sk (wantAll rfl) (ex_storeW (cs := cBs (join 14 [b])) rfl h_g2 (fr_eval rfl rfl) (fr_eval rfl rfl) (sz_len Try.sz23 (cBs_len (join_length _ _))) (((cBs_len (List.length_replicate ..))).trans ((cBs_len (join_length _ _))).symm) (cBs_one _)) ?_
  rintro w4 ⟨h_g2', hx⟩
  replace h_g2' : Blk w4 g2 (cBs (join 14 [b])) 23 := h_g2'
  replace hr := Rd.keep hr hx (fun b hb h0 e => by have e : b = g2 := e; have := Rd.lt hr0 h0 b hb; omega)
  replace h_g1 := Blk.keep h_g1 hx (fun e => by have e : g1 = g2 := e; omega)
  replace hC := Chg.then hC hx (fun i hi e => absurd hi (by have e : i = g2 := e; omega))
  replace h_g2 := h_g2'
  clear h_g2'
  clear hx
  refine lf_nil ?_
  refine then_n ?_
  refine wp_seq ?_
  refine wp_gen (fun F' => F' 0 = .agg (cBs s).toArray ∧ F' 1 = v ∧ F' 2 = .pointer (some ⟨g1, 0, none⟩) ∧ F' 4 = .slice none 0 0 ∧ F' 5 = .pointer (some ⟨g2, 0, none⟩)) ⟨e0, e1, e2, e4, rfl⟩ ?_
  clear e0 e1 e2 e4
  clear F
  rintro F ⟨e0, e1, e2, e4, e5⟩
  refine wp_regionF ?_
  refine lf_ex (wantAll rfl) (ex_make (n := 0) (c := 4096) (z1 := .int .u8 0) Try.stB (.const (.int .i64 0)) (.const (.int .i64 4096)) (show _ = Value.int _ ((0 : Nat) : Int) from rfl) (show _ = Value.int _ ((4096 : Nat) : Int) from rfl) (by omega) (by omega) rfl rfl) ?_
  rintro _ w5 ⟨g3, hg_g3, rfl, h_g3, hx⟩
  have ho1 := ownB_make h_g3 (by omega)
  have ge_ho1 : ∀ k, (Value.slice (some ⟨g3, 0, none⟩) 0 4096).ownBlock = some k → w.heap.size ≤ k := fun k hk => by simp only [Value.ownBlock, Option.some.injEq] at hk; have := hC.size; omega
  replace hC := hC.trans hx
  replace hr := Rd.ext hr hx
  replace h_g1 := Blk.ext h_g1 hx
  replace h_g2 := Blk.ext h_g2 hx
  clear hx hg_g3 h_g3
  refine lf_val (v := .slice (some ⟨g3, 0, none⟩) 0 4096) (wantAll rfl) (rv_assign rfl (fr_eval rfl rfl)) ?_
  refine lf_nil ?_
  refine then_n ?_
  refine wp_seq ?_
  refine wp_seq ?_
  refine wp_gen (fun F' => F' 0 = .agg (cBs s).toArray ∧ F' 1 = v ∧ F' 2 = .pointer (some ⟨g1, 0, none⟩) ∧ F' 4 = .slice none 0 0 ∧ F' 5 = .pointer (some ⟨g2, 0, none⟩) ∧ F' 6 = .slice (some ⟨g3, 0, none⟩) 0 4096) ⟨e0, e1, e2, e4, e5, rfl⟩ ?_
  clear e0 e1 e2 e4 e5
  clear F
  rintro F ⟨e0, e1, e2, e4, e5, e6⟩
  refine wp_regionF ?_
  refine lf_val (v := .int .i64 0) (wantAll rfl) (rv_move rfl rfl) ?_
  refine lf_nil ?_
  refine then_n ?_
  refine wp_block ?_
  refine wp_gen (fun F' => F' 0 = .agg (cBs s).toArray ∧ F' 1 = v ∧ F' 2 = .pointer (some ⟨g1, 0, none⟩) ∧ F' 4 = .slice none 0 0 ∧ F' 5 = .pointer (some ⟨g2, 0, none⟩) ∧ F' 6 = .slice (some ⟨g3, 0, none⟩) 0 4096 ∧ F' 14 = .int .i64 0) ⟨e0, e1, e2, e4, e5, e6, rfl⟩ ?_
  clear e0 e1 e2 e4 e5 e6
  clear F
  rintro F ⟨e0, e1, e2, e4, e5, e6, e14⟩
  refine wp_loopF (fun m F wr => ∃ k : Nat, ∃ v1 : Value, m = 64 - k ∧ k ≤ 64 ∧ F 0 = .agg (cBs s).toArray ∧ F 1 = v ∧ F 2 = .pointer (some ⟨g1, 0, none⟩) ∧ F 4 = .slice none 0 0 ∧ F 5 = .pointer (some ⟨g2, 0, none⟩) ∧ F 6 = v1 ∧ F 14 = .int .i64 ((k : Nat) : Int) ∧ RdB wr v b ∧ Blk wr g1 (cBs s) 23 ∧ Blk wr g2 (cBs (join 14 [b])) 23 ∧ OwnB wr v1 (sigs s (join 14 [b]) k) ∧ (∀ k, (v1 : Value).ownBlock = some k → w.heap.size ≤ k) ∧ Ext w wr) ⟨0, _, rfl, Nat.zero_le _, e0, e1, e2, e4, e5, e6, e14, hr, h_g1, h_g2, ho1, ge_ho1, hC⟩ ?_
  clear e0 e1 e2 e4 e5 e6 e14 hr h_g1 h_g2 ho1 ge_ho1 hC
  clear F
  rintro m F w6 ⟨k, v1, rfl, pk0, e0, e1, e2, e4, e5, e6, e14, hr, h_g1, h_g2, ho1, ge_ho1, hC⟩
  refine wp_seq ?_
  refine wp_regionF ?_
  by_cases hc1 : k < 64
  · refine lf_val (v := .bool true) (wantAll rfl) (rv_lss rfl (fr_eval rfl e14) rfl (decide_eq_true (by omega))) ?_
    refine lf_nil ?_
    refine then_n ?_
    refine wp_seq ?_
    refine wp_gen (fun F' => F' 0 = .agg (cBs s).toArray ∧ F' 1 = v ∧ F' 2 = .pointer (some ⟨g1, 0, none⟩) ∧ F' 4 = .slice none 0 0 ∧ F' 5 = .pointer (some ⟨g2, 0, none⟩) ∧ F' 6 = v1 ∧ F' 14 = .int .i64 ((k : Nat) : Int) ∧ F' 15 = .bool true) ⟨e0, e1, e2, e4, e5, e6, e14, rfl⟩ ?_
    clear e0 e1 e2 e4 e5 e6 e14
    clear F
    rintro F ⟨e0, e1, e2, e4, e5, e6, e14, e15⟩
    refine wp_cond_true (fr_eval rfl e15) ?_
    refine wp_skip ?_
    refine then_n ?_
    refine wp_seq ?_
    refine wp_block ?_
    refine wp_seq ?_
    refine wp_regionF ?_
    refine lf_val (v := .int .i64 ((k : Nat) : Int)) (wantAll rfl) (rv_move rfl (fr_eval rfl e14)) ?_
    refine lf_val (v := .int .i64 ((k : Nat) : Int)) (wantAll rfl) (rv_assign rfl (fr_eval rfl rfl)) ?_
    refine lf_nil ?_
    refine then_n ?_
    refine wp_seq ?_
    refine wp_gen (fun F' => F' 0 = .agg (cBs s).toArray ∧ F' 1 = v ∧ F' 2 = .pointer (some ⟨g1, 0, none⟩) ∧ F' 4 = .slice none 0 0 ∧ F' 5 = .pointer (some ⟨g2, 0, none⟩) ∧ F' 6 = v1 ∧ F' 7 = .int .i64 ((k : Nat) : Int) ∧ F' 14 = .int .i64 ((k : Nat) : Int) ∧ F' 15 = .bool true) ⟨e0, e1, e2, e4, e5, e6, rfl, e14, e15⟩ ?_
    clear e0 e1 e2 e4 e5 e6 e14 e15
    clear F
    rintro F ⟨e0, e1, e2, e4, e5, e6, e7, e14, e15⟩
    refine wp_regionF ?_
    refine lf_val (v := .agg (cBs (join 14 [b])).toArray) (wantAll rfl) (rv_loadW rfl h_g2 (fr_eval rfl e5) Try.underlying23 rfl (sz_len Try.sz23 (cBs_len (join_length _ _)))) ?_
    refine lf_val (v := .int .i64 ((k : Nat) : Int)) (wantAll rfl) (rv_move rfl (fr_eval rfl e7)) ?_
    refine lf_call (wantAll rfl) (rv_call (args := [.agg (cBs (join 14 [b])).toArray, .int .i64 ((k : Nat) : Int)]) rfl (evc (fr_eval rfl rfl) (evc (fr_eval rfl rfl) evn)) Try.call69) (bit_calls (join 14 [b]) (join_length _ _) k (by omega) _) ?_
    rintro _ w7 ⟨rfl, hx⟩
    refine ⟨_, rfl, ?_⟩
    replace hC := hC.trans hx
    replace hr := Rd.ext hr hx
    replace h_g1 := Blk.ext h_g1 hx
    replace h_g2 := Blk.ext h_g2 hx
    replace ho1 := Own.ext ho1 hx
    clear hx
    refine lf_val (v := .int .i64 ((bitN (join 14 [b]) k : Nat) : Int)) (wantAll rfl) (rv_assign rfl (fr_eval rfl rfl)) ?_
    refine lf_nil ?_
    refine then_n ?_
    refine wp_seq ?_
    refine wp_gen (fun F' => F' 0 = .agg (cBs s).toArray ∧ F' 1 = v ∧ F' 2 = .pointer (some ⟨g1, 0, none⟩) ∧ F' 4 = .slice none 0 0 ∧ F' 5 = .pointer (some ⟨g2, 0, none⟩) ∧ F' 6 = v1 ∧ F' 7 = .int .i64 ((k : Nat) : Int) ∧ F' 8 = .int .i64 ((bitN (join 14 [b]) k : Nat) : Int) ∧ F' 14 = .int .i64 ((k : Nat) : Int) ∧ F' 15 = .bool true) ⟨e0, e1, e2, e4, e5, e6, e7, rfl, e14, e15⟩ ?_
    clear e0 e1 e2 e4 e5 e6 e7 e14 e15
    clear F
    rintro F ⟨e0, e1, e2, e4, e5, e6, e7, e8, e14, e15⟩
    have hbit := bitN_lt (join 14 [b]) k
    obtain ⟨B1, hB1⟩ : ∃ B, B = w7.heap.size := ⟨_, rfl⟩
    have hwB : w.heap.size ≤ B1 := by have := hC.size; omega
    have bl_g1 : g1 < B1 := by have := Blk.lt h_g1; omega
    have bl_g2 : g2 < B1 := by have := Blk.lt h_g2; omega
    replace hB1 : B1 ≤ w7.heap.size := by omega
    refine wp_regionX (fun k => B1 ≤ k ∨ ((Value.slice none 0 0).ownBlock = some k)) 13 (by kernel_rfl) (by kernel_rfl) ?_
    refine xl_take (i := 0) (v := .agg (cBs s).toArray) rfl (by kernel_rfl) (by kernel_rfl) (by kernel_rfl) (by kernel_rfl) (yx_val (wantAll rfl) (fun w' hx' => rv_loadW rfl (Blk.keep h_g1 hx' (fun e => Or.elim e (fun e => by have e : B1 ≤ g1 := e; omega) (fun e => absurd e (by simp [Value.ownBlock])))) (fr_eval rfl e2) Try.underlying23 rfl (sz_len Try.sz23 (cBs_len hs)))) ?_
    refine xl_take (i := 1) (v := .int .i64 ((k : Nat) : Int)) rfl (by kernel_rfl) (by kernel_rfl) (by kernel_rfl) (by kernel_rfl) (yx_val (wantAll rfl) (fun w' hx' => rv_move rfl (fr_eval rfl e7))) ?_
    refine xl_take (i := 2) (v := .int .i64 ((bitN (join 14 [b]) k : Nat) : Int)) rfl (by kernel_rfl) (by kernel_rfl) (by kernel_rfl) (by kernel_rfl) (yx_val (wantAll rfl) (fun w' hx' => rv_move rfl (fr_eval rfl e8))) ?_
    refine xl_take (i := 3) (v := .agg (cBs (secN s k (bitN (join 14 [b]) k))).toArray) rfl (by kernel_rfl) (by kernel_rfl) (by kernel_rfl) (by kernel_rfl) (yx_call (wantAll rfl) (fun w' => rv_call (args := [.agg (cBs s).toArray, .int .i64 ((k : Nat) : Int), .int .i64 ((bitN (join 14 [b]) k : Nat) : Int)]) rfl (evc (fr_eval rfl rfl) (evc (fr_eval rfl rfl) (evc (fr_eval rfl rfl) evn))) Try.call70) (fun w' hx' => secretN_calls s hs k (bitN (join 14 [b]) k) (by omega) _)) ?_
    refine xl_take (i := 4) (v := .agg (cBs s).toArray) rfl (by kernel_rfl) (by kernel_rfl) (by kernel_rfl) (by kernel_rfl) (yx_val (wantAll rfl) (fun w' hx' => rv_loadW rfl (Blk.keep h_g1 hx' (fun e => Or.elim e (fun e => by have e : B1 ≤ g1 := e; omega) (fun e => absurd e (by simp [Value.ownBlock])))) (fr_eval rfl e2) Try.underlying23 rfl (sz_len Try.sz23 (cBs_len hs)))) ?_
    refine xl_take (i := 5) (v := .int .i64 ((k : Nat) : Int)) rfl (by kernel_rfl) (by kernel_rfl) (by kernel_rfl) (by kernel_rfl) (yx_val (wantAll rfl) (fun w' hx' => rv_move rfl (fr_eval rfl e7))) ?_
    refine xl_take (i := 6) (v := .int .i64 ((bitN (join 14 [b]) k : Nat) : Int)) rfl (by kernel_rfl) (by kernel_rfl) (by kernel_rfl) (by kernel_rfl) (yx_val (wantAll rfl) (fun w' hx' => rv_move rfl (fr_eval rfl e8))) ?_
    refine xl_take (i := 7) (v := .int .i64 ((1 - (bitN (join 14 [b]) k) : Nat) : Int)) rfl (by kernel_rfl) (by kernel_rfl) (by kernel_rfl) (by kernel_rfl) (yx_val (wantAll rfl) (fun w' hx' => rv_sub rfl rfl (fr_eval rfl rfl) (wrap_i64 (by omega) (by omega) (by omega)))) ?_
    refine xl_take (i := 8) (v := .agg (cBs (secN s k (1 - (bitN (join 14 [b]) k)))).toArray) rfl (by kernel_rfl) (by kernel_rfl) (by kernel_rfl) (by kernel_rfl) (yx_call (wantAll rfl) (fun w' => rv_call (args := [.agg (cBs s).toArray, .int .i64 ((k : Nat) : Int), .int .i64 ((1 - (bitN (join 14 [b]) k) : Nat) : Int)]) rfl (evc (fr_eval rfl rfl) (evc (fr_eval rfl rfl) (evc (fr_eval rfl rfl) evn))) Try.call70) (fun w' hx' => secretN_calls s hs k (1 - (bitN (join 14 [b]) k)) (by omega) _)) ?_
    refine xl_take (i := 9) (v := .agg (cBs (shw (secN s k (1 - (bitN (join 14 [b]) k))))).toArray) rfl (by kernel_rfl) (by kernel_rfl) (by kernel_rfl) (by kernel_rfl) (yx_call (wantAll rfl) (fun w' => rv_call (args := [.agg (cBs (secN s k (1 - (bitN (join 14 [b]) k)))).toArray]) rfl (evc (fr_eval rfl rfl) evn) Try.call71) (fun w' hx' => shown_calls (secN s k (1 - (bitN (join 14 [b]) k))) secN_len _)) ?_
    refine anyX_ready (rs := [10, 11]) (by kernel_rfl) ?_
    intro w8 hx
    replace hC := hC.trans hx
    replace hr := Rd.ext hr hx
    replace h_g1 := Blk.ext h_g1 hx
    replace h_g2 := Blk.ext h_g2 hx
    replace ho1 := Own.ext ho1 hx
    replace hB1 : B1 ≤ w8.heap.size := by have := Chg.size hx; omega
    clear hx
    refine (anyX_cons ?_ (anyX_cons ?_ anyX_nil))
    · refine xl_step (i := 10) rfl (wantAll rfl) ?_
      refine of_ex (ex_allocG 23 (z := .agg (cBs (List.replicate 32 0)).toArray) (n := 32) (cs := cBs (List.replicate 32 0)) (by kernel_rfl) (by rfl) rfl) ?_
      rintro _ w9 ⟨g4, hg_g4, rfl, h_g4, hx⟩
      
      have hx0 := hx
      have ge_g4 : w.heap.size ≤ g4 := by have := hC.size; omega
      have lt_g1_g4 : g1 < g4 := by have := Blk.lt h_g1; omega
      have lt_g2_g4 : g2 < g4 := by have := Blk.lt h_g2; omega
      have bge_g4 : B1 ≤ g4 := by omega
      replace hC := hC.trans hx
      replace hr := Rd.ext hr hx
      replace h_g1 := Blk.ext h_g1 hx
      replace h_g2 := Blk.ext h_g2 hx
      replace ho1 := Own.ext ho1 hx
      replace hB1 : B1 ≤ w9.heap.size := by have := Chg.size hx; omega
      clear hx hg_g4
      refine ⟨Ext.any hx0, ?_⟩
      clear hx0
      refine anyX_ready (rs := [11]) (by kernel_rfl) ?_
      intro w10 hx
      replace hC := hC.trans hx
      replace hr := Rd.ext hr hx
      replace h_g1 := Blk.ext h_g1 hx
      replace h_g2 := Blk.ext h_g2 hx
      replace ho1 := Own.ext ho1 hx
      replace h_g4 := Blk.ext h_g4 hx
      replace hB1 : B1 ≤ w10.heap.size := by have := Chg.size hx; omega
      clear hx
      refine (anyX_cons ?_ anyX_nil)
      refine xl_step (i := 11) rfl (wantAll rfl) ?_
      refine of_ex (ex_allocG 23 (z := .agg (cBs (List.replicate 32 0)).toArray) (n := 32) (cs := cBs (List.replicate 32 0)) (by kernel_rfl) (by rfl) rfl) ?_
      rintro _ w11 ⟨g5, hg_g5, rfl, h_g5, hx⟩
      
      have hx0 := hx
      have ge_g5 : w.heap.size ≤ g5 := by have := hC.size; omega
      have lt_g1_g5 : g1 < g5 := by have := Blk.lt h_g1; omega
      have lt_g2_g5 : g2 < g5 := by have := Blk.lt h_g2; omega
      have lt_g4_g5 : g4 < g5 := by have := Blk.lt h_g4; omega
      have bge_g5 : B1 ≤ g5 := by omega
      replace hC := hC.trans hx
      replace hr := Rd.ext hr hx
      replace h_g1 := Blk.ext h_g1 hx
      replace h_g2 := Blk.ext h_g2 hx
      replace ho1 := Own.ext ho1 hx
      replace h_g4 := Blk.ext h_g4 hx
      replace hB1 : B1 ≤ w11.heap.size := by have := Chg.size hx; omega
      clear hx hg_g5
      refine ⟨Ext.any hx0, ?_⟩
      clear hx0
      refine anyX_ready (rs := [12]) (by kernel_rfl) ?_
      intro w12 hx
      replace hC := hC.trans hx
      replace hr := Rd.ext hr hx
      replace h_g1 := Blk.ext h_g1 hx
      replace h_g2 := Blk.ext h_g2 hx
      replace ho1 := Own.ext ho1 hx
      replace h_g4 := Blk.ext h_g4 hx
      replace h_g5 := Blk.ext h_g5 hx
      replace hB1 : B1 ≤ w12.heap.size := by have := Chg.size hx; omega
      clear hx
      refine (anyX_cons ?_ anyX_nil)
      refine xl_step (i := 12) rfl (wantAll rfl) ?_
      refine of_sk (ex_storeW (cs := cBs (secN s k (bitN (join 14 [b]) k))) rfl h_g4 (fr_eval rfl rfl) (fr_eval rfl rfl) (sz_len Try.sz23 (cBs_len secN_len)) (((cBs_len (List.length_replicate ..))).trans ((cBs_len secN_len)).symm) (cBs_one _)) ?_
      rintro w13 ⟨h_g4', hx⟩
      have hx0 := hx
      replace h_g4' : Blk w13 g4 (cBs (secN s k (bitN (join 14 [b]) k))) 23 := h_g4'
      replace hr := Rd.keep hr hx (fun b hb h0 e => by have e : b = g4 := e; have := Rd.lt hr0 h0 b hb; omega)
      replace h_g1 := Blk.keep h_g1 hx (fun e => by have e : g1 = g4 := e; omega)
      replace h_g2 := Blk.keep h_g2 hx (fun e => by have e : g2 = g4 := e; omega)
      replace ho1 := Own.keep ho1 hx (fun b hb e => (Own.neType ho1 h_g4 (by decide)) (by have e : b = g4 := e; rw [← e]; exact hb))
      replace h_g5 := Blk.keep h_g5 hx (fun e => by have e : g5 = g4 := e; omega)
      replace hC := Chg.then hC hx (fun i hi e => absurd hi (by have e : i = g4 := e; omega))
      replace hB1 : B1 ≤ w13.heap.size := by have := Chg.size hx; omega
      replace h_g4 := h_g4'
      clear h_g4'
      refine ⟨Chg.mono hx0 (fun i hi e => Or.inl (by have e : i = g4 := e; omega)), ?_⟩
      clear hx0
      clear hx
      refine xl_tail (s := 13) rfl ?_
      intro w14 hx
      replace hC := hC.trans hx
      replace hr := Rd.ext hr hx
      replace h_g1 := Blk.ext h_g1 hx
      replace h_g2 := Blk.ext h_g2 hx
      replace ho1 := Own.ext ho1 hx
      replace h_g4 := Blk.ext h_g4 hx
      replace h_g5 := Blk.ext h_g5 hx
      replace hB1 : B1 ≤ w14.heap.size := by have := Chg.size hx; omega
      clear hx
      clear hB1
      refine lf_sk (wantAll rfl) (ex_storeW (cs := cBs (shw (secN s k (1 - (bitN (join 14 [b]) k))))) rfl h_g5 (fr_eval rfl rfl) (fr_eval rfl rfl) (sz_len Try.sz23 (cBs_len shw_len)) (((cBs_len (List.length_replicate ..))).trans ((cBs_len shw_len)).symm) (cBs_one _)) ?_
      rintro w15 ⟨h_g5', hx⟩
      replace h_g5' : Blk w15 g5 (cBs (shw (secN s k (1 - (bitN (join 14 [b]) k))))) 23 := h_g5'
      replace hr := Rd.keep hr hx (fun b hb h0 e => by have e : b = g5 := e; have := Rd.lt hr0 h0 b hb; omega)
      replace h_g1 := Blk.keep h_g1 hx (fun e => by have e : g1 = g5 := e; omega)
      replace h_g2 := Blk.keep h_g2 hx (fun e => by have e : g2 = g5 := e; omega)
      replace ho1 := Own.keep ho1 hx (fun b hb e => (Own.neType ho1 h_g5 (by decide)) (by have e : b = g5 := e; rw [← e]; exact hb))
      replace h_g4 := Blk.keep h_g4 hx (fun e => by have e : g4 = g5 := e; omega)
      replace hC := Chg.then hC hx (fun i hi e => absurd hi (by have e : i = g5 := e; omega))
      replace h_g5 := h_g5'
      clear h_g5'
      clear hx
      refine lf_nil ?_
      refine then_n ?_
      refine wp_gen (fun F' => F' 0 = .agg (cBs s).toArray ∧ F' 1 = v ∧ F' 2 = .pointer (some ⟨g1, 0, none⟩) ∧ F' 4 = .slice none 0 0 ∧ F' 5 = .pointer (some ⟨g2, 0, none⟩) ∧ F' 6 = v1 ∧ F' 7 = .int .i64 ((k : Nat) : Int) ∧ F' 8 = .int .i64 ((bitN (join 14 [b]) k : Nat) : Int) ∧ F' 9 = .pointer (some ⟨g4, 0, none⟩) ∧ F' 10 = .pointer (some ⟨g5, 0, none⟩) ∧ F' 14 = .int .i64 ((k : Nat) : Int) ∧ F' 15 = .bool true) ⟨e0, e1, e2, e4, e5, e6, e7, e8, rfl, rfl, e14, e15⟩ ?_
      clear e0 e1 e2 e4 e5 e6 e7 e8 e14 e15
      clear F
      rintro F ⟨e0, e1, e2, e4, e5, e6, e7, e8, e9, e10, e14, e15⟩
      obtain ⟨B2, hB2⟩ : ∃ B, B = w15.heap.size := ⟨_, rfl⟩
      have hwB : w.heap.size ≤ B2 := by have := hC.size; omega
      have bl_g1 : g1 < B2 := by have := Blk.lt h_g1; omega
      have bl_g2 : g2 < B2 := by have := Blk.lt h_g2; omega
      have bl_g4 : g4 < B2 := by have := Blk.lt h_g4; omega
      have bl_g5 : g5 < B2 := by have := Blk.lt h_g5; omega
      replace hB2 : B2 ≤ w15.heap.size := by omega
      have hrow_ho1 : ∀ k, (v1 : Value).ownBlock = some k → B2 ≤ k ∨ (v1 : Value).ownBlock = some k := fun _ h => Or.inr h
      refine wp_regionX (fun k => B2 ≤ k ∨ ((v1 : Value).ownBlock = some k)) 5 (by kernel_rfl) (by kernel_rfl) ?_
      refine xl_take (i := 0) (v := v1) rfl (by kernel_rfl) (by kernel_rfl) (by kernel_rfl) (by kernel_rfl) (yx_val (wantAll rfl) (fun w' hx' => rv_move rfl (fr_eval rfl e6))) ?_
      refine xl_take (i := 1) (v := .slice (some ⟨g4, 0, none⟩) 32 32) rfl (by kernel_rfl) (by kernel_rfl) (by kernel_rfl) (by kernel_rfl) (yx_val (wantAll rfl) (fun w' hx' => rv_sliceArr rfl (fr_eval rfl e9) Try.underlying23 Try.sz5 (by decide))) ?_
      refine xl_take (i := 3) (v := .slice (some ⟨g5, 0, none⟩) 32 32) rfl (by kernel_rfl) (by kernel_rfl) (by kernel_rfl) (by kernel_rfl) (yx_val (wantAll rfl) (fun w' hx' => rv_sliceArr rfl (fr_eval rfl e10) Try.underlying23 Try.sz5 (by decide))) ?_
      refine anyX_ready (rs := [2]) (by kernel_rfl) ?_
      intro w16 hx
      replace hC := hC.trans hx
      replace hr := Rd.ext hr hx
      replace h_g1 := Blk.ext h_g1 hx
      replace h_g2 := Blk.ext h_g2 hx
      replace ho1 := Own.ext ho1 hx
      replace h_g4 := Blk.ext h_g4 hx
      replace h_g5 := Blk.ext h_g5 hx
      replace hB2 : B2 ≤ w16.heap.size := by have := Chg.size hx; omega
      clear hx
      refine (anyX_cons ?_ anyX_nil)
      refine xl_step (i := 2) rfl (wantAll rfl) ?_
      refine of_ex (ex_apB (xs := sigs s (join 14 [b]) k) (news := (secN s k (bitN (join 14 [b]) k))) (.tmp 30) (.tmp 31) ho1 (rdB_blkn h_g4 secN_len (by decide)) (by rw [sigs_len, secN_len]; omega) (fr_eval rfl rfl) (fr_eval rfl rfl) rfl) ?_
      rintro y1 w17 ⟨ho1', hg⟩
      have hx := hg.chg
      have hx0 := hx
      have hrow' := hg.row (by omega) hrow_ho1
      have ge_n := hg.ge (by have := hC.size; omega) ge_ho1
      replace hr := Rd.keep hr hx (fun b hb h0 e => by have := Rd.lt hr0 h0 b hb; have := ge_ho1 b e; omega)
      replace h_g1 := Blk.keep h_g1 hx (fun e => Own.neType ho1 h_g1 (by decide) e)
      replace h_g2 := Blk.keep h_g2 hx (fun e => Own.neType ho1 h_g2 (by decide) e)
      replace h_g4 := Blk.keep h_g4 hx (fun e => Own.neType ho1 h_g4 (by decide) e)
      replace h_g5 := Blk.keep h_g5 hx (fun e => Own.neType ho1 h_g5 (by decide) e)
      replace hC := Chg.then hC hx (fun i hi e => absurd hi (by have := ge_ho1 i e; omega))
      replace hB2 : B2 ≤ w17.heap.size := by have := Chg.size hx; omega
      replace ge_ho1 := ge_n
      clear ge_n
      replace ho1 := ho1'
      clear ho1'
      refine ⟨Chg.mono hx0 (fun i hi e => hrow_ho1 i e), ?_⟩
      clear hx0
      replace hrow_ho1 := hrow'
      clear hrow'
      clear hx hg
      refine anyX_ready (rs := [4]) (by kernel_rfl) ?_
      intro w18 hx
      replace hC := hC.trans hx
      replace hr := Rd.ext hr hx
      replace h_g1 := Blk.ext h_g1 hx
      replace h_g2 := Blk.ext h_g2 hx
      replace ho1 := Own.ext ho1 hx
      replace h_g4 := Blk.ext h_g4 hx
      replace h_g5 := Blk.ext h_g5 hx
      replace hB2 : B2 ≤ w18.heap.size := by have := Chg.size hx; omega
      clear hx
      refine (anyX_cons ?_ anyX_nil)
      refine xl_step (i := 4) rfl (wantAll rfl) ?_
      refine of_ex (ex_apB (xs := (sigs s (join 14 [b]) k) ++ (secN s k (bitN (join 14 [b]) k))) (news := (shw (secN s k (1 - (bitN (join 14 [b]) k))))) (.tmp 32) (.tmp 33) ho1 (rdB_blkn h_g5 shw_len (by decide)) (by rw [List.length_append, sigs_len, shw_len, secN_len]; omega) (fr_eval rfl rfl) (fr_eval rfl rfl) rfl) ?_
      rintro y2 w19 ⟨ho1', hg⟩
      have hx := hg.chg
      have hx0 := hx
      replace ho1' : OwnB w19 y2 (sigs s (join 14 [b]) (k + 1)) := by have e := sigs_at s (join 14 [b]) k; rw [e] at ho1'; exact ho1'
      have hrow' := hg.row (by omega) hrow_ho1
      have ge_n := hg.ge (by have := hC.size; omega) ge_ho1
      replace hr := Rd.keep hr hx (fun b hb h0 e => by have := Rd.lt hr0 h0 b hb; have := ge_ho1 b e; omega)
      replace h_g1 := Blk.keep h_g1 hx (fun e => Own.neType ho1 h_g1 (by decide) e)
      replace h_g2 := Blk.keep h_g2 hx (fun e => Own.neType ho1 h_g2 (by decide) e)
      replace h_g4 := Blk.keep h_g4 hx (fun e => Own.neType ho1 h_g4 (by decide) e)
      replace h_g5 := Blk.keep h_g5 hx (fun e => Own.neType ho1 h_g5 (by decide) e)
      replace hC := Chg.then hC hx (fun i hi e => absurd hi (by have := ge_ho1 i e; omega))
      replace hB2 : B2 ≤ w19.heap.size := by have := Chg.size hx; omega
      replace ge_ho1 := ge_n
      clear ge_n
      replace ho1 := ho1'
      clear ho1'
      refine ⟨Chg.mono hx0 (fun i hi e => hrow_ho1 i e), ?_⟩
      clear hx0
      replace hrow_ho1 := hrow'
      clear hrow'
      clear hx hg
      refine xl_tail (s := 5) rfl ?_
      intro w20 hx
      replace hC := hC.trans hx
      replace hr := Rd.ext hr hx
      replace h_g1 := Blk.ext h_g1 hx
      replace h_g2 := Blk.ext h_g2 hx
      replace ho1 := Own.ext ho1 hx
      replace h_g4 := Blk.ext h_g4 hx
      replace h_g5 := Blk.ext h_g5 hx
      replace hB2 : B2 ≤ w20.heap.size := by have := Chg.size hx; omega
      clear hx
      clear hB2
      refine lf_val (v := y2) (wantAll rfl) (rv_assign rfl (fr_eval rfl rfl)) ?_
      refine lf_nil ?_
      refine blk_n ?_
      refine then_n ?_
      refine wp_gen (fun F' => F' 0 = .agg (cBs s).toArray ∧ F' 1 = v ∧ F' 2 = .pointer (some ⟨g1, 0, none⟩) ∧ F' 4 = .slice none 0 0 ∧ F' 5 = .pointer (some ⟨g2, 0, none⟩) ∧ F' 6 = y2 ∧ F' 7 = .int .i64 ((k : Nat) : Int) ∧ F' 8 = .int .i64 ((bitN (join 14 [b]) k : Nat) : Int) ∧ F' 9 = .pointer (some ⟨g4, 0, none⟩) ∧ F' 10 = .pointer (some ⟨g5, 0, none⟩) ∧ F' 14 = .int .i64 ((k : Nat) : Int) ∧ F' 15 = .bool true) ⟨e0, e1, e2, e4, e5, rfl, e7, e8, e9, e10, e14, e15⟩ ?_
      clear e0 e1 e2 e4 e5 e6 e7 e8 e9 e10 e14 e15
      clear F
      rintro F ⟨e0, e1, e2, e4, e5, e6, e7, e8, e9, e10, e14, e15⟩
      refine wp_regionF ?_
      refine lf_val (v := .int .i64 ((k + 1 : Nat) : Int)) (wantAll rfl) (rv_add rfl (fr_eval rfl e14) rfl (wrap_i64 (by omega) (by omega) (by omega))) ?_
      refine lf_val (v := .int .i64 ((k + 1 : Nat) : Int)) (wantAll rfl) (rv_move rfl (fr_eval rfl rfl)) ?_
      refine lf_nil ?_
      refine then_n ?_
      exact ⟨_, _, (by omega), rfl, k + 1, _, rfl, (by omega), e0, e1, e2, e4, e5, e6, rfl, hr, h_g1, h_g2, ho1, ge_ho1, hC⟩
    · refine xl_step (i := 11) rfl (wantAll rfl) ?_
      refine of_ex (ex_allocG 23 (z := .agg (cBs (List.replicate 32 0)).toArray) (n := 32) (cs := cBs (List.replicate 32 0)) (by kernel_rfl) (by rfl) rfl) ?_
      rintro _ w21 ⟨g6, hg_g6, rfl, h_g6, hx⟩
      
      have hx0 := hx
      have ge_g6 : w.heap.size ≤ g6 := by have := hC.size; omega
      have lt_g1_g6 : g1 < g6 := by have := Blk.lt h_g1; omega
      have lt_g2_g6 : g2 < g6 := by have := Blk.lt h_g2; omega
      have bge_g6 : B1 ≤ g6 := by omega
      replace hC := hC.trans hx
      replace hr := Rd.ext hr hx
      replace h_g1 := Blk.ext h_g1 hx
      replace h_g2 := Blk.ext h_g2 hx
      replace ho1 := Own.ext ho1 hx
      replace hB1 : B1 ≤ w21.heap.size := by have := Chg.size hx; omega
      clear hx hg_g6
      refine ⟨Ext.any hx0, ?_⟩
      clear hx0
      refine anyX_ready (rs := [10]) (by kernel_rfl) ?_
      intro w22 hx
      replace hC := hC.trans hx
      replace hr := Rd.ext hr hx
      replace h_g1 := Blk.ext h_g1 hx
      replace h_g2 := Blk.ext h_g2 hx
      replace ho1 := Own.ext ho1 hx
      replace h_g6 := Blk.ext h_g6 hx
      replace hB1 : B1 ≤ w22.heap.size := by have := Chg.size hx; omega
      clear hx
      refine (anyX_cons ?_ anyX_nil)
      refine xl_step (i := 10) rfl (wantAll rfl) ?_
      refine of_ex (ex_allocG 23 (z := .agg (cBs (List.replicate 32 0)).toArray) (n := 32) (cs := cBs (List.replicate 32 0)) (by kernel_rfl) (by rfl) rfl) ?_
      rintro _ w23 ⟨g7, hg_g7, rfl, h_g7, hx⟩
      
      have hx0 := hx
      have ge_g7 : w.heap.size ≤ g7 := by have := hC.size; omega
      have lt_g1_g7 : g1 < g7 := by have := Blk.lt h_g1; omega
      have lt_g2_g7 : g2 < g7 := by have := Blk.lt h_g2; omega
      have lt_g6_g7 : g6 < g7 := by have := Blk.lt h_g6; omega
      have bge_g7 : B1 ≤ g7 := by omega
      replace hC := hC.trans hx
      replace hr := Rd.ext hr hx
      replace h_g1 := Blk.ext h_g1 hx
      replace h_g2 := Blk.ext h_g2 hx
      replace ho1 := Own.ext ho1 hx
      replace h_g6 := Blk.ext h_g6 hx
      replace hB1 : B1 ≤ w23.heap.size := by have := Chg.size hx; omega
      clear hx hg_g7
      refine ⟨Ext.any hx0, ?_⟩
      clear hx0
      refine anyX_ready (rs := [12]) (by kernel_rfl) ?_
      intro w24 hx
      replace hC := hC.trans hx
      replace hr := Rd.ext hr hx
      replace h_g1 := Blk.ext h_g1 hx
      replace h_g2 := Blk.ext h_g2 hx
      replace ho1 := Own.ext ho1 hx
      replace h_g6 := Blk.ext h_g6 hx
      replace h_g7 := Blk.ext h_g7 hx
      replace hB1 : B1 ≤ w24.heap.size := by have := Chg.size hx; omega
      clear hx
      refine (anyX_cons ?_ anyX_nil)
      refine xl_step (i := 12) rfl (wantAll rfl) ?_
      refine of_sk (ex_storeW (cs := cBs (secN s k (bitN (join 14 [b]) k))) rfl h_g7 (fr_eval rfl rfl) (fr_eval rfl rfl) (sz_len Try.sz23 (cBs_len secN_len)) (((cBs_len (List.length_replicate ..))).trans ((cBs_len secN_len)).symm) (cBs_one _)) ?_
      rintro w25 ⟨h_g7', hx⟩
      have hx0 := hx
      replace h_g7' : Blk w25 g7 (cBs (secN s k (bitN (join 14 [b]) k))) 23 := h_g7'
      replace hr := Rd.keep hr hx (fun b hb h0 e => by have e : b = g7 := e; have := Rd.lt hr0 h0 b hb; omega)
      replace h_g1 := Blk.keep h_g1 hx (fun e => by have e : g1 = g7 := e; omega)
      replace h_g2 := Blk.keep h_g2 hx (fun e => by have e : g2 = g7 := e; omega)
      replace ho1 := Own.keep ho1 hx (fun b hb e => (Own.neType ho1 h_g7 (by decide)) (by have e : b = g7 := e; rw [← e]; exact hb))
      replace h_g6 := Blk.keep h_g6 hx (fun e => by have e : g6 = g7 := e; omega)
      replace hC := Chg.then hC hx (fun i hi e => absurd hi (by have e : i = g7 := e; omega))
      replace hB1 : B1 ≤ w25.heap.size := by have := Chg.size hx; omega
      replace h_g7 := h_g7'
      clear h_g7'
      refine ⟨Chg.mono hx0 (fun i hi e => Or.inl (by have e : i = g7 := e; omega)), ?_⟩
      clear hx0
      clear hx
      refine xl_tail (s := 13) rfl ?_
      intro w26 hx
      replace hC := hC.trans hx
      replace hr := Rd.ext hr hx
      replace h_g1 := Blk.ext h_g1 hx
      replace h_g2 := Blk.ext h_g2 hx
      replace ho1 := Own.ext ho1 hx
      replace h_g6 := Blk.ext h_g6 hx
      replace h_g7 := Blk.ext h_g7 hx
      replace hB1 : B1 ≤ w26.heap.size := by have := Chg.size hx; omega
      clear hx
      clear hB1
      refine lf_sk (wantAll rfl) (ex_storeW (cs := cBs (shw (secN s k (1 - (bitN (join 14 [b]) k))))) rfl h_g6 (fr_eval rfl rfl) (fr_eval rfl rfl) (sz_len Try.sz23 (cBs_len shw_len)) (((cBs_len (List.length_replicate ..))).trans ((cBs_len shw_len)).symm) (cBs_one _)) ?_
      rintro w27 ⟨h_g6', hx⟩
      replace h_g6' : Blk w27 g6 (cBs (shw (secN s k (1 - (bitN (join 14 [b]) k))))) 23 := h_g6'
      replace hr := Rd.keep hr hx (fun b hb h0 e => by have e : b = g6 := e; have := Rd.lt hr0 h0 b hb; omega)
      replace h_g1 := Blk.keep h_g1 hx (fun e => by have e : g1 = g6 := e; omega)
      replace h_g2 := Blk.keep h_g2 hx (fun e => by have e : g2 = g6 := e; omega)
      replace ho1 := Own.keep ho1 hx (fun b hb e => (Own.neType ho1 h_g6 (by decide)) (by have e : b = g6 := e; rw [← e]; exact hb))
      replace h_g7 := Blk.keep h_g7 hx (fun e => by have e : g7 = g6 := e; omega)
      replace hC := Chg.then hC hx (fun i hi e => absurd hi (by have e : i = g6 := e; omega))
      replace h_g6 := h_g6'
      clear h_g6'
      clear hx
      refine lf_nil ?_
      refine then_n ?_
      refine wp_gen (fun F' => F' 0 = .agg (cBs s).toArray ∧ F' 1 = v ∧ F' 2 = .pointer (some ⟨g1, 0, none⟩) ∧ F' 4 = .slice none 0 0 ∧ F' 5 = .pointer (some ⟨g2, 0, none⟩) ∧ F' 6 = v1 ∧ F' 7 = .int .i64 ((k : Nat) : Int) ∧ F' 8 = .int .i64 ((bitN (join 14 [b]) k : Nat) : Int) ∧ F' 9 = .pointer (some ⟨g7, 0, none⟩) ∧ F' 10 = .pointer (some ⟨g6, 0, none⟩) ∧ F' 14 = .int .i64 ((k : Nat) : Int) ∧ F' 15 = .bool true) ⟨e0, e1, e2, e4, e5, e6, e7, e8, rfl, rfl, e14, e15⟩ ?_
      clear e0 e1 e2 e4 e5 e6 e7 e8 e14 e15
      clear F
      rintro F ⟨e0, e1, e2, e4, e5, e6, e7, e8, e9, e10, e14, e15⟩
      obtain ⟨B3, hB3⟩ : ∃ B, B = w27.heap.size := ⟨_, rfl⟩
      have hwB : w.heap.size ≤ B3 := by have := hC.size; omega
      have bl_g1 : g1 < B3 := by have := Blk.lt h_g1; omega
      have bl_g2 : g2 < B3 := by have := Blk.lt h_g2; omega
      have bl_g6 : g6 < B3 := by have := Blk.lt h_g6; omega
      have bl_g7 : g7 < B3 := by have := Blk.lt h_g7; omega
      replace hB3 : B3 ≤ w27.heap.size := by omega
      have hrow_ho1 : ∀ k, (v1 : Value).ownBlock = some k → B3 ≤ k ∨ (v1 : Value).ownBlock = some k := fun _ h => Or.inr h
      refine wp_regionX (fun k => B3 ≤ k ∨ ((v1 : Value).ownBlock = some k)) 5 (by kernel_rfl) (by kernel_rfl) ?_
      refine xl_take (i := 0) (v := v1) rfl (by kernel_rfl) (by kernel_rfl) (by kernel_rfl) (by kernel_rfl) (yx_val (wantAll rfl) (fun w' hx' => rv_move rfl (fr_eval rfl e6))) ?_
      refine xl_take (i := 1) (v := .slice (some ⟨g7, 0, none⟩) 32 32) rfl (by kernel_rfl) (by kernel_rfl) (by kernel_rfl) (by kernel_rfl) (yx_val (wantAll rfl) (fun w' hx' => rv_sliceArr rfl (fr_eval rfl e9) Try.underlying23 Try.sz5 (by decide))) ?_
      refine xl_take (i := 3) (v := .slice (some ⟨g6, 0, none⟩) 32 32) rfl (by kernel_rfl) (by kernel_rfl) (by kernel_rfl) (by kernel_rfl) (yx_val (wantAll rfl) (fun w' hx' => rv_sliceArr rfl (fr_eval rfl e10) Try.underlying23 Try.sz5 (by decide))) ?_
      refine anyX_ready (rs := [2]) (by kernel_rfl) ?_
      intro w28 hx
      replace hC := hC.trans hx
      replace hr := Rd.ext hr hx
      replace h_g1 := Blk.ext h_g1 hx
      replace h_g2 := Blk.ext h_g2 hx
      replace ho1 := Own.ext ho1 hx
      replace h_g6 := Blk.ext h_g6 hx
      replace h_g7 := Blk.ext h_g7 hx
      replace hB3 : B3 ≤ w28.heap.size := by have := Chg.size hx; omega
      clear hx
      refine (anyX_cons ?_ anyX_nil)
      refine xl_step (i := 2) rfl (wantAll rfl) ?_
      refine of_ex (ex_apB (xs := sigs s (join 14 [b]) k) (news := (secN s k (bitN (join 14 [b]) k))) (.tmp 30) (.tmp 31) ho1 (rdB_blkn h_g7 secN_len (by decide)) (by rw [sigs_len, secN_len]; omega) (fr_eval rfl rfl) (fr_eval rfl rfl) rfl) ?_
      rintro y3 w29 ⟨ho1', hg⟩
      have hx := hg.chg
      have hx0 := hx
      have hrow' := hg.row (by omega) hrow_ho1
      have ge_n := hg.ge (by have := hC.size; omega) ge_ho1
      replace hr := Rd.keep hr hx (fun b hb h0 e => by have := Rd.lt hr0 h0 b hb; have := ge_ho1 b e; omega)
      replace h_g1 := Blk.keep h_g1 hx (fun e => Own.neType ho1 h_g1 (by decide) e)
      replace h_g2 := Blk.keep h_g2 hx (fun e => Own.neType ho1 h_g2 (by decide) e)
      replace h_g6 := Blk.keep h_g6 hx (fun e => Own.neType ho1 h_g6 (by decide) e)
      replace h_g7 := Blk.keep h_g7 hx (fun e => Own.neType ho1 h_g7 (by decide) e)
      replace hC := Chg.then hC hx (fun i hi e => absurd hi (by have := ge_ho1 i e; omega))
      replace hB3 : B3 ≤ w29.heap.size := by have := Chg.size hx; omega
      replace ge_ho1 := ge_n
      clear ge_n
      replace ho1 := ho1'
      clear ho1'
      refine ⟨Chg.mono hx0 (fun i hi e => hrow_ho1 i e), ?_⟩
      clear hx0
      replace hrow_ho1 := hrow'
      clear hrow'
      clear hx hg
      refine anyX_ready (rs := [4]) (by kernel_rfl) ?_
      intro w30 hx
      replace hC := hC.trans hx
      replace hr := Rd.ext hr hx
      replace h_g1 := Blk.ext h_g1 hx
      replace h_g2 := Blk.ext h_g2 hx
      replace ho1 := Own.ext ho1 hx
      replace h_g6 := Blk.ext h_g6 hx
      replace h_g7 := Blk.ext h_g7 hx
      replace hB3 : B3 ≤ w30.heap.size := by have := Chg.size hx; omega
      clear hx
      refine (anyX_cons ?_ anyX_nil)
      refine xl_step (i := 4) rfl (wantAll rfl) ?_
      refine of_ex (ex_apB (xs := (sigs s (join 14 [b]) k) ++ (secN s k (bitN (join 14 [b]) k))) (news := (shw (secN s k (1 - (bitN (join 14 [b]) k))))) (.tmp 32) (.tmp 33) ho1 (rdB_blkn h_g6 shw_len (by decide)) (by rw [List.length_append, sigs_len, shw_len, secN_len]; omega) (fr_eval rfl rfl) (fr_eval rfl rfl) rfl) ?_
      rintro y4 w31 ⟨ho1', hg⟩
      have hx := hg.chg
      have hx0 := hx
      replace ho1' : OwnB w31 y4 (sigs s (join 14 [b]) (k + 1)) := by have e := sigs_at s (join 14 [b]) k; rw [e] at ho1'; exact ho1'
      have hrow' := hg.row (by omega) hrow_ho1
      have ge_n := hg.ge (by have := hC.size; omega) ge_ho1
      replace hr := Rd.keep hr hx (fun b hb h0 e => by have := Rd.lt hr0 h0 b hb; have := ge_ho1 b e; omega)
      replace h_g1 := Blk.keep h_g1 hx (fun e => Own.neType ho1 h_g1 (by decide) e)
      replace h_g2 := Blk.keep h_g2 hx (fun e => Own.neType ho1 h_g2 (by decide) e)
      replace h_g6 := Blk.keep h_g6 hx (fun e => Own.neType ho1 h_g6 (by decide) e)
      replace h_g7 := Blk.keep h_g7 hx (fun e => Own.neType ho1 h_g7 (by decide) e)
      replace hC := Chg.then hC hx (fun i hi e => absurd hi (by have := ge_ho1 i e; omega))
      replace hB3 : B3 ≤ w31.heap.size := by have := Chg.size hx; omega
      replace ge_ho1 := ge_n
      clear ge_n
      replace ho1 := ho1'
      clear ho1'
      refine ⟨Chg.mono hx0 (fun i hi e => hrow_ho1 i e), ?_⟩
      clear hx0
      replace hrow_ho1 := hrow'
      clear hrow'
      clear hx hg
      refine xl_tail (s := 5) rfl ?_
      intro w32 hx
      replace hC := hC.trans hx
      replace hr := Rd.ext hr hx
      replace h_g1 := Blk.ext h_g1 hx
      replace h_g2 := Blk.ext h_g2 hx
      replace ho1 := Own.ext ho1 hx
      replace h_g6 := Blk.ext h_g6 hx
      replace h_g7 := Blk.ext h_g7 hx
      replace hB3 : B3 ≤ w32.heap.size := by have := Chg.size hx; omega
      clear hx
      clear hB3
      refine lf_val (v := y4) (wantAll rfl) (rv_assign rfl (fr_eval rfl rfl)) ?_
      refine lf_nil ?_
      refine blk_n ?_
      refine then_n ?_
      refine wp_gen (fun F' => F' 0 = .agg (cBs s).toArray ∧ F' 1 = v ∧ F' 2 = .pointer (some ⟨g1, 0, none⟩) ∧ F' 4 = .slice none 0 0 ∧ F' 5 = .pointer (some ⟨g2, 0, none⟩) ∧ F' 6 = y4 ∧ F' 7 = .int .i64 ((k : Nat) : Int) ∧ F' 8 = .int .i64 ((bitN (join 14 [b]) k : Nat) : Int) ∧ F' 9 = .pointer (some ⟨g7, 0, none⟩) ∧ F' 10 = .pointer (some ⟨g6, 0, none⟩) ∧ F' 14 = .int .i64 ((k : Nat) : Int) ∧ F' 15 = .bool true) ⟨e0, e1, e2, e4, e5, rfl, e7, e8, e9, e10, e14, e15⟩ ?_
      clear e0 e1 e2 e4 e5 e6 e7 e8 e9 e10 e14 e15
      clear F
      rintro F ⟨e0, e1, e2, e4, e5, e6, e7, e8, e9, e10, e14, e15⟩
      refine wp_regionF ?_
      refine lf_val (v := .int .i64 ((k + 1 : Nat) : Int)) (wantAll rfl) (rv_add rfl (fr_eval rfl e14) rfl (wrap_i64 (by omega) (by omega) (by omega))) ?_
      refine lf_val (v := .int .i64 ((k + 1 : Nat) : Int)) (wantAll rfl) (rv_move rfl (fr_eval rfl rfl)) ?_
      refine lf_nil ?_
      refine then_n ?_
      exact ⟨_, _, (by omega), rfl, k + 1, _, rfl, (by omega), e0, e1, e2, e4, e5, e6, rfl, hr, h_g1, h_g2, ho1, ge_ho1, hC⟩
  · refine lf_val (v := .bool false) (wantAll rfl) (rv_lss rfl (fr_eval rfl e14) rfl (decide_eq_false (by omega))) ?_
    refine lf_nil ?_
    refine then_n ?_
    refine wp_seq ?_
    refine wp_gen (fun F' => F' 0 = .agg (cBs s).toArray ∧ F' 1 = v ∧ F' 2 = .pointer (some ⟨g1, 0, none⟩) ∧ F' 4 = .slice none 0 0 ∧ F' 5 = .pointer (some ⟨g2, 0, none⟩) ∧ F' 6 = v1 ∧ F' 14 = .int .i64 ((k : Nat) : Int) ∧ F' 15 = .bool false) ⟨e0, e1, e2, e4, e5, e6, e14, rfl⟩ ?_
    clear e0 e1 e2 e4 e5 e6 e14
    clear F
    rintro F ⟨e0, e1, e2, e4, e5, e6, e14, e15⟩
    refine wp_cond_false (fr_eval rfl e15) ?_
    refine wp_exit ?_
    refine then_exit ?_
    refine then_exit ?_
    refine blk_exit ?_
    refine then_n ?_
    refine wp_seq ?_
    refine wp_regionF ?_
    refine lf_val (v := v1) (wantAll rfl) (rv_move rfl (fr_eval rfl e6)) ?_
    refine lf_val (v := v1) (wantAll rfl) (rv_assign rfl (fr_eval rfl rfl)) ?_
    refine lf_nil ?_
    refine then_n ?_
    refine wp_gen (fun F' => F' 0 = .agg (cBs s).toArray ∧ F' 1 = v ∧ F' 2 = .pointer (some ⟨g1, 0, none⟩) ∧ F' 4 = v1 ∧ F' 5 = .pointer (some ⟨g2, 0, none⟩) ∧ F' 6 = v1 ∧ F' 14 = .int .i64 ((k : Nat) : Int) ∧ F' 15 = .bool false) ⟨e0, e1, e2, rfl, e5, e6, e14, e15⟩ ?_
    clear e0 e1 e2 e4 e5 e6 e14 e15
    clear F
    rintro F ⟨e0, e1, e2, e4, e5, e6, e14, e15⟩
    refine wp_ret ?_
    exact bodyPost_ret (v := v1) (res1 rfl (ro_tmp rfl e4)) rfl (⟨⟨_, rfl, (by have hk : k = 64 := (by omega); subst hk; exact ho1), ge_ho1⟩, hC⟩)

set_option maxRecDepth 100000 in
set_option maxHeartbeats 4000000 in
theorem back_calls (b sig : List UInt8) (hb : b.length ≤ 1000000) (v v2 : Value) (w : World) (hr0 : RdB w v b) (hs0 : RdB w v2 sig) :
    Calls Try.prog 73 #[v, v2] w fun e w' => e = .returned (.tuple #[.agg (cBs (backK (join 14 [b]) sig)).toArray, .int .i64 (backE sig)]) ∧ Ext w w' := by
  refine calls_fr (args := [v, v2]) (n := 56) Try.func73 rfl rfl (show 2 ≤ 56 by decide) ?_
  have hC : Ext w w := Chg.refl _ _
  have hr := hr0
  have hs2 := hs0
  by_cases hl : sig.length = 4096
  · refine wp_seq ?_
    refine wp_gen (fun F' => F' 0 = v ∧ F' 1 = v2) ⟨rfl, rfl⟩ ?_
    rintro F ⟨e0, e1⟩
    refine wp_regionF ?_
    refine lf_ex (wantAll rfl) (ex_allocG 23 (z := .agg (cBs (List.replicate 32 0)).toArray) (n := 32) (cs := cBs (List.replicate 32 0)) (by kernel_rfl) (by rfl) rfl) ?_
    rintro _ w1 ⟨g1, hg_g1, rfl, h_g1, hx⟩
    have ge_g1 : w.heap.size ≤ g1 := by have := hC.size; omega
    replace hC := hC.trans hx
    replace hr := Rd.ext hr hx
    replace hs2 := Rd.ext hs2 hx
    clear hx hg_g1
    refine lf_val (v := .int .i64 0) (wantAll rfl) (rv_assign rfl rfl) ?_
    refine lf_nil ?_
    refine then_n ?_
    refine wp_seq ?_
    refine wp_seq ?_
    refine wp_gen (fun F' => F' 0 = v ∧ F' 1 = v2 ∧ F' 4 = .pointer (some ⟨g1, 0, none⟩) ∧ F' 5 = .int .i64 0) ⟨e0, e1, rfl, rfl⟩ ?_
    clear e0 e1
    clear F
    rintro F ⟨e0, e1, e4, e5⟩
    refine wp_regionF ?_
    refine lf_val (v := v2) (wantAll rfl) (rv_move rfl (fr_eval rfl e1)) ?_
    refine lf_val (v := .int .i64 ((sig.length : Nat) : Int)) (wantAll rfl) (rv_len rfl (fr_eval rfl rfl) (RdB.rn hs2 rfl) Try.underlying58) ?_
    refine lf_val (v := .bool false) (wantAll rfl) (rv_neq rfl (fr_eval rfl rfl) rfl (decide_eq_true (by omega))) ?_
    refine lf_nil ?_
    refine then_n ?_
    refine wp_gen (fun F' => F' 0 = v ∧ F' 1 = v2 ∧ F' 4 = .pointer (some ⟨g1, 0, none⟩) ∧ F' 5 = .int .i64 0 ∧ F' 14 = .bool false) ⟨e0, e1, e4, e5, rfl⟩ ?_
    clear e0 e1 e4 e5
    clear F
    rintro F ⟨e0, e1, e4, e5, e14⟩
    refine wp_cond_false (fr_eval rfl e14) ?_
    refine wp_skip ?_
    refine then_n ?_
    refine wp_seq ?_
    refine wp_regionF ?_
    refine lf_val (v := v) (wantAll rfl) (rv_move rfl (fr_eval rfl e0)) ?_
    refine lf_call (wantAll rfl) (rv_call (args := [v]) rfl (evc (fr_eval rfl rfl) evn) Try.call68) (digest_calls b (Nat.le_trans hb (by decide)) _ _ hr) ?_
    rintro _ w2 ⟨rfl, hx⟩
    refine ⟨_, rfl, ?_⟩
    replace hC := hC.trans hx
    replace hr := Rd.ext hr hx
    replace hs2 := Rd.ext hs2 hx
    replace h_g1 := Blk.ext h_g1 hx
    clear hx
    refine lf_ex (wantAll rfl) (ex_allocG 23 (z := .agg (cBs (List.replicate 32 0)).toArray) (n := 32) (cs := cBs (List.replicate 32 0)) (by kernel_rfl) (by rfl) rfl) ?_
    rintro _ w3 ⟨g2, hg_g2, rfl, h_g2, hx⟩
    have ge_g2 : w.heap.size ≤ g2 := by have := hC.size; omega
    have lt_g1_g2 : g1 < g2 := by have := Blk.lt h_g1; omega
    replace hC := hC.trans hx
    replace hr := Rd.ext hr hx
    replace hs2 := Rd.ext hs2 hx
    replace h_g1 := Blk.ext h_g1 hx
    clear hx hg_g2
    refine lf_sk (wantAll rfl) (ex_storeW (cs := cBs (join 14 [b])) rfl h_g2 (fr_eval rfl rfl) (fr_eval rfl rfl) (sz_len Try.sz23 (cBs_len (join_length _ _))) (((cBs_len (List.length_replicate ..))).trans ((cBs_len (join_length _ _))).symm) (cBs_one _)) ?_
    rintro w4 ⟨h_g2', hx⟩
    replace h_g2' : Blk w4 g2 (cBs (join 14 [b])) 23 := h_g2'
    replace hr := Rd.keep hr hx (fun b hb h0 e => by have e : b = g2 := e; have := Rd.lt hr0 h0 b hb; omega)
    replace hs2 := Rd.keep hs2 hx (fun b hb h0 e => by have e : b = g2 := e; have := Rd.lt hs0 h0 b hb; omega)
    replace h_g1 := Blk.keep h_g1 hx (fun e => by have e : g1 = g2 := e; omega)
    replace hC := Chg.then hC hx (fun i hi e => absurd hi (by have e : i = g2 := e; omega))
    replace h_g2 := h_g2'
    clear h_g2'
    clear hx
    refine lf_nil ?_
    refine then_n ?_
    refine wp_seq ?_
    refine wp_gen (fun F' => F' 0 = v ∧ F' 1 = v2 ∧ F' 4 = .pointer (some ⟨g1, 0, none⟩) ∧ F' 5 = .int .i64 0 ∧ F' 6 = .pointer (some ⟨g2, 0, none⟩) ∧ F' 14 = .bool false) ⟨e0, e1, e4, e5, rfl, e14⟩ ?_
    clear e0 e1 e4 e5 e14
    clear F
    rintro F ⟨e0, e1, e4, e5, e6, e14⟩
    refine wp_regionF ?_
    refine lf_ex (wantAll rfl) (ex_make (n := 0) (c := 4096) (z1 := .int .u8 0) Try.stB (.const (.int .i64 0)) (.const (.int .i64 4096)) (show _ = Value.int _ ((0 : Nat) : Int) from rfl) (show _ = Value.int _ ((4096 : Nat) : Int) from rfl) (by omega) (by omega) rfl rfl) ?_
    rintro _ w5 ⟨g3, hg_g3, rfl, h_g3, hx⟩
    have ho1 := ownB_make h_g3 (by omega)
    have ge_ho1 : ∀ k, (Value.slice (some ⟨g3, 0, none⟩) 0 4096).ownBlock = some k → w.heap.size ≤ k := fun k hk => by simp only [Value.ownBlock, Option.some.injEq] at hk; have := hC.size; omega
    replace hC := hC.trans hx
    replace hr := Rd.ext hr hx
    replace hs2 := Rd.ext hs2 hx
    replace h_g1 := Blk.ext h_g1 hx
    replace h_g2 := Blk.ext h_g2 hx
    clear hx hg_g3 h_g3
    refine lf_val (v := .slice (some ⟨g3, 0, none⟩) 0 4096) (wantAll rfl) (rv_assign rfl (fr_eval rfl rfl)) ?_
    refine lf_nil ?_
    refine then_n ?_
    refine wp_seq ?_
    refine wp_seq ?_
    refine wp_gen (fun F' => F' 0 = v ∧ F' 1 = v2 ∧ F' 4 = .pointer (some ⟨g1, 0, none⟩) ∧ F' 5 = .int .i64 0 ∧ F' 6 = .pointer (some ⟨g2, 0, none⟩) ∧ F' 7 = .slice (some ⟨g3, 0, none⟩) 0 4096 ∧ F' 14 = .bool false) ⟨e0, e1, e4, e5, e6, rfl, e14⟩ ?_
    clear e0 e1 e4 e5 e6 e14
    clear F
    rintro F ⟨e0, e1, e4, e5, e6, e7, e14⟩
    refine wp_regionF ?_
    refine lf_val (v := .int .i64 0) (wantAll rfl) (rv_move rfl rfl) ?_
    refine lf_nil ?_
    refine then_n ?_
    refine wp_block ?_
    refine wp_gen (fun F' => F' 0 = v ∧ F' 1 = v2 ∧ F' 4 = .pointer (some ⟨g1, 0, none⟩) ∧ F' 5 = .int .i64 0 ∧ F' 6 = .pointer (some ⟨g2, 0, none⟩) ∧ F' 7 = .slice (some ⟨g3, 0, none⟩) 0 4096 ∧ F' 14 = .bool false ∧ F' 19 = .int .i64 0) ⟨e0, e1, e4, e5, e6, e7, e14, rfl⟩ ?_
    clear e0 e1 e4 e5 e6 e7 e14
    clear F
    rintro F ⟨e0, e1, e4, e5, e6, e7, e14, e19⟩
    refine wp_loopF (fun m F wr => ∃ k : Nat, ∃ v1 : Value, m = 64 - k ∧ k ≤ 64 ∧ F 0 = v ∧ F 1 = v2 ∧ F 4 = .pointer (some ⟨g1, 0, none⟩) ∧ F 5 = .int .i64 0 ∧ F 6 = .pointer (some ⟨g2, 0, none⟩) ∧ F 7 = v1 ∧ F 14 = .bool false ∧ F 19 = .int .i64 ((k : Nat) : Int) ∧ RdB wr v b ∧ RdB wr v2 sig ∧ Blk wr g1 (cBs (List.replicate 32 0)) 23 ∧ Blk wr g2 (cBs (join 14 [b])) 23 ∧ OwnB wr v1 (backs (join 14 [b]) sig k) ∧ (∀ k, (v1 : Value).ownBlock = some k → w.heap.size ≤ k) ∧ Ext w wr) ⟨0, _, rfl, Nat.zero_le _, e0, e1, e4, e5, e6, e7, e14, e19, hr, hs2, h_g1, h_g2, ho1, ge_ho1, hC⟩ ?_
    clear e0 e1 e4 e5 e6 e7 e14 e19 hr hs2 h_g1 h_g2 ho1 ge_ho1 hC
    clear F
    rintro m F w6 ⟨k, v1, rfl, pk0, e0, e1, e4, e5, e6, e7, e14, e19, hr, hs2, h_g1, h_g2, ho1, ge_ho1, hC⟩
    refine wp_seq ?_
    refine wp_regionF ?_
    by_cases hc1 : k < 64
    · refine lf_val (v := .bool true) (wantAll rfl) (rv_lss rfl (fr_eval rfl e19) rfl (decide_eq_true (by omega))) ?_
      refine lf_nil ?_
      refine then_n ?_
      refine wp_seq ?_
      refine wp_gen (fun F' => F' 0 = v ∧ F' 1 = v2 ∧ F' 4 = .pointer (some ⟨g1, 0, none⟩) ∧ F' 5 = .int .i64 0 ∧ F' 6 = .pointer (some ⟨g2, 0, none⟩) ∧ F' 7 = v1 ∧ F' 14 = .bool false ∧ F' 19 = .int .i64 ((k : Nat) : Int) ∧ F' 20 = .bool true) ⟨e0, e1, e4, e5, e6, e7, e14, e19, rfl⟩ ?_
      clear e0 e1 e4 e5 e6 e7 e14 e19
      clear F
      rintro F ⟨e0, e1, e4, e5, e6, e7, e14, e19, e20⟩
      refine wp_cond_true (fr_eval rfl e20) ?_
      refine wp_skip ?_
      refine then_n ?_
      refine wp_seq ?_
      refine wp_block ?_
      refine wp_seq ?_
      refine wp_regionF ?_
      refine lf_val (v := .int .i64 ((k : Nat) : Int)) (wantAll rfl) (rv_move rfl (fr_eval rfl e19)) ?_
      refine lf_val (v := .int .i64 ((k : Nat) : Int)) (wantAll rfl) (rv_assign rfl (fr_eval rfl rfl)) ?_
      refine lf_nil ?_
      refine then_n ?_
      refine wp_seq ?_
      refine wp_gen (fun F' => F' 0 = v ∧ F' 1 = v2 ∧ F' 4 = .pointer (some ⟨g1, 0, none⟩) ∧ F' 5 = .int .i64 0 ∧ F' 6 = .pointer (some ⟨g2, 0, none⟩) ∧ F' 7 = v1 ∧ F' 8 = .int .i64 ((k : Nat) : Int) ∧ F' 14 = .bool false ∧ F' 19 = .int .i64 ((k : Nat) : Int) ∧ F' 20 = .bool true) ⟨e0, e1, e4, e5, e6, e7, rfl, e14, e19, e20⟩ ?_
      clear e0 e1 e4 e5 e6 e7 e14 e19 e20
      clear F
      rintro F ⟨e0, e1, e4, e5, e6, e7, e8, e14, e19, e20⟩
      refine wp_regionF ?_
      refine lf_ex (wantAll rfl) (ex_allocG 22 (z := .agg (cBs (List.replicate 32 0)).toArray) (n := 32) (cs := cBs (List.replicate 32 0)) (by kernel_rfl) (by rfl) rfl) ?_
      rintro _ w7 ⟨g4, hg_g4, rfl, h_g4, hx⟩
      have ge_g4 : w.heap.size ≤ g4 := by have := hC.size; omega
      have lt_g1_g4 : g1 < g4 := by have := Blk.lt h_g1; omega
      have lt_g2_g4 : g2 < g4 := by have := Blk.lt h_g2; omega
      replace hC := hC.trans hx
      replace hr := Rd.ext hr hx
      replace hs2 := Rd.ext hs2 hx
      replace h_g1 := Blk.ext h_g1 hx
      replace h_g2 := Blk.ext h_g2 hx
      replace ho1 := Own.ext ho1 hx
      clear hx hg_g4
      refine lf_nil ?_
      refine then_n ?_
      refine wp_seq ?_
      refine wp_gen (fun F' => F' 0 = v ∧ F' 1 = v2 ∧ F' 4 = .pointer (some ⟨g1, 0, none⟩) ∧ F' 5 = .int .i64 0 ∧ F' 6 = .pointer (some ⟨g2, 0, none⟩) ∧ F' 7 = v1 ∧ F' 8 = .int .i64 ((k : Nat) : Int) ∧ F' 9 = .pointer (some ⟨g4, 0, none⟩) ∧ F' 14 = .bool false ∧ F' 19 = .int .i64 ((k : Nat) : Int) ∧ F' 20 = .bool true) ⟨e0, e1, e4, e5, e6, e7, e8, rfl, e14, e19, e20⟩ ?_
      clear e0 e1 e4 e5 e6 e7 e8 e14 e19 e20
      clear F
      rintro F ⟨e0, e1, e4, e5, e6, e7, e8, e9, e14, e19, e20⟩
      have hkl : k < 64 := by omega
      obtain ⟨B1, hB1⟩ : ∃ B, B = w7.heap.size := ⟨_, rfl⟩
      have hwB : w.heap.size ≤ B1 := by have := hC.size; omega
      have bl_g1 : g1 < B1 := by have := Blk.lt h_g1; omega
      have bl_g2 : g2 < B1 := by have := Blk.lt h_g2; omega
      have bl_g4 : g4 < B1 := by have := Blk.lt h_g4; omega
      replace hB1 : B1 ≤ w7.heap.size := by omega
      refine wp_regionX (fun k => B1 ≤ k ∨ ((Value.slice none 0 0).ownBlock = some k ∨ k = g4)) 6 (by kernel_rfl) (by kernel_rfl) ?_
      refine xl_take (i := 0) (v := .slice (some ⟨g4, 0, none⟩) 32 32) rfl (by kernel_rfl) (by kernel_rfl) (by kernel_rfl) (by kernel_rfl) (yx_val (wantAll rfl) (fun w' hx' => rv_sliceArr rfl (fr_eval rfl e9) Try.underlying22 Try.sz5 (by decide))) ?_
      refine xl_take (i := 1) (v := v2) rfl (by kernel_rfl) (by kernel_rfl) (by kernel_rfl) (by kernel_rfl) (yx_val (wantAll rfl) (fun w' hx' => rv_move rfl (fr_eval rfl e1))) ?_
      refine xl_take (i := 2) (v := .int .i64 ((k : Nat) : Int)) rfl (by kernel_rfl) (by kernel_rfl) (by kernel_rfl) (by kernel_rfl) (yx_val (wantAll rfl) (fun w' hx' => rv_move rfl (fr_eval rfl e8))) ?_
      refine xl_take (i := 3) (v := .int .i64 ((64 * k : Nat) : Int)) rfl (by kernel_rfl) (by kernel_rfl) (by kernel_rfl) (by kernel_rfl) (yx_val (wantAll rfl) (fun w' hx' => rv_mul rfl rfl (fr_eval rfl rfl) (wrap_i64 (by omega) (by omega) (by omega)))) ?_
      refine xl_take (i := 4) (v := slcV v2 1 (64 * k) sig.length) rfl (by kernel_rfl) (by kernel_rfl) (by kernel_rfl) (by kernel_rfl) (yx_val (wantAll rfl) (fun w' hx' => rv_slcL (l := 64 * k) Try.stB rfl (fr_eval rfl rfl) (RdB.rn (Rd.keep hs2 hx' (fun b hb h0 => (fun e => Or.elim e (fun e => by have e : B1 ≤ b := e; have := Rd.lt hs0 h0 b hb; omega) (fun e => Or.elim e (fun e => absurd e (by simp [Value.ownBlock])) (fun e => by have e : b = g4 := e; have := Rd.lt hs0 h0 b hb; omega))))) rfl) (fr_eval rfl rfl) (by omega))) ?_
      refine anyX_ready (rs := [5]) (by kernel_rfl) ?_
      intro w8 hx
      replace hC := hC.trans hx
      replace hr := Rd.ext hr hx
      replace hs2 := Rd.ext hs2 hx
      replace h_g1 := Blk.ext h_g1 hx
      replace h_g2 := Blk.ext h_g2 hx
      replace ho1 := Own.ext ho1 hx
      replace h_g4 := Blk.ext h_g4 hx
      replace hB1 : B1 ≤ w8.heap.size := by have := Chg.size hx; omega
      clear hx
      refine (anyX_cons ?_ anyX_nil)
      refine xl_step (i := 5) rfl (wantAll rfl) ?_
      refine of_ex (ex_copyW (n := 32) rfl h_g4 (fr_eval rfl rfl) (fr_eval rfl rfl) (RdB.rn (rdB_slcL (l := 64 * k) (RdB.rn hs2 rfl) (by omega)) (len_slcL rfl)) Try.underlying58 Try.sz5 (cBs_len (List.length_replicate ..)) (by omega) (by decide) (show _ = cBs (hlf sig k) from (cBs_take _ _).symm)) ?_
      rintro _ w9 ⟨rfl, h_g4', hx⟩
      
      have hx0 := hx
      replace hr := Rd.keep hr hx (fun b hb h0 e => by have e : b = g4 := e; have := Rd.lt hr0 h0 b hb; omega)
      replace hs2 := Rd.keep hs2 hx (fun b hb h0 e => by have e : b = g4 := e; have := Rd.lt hs0 h0 b hb; omega)
      replace h_g1 := Blk.keep h_g1 hx (fun e => by have e : g1 = g4 := e; omega)
      replace h_g2 := Blk.keep h_g2 hx (fun e => by have e : g2 = g4 := e; omega)
      replace ho1 := Own.keep ho1 hx (fun b hb e => (Own.neType ho1 h_g4 (by decide)) (by have e : b = g4 := e; rw [← e]; exact hb))
      replace hC := Chg.then hC hx (fun i hi e => absurd hi (by have e : i = g4 := e; omega))
      replace hB1 : B1 ≤ w9.heap.size := by have := Chg.size hx; omega
      replace h_g4 := h_g4'
      clear h_g4'
      refine ⟨Chg.mono hx0 (fun i hi e => Or.inr (Or.inr e)), ?_⟩
      clear hx0
      clear hx
      refine xl_tail (s := 6) rfl ?_
      intro w10 hx
      replace hC := hC.trans hx
      replace hr := Rd.ext hr hx
      replace hs2 := Rd.ext hs2 hx
      replace h_g1 := Blk.ext h_g1 hx
      replace h_g2 := Blk.ext h_g2 hx
      replace ho1 := Own.ext ho1 hx
      replace h_g4 := Blk.ext h_g4 hx
      replace hB1 : B1 ≤ w10.heap.size := by have := Chg.size hx; omega
      clear hx
      clear hB1
      refine lf_nil ?_
      refine then_n ?_
      refine wp_seq ?_
      refine wp_gen (fun F' => F' 0 = v ∧ F' 1 = v2 ∧ F' 4 = .pointer (some ⟨g1, 0, none⟩) ∧ F' 5 = .int .i64 0 ∧ F' 6 = .pointer (some ⟨g2, 0, none⟩) ∧ F' 7 = v1 ∧ F' 8 = .int .i64 ((k : Nat) : Int) ∧ F' 9 = .pointer (some ⟨g4, 0, none⟩) ∧ F' 14 = .bool false ∧ F' 19 = .int .i64 ((k : Nat) : Int) ∧ F' 20 = .bool true) ⟨e0, e1, e4, e5, e6, e7, e8, e9, e14, e19, e20⟩ ?_
      clear e0 e1 e4 e5 e6 e7 e8 e9 e14 e19 e20
      clear F
      rintro F ⟨e0, e1, e4, e5, e6, e7, e8, e9, e14, e19, e20⟩
      refine wp_regionF ?_
      refine lf_val (v := .agg (cBs (hlf sig k)).toArray) (wantAll rfl) (rv_loadW rfl h_g4 (fr_eval rfl e9) Try.underlying22 rfl (sz_len Try.sz22 (cBs_len (hlf_len hl hkl)))) ?_
      refine lf_call (wantAll rfl) (rv_call (args := [.agg (cBs (hlf sig k)).toArray]) rfl (evc (fr_eval rfl rfl) evn) Try.call71) (shown_calls (hlf sig k) (hlf_len hl hkl) _) ?_
      rintro _ w11 ⟨rfl, hx⟩
      refine ⟨_, rfl, ?_⟩
      replace hC := hC.trans hx
      replace hr := Rd.ext hr hx
      replace hs2 := Rd.ext hs2 hx
      replace h_g1 := Blk.ext h_g1 hx
      replace h_g2 := Blk.ext h_g2 hx
      replace ho1 := Own.ext ho1 hx
      replace h_g4 := Blk.ext h_g4 hx
      clear hx
      refine lf_ex (wantAll rfl) (ex_allocG 23 (z := .agg (cBs (List.replicate 32 0)).toArray) (n := 32) (cs := cBs (List.replicate 32 0)) (by kernel_rfl) (by rfl) rfl) ?_
      rintro _ w12 ⟨g5, hg_g5, rfl, h_g5, hx⟩
      have ge_g5 : w.heap.size ≤ g5 := by have := hC.size; omega
      have lt_g1_g5 : g1 < g5 := by have := Blk.lt h_g1; omega
      have lt_g2_g5 : g2 < g5 := by have := Blk.lt h_g2; omega
      have lt_g4_g5 : g4 < g5 := by have := Blk.lt h_g4; omega
      replace hC := hC.trans hx
      replace hr := Rd.ext hr hx
      replace hs2 := Rd.ext hs2 hx
      replace h_g1 := Blk.ext h_g1 hx
      replace h_g2 := Blk.ext h_g2 hx
      replace ho1 := Own.ext ho1 hx
      replace h_g4 := Blk.ext h_g4 hx
      clear hx hg_g5
      refine lf_sk (wantAll rfl) (ex_storeW (cs := cBs (shw (hlf sig k))) rfl h_g5 (fr_eval rfl rfl) (fr_eval rfl rfl) (sz_len Try.sz23 (cBs_len shw_len)) (((cBs_len (List.length_replicate ..))).trans ((cBs_len shw_len)).symm) (cBs_one _)) ?_
      rintro w13 ⟨h_g5', hx⟩
      replace h_g5' : Blk w13 g5 (cBs (shw (hlf sig k))) 23 := h_g5'
      replace hr := Rd.keep hr hx (fun b hb h0 e => by have e : b = g5 := e; have := Rd.lt hr0 h0 b hb; omega)
      replace hs2 := Rd.keep hs2 hx (fun b hb h0 e => by have e : b = g5 := e; have := Rd.lt hs0 h0 b hb; omega)
      replace h_g1 := Blk.keep h_g1 hx (fun e => by have e : g1 = g5 := e; omega)
      replace h_g2 := Blk.keep h_g2 hx (fun e => by have e : g2 = g5 := e; omega)
      replace ho1 := Own.keep ho1 hx (fun b hb e => (Own.neType ho1 h_g5 (by decide)) (by have e : b = g5 := e; rw [← e]; exact hb))
      replace h_g4 := Blk.keep h_g4 hx (fun e => by have e : g4 = g5 := e; omega)
      replace hC := Chg.then hC hx (fun i hi e => absurd hi (by have e : i = g5 := e; omega))
      replace h_g5 := h_g5'
      clear h_g5'
      clear hx
      refine lf_nil ?_
      refine then_n ?_
      refine wp_seq ?_
      refine wp_gen (fun F' => F' 0 = v ∧ F' 1 = v2 ∧ F' 4 = .pointer (some ⟨g1, 0, none⟩) ∧ F' 5 = .int .i64 0 ∧ F' 6 = .pointer (some ⟨g2, 0, none⟩) ∧ F' 7 = v1 ∧ F' 8 = .int .i64 ((k : Nat) : Int) ∧ F' 9 = .pointer (some ⟨g4, 0, none⟩) ∧ F' 10 = .pointer (some ⟨g5, 0, none⟩) ∧ F' 14 = .bool false ∧ F' 19 = .int .i64 ((k : Nat) : Int) ∧ F' 20 = .bool true) ⟨e0, e1, e4, e5, e6, e7, e8, e9, rfl, e14, e19, e20⟩ ?_
      clear e0 e1 e4 e5 e6 e7 e8 e9 e14 e19 e20
      clear F
      rintro F ⟨e0, e1, e4, e5, e6, e7, e8, e9, e10, e14, e19, e20⟩
      refine wp_regionF ?_
      refine lf_val (v := v2) (wantAll rfl) (rv_move rfl (fr_eval rfl e1)) ?_
      refine lf_val (v := .int .i64 ((k : Nat) : Int)) (wantAll rfl) (rv_move rfl (fr_eval rfl e8)) ?_
      refine lf_val (v := .int .i64 ((64 * k : Nat) : Int)) (wantAll rfl) (rv_mul rfl rfl (fr_eval rfl rfl) (wrap_i64 (by omega) (by omega) (by omega))) ?_
      refine lf_val (v := .int .i64 (((64 * k) + 32 : Nat) : Int)) (wantAll rfl) (rv_add rfl (fr_eval rfl rfl) rfl (wrap_i64 (by omega) (by omega) (by omega))) ?_
      refine lf_val (v := .int .i64 ((k : Nat) : Int)) (wantAll rfl) (rv_move rfl (fr_eval rfl e8)) ?_
      refine lf_val (v := .int .i64 ((64 * k : Nat) : Int)) (wantAll rfl) (rv_mul rfl rfl (fr_eval rfl rfl) (wrap_i64 (by omega) (by omega) (by omega))) ?_
      refine lf_val (v := .int .i64 (((64 * k) + 64 : Nat) : Int)) (wantAll rfl) (rv_add rfl (fr_eval rfl rfl) rfl (wrap_i64 (by omega) (by omega) (by omega))) ?_
      refine lf_val (v := slcV v2 1 ((64 * k) + 32) ((64 * k) + 64)) (wantAll rfl) (rv_slcLH (l := (64 * k) + 32) (h := (64 * k) + 64) Try.stB rfl (fr_eval rfl rfl) (RdB.rn hs2 rfl) (fr_eval rfl rfl) (fr_eval rfl rfl) (by omega) (by omega)) ?_
      refine lf_val (v := slcV v2 1 ((64 * k) + 32) ((64 * k) + 64)) (wantAll rfl) (rv_assign rfl (fr_eval rfl rfl)) ?_
      refine lf_nil ?_
      refine then_n ?_
      refine wp_seq ?_
      refine wp_gen (fun F' => F' 0 = v ∧ F' 1 = v2 ∧ F' 4 = .pointer (some ⟨g1, 0, none⟩) ∧ F' 5 = .int .i64 0 ∧ F' 6 = .pointer (some ⟨g2, 0, none⟩) ∧ F' 7 = v1 ∧ F' 8 = .int .i64 ((k : Nat) : Int) ∧ F' 9 = .pointer (some ⟨g4, 0, none⟩) ∧ F' 10 = .pointer (some ⟨g5, 0, none⟩) ∧ F' 11 = slcV v2 1 ((64 * k) + 32) ((64 * k) + 64) ∧ F' 14 = .bool false ∧ F' 19 = .int .i64 ((k : Nat) : Int) ∧ F' 20 = .bool true) ⟨e0, e1, e4, e5, e6, e7, e8, e9, e10, rfl, e14, e19, e20⟩ ?_
      clear e0 e1 e4 e5 e6 e7 e8 e9 e10 e14 e19 e20
      clear F
      rintro F ⟨e0, e1, e4, e5, e6, e7, e8, e9, e10, e11, e14, e19, e20⟩
      refine wp_regionF ?_
      refine lf_val (v := .agg (cBs (join 14 [b])).toArray) (wantAll rfl) (rv_loadW rfl h_g2 (fr_eval rfl e6) Try.underlying23 rfl (sz_len Try.sz23 (cBs_len (join_length _ _)))) ?_
      refine lf_val (v := .int .i64 ((k : Nat) : Int)) (wantAll rfl) (rv_move rfl (fr_eval rfl e8)) ?_
      refine lf_call (wantAll rfl) (rv_call (args := [.agg (cBs (join 14 [b])).toArray, .int .i64 ((k : Nat) : Int)]) rfl (evc (fr_eval rfl rfl) (evc (fr_eval rfl rfl) evn)) Try.call69) (bit_calls (join 14 [b]) (join_length _ _) k (by omega) _) ?_
      rintro _ w14 ⟨rfl, hx⟩
      refine ⟨_, rfl, ?_⟩
      replace hC := hC.trans hx
      replace hr := Rd.ext hr hx
      replace hs2 := Rd.ext hs2 hx
      replace h_g1 := Blk.ext h_g1 hx
      replace h_g2 := Blk.ext h_g2 hx
      replace ho1 := Own.ext ho1 hx
      replace h_g4 := Blk.ext h_g4 hx
      replace h_g5 := Blk.ext h_g5 hx
      clear hx
      by_cases hc2 : bitN (join 14 [b]) k = 0
      · refine lf_val (v := .bool true) (wantAll rfl) (rv_eql rfl (fr_eval rfl rfl) rfl (decide_eq_true (by omega))) ?_
        refine lf_nil ?_
        refine then_n ?_
        refine wp_gen (fun F' => F' 0 = v ∧ F' 1 = v2 ∧ F' 4 = .pointer (some ⟨g1, 0, none⟩) ∧ F' 5 = .int .i64 0 ∧ F' 6 = .pointer (some ⟨g2, 0, none⟩) ∧ F' 7 = v1 ∧ F' 8 = .int .i64 ((k : Nat) : Int) ∧ F' 9 = .pointer (some ⟨g4, 0, none⟩) ∧ F' 10 = .pointer (some ⟨g5, 0, none⟩) ∧ F' 11 = slcV v2 1 ((64 * k) + 32) ((64 * k) + 64) ∧ F' 14 = .bool false ∧ F' 19 = .int .i64 ((k : Nat) : Int) ∧ F' 20 = .bool true ∧ F' 41 = .bool true) ⟨e0, e1, e4, e5, e6, e7, e8, e9, e10, e11, e14, e19, e20, rfl⟩ ?_
        clear e0 e1 e4 e5 e6 e7 e8 e9 e10 e11 e14 e19 e20
        clear F
        rintro F ⟨e0, e1, e4, e5, e6, e7, e8, e9, e10, e11, e14, e19, e20, e41⟩
        refine wp_cond_true (fr_eval rfl e41) ?_
        refine wp_regionF ?_
        refine lf_val (v := v1) (wantAll rfl) (rv_move rfl (fr_eval rfl e7)) ?_
        refine lf_val (v := .slice (some ⟨g5, 0, none⟩) 32 32) (wantAll rfl) (rv_sliceArr rfl (fr_eval rfl e10) Try.underlying23 Try.sz5 (by decide)) ?_
        refine lf_ex (wantAll rfl) (ex_apB (xs := backs (join 14 [b]) sig k) (news := (shw (hlf sig k))) (.tmp 42) (.tmp 43) ho1 (rdB_blkn h_g5 shw_len (by decide)) (by first | rw [backs_len hl k (by omega), shw_len]; omega | rw [backs_len hl k (by omega), oth_len hl hkl]; omega) (fr_eval rfl rfl) (fr_eval rfl rfl) rfl) ?_
        rintro y1 w15 ⟨ho1', hg⟩
        have hx := hg.chg
        have ge_n := hg.ge (by have := hC.size; omega) ge_ho1
        replace hr := Rd.keep hr hx (fun b hb h0 e => by have := Rd.lt hr0 h0 b hb; have := ge_ho1 b e; omega)
        replace hs2 := Rd.keep hs2 hx (fun b hb h0 e => by have := Rd.lt hs0 h0 b hb; have := ge_ho1 b e; omega)
        replace h_g1 := Blk.keep h_g1 hx (fun e => Own.neType ho1 h_g1 (by decide) e)
        replace h_g2 := Blk.keep h_g2 hx (fun e => Own.neType ho1 h_g2 (by decide) e)
        replace h_g4 := Blk.keep h_g4 hx (fun e => Own.neType ho1 h_g4 (by decide) e)
        replace h_g5 := Blk.keep h_g5 hx (fun e => Own.neType ho1 h_g5 (by decide) e)
        replace hC := Chg.then hC hx (fun i hi e => absurd hi (by have := ge_ho1 i e; omega))
        replace ge_ho1 := ge_n
        clear ge_n
        replace ho1 := ho1'
        clear ho1'
        clear hx hg
        refine lf_val (v := slcV v2 1 ((64 * k) + 32) ((64 * k) + 64)) (wantAll rfl) (rv_move rfl (fr_eval rfl e11)) ?_
        refine lf_ex (wantAll rfl) (ex_apB (xs := (backs (join 14 [b]) sig k) ++ (shw (hlf sig k))) (news := oth sig k) (.tmp 44) (.tmp 45) ho1 (rdB_slc (l := (64 * k) + 32) (h := (64 * k) + 64) (RdB.rn hs2 rfl) (by omega) (by omega)) (by rw [List.length_append, backs_len hl k (by omega), shw_len, oth_len hl hkl]; omega) (fr_eval rfl rfl) (fr_eval rfl rfl) rfl) ?_
        rintro y2 w16 ⟨ho1', hg⟩
        have hx := hg.chg
        replace ho1' : OwnB w16 y2 (backs (join 14 [b]) sig (k + 1)) := by have e := backs_0 (d := join 14 [b]) (sig := sig) (n := k) (by omega); rw [e] at ho1'; exact ho1'
        have ge_n := hg.ge (by have := hC.size; omega) ge_ho1
        replace hr := Rd.keep hr hx (fun b hb h0 e => by have := Rd.lt hr0 h0 b hb; have := ge_ho1 b e; omega)
        replace hs2 := Rd.keep hs2 hx (fun b hb h0 e => by have := Rd.lt hs0 h0 b hb; have := ge_ho1 b e; omega)
        replace h_g1 := Blk.keep h_g1 hx (fun e => Own.neType ho1 h_g1 (by decide) e)
        replace h_g2 := Blk.keep h_g2 hx (fun e => Own.neType ho1 h_g2 (by decide) e)
        replace h_g4 := Blk.keep h_g4 hx (fun e => Own.neType ho1 h_g4 (by decide) e)
        replace h_g5 := Blk.keep h_g5 hx (fun e => Own.neType ho1 h_g5 (by decide) e)
        replace hC := Chg.then hC hx (fun i hi e => absurd hi (by have := ge_ho1 i e; omega))
        replace ge_ho1 := ge_n
        clear ge_n
        replace ho1 := ho1'
        clear ho1'
        clear hx hg
        refine lf_val (v := y2) (wantAll rfl) (rv_assign rfl (fr_eval rfl rfl)) ?_
        refine lf_nil ?_
        refine blk_n ?_
        refine then_n ?_
        refine wp_gen (fun F' => F' 0 = v ∧ F' 1 = v2 ∧ F' 4 = .pointer (some ⟨g1, 0, none⟩) ∧ F' 5 = .int .i64 0 ∧ F' 6 = .pointer (some ⟨g2, 0, none⟩) ∧ F' 7 = y2 ∧ F' 8 = .int .i64 ((k : Nat) : Int) ∧ F' 9 = .pointer (some ⟨g4, 0, none⟩) ∧ F' 10 = .pointer (some ⟨g5, 0, none⟩) ∧ F' 11 = slcV v2 1 ((64 * k) + 32) ((64 * k) + 64) ∧ F' 14 = .bool false ∧ F' 19 = .int .i64 ((k : Nat) : Int) ∧ F' 20 = .bool true ∧ F' 41 = .bool true) ⟨e0, e1, e4, e5, e6, rfl, e8, e9, e10, e11, e14, e19, e20, e41⟩ ?_
        clear e0 e1 e4 e5 e6 e7 e8 e9 e10 e11 e14 e19 e20 e41
        clear F
        rintro F ⟨e0, e1, e4, e5, e6, e7, e8, e9, e10, e11, e14, e19, e20, e41⟩
        refine wp_regionF ?_
        refine lf_val (v := .int .i64 ((k + 1 : Nat) : Int)) (wantAll rfl) (rv_add rfl (fr_eval rfl e19) rfl (wrap_i64 (by omega) (by omega) (by omega))) ?_
        refine lf_val (v := .int .i64 ((k + 1 : Nat) : Int)) (wantAll rfl) (rv_move rfl (fr_eval rfl rfl)) ?_
        refine lf_nil ?_
        refine then_n ?_
        exact ⟨_, _, (by omega), rfl, k + 1, _, rfl, (by omega), e0, e1, e4, e5, e6, e7, e14, rfl, hr, hs2, h_g1, h_g2, ho1, ge_ho1, hC⟩
      · refine lf_val (v := .bool false) (wantAll rfl) (rv_eql rfl (fr_eval rfl rfl) rfl (decide_eq_false (by omega))) ?_
        refine lf_nil ?_
        refine then_n ?_
        refine wp_gen (fun F' => F' 0 = v ∧ F' 1 = v2 ∧ F' 4 = .pointer (some ⟨g1, 0, none⟩) ∧ F' 5 = .int .i64 0 ∧ F' 6 = .pointer (some ⟨g2, 0, none⟩) ∧ F' 7 = v1 ∧ F' 8 = .int .i64 ((k : Nat) : Int) ∧ F' 9 = .pointer (some ⟨g4, 0, none⟩) ∧ F' 10 = .pointer (some ⟨g5, 0, none⟩) ∧ F' 11 = slcV v2 1 ((64 * k) + 32) ((64 * k) + 64) ∧ F' 14 = .bool false ∧ F' 19 = .int .i64 ((k : Nat) : Int) ∧ F' 20 = .bool true ∧ F' 41 = .bool false) ⟨e0, e1, e4, e5, e6, e7, e8, e9, e10, e11, e14, e19, e20, rfl⟩ ?_
        clear e0 e1 e4 e5 e6 e7 e8 e9 e10 e11 e14 e19 e20
        clear F
        rintro F ⟨e0, e1, e4, e5, e6, e7, e8, e9, e10, e11, e14, e19, e20, e41⟩
        refine wp_cond_false (fr_eval rfl e41) ?_
        obtain ⟨B2, hB2⟩ : ∃ B, B = w14.heap.size := ⟨_, rfl⟩
        have hwB : w.heap.size ≤ B2 := by have := hC.size; omega
        have bl_g1 : g1 < B2 := by have := Blk.lt h_g1; omega
        have bl_g2 : g2 < B2 := by have := Blk.lt h_g2; omega
        have bl_g4 : g4 < B2 := by have := Blk.lt h_g4; omega
        have bl_g5 : g5 < B2 := by have := Blk.lt h_g5; omega
        replace hB2 : B2 ≤ w14.heap.size := by omega
        have hrow_ho1 : ∀ k, (v1 : Value).ownBlock = some k → B2 ≤ k ∨ (v1 : Value).ownBlock = some k := fun _ h => Or.inr h
        refine wp_regionX (fun k => B2 ≤ k ∨ ((v1 : Value).ownBlock = some k)) 5 (by kernel_rfl) (by kernel_rfl) ?_
        refine xl_take (i := 0) (v := v1) rfl (by kernel_rfl) (by kernel_rfl) (by kernel_rfl) (by kernel_rfl) (yx_val (wantAll rfl) (fun w' hx' => rv_move rfl (fr_eval rfl e7))) ?_
        refine xl_take (i := 1) (v := slcV v2 1 ((64 * k) + 32) ((64 * k) + 64)) rfl (by kernel_rfl) (by kernel_rfl) (by kernel_rfl) (by kernel_rfl) (yx_val (wantAll rfl) (fun w' hx' => rv_move rfl (fr_eval rfl e11))) ?_
        refine xl_take (i := 3) (v := .slice (some ⟨g5, 0, none⟩) 32 32) rfl (by kernel_rfl) (by kernel_rfl) (by kernel_rfl) (by kernel_rfl) (yx_val (wantAll rfl) (fun w' hx' => rv_sliceArr rfl (fr_eval rfl e10) Try.underlying23 Try.sz5 (by decide))) ?_
        refine anyX_ready (rs := [2]) (by kernel_rfl) ?_
        intro w17 hx
        replace hC := hC.trans hx
        replace hr := Rd.ext hr hx
        replace hs2 := Rd.ext hs2 hx
        replace h_g1 := Blk.ext h_g1 hx
        replace h_g2 := Blk.ext h_g2 hx
        replace ho1 := Own.ext ho1 hx
        replace h_g4 := Blk.ext h_g4 hx
        replace h_g5 := Blk.ext h_g5 hx
        replace hB2 : B2 ≤ w17.heap.size := by have := Chg.size hx; omega
        clear hx
        refine (anyX_cons ?_ anyX_nil)
        refine xl_step (i := 2) rfl (wantAll rfl) ?_
        refine of_ex (ex_apB (xs := backs (join 14 [b]) sig k) (news := oth sig k) (.tmp 47) (.tmp 48) ho1 (rdB_slc (l := (64 * k) + 32) (h := (64 * k) + 64) (RdB.rn hs2 rfl) (by omega) (by omega)) (by first | rw [backs_len hl k (by omega), shw_len]; omega | rw [backs_len hl k (by omega), oth_len hl hkl]; omega) (fr_eval rfl rfl) (fr_eval rfl rfl) rfl) ?_
        rintro y3 w18 ⟨ho1', hg⟩
        have hx := hg.chg
        have hx0 := hx
        have hrow' := hg.row (by omega) hrow_ho1
        have ge_n := hg.ge (by have := hC.size; omega) ge_ho1
        replace hr := Rd.keep hr hx (fun b hb h0 e => by have := Rd.lt hr0 h0 b hb; have := ge_ho1 b e; omega)
        replace hs2 := Rd.keep hs2 hx (fun b hb h0 e => by have := Rd.lt hs0 h0 b hb; have := ge_ho1 b e; omega)
        replace h_g1 := Blk.keep h_g1 hx (fun e => Own.neType ho1 h_g1 (by decide) e)
        replace h_g2 := Blk.keep h_g2 hx (fun e => Own.neType ho1 h_g2 (by decide) e)
        replace h_g4 := Blk.keep h_g4 hx (fun e => Own.neType ho1 h_g4 (by decide) e)
        replace h_g5 := Blk.keep h_g5 hx (fun e => Own.neType ho1 h_g5 (by decide) e)
        replace hC := Chg.then hC hx (fun i hi e => absurd hi (by have := ge_ho1 i e; omega))
        replace hB2 : B2 ≤ w18.heap.size := by have := Chg.size hx; omega
        replace ge_ho1 := ge_n
        clear ge_n
        replace ho1 := ho1'
        clear ho1'
        refine ⟨Chg.mono hx0 (fun i hi e => hrow_ho1 i e), ?_⟩
        clear hx0
        replace hrow_ho1 := hrow'
        clear hrow'
        clear hx hg
        refine anyX_ready (rs := [4]) (by kernel_rfl) ?_
        intro w19 hx
        replace hC := hC.trans hx
        replace hr := Rd.ext hr hx
        replace hs2 := Rd.ext hs2 hx
        replace h_g1 := Blk.ext h_g1 hx
        replace h_g2 := Blk.ext h_g2 hx
        replace ho1 := Own.ext ho1 hx
        replace h_g4 := Blk.ext h_g4 hx
        replace h_g5 := Blk.ext h_g5 hx
        replace hB2 : B2 ≤ w19.heap.size := by have := Chg.size hx; omega
        clear hx
        refine (anyX_cons ?_ anyX_nil)
        refine xl_step (i := 4) rfl (wantAll rfl) ?_
        refine of_ex (ex_apB (xs := (backs (join 14 [b]) sig k) ++ (oth sig k)) (news := (shw (hlf sig k))) (.tmp 49) (.tmp 50) ho1 (rdB_blkn h_g5 shw_len (by decide)) (by rw [List.length_append, backs_len hl k (by omega), shw_len, oth_len hl hkl]; omega) (fr_eval rfl rfl) (fr_eval rfl rfl) rfl) ?_
        rintro y4 w20 ⟨ho1', hg⟩
        have hx := hg.chg
        have hx0 := hx
        replace ho1' : OwnB w20 y4 (backs (join 14 [b]) sig (k + 1)) := by have e := backs_1 (d := join 14 [b]) (sig := sig) (n := k) (by omega); rw [e] at ho1'; exact ho1'
        have hrow' := hg.row (by omega) hrow_ho1
        have ge_n := hg.ge (by have := hC.size; omega) ge_ho1
        replace hr := Rd.keep hr hx (fun b hb h0 e => by have := Rd.lt hr0 h0 b hb; have := ge_ho1 b e; omega)
        replace hs2 := Rd.keep hs2 hx (fun b hb h0 e => by have := Rd.lt hs0 h0 b hb; have := ge_ho1 b e; omega)
        replace h_g1 := Blk.keep h_g1 hx (fun e => Own.neType ho1 h_g1 (by decide) e)
        replace h_g2 := Blk.keep h_g2 hx (fun e => Own.neType ho1 h_g2 (by decide) e)
        replace h_g4 := Blk.keep h_g4 hx (fun e => Own.neType ho1 h_g4 (by decide) e)
        replace h_g5 := Blk.keep h_g5 hx (fun e => Own.neType ho1 h_g5 (by decide) e)
        replace hC := Chg.then hC hx (fun i hi e => absurd hi (by have := ge_ho1 i e; omega))
        replace hB2 : B2 ≤ w20.heap.size := by have := Chg.size hx; omega
        replace ge_ho1 := ge_n
        clear ge_n
        replace ho1 := ho1'
        clear ho1'
        refine ⟨Chg.mono hx0 (fun i hi e => hrow_ho1 i e), ?_⟩
        clear hx0
        replace hrow_ho1 := hrow'
        clear hrow'
        clear hx hg
        refine xl_tail (s := 5) rfl ?_
        intro w21 hx
        replace hC := hC.trans hx
        replace hr := Rd.ext hr hx
        replace hs2 := Rd.ext hs2 hx
        replace h_g1 := Blk.ext h_g1 hx
        replace h_g2 := Blk.ext h_g2 hx
        replace ho1 := Own.ext ho1 hx
        replace h_g4 := Blk.ext h_g4 hx
        replace h_g5 := Blk.ext h_g5 hx
        replace hB2 : B2 ≤ w21.heap.size := by have := Chg.size hx; omega
        clear hx
        clear hB2
        refine lf_val (v := y4) (wantAll rfl) (rv_assign rfl (fr_eval rfl rfl)) ?_
        refine lf_nil ?_
        refine blk_n ?_
        refine then_n ?_
        refine wp_gen (fun F' => F' 0 = v ∧ F' 1 = v2 ∧ F' 4 = .pointer (some ⟨g1, 0, none⟩) ∧ F' 5 = .int .i64 0 ∧ F' 6 = .pointer (some ⟨g2, 0, none⟩) ∧ F' 7 = y4 ∧ F' 8 = .int .i64 ((k : Nat) : Int) ∧ F' 9 = .pointer (some ⟨g4, 0, none⟩) ∧ F' 10 = .pointer (some ⟨g5, 0, none⟩) ∧ F' 11 = slcV v2 1 ((64 * k) + 32) ((64 * k) + 64) ∧ F' 14 = .bool false ∧ F' 19 = .int .i64 ((k : Nat) : Int) ∧ F' 20 = .bool true ∧ F' 41 = .bool false) ⟨e0, e1, e4, e5, e6, rfl, e8, e9, e10, e11, e14, e19, e20, e41⟩ ?_
        clear e0 e1 e4 e5 e6 e7 e8 e9 e10 e11 e14 e19 e20 e41
        clear F
        rintro F ⟨e0, e1, e4, e5, e6, e7, e8, e9, e10, e11, e14, e19, e20, e41⟩
        refine wp_regionF ?_
        refine lf_val (v := .int .i64 ((k + 1 : Nat) : Int)) (wantAll rfl) (rv_add rfl (fr_eval rfl e19) rfl (wrap_i64 (by omega) (by omega) (by omega))) ?_
        refine lf_val (v := .int .i64 ((k + 1 : Nat) : Int)) (wantAll rfl) (rv_move rfl (fr_eval rfl rfl)) ?_
        refine lf_nil ?_
        refine then_n ?_
        exact ⟨_, _, (by omega), rfl, k + 1, _, rfl, (by omega), e0, e1, e4, e5, e6, e7, e14, rfl, hr, hs2, h_g1, h_g2, ho1, ge_ho1, hC⟩
    · refine lf_val (v := .bool false) (wantAll rfl) (rv_lss rfl (fr_eval rfl e19) rfl (decide_eq_false (by omega))) ?_
      refine lf_nil ?_
      refine then_n ?_
      refine wp_seq ?_
      refine wp_gen (fun F' => F' 0 = v ∧ F' 1 = v2 ∧ F' 4 = .pointer (some ⟨g1, 0, none⟩) ∧ F' 5 = .int .i64 0 ∧ F' 6 = .pointer (some ⟨g2, 0, none⟩) ∧ F' 7 = v1 ∧ F' 14 = .bool false ∧ F' 19 = .int .i64 ((k : Nat) : Int) ∧ F' 20 = .bool false) ⟨e0, e1, e4, e5, e6, e7, e14, e19, rfl⟩ ?_
      clear e0 e1 e4 e5 e6 e7 e14 e19
      clear F
      rintro F ⟨e0, e1, e4, e5, e6, e7, e14, e19, e20⟩
      refine wp_cond_false (fr_eval rfl e20) ?_
      refine wp_exit ?_
      refine then_exit ?_
      refine then_exit ?_
      refine blk_exit ?_
      refine then_n ?_
      refine wp_seq ?_
      refine wp_regionF ?_
      refine lf_val (v := v1) (wantAll rfl) (rv_move rfl (fr_eval rfl e7)) ?_
      refine lf_ex (wantAll rfl) (ex_lits (n := 1) Try.stBB [(.tmp 53)] (vs := [v1]) (evc (fr_eval rfl rfl) evn) (ones_cons (Rd.oneV (OwnB.rd ho1)) ones_nil) rfl (by decide) rfl) ?_
      rintro _ w22 ⟨g6, hg_g6, rfl, h_g6, hx⟩
      have ge_g6 : w.heap.size ≤ g6 := by have := hC.size; omega
      have lt_g1_g6 : g1 < g6 := by have := Blk.lt h_g1; omega
      have lt_g2_g6 : g2 < g6 := by have := Blk.lt h_g2; omega
      replace hC := hC.trans hx
      replace hr := Rd.ext hr hx
      replace hs2 := Rd.ext hs2 hx
      replace h_g1 := Blk.ext h_g1 hx
      replace h_g2 := Blk.ext h_g2 hx
      replace ho1 := Own.ext ho1 hx
      clear hx hg_g6
      refine lf_call (wantAll rfl) (rv_call (args := [cB 13, .slice (some ⟨g6, 0, none⟩) 1 1]) rfl (evc rfl (evc (fr_eval rfl rfl) evn)) Try.call45) (join_calls 13 [backs (join 14 [b]) sig k] (flat_le1 (Nat.le_trans (show List.length (backs (join 14 [b]) sig k) ≤ 5000 from (by rw [backs_len hl k (by omega)]; omega)) (by decide))) _ _ (rdP_blk h_g6 (.cons (OwnB.rd ho1) .nil) rfl (by decide))) ?_
      rintro _ w23 ⟨rfl, hx⟩
      refine ⟨_, rfl, ?_⟩
      replace hC := hC.trans hx
      replace hr := Rd.ext hr hx
      replace hs2 := Rd.ext hs2 hx
      replace h_g1 := Blk.ext h_g1 hx
      replace h_g2 := Blk.ext h_g2 hx
      replace ho1 := Own.ext ho1 hx
      replace h_g6 := Blk.ext h_g6 hx
      clear hx
      refine lf_sk (wantAll rfl) (ex_storeW (cs := cBs (join 13 [backs (join 14 [b]) sig k])) rfl h_g1 (fr_eval rfl e4) (fr_eval rfl rfl) (sz_len Try.sz23 (cBs_len (join_length _ _))) (((cBs_len (List.length_replicate ..))).trans ((cBs_len (join_length _ _))).symm) (cBs_one _)) ?_
      rintro w24 ⟨h_g1', hx⟩
      replace h_g1' : Blk w24 g1 (cBs (join 13 [backs (join 14 [b]) sig k])) 23 := h_g1'
      replace hr := Rd.keep hr hx (fun b hb h0 e => by have e : b = g1 := e; have := Rd.lt hr0 h0 b hb; omega)
      replace hs2 := Rd.keep hs2 hx (fun b hb h0 e => by have e : b = g1 := e; have := Rd.lt hs0 h0 b hb; omega)
      replace h_g2 := Blk.keep h_g2 hx (fun e => by have e : g2 = g1 := e; omega)
      replace ho1 := Own.keep ho1 hx (fun b hb e => (Own.neType ho1 h_g1 (by decide)) (by have e : b = g1 := e; rw [← e]; exact hb))
      replace h_g6 := Blk.keep h_g6 hx (fun e => by have e : g6 = g1 := e; omega)
      replace hC := Chg.then hC hx (fun i hi e => absurd hi (by have e : i = g1 := e; omega))
      replace h_g1 := h_g1'
      clear h_g1'
      clear hx
      refine lf_val (v := .int .i64 0) (wantAll rfl) (rv_assign rfl rfl) ?_
      refine lf_nil ?_
      refine then_n ?_
      clear h_g6
      refine wp_gen (fun F' => F' 0 = v ∧ F' 1 = v2 ∧ F' 4 = .pointer (some ⟨g1, 0, none⟩) ∧ F' 5 = .int .i64 0 ∧ F' 6 = .pointer (some ⟨g2, 0, none⟩) ∧ F' 7 = v1 ∧ F' 14 = .bool false ∧ F' 19 = .int .i64 ((k : Nat) : Int) ∧ F' 20 = .bool false) ⟨e0, e1, e4, rfl, e6, e7, e14, e19, e20⟩ ?_
      clear e0 e1 e4 e5 e6 e7 e14 e19 e20
      clear F
      rintro F ⟨e0, e1, e4, e5, e6, e7, e14, e19, e20⟩
      refine wp_ret ?_
      exact bodyPost_ret (v := .tuple #[.agg (cBs (join 13 [backs (join 14 [b]) sig k])).toArray, .int .i64 0]) (res2 rfl (ro_cell rfl e4 h_g1 Try.underlying23 rfl (sz_len Try.sz23 (cBs_len (join_length _ _)))) (ro_tmp rfl e5)) rfl (⟨(by unfold backK backE; rw [if_pos hl, if_pos hl]; have hk : k = 64 := (by omega); subst hk; rfl), hC⟩)
  · refine wp_seq ?_
    refine wp_gen (fun F' => F' 0 = v ∧ F' 1 = v2) ⟨rfl, rfl⟩ ?_
    rintro F ⟨e0, e1⟩
    refine wp_regionF ?_
    refine lf_ex (wantAll rfl) (ex_allocG 23 (z := .agg (cBs (List.replicate 32 0)).toArray) (n := 32) (cs := cBs (List.replicate 32 0)) (by kernel_rfl) (by rfl) rfl) ?_
    rintro _ w25 ⟨g7, hg_g7, rfl, h_g7, hx⟩
    have ge_g7 : w.heap.size ≤ g7 := by have := hC.size; omega
    replace hC := hC.trans hx
    replace hr := Rd.ext hr hx
    replace hs2 := Rd.ext hs2 hx
    clear hx hg_g7
    refine lf_val (v := .int .i64 0) (wantAll rfl) (rv_assign rfl rfl) ?_
    refine lf_nil ?_
    refine then_n ?_
    refine wp_seq ?_
    refine wp_seq ?_
    refine wp_gen (fun F' => F' 0 = v ∧ F' 1 = v2 ∧ F' 4 = .pointer (some ⟨g7, 0, none⟩) ∧ F' 5 = .int .i64 0) ⟨e0, e1, rfl, rfl⟩ ?_
    clear e0 e1
    clear F
    rintro F ⟨e0, e1, e4, e5⟩
    refine wp_regionF ?_
    refine lf_val (v := v2) (wantAll rfl) (rv_move rfl (fr_eval rfl e1)) ?_
    refine lf_val (v := .int .i64 ((sig.length : Nat) : Int)) (wantAll rfl) (rv_len rfl (fr_eval rfl rfl) (RdB.rn hs2 rfl) Try.underlying58) ?_
    refine lf_val (v := .bool true) (wantAll rfl) (rv_neq rfl (fr_eval rfl rfl) rfl (decide_eq_false (by omega))) ?_
    refine lf_nil ?_
    refine then_n ?_
    refine wp_gen (fun F' => F' 0 = v ∧ F' 1 = v2 ∧ F' 4 = .pointer (some ⟨g7, 0, none⟩) ∧ F' 5 = .int .i64 0 ∧ F' 14 = .bool true) ⟨e0, e1, e4, e5, rfl⟩ ?_
    clear e0 e1 e4 e5
    clear F
    rintro F ⟨e0, e1, e4, e5, e14⟩
    refine wp_cond_true (fr_eval rfl e14) ?_
    refine wp_seq ?_
    refine wp_regionF ?_
    refine lf_val (v := .agg (cBs (List.replicate 32 0)).toArray) (wantAll rfl) (by kernel_rfl) ?_
    refine lf_sk (wantAll rfl) (ex_storeW (cs := cBs (List.replicate 32 0)) rfl h_g7 (fr_eval rfl e4) (fr_eval rfl rfl) (sz_len Try.sz23 (cBs_len (List.length_replicate ..))) (((cBs_len (List.length_replicate ..))).trans ((cBs_len (List.length_replicate ..))).symm) (cBs_one _)) ?_
    rintro w26 ⟨h_g7', hx⟩
    replace h_g7' : Blk w26 g7 (cBs (List.replicate 32 0)) 23 := h_g7'
    replace hr := Rd.keep hr hx (fun b hb h0 e => by have e : b = g7 := e; have := Rd.lt hr0 h0 b hb; omega)
    replace hs2 := Rd.keep hs2 hx (fun b hb h0 e => by have e : b = g7 := e; have := Rd.lt hs0 h0 b hb; omega)
    replace hC := Chg.then hC hx (fun i hi e => absurd hi (by have e : i = g7 := e; omega))
    replace h_g7 := h_g7'
    clear h_g7'
    clear hx
    refine lf_val (v := .int .i64 11) (wantAll rfl) (rv_assign rfl rfl) ?_
    refine lf_nil ?_
    refine then_n ?_
    refine wp_gen (fun F' => F' 0 = v ∧ F' 1 = v2 ∧ F' 4 = .pointer (some ⟨g7, 0, none⟩) ∧ F' 5 = .int .i64 11 ∧ F' 14 = .bool true) ⟨e0, e1, e4, rfl, e14⟩ ?_
    clear e0 e1 e4 e5 e14
    clear F
    rintro F ⟨e0, e1, e4, e5, e14⟩
    refine wp_ret ?_
    refine then_ret ?_
    exact bodyPost_ret (v := .tuple #[.agg (cBs (List.replicate 32 0)).toArray, .int .i64 11]) (res2 rfl (ro_cell rfl e4 h_g7 Try.underlying23 rfl (sz_len Try.sz23 (cBs_len (List.length_replicate ..)))) (ro_tmp rfl e5)) rfl (⟨(by unfold backK backE; rw [if_neg hl, if_neg hl]), hC⟩)
end Go.Proofs.Ytokddhidcjkadaa
