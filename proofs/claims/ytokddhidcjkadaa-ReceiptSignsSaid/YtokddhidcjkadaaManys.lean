/- Keys that sign as often as they have leaves: the walks. -/
import Derived.Test.YtokddhidcjkadaaMany
import Derived.Test.YtokddhidcjkadaaLamp
import Derived.Test.YtokddhidcjkadaaLaw03b
import Derived.Test.YtokddhidcjkadaaHeapW
import Derived.Test.YtokddhidcjkadaaNums
import Derived.Test.YtokddhidcjkadaaHold
import Derived.Test.YtokddhidcjkadaaSym
import Derived.Test.YtokddhidcjkadaaAppN
namespace Go.Proofs.Ytokddhidcjkadaa
open Go.RowKit Go.Bz Go.Bz.Sha Go.Bz.Lamp Go.Bz.Merkle Go.Bz.Wire Go.Bz.Many
attribute [local irreducible] wpList Code.wp wpAnyX
theorem flat1b {a : S32} {b : UInt8} : (flat [a.1, [b]]).length ≤ 1099511627000 := by simp [flat, a.2]
theorem nums3 {a b c : Nat} (h1 : a ≤ 1000000) (h2 : b ≤ 1000000) (h3 : c ≤ 1000000) : ∀ i, i < List.length [(a : Int), (b : Int), (c : Int)] → -9223372036854775808 ≤ List.getD [(a : Int), (b : Int), (c : Int)] i 0 ∧ List.getD [(a : Int), (b : Int), (c : Int)] i 0 ≤ 9223372036854775807 := fun i hi => by
  match i, hi with
  | 0, _ => show -9223372036854775808 ≤ (a : Int) ∧ (a : Int) ≤ _; omega
  | 1, _ => show -9223372036854775808 ≤ (b : Int) ∧ (b : Int) ≤ _; omega
  | 2, _ => show -9223372036854775808 ≤ (c : Int) ∧ (c : Int) ≤ _; omega
theorem stab_cut {N : Nat → Prop} {w0 : World} {v : Value} {b : List UInt8} {n : Nat} (h : StabB N w0 v b) : StabB N w0 (cutV v b n) (b.take n) :=
  ⟨fun _ hc => rdB_cut (h.rd _ hc), fun k hk h0 => h.out k (cutV_own ▸ hk) (by simp at h0 ⊢; omega)⟩

theorem zMy_l0 {a0 : List UInt8} (ha0 : a0.length = 32) {a1 : Value} {a2 : Value} : List.length (cBs a0 ++ ([a1, a2] : List Value)) = 34 := (len_app (m := 32) (n := 2) (k := 34) (cBs_len ha0) rfl rfl)
theorem zMy_y1 {a0 : List UInt8} (ha0 : a0.length = 32) {a1 : Value} {a2 : Value} {n0 : List UInt8} (hn0 : n0.length = 32) : lay (cBs a0 ++ ([a1, a2] : List Value)) 0 (cBs n0) = cBs n0 ++ ([a1, a2] : List Value) := (show lay ([] ++ ((cBs a0) ++ ([a1, a2]))) 0 (cBs n0) = [] ++ ((cBs n0) ++ ([a1, a2])) from lay_app (show List.length ([] : List Value) = 0 from rfl) ((cBs_len ha0).trans (cBs_len hn0).symm))
theorem zMy_g2 {a0 : List UInt8} (ha0 : a0.length = 32) {a1 : Value} {a2 : Value} : (cBs a0 ++ ([a1, a2] : List Value))[32]? = some a1 := (show (cBs a0 ++ ([a1, a2]))[32]? = some (a1) from get_r (n := 32) (j := 0) rfl (cBs_len ha0) rfl)
theorem zMy_y3 {a0 : List UInt8} (ha0 : a0.length = 32) {a1 : Value} {a2 : Value} {n0 : Value} : lay (cBs a0 ++ ([a1, a2] : List Value)) 32 ([n0]) = cBs a0 ++ ([n0, a2] : List Value) := (show lay (cBs a0 ++ (([a1]) ++ ([a2]))) 32 ([n0]) = cBs a0 ++ (([n0]) ++ ([a2])) from lay_app (cBs_len ha0) ((show List.length [a1] = 1 from rfl).trans (show List.length [n0] = 1 from rfl).symm))
theorem zMy_g4 {a0 : List UInt8} (ha0 : a0.length = 32) {a1 : Value} {a2 : Value} : (cBs a0 ++ ([a1, a2] : List Value))[33]? = some a2 := (show (cBs a0 ++ ([a1, a2]))[33]? = some (a2) from get_r (n := 32) (j := 1) rfl (cBs_len ha0) rfl)
theorem zMy_y5 {a0 : List UInt8} (ha0 : a0.length = 32) {a1 : Value} {a2 : Value} {n0 : Value} : lay (cBs a0 ++ ([a1, a2] : List Value)) 33 ([n0]) = cBs a0 ++ ([a1, n0] : List Value) := (lay_of (cur := cBs a0 ++ ([a1, a2] : List Value)) (cs := [n0]) (cur' := cBs a0 ++ ([a1, n0] : List Value)) (A := (cBs a0 ++ ([a1] : List Value) : List Value)) (D := ([a2] : List Value)) (C := ([] : List Value)) (by simp) (by simp) (len_app (m := 32) (n := 1) (k := 33) (cBs_len ha0) rfl rfl) ((show List.length [a2] = 1 from rfl).trans (show List.length [n0] = 1 from rfl).symm))
set_option maxRecDepth 100000 in
set_option maxHeartbeats 4000000 in
theorem seed_calls (s : S32) (i : Nat) (hi : i ≤ 9223372036854775807) (w : World) :
    Calls Try.prog 50 #[.agg (cBs s.1).toArray, .int .i64 ((i : Nat) : Int)] w fun e'' w' => e'' = .returned (.agg (cBs (seedS s i).1).toArray) ∧ Ext w w' := by
  refine calls_fr (args := [.agg (cBs s.1).toArray, .int .i64 ((i : Nat) : Int)]) (n := 11) Try.func50 rfl rfl (show 2 ≤ 11 by decide) ?_
  have hH : Heap (newN w) w w [] := Heap.fresh
  refine wp_seq ?_
  refine wp_gen (fun F' => F' 0 = .agg (cBs s.1).toArray ∧ F' 1 = .int .i64 ((i : Nat) : Int)) ⟨rfl, rfl⟩ ?_
  rintro F ⟨e0, e1⟩
  refine wp_regionF ?_
  refine lf_ex (wantAll rfl) (hx_box hH 23 (cs := cBs s.1) rfl (fr_eval rfl e0) (by rfl)) ?_
  clear hH
  rintro _ w1 ⟨g1, rfl, hH, hx⟩
  replace hH : Heap _ _ _ [_] := hH
  clear hx
  refine lf_ex (wantAll rfl) (hx_alloc hH 23 (z := .agg (cBs (List.replicate 32 0)).toArray) (n := 32) (cs := cBs (List.replicate 32 0)) rfl (by kernel_rfl) (by rfl)) ?_
  clear hH
  rintro _ w2 ⟨g2, rfl, hH, hx⟩
  replace hH : Heap _ _ _ [_, _] := hH
  clear hx
  refine lf_nil ?_
  refine then_n ?_
  refine wp_seq ?_
  refine wp_gen (fun F' => F' 0 = .agg (cBs s.1).toArray ∧ F' 1 = .int .i64 ((i : Nat) : Int) ∧ F' 2 = .pointer (some ⟨g1, 0, none⟩) ∧ F' 4 = .pointer (some ⟨g2, 0, none⟩)) ⟨e0, e1, rfl, rfl⟩ ?_
  clear e0 e1
  clear F
  rintro F ⟨e0, e1, e2, e4⟩
  refine wp_regionF ?_
  refine lf_val (v := .slice (some ⟨g1, 0, none⟩) 32 32) (wantAll rfl) (rv_sliceArr rfl (fr_eval rfl e2) Try.underlying23 Try.sz5 (by decide)) ?_
  refine lf_val (v := .int .i64 ((i : Nat) : Int)) (wantAll rfl) (rv_move rfl (fr_eval rfl e1)) ?_
  refine lf_val (v := cB (UInt8.ofNat i)) (wantAll rfl) (rv_conv rfl (fr_eval rfl rfl) Try.underlying3 Try.underlying5 (wrap_u8 (byte_nat _))) ?_
  refine lf_ex (wantAll rfl) (hx_lits hH Try.stB (n := 1) (nm := List.length [UInt8.ofNat i]) [(.tmp 7)] (vs := [(cB (UInt8.ofNat i))]) (cs := cBs [UInt8.ofNat i]) rfl (evc (fr_eval rfl rfl) evn) (cBs_one [UInt8.ofNat i]) rfl (by decide) rfl rfl) ?_
  clear hH
  rintro y1 w3 ⟨hH, hx⟩
  replace hH : Heap _ _ _ [_, _, _] := hH
  clear hx
  refine lf_ex (wantAll rfl) (hx_lits hH Try.stBB (n := 2) (nm := 2) [(.tmp 5), (.tmp 8)] (vs := [.slice (some ⟨g1, 0, none⟩) 32 32, y1]) rfl (evc (fr_eval rfl rfl) (evc (fr_eval rfl rfl) evn)) (ones_cons (Rd.oneV (rdB_blkn (hH.blk (i := 0) rfl) s.2 (by decide))) (ones_cons (Rd.oneV (OwnB.rd (hH.own (i := 2) rfl))) ones_nil)) rfl (by decide) rfl rfl) ?_
  clear hH
  rintro y2 w4 ⟨hH, hx⟩
  replace hH : Heap _ _ _ [_, _, _, _] := hH
  clear hx
  refine lf_call (wantAll rfl) (rv_call (args := [cB 21, y2]) rfl (evc rfl (evc (fr_eval rfl rfl) evn)) Try.call45) (join_calls 21 [s.1, [UInt8.ofNat i]] flat1b _ _ (rdP_own (hH.own (i := 3) rfl) (.cons (rdB_blkn (hH.blk (i := 0) rfl) s.2 (by decide)) (.cons (OwnB.rd (hH.own (i := 2) rfl)) .nil)) rfl)) ?_
  rintro _ w5 ⟨rfl, hx⟩
  refine ⟨_, rfl, ?_⟩
  replace hH := hH.ext hx
  clear hx
  refine lf_sk (wantAll rfl) (hx_storeW hH (i := 1) (cs := cBs (join 21 [s.1, [UInt8.ofNat i]])) rfl rfl rfl (fr_eval rfl e4) (fr_eval rfl rfl) (sz_len Try.sz23 (cBs_len (join_length _ _))) (((cBs_len (List.length_replicate ..))).trans ((cBs_len (join_length _ _))).symm) ((cBs_one _))) ?_
  clear hH
  rintro w6 ⟨hH, hx⟩
  replace hH : Heap _ _ _ [_, _, _, _] := hH
  clear hx
  refine lf_nil ?_
  refine then_n ?_
  replace hH : Heap _ _ _ [_, _] := hH.drop (.cons_cons _ (.cons_cons _ (.cons _ (.cons _ .slnil))))
  refine wp_gen (fun F' => F' 0 = .agg (cBs s.1).toArray ∧ F' 1 = .int .i64 ((i : Nat) : Int) ∧ F' 2 = .pointer (some ⟨g1, 0, none⟩) ∧ F' 4 = .pointer (some ⟨g2, 0, none⟩)) ⟨e0, e1, e2, e4⟩ ?_
  clear e0 e1 e2 e4
  clear F
  rintro F ⟨e0, e1, e2, e4⟩
  refine wp_ret ?_
  exact bodyPost_ret (v := (.agg (cBs (join 21 [s.1, [UInt8.ofNat i]])).toArray)) (res1 rfl (ro_cell rfl e4 (hH.blk (i := 1) rfl) Try.underlying23 rfl (sz_len Try.sz23 (cBs_len (join_length _ _))))) rfl (⟨rfl, hH.done⟩)

set_option maxRecDepth 100000 in
set_option maxHeartbeats 4000000 in
theorem new_no (s : S32) (z : Int) (hz : -9223372036854775808 ≤ z ∧ z ≤ 9223372036854775807) (ho : ¬ (1 ≤ z ∧ z ≤ 64)) (w : World) :
    Calls Try.prog 36 #[.agg (cBs s.1).toArray, .int .i64 z] w fun e'' w' => e'' = .returned (.tuple #[.pointer none, .int .i64 1]) ∧ Ext w w' := by
  refine calls_fr (args := [.agg (cBs s.1).toArray, .int .i64 z]) (n := 36) Try.func36 rfl rfl (show 2 ≤ 36 by decide) ?_
  have hH : Heap (newN w) w w [] := Heap.fresh
  refine wp_seq ?_
  refine wp_gen (fun F' => F' 0 = .agg (cBs s.1).toArray ∧ F' 1 = .int .i64 z) ⟨rfl, rfl⟩ ?_
  rintro F ⟨e0, e1⟩
  refine wp_regionF ?_
  refine lf_ex (wantAll rfl) (hx_box hH 23 (cs := cBs s.1) rfl (fr_eval rfl e0) (by rfl)) ?_
  clear hH
  rintro _ w1 ⟨g1, rfl, hH, hx⟩
  replace hH : Heap _ _ _ [_] := hH
  clear hx
  refine lf_val (v := .pointer none) (wantAll rfl) (rv_assign rfl rfl) ?_
  refine lf_val (v := .int .i64 0) (wantAll rfl) (rv_assign rfl rfl) ?_
  refine lf_nil ?_
  refine then_n ?_
  refine wp_seq ?_
  refine wp_seq ?_
  refine wp_gen (fun F' => F' 0 = .agg (cBs s.1).toArray ∧ F' 1 = .int .i64 z ∧ F' 2 = .pointer (some ⟨g1, 0, none⟩) ∧ F' 4 = .pointer none ∧ F' 5 = .int .i64 0) ⟨e0, e1, rfl, rfl, rfl⟩ ?_
  clear e0 e1
  clear F
  rintro F ⟨e0, e1, e2, e4, e5⟩
  refine wp_regionF ?_
  refine lf_val (v := .int .i64 z) (wantAll rfl) (rv_move rfl (fr_eval rfl e1)) ?_
  by_cases hc1 : z < 1
  · refine lf_val (v := .bool true) (wantAll rfl) (rv_lss rfl (fr_eval rfl rfl) rfl (decide_eq_true (by omega))) ?_
    refine lf_val (v := .bool true) (wantAll rfl) (rv_move rfl (fr_eval rfl rfl)) ?_
    refine lf_not (wantNot (d := 10) rfl (by kernel_rfl) rfl rfl) ?_
    refine lf_not (wantNot (d := 10) rfl (by kernel_rfl) rfl rfl) ?_
    refine lf_val (v := .bool true) (wantAll rfl) (rv_pickT rfl (fr_eval rfl rfl) rfl) ?_
    refine lf_nil ?_
    refine then_n ?_
    refine wp_gen (fun F' => F' 0 = .agg (cBs s.1).toArray ∧ F' 1 = .int .i64 z ∧ F' 2 = .pointer (some ⟨g1, 0, none⟩) ∧ F' 4 = .pointer none ∧ F' 5 = .int .i64 0 ∧ F' 13 = .bool true) ⟨e0, e1, e2, e4, e5, rfl⟩ ?_
    clear e0 e1 e2 e4 e5
    clear F
    rintro F ⟨e0, e1, e2, e4, e5, e13⟩
    refine wp_cond_true (fr_eval rfl e13) ?_
    refine wp_seq ?_
    refine wp_regionF ?_
    refine lf_val (v := .pointer none) (wantAll rfl) (rv_assign rfl rfl) ?_
    refine lf_val (v := .int .i64 1) (wantAll rfl) (rv_assign rfl rfl) ?_
    refine lf_nil ?_
    refine then_n ?_
    refine wp_gen (fun F' => F' 0 = .agg (cBs s.1).toArray ∧ F' 1 = .int .i64 z ∧ F' 2 = .pointer (some ⟨g1, 0, none⟩) ∧ F' 4 = .pointer none ∧ F' 5 = .int .i64 1 ∧ F' 13 = .bool true) ⟨e0, e1, e2, rfl, rfl, e13⟩ ?_
    clear e0 e1 e2 e4 e5 e13
    clear F
    rintro F ⟨e0, e1, e2, e4, e5, e13⟩
    refine wp_ret ?_
    refine then_ret ?_
    exact bodyPost_ret (v := .tuple #[.pointer none, .int .i64 1]) (res2 rfl (ro_tmp rfl e4) (ro_tmp rfl e5)) rfl (⟨rfl, hH.done⟩)
  · refine lf_val (v := .bool false) (wantAll rfl) (rv_lss rfl (fr_eval rfl rfl) rfl (decide_eq_false (by omega))) ?_
    refine lf_val (v := .bool false) (wantAll rfl) (rv_move rfl (fr_eval rfl rfl)) ?_
    refine lf_val (v := .int .i64 z) (wantF (d := 10) rfl (by kernel_rfl) rfl rfl) (rv_move rfl (fr_eval rfl e1)) ?_
    refine lf_val (v := .bool true) (wantF (d := 10) rfl (by kernel_rfl) rfl rfl) (rv_gtr rfl (fr_eval rfl rfl) rfl (decide_eq_true (by omega))) ?_
    refine lf_val (v := .bool true) (wantAll rfl) (rv_pickF rfl (fr_eval rfl rfl) (fr_eval rfl rfl)) ?_
    refine lf_nil ?_
    refine then_n ?_
    refine wp_gen (fun F' => F' 0 = .agg (cBs s.1).toArray ∧ F' 1 = .int .i64 z ∧ F' 2 = .pointer (some ⟨g1, 0, none⟩) ∧ F' 4 = .pointer none ∧ F' 5 = .int .i64 0 ∧ F' 13 = .bool true) ⟨e0, e1, e2, e4, e5, rfl⟩ ?_
    clear e0 e1 e2 e4 e5
    clear F
    rintro F ⟨e0, e1, e2, e4, e5, e13⟩
    refine wp_cond_true (fr_eval rfl e13) ?_
    refine wp_seq ?_
    refine wp_regionF ?_
    refine lf_val (v := .pointer none) (wantAll rfl) (rv_assign rfl rfl) ?_
    refine lf_val (v := .int .i64 1) (wantAll rfl) (rv_assign rfl rfl) ?_
    refine lf_nil ?_
    refine then_n ?_
    refine wp_gen (fun F' => F' 0 = .agg (cBs s.1).toArray ∧ F' 1 = .int .i64 z ∧ F' 2 = .pointer (some ⟨g1, 0, none⟩) ∧ F' 4 = .pointer none ∧ F' 5 = .int .i64 1 ∧ F' 13 = .bool true) ⟨e0, e1, e2, rfl, rfl, e13⟩ ?_
    clear e0 e1 e2 e4 e5 e13
    clear F
    rintro F ⟨e0, e1, e2, e4, e5, e13⟩
    refine wp_ret ?_
    refine then_ret ?_
    exact bodyPost_ret (v := .tuple #[.pointer none, .int .i64 1]) (res2 rfl (ro_tmp rfl e4) (ro_tmp rfl e5)) rfl (⟨rfl, hH.done⟩)

set_option maxRecDepth 100000 in
set_option maxHeartbeats 4000000 in
theorem new_yes (s : S32) (n : Nat) (h1 : 1 ≤ n) (h2 : n ≤ 64) (w : World) :
    Calls Try.prog 36 #[.agg (cBs s.1).toArray, .int .i64 ((n : Nat) : Int)] w fun e'' w' => ∃ (g : Nat) (v : Value), e'' = .returned (.tuple #[.pointer (some ⟨g, 0, none⟩), .int .i64 0]) ∧ Heap (newN w) w w' [oBlk g (cBs s.1 ++ ([v, .int .i64 0] : List Value)) 108, oRow cS 23 32 v (keyL s n)] := by
  refine calls_fr (args := [.agg (cBs s.1).toArray, .int .i64 ((n : Nat) : Int)]) (n := 36) Try.func36 rfl rfl (show 2 ≤ 36 by decide) ?_
  have hH : Heap (newN w) w w [] := Heap.fresh
  refine wp_seq ?_
  refine wp_gen (fun F' => F' 0 = .agg (cBs s.1).toArray ∧ F' 1 = .int .i64 ((n : Nat) : Int)) ⟨rfl, rfl⟩ ?_
  rintro F ⟨e0, e1⟩
  refine wp_regionF ?_
  refine lf_ex (wantAll rfl) (hx_box hH 23 (cs := cBs s.1) rfl (fr_eval rfl e0) (by rfl)) ?_
  clear hH
  rintro _ w1 ⟨g1, rfl, hH, hx⟩
  replace hH : Heap _ _ _ [_] := hH
  clear hx
  refine lf_val (v := .pointer none) (wantAll rfl) (rv_assign rfl rfl) ?_
  refine lf_val (v := .int .i64 0) (wantAll rfl) (rv_assign rfl rfl) ?_
  refine lf_nil ?_
  refine then_n ?_
  refine wp_seq ?_
  refine wp_seq ?_
  refine wp_gen (fun F' => F' 0 = .agg (cBs s.1).toArray ∧ F' 1 = .int .i64 ((n : Nat) : Int) ∧ F' 2 = .pointer (some ⟨g1, 0, none⟩) ∧ F' 4 = .pointer none ∧ F' 5 = .int .i64 0) ⟨e0, e1, rfl, rfl, rfl⟩ ?_
  clear e0 e1
  clear F
  rintro F ⟨e0, e1, e2, e4, e5⟩
  refine wp_regionF ?_
  refine lf_val (v := .int .i64 ((n : Nat) : Int)) (wantAll rfl) (rv_move rfl (fr_eval rfl e1)) ?_
  refine lf_val (v := .bool false) (wantAll rfl) (rv_lss rfl (fr_eval rfl rfl) rfl (decide_eq_false (by omega))) ?_
  refine lf_val (v := .bool false) (wantAll rfl) (rv_move rfl (fr_eval rfl rfl)) ?_
  refine lf_val (v := .int .i64 ((n : Nat) : Int)) (wantF (d := 10) rfl (by kernel_rfl) rfl rfl) (rv_move rfl (fr_eval rfl e1)) ?_
  refine lf_val (v := .bool false) (wantF (d := 10) rfl (by kernel_rfl) rfl rfl) (rv_gtr rfl (fr_eval rfl rfl) rfl (decide_eq_false (by omega))) ?_
  refine lf_val (v := .bool false) (wantAll rfl) (rv_pickF rfl (fr_eval rfl rfl) (fr_eval rfl rfl)) ?_
  refine lf_nil ?_
  refine then_n ?_
  refine wp_gen (fun F' => F' 0 = .agg (cBs s.1).toArray ∧ F' 1 = .int .i64 ((n : Nat) : Int) ∧ F' 2 = .pointer (some ⟨g1, 0, none⟩) ∧ F' 4 = .pointer none ∧ F' 5 = .int .i64 0 ∧ F' 13 = .bool false) ⟨e0, e1, e2, e4, e5, rfl⟩ ?_
  clear e0 e1 e2 e4 e5
  clear F
  rintro F ⟨e0, e1, e2, e4, e5, e13⟩
  refine wp_cond_false (fr_eval rfl e13) ?_
  refine wp_skip ?_
  refine then_n ?_
  refine wp_seq ?_
  refine wp_regionF ?_
  refine lf_val (v := .agg (cBs s.1).toArray) (wantAll rfl) (rv_loadW rfl (hH.blk (i := 0) rfl) (fr_eval rfl e2) Try.underlying23 rfl (sz_len Try.sz23 (cBs_len s.2))) ?_
  refine lf_val (wantAll rfl) (rv_buildS (ps := [(0, (.tmp 14))]) (places := #[(0, 32), (32, 1), (33, 1)]) (z := .agg (cBs (List.replicate 32 0) ++ ([.slice none 0 0, .int .i64 0] : List Value)).toArray) (zc := cBs (List.replicate 32 0) ++ ([.slice none 0 0, .int .i64 0] : List Value)) (cs := cBs s.1 ++ ([.slice none 0 0, .int .i64 0] : List Value)) rfl (evpc (fr_eval rfl rfl) evpn) (by kernel_rfl) rfl Try.underlying108 (fun _ => by kernel_rfl) (fillM (cells' := _) (cs := cBs s.1) (off := 0) (n := 32) rfl (cells_agg _) (cBs_len s.2) (le_of_len2 (zMy_l0 (List.length_replicate ..)) (by decide)) (zMy_y1 (List.length_replicate ..) s.2) fill0)) ?_
  refine lf_ex (wantAll rfl) (hx_box hH 108 (cs := cBs s.1 ++ ([.slice none 0 0, .int .i64 0] : List Value)) rfl (fr_eval rfl rfl) (by rfl)) ?_
  clear hH
  rintro _ w2 ⟨g2, rfl, hH, hx⟩
  replace hH : Heap _ _ _ [_, _] := hH
  clear hx
  refine lf_val (v := .pointer (some ⟨g2, 0, none⟩)) (wantAll rfl) (rv_assign rfl (fr_eval rfl rfl)) ?_
  refine lf_nil ?_
  refine then_n ?_
  refine wp_seq ?_
  refine wp_seq ?_
  refine wp_gen (fun F' => F' 0 = .agg (cBs s.1).toArray ∧ F' 1 = .int .i64 ((n : Nat) : Int) ∧ F' 2 = .pointer (some ⟨g1, 0, none⟩) ∧ F' 4 = .pointer none ∧ F' 5 = .int .i64 0 ∧ F' 6 = .pointer (some ⟨g2, 0, none⟩) ∧ F' 13 = .bool false) ⟨e0, e1, e2, e4, e5, rfl, e13⟩ ?_
  clear e0 e1 e2 e4 e5 e13
  clear F
  rintro F ⟨e0, e1, e2, e4, e5, e6, e13⟩
  refine wp_regionF ?_
  refine lf_val (v := .int .i64 ((n : Nat) : Int)) (wantAll rfl) (rv_move rfl (fr_eval rfl e1)) ?_
  refine lf_val (v := .int .i64 0) (wantAll rfl) (rv_move rfl rfl) ?_
  refine lf_nil ?_
  refine then_n ?_
  refine wp_block ?_
  replace hH : Heap _ _ _ [_, _, _] := hH.addNil 23 32
  replace hH : Heap (newN w) w w2 [oBlk g1 (cBs s.1) 23, oBlk g2 (cBs s.1 ++ ([(.slice none 0 0), .int .i64 0] : List Value)) 108, oRow cS 23 32 (.slice none 0 0) (keyL s 0)] := hH
  refine wp_gen (fun F' => F' 0 = .agg (cBs s.1).toArray ∧ F' 1 = .int .i64 ((n : Nat) : Int) ∧ F' 2 = .pointer (some ⟨g1, 0, none⟩) ∧ F' 4 = .pointer none ∧ F' 5 = .int .i64 0 ∧ F' 6 = .pointer (some ⟨g2, 0, none⟩) ∧ F' 13 = .bool false ∧ F' 17 = .int .i64 ((n : Nat) : Int) ∧ F' 18 = .int .i64 0) ⟨e0, e1, e2, e4, e5, e6, e13, rfl, rfl⟩ ?_
  clear e0 e1 e2 e4 e5 e6 e13
  clear F
  rintro F ⟨e0, e1, e2, e4, e5, e6, e13, e17, e18⟩
  refine wp_loopF (fun m F wr => ∃ i : Nat, ∃ u : Value, m = n - i ∧ i ≤ n ∧ F 0 = .agg (cBs s.1).toArray ∧ F 1 = .int .i64 ((n : Nat) : Int) ∧ F 2 = .pointer (some ⟨g1, 0, none⟩) ∧ F 4 = .pointer none ∧ F 5 = .int .i64 0 ∧ F 6 = .pointer (some ⟨g2, 0, none⟩) ∧ F 13 = .bool false ∧ F 17 = .int .i64 ((n : Nat) : Int) ∧ F 18 = .int .i64 ((i : Nat) : Int) ∧ Heap (newN w) w wr [oBlk g1 (cBs s.1) 23, oBlk g2 (cBs s.1 ++ ([u, .int .i64 0] : List Value)) 108, oRow cS 23 32 u (keyL s i)]) ⟨0, _, rfl, Nat.zero_le _, e0, e1, e2, e4, e5, e6, e13, e17, e18, hH⟩ ?_
  clear e0 e1 e2 e4 e5 e6 e13 e17 e18 hH
  clear F
  rintro m F w3 ⟨i, u, rfl, pi0, e0, e1, e2, e4, e5, e6, e13, e17, e18, hH⟩
  refine wp_seq ?_
  refine wp_regionF ?_
  by_cases hc1 : i < n
  · refine lf_val (v := .bool true) (wantAll rfl) (rv_lss rfl (fr_eval rfl e18) (fr_eval rfl e17) (decide_eq_true (by omega))) ?_
    refine lf_nil ?_
    refine then_n ?_
    refine wp_seq ?_
    refine wp_gen (fun F' => F' 0 = .agg (cBs s.1).toArray ∧ F' 1 = .int .i64 ((n : Nat) : Int) ∧ F' 2 = .pointer (some ⟨g1, 0, none⟩) ∧ F' 4 = .pointer none ∧ F' 5 = .int .i64 0 ∧ F' 6 = .pointer (some ⟨g2, 0, none⟩) ∧ F' 13 = .bool false ∧ F' 17 = .int .i64 ((n : Nat) : Int) ∧ F' 18 = .int .i64 ((i : Nat) : Int) ∧ F' 19 = .bool true) ⟨e0, e1, e2, e4, e5, e6, e13, e17, e18, rfl⟩ ?_
    clear e0 e1 e2 e4 e5 e6 e13 e17 e18
    clear F
    rintro F ⟨e0, e1, e2, e4, e5, e6, e13, e17, e18, e19⟩
    refine wp_cond_true (fr_eval rfl e19) ?_
    refine wp_skip ?_
    refine then_n ?_
    refine wp_seq ?_
    refine wp_block ?_
    refine wp_seq ?_
    refine wp_regionF ?_
    refine lf_val (v := .int .i64 ((i : Nat) : Int)) (wantAll rfl) (rv_move rfl (fr_eval rfl e18)) ?_
    refine lf_val (v := .int .i64 ((i : Nat) : Int)) (wantAll rfl) (rv_assign rfl (fr_eval rfl rfl)) ?_
    refine lf_nil ?_
    refine then_n ?_
    refine wp_gen (fun F' => F' 0 = .agg (cBs s.1).toArray ∧ F' 1 = .int .i64 ((n : Nat) : Int) ∧ F' 2 = .pointer (some ⟨g1, 0, none⟩) ∧ F' 4 = .pointer none ∧ F' 5 = .int .i64 0 ∧ F' 6 = .pointer (some ⟨g2, 0, none⟩) ∧ F' 7 = .int .i64 ((i : Nat) : Int) ∧ F' 13 = .bool false ∧ F' 17 = .int .i64 ((n : Nat) : Int) ∧ F' 18 = .int .i64 ((i : Nat) : Int) ∧ F' 19 = .bool true) ⟨e0, e1, e2, e4, e5, e6, rfl, e13, e17, e18, e19⟩ ?_
    clear e0 e1 e2 e4 e5 e6 e13 e17 e18 e19
    clear F
    rintro F ⟨e0, e1, e2, e4, e5, e6, e7, e13, e17, e18, e19⟩
    refine wp_regionX (newN w) 11 (by kernel_rfl) (by kernel_rfl) ?_
    refine xl_take (i := 0) (v := .pointer (some ⟨g2, 0, none⟩)) rfl (by kernel_rfl) (by kernel_rfl) (by kernel_rfl) (by kernel_rfl) (yx_val (wantAll rfl) (fun w' hx' => rv_move rfl (fr_eval rfl e6))) ?_
    refine xl_take (i := 1) (v := .pointer (some ⟨g2, 0, none⟩)) rfl (by kernel_rfl) (by kernel_rfl) (by kernel_rfl) (by kernel_rfl) (yx_val (wantAll rfl) (fun w' hx' => rv_move rfl (fr_eval rfl e6))) ?_
    refine xl_take (i := 2) (v := .pointer (some ⟨g2, 0, none⟩)) rfl (by kernel_rfl) (by kernel_rfl) (by kernel_rfl) (by kernel_rfl) (yx_val (wantAll rfl) (fun w' hx' => rv_nilCheck rfl (fr_eval rfl rfl))) ?_
    refine xl_take (i := 3) (v := .pointer (some ⟨g2, 32, none⟩)) rfl (by kernel_rfl) (by kernel_rfl) (by kernel_rfl) (by kernel_rfl) (yx_val (wantAll rfl) (fun w' hx' => rv_fieldAddr (n := 0) rfl (fr_eval rfl rfl) Try.underlying108 rfl rfl (by kernel_rfl))) ?_
    refine xl_take (i := 6) (v := .int .i64 ((i : Nat) : Int)) rfl (by kernel_rfl) (by kernel_rfl) (by kernel_rfl) (by kernel_rfl) (yx_val (wantAll rfl) (fun w' hx' => rv_move rfl (fr_eval rfl e7))) ?_
    refine anyX_ready (rs := [4, 5]) (by kernel_rfl) ?_
    intro w4 hx
    replace hH := hH.ext hx
    clear hx
    refine (anyX_cons ?_ (anyX_cons ?_ anyX_nil))
    · refine xl_step (i := 4) rfl (wantAll rfl) ?_
      refine of_val (v := u) (rv_load1 rfl (hH.blk (i := 1) rfl) (zMy_g2 s.2) (fr_eval rfl rfl) Try.underlying24 rfl Try.sz24) ?_
      refine ⟨Chg.refl _ _, ?_⟩
      refine anyX_ready (rs := [5]) (by kernel_rfl) ?_
      intro w5 hx
      replace hH := hH.ext hx
      clear hx
      refine (anyX_cons ?_ anyX_nil)
      refine xl_step (i := 5) rfl (wantAll rfl) ?_
      refine of_val (v := .agg (cBs s.1).toArray) (rv_loadW rfl (hH.blk (i := 0) rfl) (fr_eval rfl e2) Try.underlying23 rfl (sz_len Try.sz23 (cBs_len s.2))) ?_
      refine ⟨Chg.refl _ _, ?_⟩
      refine xl_take (i := 7) (v := .agg (cBs ((seedS s i).1)).toArray) rfl (by kernel_rfl) (by kernel_rfl) (by kernel_rfl) (by kernel_rfl) (yx_call (wantAll rfl) (fun w' => rv_call (args := [.agg (cBs s.1).toArray, .int .i64 ((i : Nat) : Int)]) rfl (evc (fr_eval rfl rfl) (evc (fr_eval rfl rfl) evn)) Try.call50) (fun w' hx' => seed_calls s i (by omega) _)) ?_
      refine xl_take (i := 8) (v := .agg (cBs ((pubS (seedS s i)).1)).toArray) rfl (by kernel_rfl) (by kernel_rfl) (by kernel_rfl) (by kernel_rfl) (yx_call (wantAll rfl) (fun w' => rv_call (args := [.agg (cBs ((seedS s i).1)).toArray]) rfl (evc (fr_eval rfl rfl) evn) Try.call67) (fun w' hx' => public_calls ((seedS s i).1) ((seedS s i).2) _)) ?_
      refine anyX_ready (rs := [9]) (by kernel_rfl) ?_
      intro w6 hx
      replace hH := hH.ext hx
      clear hx
      refine (anyX_cons ?_ anyX_nil)
      refine xl_step (i := 9) rfl (wantAll rfl) ?_
      refine of_ex (hx_lit1 hH Try.stSum (cs := cS (pubS (seedS s i))) (xs := List.flatMap cS [(pubS (seedS s i))]) rfl (fr_eval rfl rfl) (cS_ln (pubS (seedS s i))) (by decide) (List.flatMap_singleton ..).symm) ?_
      clear hH
      rintro y1 w7 ⟨hH, hx⟩
      replace hH : Heap _ _ _ [_, _, _, _] := hH
      refine ⟨(Ext.any hx), ?_⟩
      clear hx
      refine anyX_ready (rs := [10]) (by kernel_rfl) ?_
      intro w8 hx
      replace hH := hH.ext hx
      clear hx
      refine (anyX_cons ?_ anyX_nil)
      refine xl_step (i := 10) rfl (wantAll rfl) ?_
      refine of_ex (hx_append hH Try.stSum (i := 2) (xs' := ((keyL s i) ++ [(pubS (seedS s i))]).flatMap cS) (nm := ((keyL s i) ++ [(pubS (seedS s i))]).length) rfl rfl (fun _ => rfl) List.length_append.symm List.flatMap_append.symm (Own.rd (hH.own (i := 3) rfl) (row_one cS_one)) (fr_eval rfl rfl) (fr_eval rfl rfl) (by have := keyL_len s i; simp only [List.length_append, List.length_cons, List.length_nil]; omega)) ?_
      clear hH
      rintro y2 w9 ⟨hH, hx⟩
      replace hH : Heap _ _ _ [_, _, _, _] := hH
      rw [show (keyL s i) ++ [(pubS (seedS s i))] = keyL s (i + 1) from keyL_next s i] at hH
      refine ⟨hx, ?_⟩
      clear hx
      refine xl_tail (s := 11) rfl ?_
      intro w10 hx
      replace hH := hH.ext hx
      clear hx
      refine lf_val (v := .pointer (some ⟨g2, 0, none⟩)) (wantAll rfl) (rv_nilCheck rfl (fr_eval rfl rfl)) ?_
      refine lf_val (v := .pointer (some ⟨g2, 32, none⟩)) (wantAll rfl) (rv_fieldAddr (n := 0) rfl (fr_eval rfl rfl) Try.underlying108 rfl rfl (by kernel_rfl)) ?_
      refine lf_sk (wantAll rfl) (hx_storeC hH (i := 1) (j := 32) (v := y2) rfl rfl rfl (lt_of_len (zMy_l0 s.2) (by decide)) (set_lay (lt_of_len (zMy_l0 s.2) (by decide)) (zMy_y3 s.2)) (fr_eval rfl rfl) (fr_eval rfl rfl) Try.sz24 (Rd.oneV (Own.rd (hH.own (i := 2) rfl) (row_one cS_one)))) ?_
      clear hH
      rintro w11 ⟨hH, hx⟩
      replace hH : Heap _ _ _ [_, _, _, _] := hH
      clear hx
      refine lf_nil ?_
      refine blk_n ?_
      refine then_n ?_
      replace hH : Heap _ _ _ [_, _, _] := hH.drop (.cons_cons _ (.cons_cons _ (.cons_cons _ (.cons _ .slnil))))
      refine wp_gen (fun F' => F' 0 = .agg (cBs s.1).toArray ∧ F' 1 = .int .i64 ((n : Nat) : Int) ∧ F' 2 = .pointer (some ⟨g1, 0, none⟩) ∧ F' 4 = .pointer none ∧ F' 5 = .int .i64 0 ∧ F' 6 = .pointer (some ⟨g2, 0, none⟩) ∧ F' 7 = .int .i64 ((i : Nat) : Int) ∧ F' 13 = .bool false ∧ F' 17 = .int .i64 ((n : Nat) : Int) ∧ F' 18 = .int .i64 ((i : Nat) : Int) ∧ F' 19 = .bool true) ⟨e0, e1, e2, e4, e5, e6, e7, e13, e17, e18, e19⟩ ?_
      clear e0 e1 e2 e4 e5 e6 e7 e13 e17 e18 e19
      clear F
      rintro F ⟨e0, e1, e2, e4, e5, e6, e7, e13, e17, e18, e19⟩
      refine wp_regionF ?_
      refine lf_val (v := .int .i64 ((i + 1 : Nat) : Int)) (wantAll rfl) (rv_add rfl (fr_eval rfl e18) rfl (wrap_i64 (by omega) (by omega) (by omega))) ?_
      refine lf_val (v := .int .i64 ((i + 1 : Nat) : Int)) (wantAll rfl) (rv_move rfl (fr_eval rfl rfl)) ?_
      refine lf_nil ?_
      refine then_n ?_
      exact ⟨_, _, (by omega), rfl, i + 1, _, rfl, (by omega), e0, e1, e2, e4, e5, e6, e13, e17, rfl, hH⟩
    · refine xl_step (i := 5) rfl (wantAll rfl) ?_
      refine of_val (v := .agg (cBs s.1).toArray) (rv_loadW rfl (hH.blk (i := 0) rfl) (fr_eval rfl e2) Try.underlying23 rfl (sz_len Try.sz23 (cBs_len s.2))) ?_
      refine ⟨Chg.refl _ _, ?_⟩
      refine xl_take (i := 7) (v := .agg (cBs ((seedS s i).1)).toArray) rfl (by kernel_rfl) (by kernel_rfl) (by kernel_rfl) (by kernel_rfl) (yx_call (wantAll rfl) (fun w' => rv_call (args := [.agg (cBs s.1).toArray, .int .i64 ((i : Nat) : Int)]) rfl (evc (fr_eval rfl rfl) (evc (fr_eval rfl rfl) evn)) Try.call50) (fun w' hx' => seed_calls s i (by omega) _)) ?_
      refine xl_take (i := 8) (v := .agg (cBs ((pubS (seedS s i)).1)).toArray) rfl (by kernel_rfl) (by kernel_rfl) (by kernel_rfl) (by kernel_rfl) (yx_call (wantAll rfl) (fun w' => rv_call (args := [.agg (cBs ((seedS s i).1)).toArray]) rfl (evc (fr_eval rfl rfl) evn) Try.call67) (fun w' hx' => public_calls ((seedS s i).1) ((seedS s i).2) _)) ?_
      refine anyX_ready (rs := [4, 9]) (by kernel_rfl) ?_
      intro w12 hx
      replace hH := hH.ext hx
      clear hx
      refine (anyX_cons ?_ (anyX_cons ?_ anyX_nil))
      · refine xl_step (i := 4) rfl (wantAll rfl) ?_
        refine of_val (v := u) (rv_load1 rfl (hH.blk (i := 1) rfl) (zMy_g2 s.2) (fr_eval rfl rfl) Try.underlying24 rfl Try.sz24) ?_
        refine ⟨Chg.refl _ _, ?_⟩
        refine anyX_ready (rs := [9]) (by kernel_rfl) ?_
        intro w13 hx
        replace hH := hH.ext hx
        clear hx
        refine (anyX_cons ?_ anyX_nil)
        refine xl_step (i := 9) rfl (wantAll rfl) ?_
        refine of_ex (hx_lit1 hH Try.stSum (cs := cS (pubS (seedS s i))) (xs := List.flatMap cS [(pubS (seedS s i))]) rfl (fr_eval rfl rfl) (cS_ln (pubS (seedS s i))) (by decide) (List.flatMap_singleton ..).symm) ?_
        clear hH
        rintro y3 w14 ⟨hH, hx⟩
        replace hH : Heap _ _ _ [_, _, _, _] := hH
        refine ⟨(Ext.any hx), ?_⟩
        clear hx
        refine anyX_ready (rs := [10]) (by kernel_rfl) ?_
        intro w15 hx
        replace hH := hH.ext hx
        clear hx
        refine (anyX_cons ?_ anyX_nil)
        refine xl_step (i := 10) rfl (wantAll rfl) ?_
        refine of_ex (hx_append hH Try.stSum (i := 2) (xs' := ((keyL s i) ++ [(pubS (seedS s i))]).flatMap cS) (nm := ((keyL s i) ++ [(pubS (seedS s i))]).length) rfl rfl (fun _ => rfl) List.length_append.symm List.flatMap_append.symm (Own.rd (hH.own (i := 3) rfl) (row_one cS_one)) (fr_eval rfl rfl) (fr_eval rfl rfl) (by have := keyL_len s i; simp only [List.length_append, List.length_cons, List.length_nil]; omega)) ?_
        clear hH
        rintro y4 w16 ⟨hH, hx⟩
        replace hH : Heap _ _ _ [_, _, _, _] := hH
        rw [show (keyL s i) ++ [(pubS (seedS s i))] = keyL s (i + 1) from keyL_next s i] at hH
        refine ⟨hx, ?_⟩
        clear hx
        refine xl_tail (s := 11) rfl ?_
        intro w17 hx
        replace hH := hH.ext hx
        clear hx
        refine lf_val (v := .pointer (some ⟨g2, 0, none⟩)) (wantAll rfl) (rv_nilCheck rfl (fr_eval rfl rfl)) ?_
        refine lf_val (v := .pointer (some ⟨g2, 32, none⟩)) (wantAll rfl) (rv_fieldAddr (n := 0) rfl (fr_eval rfl rfl) Try.underlying108 rfl rfl (by kernel_rfl)) ?_
        refine lf_sk (wantAll rfl) (hx_storeC hH (i := 1) (j := 32) (v := y4) rfl rfl rfl (lt_of_len (zMy_l0 s.2) (by decide)) (set_lay (lt_of_len (zMy_l0 s.2) (by decide)) (zMy_y3 s.2)) (fr_eval rfl rfl) (fr_eval rfl rfl) Try.sz24 (Rd.oneV (Own.rd (hH.own (i := 2) rfl) (row_one cS_one)))) ?_
        clear hH
        rintro w18 ⟨hH, hx⟩
        replace hH : Heap _ _ _ [_, _, _, _] := hH
        clear hx
        refine lf_nil ?_
        refine blk_n ?_
        refine then_n ?_
        replace hH : Heap _ _ _ [_, _, _] := hH.drop (.cons_cons _ (.cons_cons _ (.cons_cons _ (.cons _ .slnil))))
        refine wp_gen (fun F' => F' 0 = .agg (cBs s.1).toArray ∧ F' 1 = .int .i64 ((n : Nat) : Int) ∧ F' 2 = .pointer (some ⟨g1, 0, none⟩) ∧ F' 4 = .pointer none ∧ F' 5 = .int .i64 0 ∧ F' 6 = .pointer (some ⟨g2, 0, none⟩) ∧ F' 7 = .int .i64 ((i : Nat) : Int) ∧ F' 13 = .bool false ∧ F' 17 = .int .i64 ((n : Nat) : Int) ∧ F' 18 = .int .i64 ((i : Nat) : Int) ∧ F' 19 = .bool true) ⟨e0, e1, e2, e4, e5, e6, e7, e13, e17, e18, e19⟩ ?_
        clear e0 e1 e2 e4 e5 e6 e7 e13 e17 e18 e19
        clear F
        rintro F ⟨e0, e1, e2, e4, e5, e6, e7, e13, e17, e18, e19⟩
        refine wp_regionF ?_
        refine lf_val (v := .int .i64 ((i + 1 : Nat) : Int)) (wantAll rfl) (rv_add rfl (fr_eval rfl e18) rfl (wrap_i64 (by omega) (by omega) (by omega))) ?_
        refine lf_val (v := .int .i64 ((i + 1 : Nat) : Int)) (wantAll rfl) (rv_move rfl (fr_eval rfl rfl)) ?_
        refine lf_nil ?_
        refine then_n ?_
        exact ⟨_, _, (by omega), rfl, i + 1, _, rfl, (by omega), e0, e1, e2, e4, e5, e6, e13, e17, rfl, hH⟩
      · refine xl_step (i := 9) rfl (wantAll rfl) ?_
        refine of_ex (hx_lit1 hH Try.stSum (cs := cS (pubS (seedS s i))) (xs := List.flatMap cS [(pubS (seedS s i))]) rfl (fr_eval rfl rfl) (cS_ln (pubS (seedS s i))) (by decide) (List.flatMap_singleton ..).symm) ?_
        clear hH
        rintro y5 w19 ⟨hH, hx⟩
        replace hH : Heap _ _ _ [_, _, _, _] := hH
        refine ⟨(Ext.any hx), ?_⟩
        clear hx
        refine anyX_ready (rs := [4]) (by kernel_rfl) ?_
        intro w20 hx
        replace hH := hH.ext hx
        clear hx
        refine (anyX_cons ?_ anyX_nil)
        refine xl_step (i := 4) rfl (wantAll rfl) ?_
        refine of_val (v := u) (rv_load1 rfl (hH.blk (i := 1) rfl) (zMy_g2 s.2) (fr_eval rfl rfl) Try.underlying24 rfl Try.sz24) ?_
        refine ⟨Chg.refl _ _, ?_⟩
        refine anyX_ready (rs := [10]) (by kernel_rfl) ?_
        intro w21 hx
        replace hH := hH.ext hx
        clear hx
        refine (anyX_cons ?_ anyX_nil)
        refine xl_step (i := 10) rfl (wantAll rfl) ?_
        refine of_ex (hx_append hH Try.stSum (i := 2) (xs' := ((keyL s i) ++ [(pubS (seedS s i))]).flatMap cS) (nm := ((keyL s i) ++ [(pubS (seedS s i))]).length) rfl rfl (fun _ => rfl) List.length_append.symm List.flatMap_append.symm (Own.rd (hH.own (i := 3) rfl) (row_one cS_one)) (fr_eval rfl rfl) (fr_eval rfl rfl) (by have := keyL_len s i; simp only [List.length_append, List.length_cons, List.length_nil]; omega)) ?_
        clear hH
        rintro y6 w22 ⟨hH, hx⟩
        replace hH : Heap _ _ _ [_, _, _, _] := hH
        rw [show (keyL s i) ++ [(pubS (seedS s i))] = keyL s (i + 1) from keyL_next s i] at hH
        refine ⟨hx, ?_⟩
        clear hx
        refine xl_tail (s := 11) rfl ?_
        intro w23 hx
        replace hH := hH.ext hx
        clear hx
        refine lf_val (v := .pointer (some ⟨g2, 0, none⟩)) (wantAll rfl) (rv_nilCheck rfl (fr_eval rfl rfl)) ?_
        refine lf_val (v := .pointer (some ⟨g2, 32, none⟩)) (wantAll rfl) (rv_fieldAddr (n := 0) rfl (fr_eval rfl rfl) Try.underlying108 rfl rfl (by kernel_rfl)) ?_
        refine lf_sk (wantAll rfl) (hx_storeC hH (i := 1) (j := 32) (v := y6) rfl rfl rfl (lt_of_len (zMy_l0 s.2) (by decide)) (set_lay (lt_of_len (zMy_l0 s.2) (by decide)) (zMy_y3 s.2)) (fr_eval rfl rfl) (fr_eval rfl rfl) Try.sz24 (Rd.oneV (Own.rd (hH.own (i := 2) rfl) (row_one cS_one)))) ?_
        clear hH
        rintro w24 ⟨hH, hx⟩
        replace hH : Heap _ _ _ [_, _, _, _] := hH
        clear hx
        refine lf_nil ?_
        refine blk_n ?_
        refine then_n ?_
        replace hH : Heap _ _ _ [_, _, _] := hH.drop (.cons_cons _ (.cons_cons _ (.cons_cons _ (.cons _ .slnil))))
        refine wp_gen (fun F' => F' 0 = .agg (cBs s.1).toArray ∧ F' 1 = .int .i64 ((n : Nat) : Int) ∧ F' 2 = .pointer (some ⟨g1, 0, none⟩) ∧ F' 4 = .pointer none ∧ F' 5 = .int .i64 0 ∧ F' 6 = .pointer (some ⟨g2, 0, none⟩) ∧ F' 7 = .int .i64 ((i : Nat) : Int) ∧ F' 13 = .bool false ∧ F' 17 = .int .i64 ((n : Nat) : Int) ∧ F' 18 = .int .i64 ((i : Nat) : Int) ∧ F' 19 = .bool true) ⟨e0, e1, e2, e4, e5, e6, e7, e13, e17, e18, e19⟩ ?_
        clear e0 e1 e2 e4 e5 e6 e7 e13 e17 e18 e19
        clear F
        rintro F ⟨e0, e1, e2, e4, e5, e6, e7, e13, e17, e18, e19⟩
        refine wp_regionF ?_
        refine lf_val (v := .int .i64 ((i + 1 : Nat) : Int)) (wantAll rfl) (rv_add rfl (fr_eval rfl e18) rfl (wrap_i64 (by omega) (by omega) (by omega))) ?_
        refine lf_val (v := .int .i64 ((i + 1 : Nat) : Int)) (wantAll rfl) (rv_move rfl (fr_eval rfl rfl)) ?_
        refine lf_nil ?_
        refine then_n ?_
        exact ⟨_, _, (by omega), rfl, i + 1, _, rfl, (by omega), e0, e1, e2, e4, e5, e6, e13, e17, rfl, hH⟩
  · refine lf_val (v := .bool false) (wantAll rfl) (rv_lss rfl (fr_eval rfl e18) (fr_eval rfl e17) (decide_eq_false (by omega))) ?_
    refine lf_nil ?_
    refine then_n ?_
    refine wp_seq ?_
    refine wp_gen (fun F' => F' 0 = .agg (cBs s.1).toArray ∧ F' 1 = .int .i64 ((n : Nat) : Int) ∧ F' 2 = .pointer (some ⟨g1, 0, none⟩) ∧ F' 4 = .pointer none ∧ F' 5 = .int .i64 0 ∧ F' 6 = .pointer (some ⟨g2, 0, none⟩) ∧ F' 13 = .bool false ∧ F' 17 = .int .i64 ((n : Nat) : Int) ∧ F' 18 = .int .i64 ((i : Nat) : Int) ∧ F' 19 = .bool false) ⟨e0, e1, e2, e4, e5, e6, e13, e17, e18, rfl⟩ ?_
    clear e0 e1 e2 e4 e5 e6 e13 e17 e18
    clear F
    rintro F ⟨e0, e1, e2, e4, e5, e6, e13, e17, e18, e19⟩
    refine wp_cond_false (fr_eval rfl e19) ?_
    refine wp_exit ?_
    refine then_exit ?_
    refine then_exit ?_
    refine blk_exit ?_
    refine then_n ?_
    refine wp_seq ?_
    refine wp_regionF ?_
    refine lf_val (v := .pointer (some ⟨g2, 0, none⟩)) (wantAll rfl) (rv_move rfl (fr_eval rfl e6)) ?_
    refine lf_val (v := .pointer (some ⟨g2, 0, none⟩)) (wantAll rfl) (rv_assign rfl (fr_eval rfl rfl)) ?_
    refine lf_val (v := .int .i64 0) (wantAll rfl) (rv_assign rfl rfl) ?_
    refine lf_nil ?_
    refine then_n ?_
    refine wp_gen (fun F' => F' 0 = .agg (cBs s.1).toArray ∧ F' 1 = .int .i64 ((n : Nat) : Int) ∧ F' 2 = .pointer (some ⟨g1, 0, none⟩) ∧ F' 4 = .pointer (some ⟨g2, 0, none⟩) ∧ F' 5 = .int .i64 0 ∧ F' 6 = .pointer (some ⟨g2, 0, none⟩) ∧ F' 13 = .bool false ∧ F' 17 = .int .i64 ((n : Nat) : Int) ∧ F' 18 = .int .i64 ((i : Nat) : Int) ∧ F' 19 = .bool false) ⟨e0, e1, e2, rfl, rfl, e6, e13, e17, e18, e19⟩ ?_
    clear e0 e1 e2 e4 e5 e6 e13 e17 e18 e19
    clear F
    rintro F ⟨e0, e1, e2, e4, e5, e6, e13, e17, e18, e19⟩
    refine wp_ret ?_
    obtain rfl : i = n := by omega
    have hF := hH
    replace hF : Heap _ _ _ [_, _] := hF.drop (.cons _ (.cons_cons _ (.cons_cons _ .slnil)))
    exact bodyPost_ret (v := .tuple #[.pointer (some ⟨g2, 0, none⟩), .int .i64 0]) (res2 rfl (ro_tmp rfl e4) (ro_tmp rfl e5)) rfl (⟨_, _, rfl, hF⟩)

set_option maxRecDepth 100000 in
set_option maxHeartbeats 4000000 in
theorem kRoot {g : Nat} {v : Value} (s : S32) (l : List S32) (hl : l.length ≤ 1000000) (nx : Nat) (hn : nx ≤ 1000000) (w : World) (hB0 : Blk w g (cBs s.1 ++ ([v, .int .i64 ((nx : Nat) : Int)] : List Value)) 108) (hr0 : Rd w 32 v l.length (l.flatMap cS)) :
    Calls Try.prog 51 #[.pointer (some ⟨g, 0, none⟩)] w fun e'' w' => e'' = .returned (.agg (cBs (rootS l).1).toArray) ∧ Ext w w' := by
  refine calls_fr (args := [.pointer (some ⟨g, 0, none⟩)]) (n := 11) Try.func51 rfl rfl (show 1 ≤ 11 by decide) ?_
  have hr := Rd.stab hr0
  have hB := Blk.stab hB0
  have hH : Heap (newN w) w w [] := Heap.fresh
  refine wp_seq ?_
  refine wp_gen (fun F' => F' 0 = .pointer (some ⟨g, 0, none⟩)) rfl ?_
  rintro F e0
  refine wp_regionF ?_
  refine lf_ex (wantAll rfl) (hx_alloc hH 23 (z := .agg (cBs (List.replicate 32 0)).toArray) (n := 32) (cs := cBs (List.replicate 32 0)) rfl (by kernel_rfl) (by rfl)) ?_
  clear hH
  rintro _ w1 ⟨g1, rfl, hH, hx⟩
  replace hH : Heap _ _ _ [_] := hH
  clear hx
  refine lf_nil ?_
  refine then_n ?_
  refine wp_seq ?_
  refine wp_seq ?_
  refine wp_gen (fun F' => F' 0 = .pointer (some ⟨g, 0, none⟩) ∧ F' 2 = .pointer (some ⟨g1, 0, none⟩)) ⟨e0, rfl⟩ ?_
  clear e0
  clear F
  rintro F ⟨e0, e2⟩
  refine wp_regionF ?_
  refine lf_val (v := .pointer (some ⟨g, 0, none⟩)) (wantAll rfl) (rv_move rfl (fr_eval rfl e0)) ?_
  refine lf_val (v := .bool false) (wantAll rfl) (rv_eqnil (p := (some ⟨g, 0, none⟩)) rfl (fr_eval rfl rfl) rfl Try.underlying67) ?_
  refine lf_nil ?_
  refine then_n ?_
  refine wp_gen (fun F' => F' 0 = .pointer (some ⟨g, 0, none⟩) ∧ F' 2 = .pointer (some ⟨g1, 0, none⟩) ∧ F' 4 = .bool false) ⟨e0, e2, rfl⟩ ?_
  clear e0 e2
  clear F
  rintro F ⟨e0, e2, e4⟩
  refine wp_cond_false (fr_eval rfl e4) ?_
  refine wp_skip ?_
  refine then_n ?_
  refine wp_seq ?_
  refine wp_regionF ?_
  refine lf_val (v := .pointer (some ⟨g, 0, none⟩)) (wantAll rfl) (rv_move rfl (fr_eval rfl e0)) ?_
  refine lf_val (v := .pointer (some ⟨g, 0, none⟩)) (wantAll rfl) (rv_nilCheck rfl (fr_eval rfl rfl)) ?_
  refine lf_val (v := .pointer (some ⟨g, 32, none⟩)) (wantAll rfl) (rv_fieldAddr (n := 0) rfl (fr_eval rfl rfl) Try.underlying108 rfl rfl (by kernel_rfl)) ?_
  refine lf_val (v := v) (wantAll rfl) (rv_load1 rfl (hB _ hH.chg) (zMy_g2 s.2) (fr_eval rfl rfl) Try.underlying24 rfl Try.sz24) ?_
  refine lf_call (wantAll rfl) (rv_call (args := [v]) rfl (evc (fr_eval rfl rfl) evn) Try.call19) (root_calls l (by omega) _ _ (hr.rd _ hH.chg)) ?_
  rintro _ w2 ⟨rfl, hx⟩
  refine ⟨_, rfl, ?_⟩
  replace hH := hH.ext hx
  clear hx
  refine lf_sk (wantAll rfl) (hx_storeW hH (i := 0) (cs := cBs ((rootS l).1)) rfl rfl rfl (fr_eval rfl e2) (fr_eval rfl rfl) (sz_len Try.sz23 (cBs_len (rootS l).2)) (((cBs_len (List.length_replicate ..))).trans ((cBs_len (rootS l).2)).symm) ((cBs_one _))) ?_
  clear hH
  rintro w3 ⟨hH, hx⟩
  replace hH : Heap _ _ _ [_] := hH
  clear hx
  refine lf_nil ?_
  refine then_n ?_
  refine wp_gen (fun F' => F' 0 = .pointer (some ⟨g, 0, none⟩) ∧ F' 2 = .pointer (some ⟨g1, 0, none⟩) ∧ F' 4 = .bool false) ⟨e0, e2, e4⟩ ?_
  clear e0 e2 e4
  clear F
  rintro F ⟨e0, e2, e4⟩
  refine wp_ret ?_
  exact bodyPost_ret (v := (.agg (cBs ((rootS l).1)).toArray)) (res1 rfl (ro_cell rfl e2 (hH.blk (i := 0) rfl) Try.underlying23 rfl (sz_len Try.sz23 (cBs_len (rootS l).2)))) rfl (⟨rfl, hH.done⟩)

set_option maxRecDepth 100000 in
set_option maxHeartbeats 4000000 in
theorem kRoot_nil (w : World) :
    Calls Try.prog 51 #[.pointer none] w fun e'' w' => e'' = .returned (.agg (cBs (List.replicate 32 0)).toArray) ∧ Ext w w' := by
  refine calls_fr (args := [.pointer none]) (n := 11) Try.func51 rfl rfl (show 1 ≤ 11 by decide) ?_
  have hH : Heap (newN w) w w [] := Heap.fresh
  refine wp_seq ?_
  refine wp_gen (fun F' => F' 0 = .pointer none) rfl ?_
  rintro F e0
  refine wp_regionF ?_
  refine lf_ex (wantAll rfl) (hx_alloc hH 23 (z := .agg (cBs (List.replicate 32 0)).toArray) (n := 32) (cs := cBs (List.replicate 32 0)) rfl (by kernel_rfl) (by rfl)) ?_
  clear hH
  rintro _ w1 ⟨g1, rfl, hH, hx⟩
  replace hH : Heap _ _ _ [_] := hH
  clear hx
  refine lf_nil ?_
  refine then_n ?_
  refine wp_seq ?_
  refine wp_seq ?_
  refine wp_gen (fun F' => F' 0 = .pointer none ∧ F' 2 = .pointer (some ⟨g1, 0, none⟩)) ⟨e0, rfl⟩ ?_
  clear e0
  clear F
  rintro F ⟨e0, e2⟩
  refine wp_regionF ?_
  refine lf_val (v := .pointer none) (wantAll rfl) (rv_move rfl (fr_eval rfl e0)) ?_
  refine lf_val (v := .bool true) (wantAll rfl) (rv_eqnil (p := none) rfl (fr_eval rfl rfl) rfl Try.underlying67) ?_
  refine lf_nil ?_
  refine then_n ?_
  refine wp_gen (fun F' => F' 0 = .pointer none ∧ F' 2 = .pointer (some ⟨g1, 0, none⟩) ∧ F' 4 = .bool true) ⟨e0, e2, rfl⟩ ?_
  clear e0 e2
  clear F
  rintro F ⟨e0, e2, e4⟩
  refine wp_cond_true (fr_eval rfl e4) ?_
  refine wp_seq ?_
  refine wp_regionF ?_
  refine lf_val (v := .agg (cBs (List.replicate 32 0)).toArray) (wantAll rfl) (by kernel_rfl) ?_
  refine lf_sk (wantAll rfl) (hx_storeW hH (i := 0) (cs := cBs (List.replicate 32 0)) rfl rfl rfl (fr_eval rfl e2) (fr_eval rfl rfl) (sz_len Try.sz23 (cBs_len (List.length_replicate ..))) (((cBs_len (List.length_replicate ..))).trans ((cBs_len (List.length_replicate ..))).symm) ((cBs_one _))) ?_
  clear hH
  rintro w2 ⟨hH, hx⟩
  replace hH : Heap _ _ _ [_] := hH
  clear hx
  refine lf_nil ?_
  refine then_n ?_
  refine wp_gen (fun F' => F' 0 = .pointer none ∧ F' 2 = .pointer (some ⟨g1, 0, none⟩) ∧ F' 4 = .bool true) ⟨e0, e2, e4⟩ ?_
  clear e0 e2 e4
  clear F
  rintro F ⟨e0, e2, e4⟩
  refine wp_ret ?_
  refine then_ret ?_
  exact bodyPost_ret (v := (.agg (cBs (List.replicate 32 0)).toArray)) (res1 rfl (ro_cell rfl e2 (hH.blk (i := 0) rfl) Try.underlying23 rfl (sz_len Try.sz23 (cBs_len (List.length_replicate ..))))) rfl (⟨rfl, hH.done⟩)

set_option maxRecDepth 100000 in
set_option maxHeartbeats 4000000 in
theorem kLeft {g : Nat} {v : Value} (s : S32) (l : List S32) (hl : l.length ≤ 1000000) (nx : Nat) (hn : nx ≤ 1000000) (hle : nx ≤ l.length) (w : World) (hB0 : Blk w g (cBs s.1 ++ ([v, .int .i64 ((nx : Nat) : Int)] : List Value)) 108) (hr0 : Rd w 32 v l.length (l.flatMap cS)) :
    Calls Try.prog 40 #[.pointer (some ⟨g, 0, none⟩)] w fun e'' w' => e'' = .returned (.int .i64 ((l.length - nx : Nat) : Int)) ∧ Ext w w' := by
  refine calls_fr (args := [.pointer (some ⟨g, 0, none⟩)]) (n := 15) Try.func40 rfl rfl (show 1 ≤ 15 by decide) ?_
  have hr := Rd.stab hr0
  have hB := Blk.stab hB0
  have hH : Heap (newN w) w w [] := Heap.fresh
  refine wp_seq ?_
  refine wp_gen (fun F' => F' 0 = .pointer (some ⟨g, 0, none⟩)) rfl ?_
  rintro F e0
  refine wp_regionF ?_
  refine lf_val (v := .int .i64 0) (wantAll rfl) (rv_assign rfl rfl) ?_
  refine lf_nil ?_
  refine then_n ?_
  refine wp_seq ?_
  refine wp_seq ?_
  refine wp_gen (fun F' => F' 0 = .pointer (some ⟨g, 0, none⟩) ∧ F' 2 = .int .i64 0) ⟨e0, rfl⟩ ?_
  clear e0
  clear F
  rintro F ⟨e0, e2⟩
  refine wp_regionF ?_
  refine lf_val (v := .pointer (some ⟨g, 0, none⟩)) (wantAll rfl) (rv_move rfl (fr_eval rfl e0)) ?_
  refine lf_val (v := .bool false) (wantAll rfl) (rv_eqnil (p := (some ⟨g, 0, none⟩)) rfl (fr_eval rfl rfl) rfl Try.underlying67) ?_
  refine lf_nil ?_
  refine then_n ?_
  refine wp_gen (fun F' => F' 0 = .pointer (some ⟨g, 0, none⟩) ∧ F' 2 = .int .i64 0 ∧ F' 4 = .bool false) ⟨e0, e2, rfl⟩ ?_
  clear e0 e2
  clear F
  rintro F ⟨e0, e2, e4⟩
  refine wp_cond_false (fr_eval rfl e4) ?_
  refine wp_skip ?_
  refine then_n ?_
  refine wp_seq ?_
  refine wp_regionX (fun _ => False) 9 (by kernel_rfl) (by kernel_rfl) ?_
  refine xl_take (i := 0) (v := .pointer (some ⟨g, 0, none⟩)) rfl (by kernel_rfl) (by kernel_rfl) (by kernel_rfl) (by kernel_rfl) (yx_val (wantAll rfl) (fun w' hx' => rv_move rfl (fr_eval rfl e0))) ?_
  refine xl_take (i := 1) (v := .pointer (some ⟨g, 0, none⟩)) rfl (by kernel_rfl) (by kernel_rfl) (by kernel_rfl) (by kernel_rfl) (yx_val (wantAll rfl) (fun w' hx' => rv_nilCheck rfl (fr_eval rfl rfl))) ?_
  refine xl_take (i := 2) (v := .pointer (some ⟨g, 32, none⟩)) rfl (by kernel_rfl) (by kernel_rfl) (by kernel_rfl) (by kernel_rfl) (yx_val (wantAll rfl) (fun w' hx' => rv_fieldAddr (n := 0) rfl (fr_eval rfl rfl) Try.underlying108 rfl rfl (by kernel_rfl))) ?_
  refine xl_take (i := 3) (v := v) rfl (by kernel_rfl) (by kernel_rfl) (by kernel_rfl) (by kernel_rfl) (yx_val (wantAll rfl) (fun w' hx' => rv_load1 rfl (hB _ (hH.chg.trans (Ext.any hx'))) (zMy_g2 s.2) (fr_eval rfl rfl) Try.underlying24 rfl Try.sz24)) ?_
  refine xl_take (i := 4) (v := .int .i64 ((l.length : Nat) : Int)) rfl (by kernel_rfl) (by kernel_rfl) (by kernel_rfl) (by kernel_rfl) (yx_val (wantAll rfl) (fun w' hx' => rv_len rfl (fr_eval rfl rfl) (hr.rd _ (hH.chg.trans (Ext.any hx'))) Try.underlying24)) ?_
  refine xl_take (i := 5) (v := .pointer (some ⟨g, 0, none⟩)) rfl (by kernel_rfl) (by kernel_rfl) (by kernel_rfl) (by kernel_rfl) (yx_val (wantAll rfl) (fun w' hx' => rv_move rfl (fr_eval rfl e0))) ?_
  refine xl_take (i := 6) (v := .pointer (some ⟨g, 0, none⟩)) rfl (by kernel_rfl) (by kernel_rfl) (by kernel_rfl) (by kernel_rfl) (yx_val (wantAll rfl) (fun w' hx' => rv_nilCheck rfl (fr_eval rfl rfl))) ?_
  refine xl_take (i := 7) (v := .pointer (some ⟨g, 33, none⟩)) rfl (by kernel_rfl) (by kernel_rfl) (by kernel_rfl) (by kernel_rfl) (yx_val (wantAll rfl) (fun w' hx' => rv_fieldAddr (n := 0) rfl (fr_eval rfl rfl) Try.underlying108 rfl rfl (by kernel_rfl))) ?_
  refine xl_take (i := 8) (v := .int .i64 ((nx : Nat) : Int)) rfl (by kernel_rfl) (by kernel_rfl) (by kernel_rfl) (by kernel_rfl) (yx_val (wantAll rfl) (fun w' hx' => rv_load1 rfl (hB _ (hH.chg.trans (Ext.any hx'))) (zMy_g4 s.2) (fr_eval rfl rfl) Try.underlying3 rfl Try.sz3)) ?_
  refine xl_tail (s := 9) rfl ?_
  intro w1 hx
  replace hH := hH.ext hx
  clear hx
  refine lf_val (v := .int .i64 ((l.length - nx : Nat) : Int)) (wantAll rfl) (rv_sub rfl (fr_eval rfl rfl) (fr_eval rfl rfl) (wrap_i64 (by omega) (by omega) (by omega))) ?_
  refine lf_val (v := .int .i64 ((l.length - nx : Nat) : Int)) (wantAll rfl) (rv_assign rfl (fr_eval rfl rfl)) ?_
  refine lf_nil ?_
  refine then_n ?_
  refine wp_gen (fun F' => F' 0 = .pointer (some ⟨g, 0, none⟩) ∧ F' 2 = .int .i64 ((l.length - nx : Nat) : Int) ∧ F' 4 = .bool false) ⟨e0, rfl, e4⟩ ?_
  clear e0 e2 e4
  clear F
  rintro F ⟨e0, e2, e4⟩
  refine wp_ret ?_
  exact bodyPost_ret (v := (.int .i64 ((l.length - nx : Nat) : Int))) (res1 rfl (ro_tmp rfl e2)) rfl (⟨rfl, hH.done⟩)

set_option maxRecDepth 100000 in
set_option maxHeartbeats 4000000 in
theorem kLeft_nil (w : World) :
    Calls Try.prog 40 #[.pointer none] w fun e'' w' => e'' = .returned (.int .i64 0) ∧ Ext w w' := by
  refine calls_fr (args := [.pointer none]) (n := 15) Try.func40 rfl rfl (show 1 ≤ 15 by decide) ?_
  have hH : Heap (newN w) w w [] := Heap.fresh
  refine wp_seq ?_
  refine wp_gen (fun F' => F' 0 = .pointer none) rfl ?_
  rintro F e0
  refine wp_regionF ?_
  refine lf_val (v := .int .i64 0) (wantAll rfl) (rv_assign rfl rfl) ?_
  refine lf_nil ?_
  refine then_n ?_
  refine wp_seq ?_
  refine wp_seq ?_
  refine wp_gen (fun F' => F' 0 = .pointer none ∧ F' 2 = .int .i64 0) ⟨e0, rfl⟩ ?_
  clear e0
  clear F
  rintro F ⟨e0, e2⟩
  refine wp_regionF ?_
  refine lf_val (v := .pointer none) (wantAll rfl) (rv_move rfl (fr_eval rfl e0)) ?_
  refine lf_val (v := .bool true) (wantAll rfl) (rv_eqnil (p := none) rfl (fr_eval rfl rfl) rfl Try.underlying67) ?_
  refine lf_nil ?_
  refine then_n ?_
  refine wp_gen (fun F' => F' 0 = .pointer none ∧ F' 2 = .int .i64 0 ∧ F' 4 = .bool true) ⟨e0, e2, rfl⟩ ?_
  clear e0 e2
  clear F
  rintro F ⟨e0, e2, e4⟩
  refine wp_cond_true (fr_eval rfl e4) ?_
  refine wp_seq ?_
  refine wp_regionF ?_
  refine lf_val (v := .int .i64 0) (wantAll rfl) (rv_assign rfl rfl) ?_
  refine lf_nil ?_
  refine then_n ?_
  refine wp_gen (fun F' => F' 0 = .pointer none ∧ F' 2 = .int .i64 0 ∧ F' 4 = .bool true) ⟨e0, rfl, e4⟩ ?_
  clear e0 e2 e4
  clear F
  rintro F ⟨e0, e2, e4⟩
  refine wp_ret ?_
  refine then_ret ?_
  exact bodyPost_ret (v := (.int .i64 0)) (res1 rfl (ro_tmp rfl e2)) rfl (⟨rfl, hH.done⟩)

set_option maxRecDepth 100000 in
set_option maxHeartbeats 4000000 in
theorem kNext {g : Nat} {v : Value} (s : S32) (l : List S32) (hl : l.length ≤ 1000000) (nx : Nat) (hn : nx ≤ 1000000) (w : World) (hB0 : Blk w g (cBs s.1 ++ ([v, .int .i64 ((nx : Nat) : Int)] : List Value)) 108) (hr0 : Rd w 32 v l.length (l.flatMap cS)) :
    Calls Try.prog 49 #[.pointer (some ⟨g, 0, none⟩)] w fun e'' w' => e'' = .returned (.int .i64 ((nx : Nat) : Int)) ∧ Ext w w' := by
  refine calls_fr (args := [.pointer (some ⟨g, 0, none⟩)]) (n := 9) Try.func49 rfl rfl (show 1 ≤ 9 by decide) ?_
  have hr := Rd.stab hr0
  have hB := Blk.stab hB0
  have hH : Heap (newN w) w w [] := Heap.fresh
  refine wp_seq ?_
  refine wp_gen (fun F' => F' 0 = .pointer (some ⟨g, 0, none⟩)) rfl ?_
  rintro F e0
  refine wp_regionF ?_
  refine lf_val (v := .int .i64 0) (wantAll rfl) (rv_assign rfl rfl) ?_
  refine lf_nil ?_
  refine then_n ?_
  refine wp_seq ?_
  refine wp_seq ?_
  refine wp_gen (fun F' => F' 0 = .pointer (some ⟨g, 0, none⟩) ∧ F' 2 = .int .i64 0) ⟨e0, rfl⟩ ?_
  clear e0
  clear F
  rintro F ⟨e0, e2⟩
  refine wp_regionF ?_
  refine lf_val (v := .pointer (some ⟨g, 0, none⟩)) (wantAll rfl) (rv_move rfl (fr_eval rfl e0)) ?_
  refine lf_val (v := .bool false) (wantAll rfl) (rv_eqnil (p := (some ⟨g, 0, none⟩)) rfl (fr_eval rfl rfl) rfl Try.underlying67) ?_
  refine lf_nil ?_
  refine then_n ?_
  refine wp_gen (fun F' => F' 0 = .pointer (some ⟨g, 0, none⟩) ∧ F' 2 = .int .i64 0 ∧ F' 4 = .bool false) ⟨e0, e2, rfl⟩ ?_
  clear e0 e2
  clear F
  rintro F ⟨e0, e2, e4⟩
  refine wp_cond_false (fr_eval rfl e4) ?_
  refine wp_skip ?_
  refine then_n ?_
  refine wp_seq ?_
  refine wp_regionF ?_
  refine lf_val (v := .pointer (some ⟨g, 0, none⟩)) (wantAll rfl) (rv_move rfl (fr_eval rfl e0)) ?_
  refine lf_val (v := .pointer (some ⟨g, 0, none⟩)) (wantAll rfl) (rv_nilCheck rfl (fr_eval rfl rfl)) ?_
  refine lf_val (v := .pointer (some ⟨g, 33, none⟩)) (wantAll rfl) (rv_fieldAddr (n := 0) rfl (fr_eval rfl rfl) Try.underlying108 rfl rfl (by kernel_rfl)) ?_
  refine lf_val (v := .int .i64 ((nx : Nat) : Int)) (wantAll rfl) (rv_load1 rfl (hB _ hH.chg) (zMy_g4 s.2) (fr_eval rfl rfl) Try.underlying3 rfl Try.sz3) ?_
  refine lf_val (v := .int .i64 ((nx : Nat) : Int)) (wantAll rfl) (rv_assign rfl (fr_eval rfl rfl)) ?_
  refine lf_nil ?_
  refine then_n ?_
  refine wp_gen (fun F' => F' 0 = .pointer (some ⟨g, 0, none⟩) ∧ F' 2 = .int .i64 ((nx : Nat) : Int) ∧ F' 4 = .bool false) ⟨e0, rfl, e4⟩ ?_
  clear e0 e2 e4
  clear F
  rintro F ⟨e0, e2, e4⟩
  refine wp_ret ?_
  exact bodyPost_ret (v := (.int .i64 ((nx : Nat) : Int))) (res1 rfl (ro_tmp rfl e2)) rfl (⟨rfl, hH.done⟩)

set_option maxRecDepth 100000 in
set_option maxHeartbeats 4000000 in
theorem kNext_nil (w : World) :
    Calls Try.prog 49 #[.pointer none] w fun e'' w' => e'' = .returned (.int .i64 0) ∧ Ext w w' := by
  refine calls_fr (args := [.pointer none]) (n := 9) Try.func49 rfl rfl (show 1 ≤ 9 by decide) ?_
  have hH : Heap (newN w) w w [] := Heap.fresh
  refine wp_seq ?_
  refine wp_gen (fun F' => F' 0 = .pointer none) rfl ?_
  rintro F e0
  refine wp_regionF ?_
  refine lf_val (v := .int .i64 0) (wantAll rfl) (rv_assign rfl rfl) ?_
  refine lf_nil ?_
  refine then_n ?_
  refine wp_seq ?_
  refine wp_seq ?_
  refine wp_gen (fun F' => F' 0 = .pointer none ∧ F' 2 = .int .i64 0) ⟨e0, rfl⟩ ?_
  clear e0
  clear F
  rintro F ⟨e0, e2⟩
  refine wp_regionF ?_
  refine lf_val (v := .pointer none) (wantAll rfl) (rv_move rfl (fr_eval rfl e0)) ?_
  refine lf_val (v := .bool true) (wantAll rfl) (rv_eqnil (p := none) rfl (fr_eval rfl rfl) rfl Try.underlying67) ?_
  refine lf_nil ?_
  refine then_n ?_
  refine wp_gen (fun F' => F' 0 = .pointer none ∧ F' 2 = .int .i64 0 ∧ F' 4 = .bool true) ⟨e0, e2, rfl⟩ ?_
  clear e0 e2
  clear F
  rintro F ⟨e0, e2, e4⟩
  refine wp_cond_true (fr_eval rfl e4) ?_
  refine wp_seq ?_
  refine wp_regionF ?_
  refine lf_val (v := .int .i64 0) (wantAll rfl) (rv_assign rfl rfl) ?_
  refine lf_nil ?_
  refine then_n ?_
  refine wp_gen (fun F' => F' 0 = .pointer none ∧ F' 2 = .int .i64 0 ∧ F' 4 = .bool true) ⟨e0, rfl, e4⟩ ?_
  clear e0 e2 e4
  clear F
  rintro F ⟨e0, e2, e4⟩
  refine wp_ret ?_
  refine then_ret ?_
  exact bodyPost_ret (v := (.int .i64 0)) (res1 rfl (ro_tmp rfl e2)) rfl (⟨rfl, hH.done⟩)

set_option maxRecDepth 100000 in
set_option maxHeartbeats 4000000 in
theorem kSkip_no {g : Nat} {v : Value} (s : S32) (l : List S32) (hl : l.length ≤ 1000000) (nx : Nat) (hn : nx ≤ 1000000) (t : Int) (ht : -9223372036854775808 ≤ t ∧ t ≤ 9223372036854775807) (ho : ¬ ((nx : Int) ≤ t ∧ t ≤ (l.length : Int))) (w : World) (hB0 : Blk w g (cBs s.1 ++ ([v, .int .i64 ((nx : Nat) : Int)] : List Value)) 108) (hr0 : Rd w 32 v l.length (l.flatMap cS)) :
    Calls Try.prog 52 #[.pointer (some ⟨g, 0, none⟩), .int .i64 t] w fun e'' w' => e'' = .returned (.int .i64 5) ∧ Ext w w' := by
  refine calls_fr (args := [.pointer (some ⟨g, 0, none⟩), .int .i64 t]) (n := 28) Try.func52 rfl rfl (show 2 ≤ 28 by decide) ?_
  have hr := Rd.stab hr0
  have hB := Blk.stab hB0
  have hH : Heap (newN w) w w [] := Heap.fresh
  refine wp_seq ?_
  refine wp_gen (fun F' => F' 0 = .pointer (some ⟨g, 0, none⟩) ∧ F' 1 = .int .i64 t) ⟨rfl, rfl⟩ ?_
  rintro F ⟨e0, e1⟩
  refine wp_regionF ?_
  refine lf_val (v := .int .i64 0) (wantAll rfl) (rv_assign rfl rfl) ?_
  refine lf_nil ?_
  refine then_n ?_
  refine wp_seq ?_
  refine wp_seq ?_
  refine wp_gen (fun F' => F' 0 = .pointer (some ⟨g, 0, none⟩) ∧ F' 1 = .int .i64 t ∧ F' 4 = .int .i64 0) ⟨e0, e1, rfl⟩ ?_
  clear e0 e1
  clear F
  rintro F ⟨e0, e1, e4⟩
  refine wp_regionF ?_
  refine lf_val (v := .pointer (some ⟨g, 0, none⟩)) (wantAll rfl) (rv_move rfl (fr_eval rfl e0)) ?_
  refine lf_val (v := .bool false) (wantAll rfl) (rv_eqnil (p := (some ⟨g, 0, none⟩)) rfl (fr_eval rfl rfl) rfl Try.underlying67) ?_
  refine lf_val (v := .bool false) (wantAll rfl) (rv_move rfl (fr_eval rfl rfl)) ?_
  refine lf_val (v := .int .i64 t) (wantF (d := 7) rfl (by kernel_rfl) rfl rfl) (rv_move rfl (fr_eval rfl e1)) ?_
  refine lf_val (v := .pointer (some ⟨g, 0, none⟩)) (wantF (d := 7) rfl (by kernel_rfl) rfl rfl) (rv_move rfl (fr_eval rfl e0)) ?_
  refine lf_val (v := .pointer (some ⟨g, 0, none⟩)) (wantF (d := 7) rfl (by kernel_rfl) rfl rfl) (rv_nilCheck rfl (fr_eval rfl rfl)) ?_
  refine lf_val (v := .pointer (some ⟨g, 33, none⟩)) (wantF (d := 7) rfl (by kernel_rfl) rfl rfl) (rv_fieldAddr (n := 0) rfl (fr_eval rfl rfl) Try.underlying108 rfl rfl (by kernel_rfl)) ?_
  refine lf_val (v := .int .i64 ((nx : Nat) : Int)) (wantF (d := 7) rfl (by kernel_rfl) rfl rfl) (rv_load1 rfl (hB _ hH.chg) (zMy_g4 s.2) (fr_eval rfl rfl) Try.underlying3 rfl Try.sz3) ?_
  by_cases hc1 : t < ((nx : Nat) : Int)
  · refine lf_val (v := .bool true) (wantF (d := 7) rfl (by kernel_rfl) rfl rfl) (rv_lss rfl (fr_eval rfl rfl) (fr_eval rfl rfl) (decide_eq_true (by omega))) ?_
    refine lf_val (v := .bool true) (wantAll rfl) (rv_pickF rfl (fr_eval rfl rfl) (fr_eval rfl rfl)) ?_
    refine lf_val (v := .bool true) (wantAll rfl) (rv_move rfl (fr_eval rfl rfl)) ?_
    refine lf_not (wantNot (d := 15) rfl (by kernel_rfl) rfl rfl) ?_
    refine lf_not (wantNot (d := 15) rfl (by kernel_rfl) rfl rfl) ?_
    refine lf_not (wantNot (d := 15) rfl (by kernel_rfl) rfl rfl) ?_
    refine lf_not (wantNot (d := 15) rfl (by kernel_rfl) rfl rfl) ?_
    refine lf_not (wantNot (d := 15) rfl (by kernel_rfl) rfl rfl) ?_
    refine lf_not (wantNot (d := 15) rfl (by kernel_rfl) rfl rfl) ?_
    refine lf_not (wantNot (d := 15) rfl (by kernel_rfl) rfl rfl) ?_
    refine lf_val (v := .bool true) (wantAll rfl) (rv_pickT rfl (fr_eval rfl rfl) rfl) ?_
    refine lf_nil ?_
    refine then_n ?_
    refine wp_gen (fun F' => F' 0 = .pointer (some ⟨g, 0, none⟩) ∧ F' 1 = .int .i64 t ∧ F' 4 = .int .i64 0 ∧ F' 23 = .bool true) ⟨e0, e1, e4, rfl⟩ ?_
    clear e0 e1 e4
    clear F
    rintro F ⟨e0, e1, e4, e23⟩
    refine wp_cond_true (fr_eval rfl e23) ?_
    refine wp_seq ?_
    refine wp_regionF ?_
    refine lf_val (v := .int .i64 5) (wantAll rfl) (rv_assign rfl rfl) ?_
    refine lf_nil ?_
    refine then_n ?_
    refine wp_gen (fun F' => F' 0 = .pointer (some ⟨g, 0, none⟩) ∧ F' 1 = .int .i64 t ∧ F' 4 = .int .i64 5 ∧ F' 23 = .bool true) ⟨e0, e1, rfl, e23⟩ ?_
    clear e0 e1 e4 e23
    clear F
    rintro F ⟨e0, e1, e4, e23⟩
    refine wp_ret ?_
    refine then_ret ?_
    exact bodyPost_ret (v := (.int .i64 5)) (res1 rfl (ro_tmp rfl e4)) rfl (⟨rfl, hH.done⟩)
  · refine lf_val (v := .bool false) (wantF (d := 7) rfl (by kernel_rfl) rfl rfl) (rv_lss rfl (fr_eval rfl rfl) (fr_eval rfl rfl) (decide_eq_false (by omega))) ?_
    refine lf_val (v := .bool false) (wantAll rfl) (rv_pickF rfl (fr_eval rfl rfl) (fr_eval rfl rfl)) ?_
    refine lf_val (v := .bool false) (wantAll rfl) (rv_move rfl (fr_eval rfl rfl)) ?_
    refine lf_val (v := .int .i64 t) (wantF (d := 15) rfl (by kernel_rfl) rfl rfl) (rv_move rfl (fr_eval rfl e1)) ?_
    refine lf_val (v := .pointer (some ⟨g, 0, none⟩)) (wantF (d := 15) rfl (by kernel_rfl) rfl rfl) (rv_move rfl (fr_eval rfl e0)) ?_
    refine lf_val (v := .pointer (some ⟨g, 0, none⟩)) (wantF (d := 15) rfl (by kernel_rfl) rfl rfl) (rv_nilCheck rfl (fr_eval rfl rfl)) ?_
    refine lf_val (v := .pointer (some ⟨g, 32, none⟩)) (wantF (d := 15) rfl (by kernel_rfl) rfl rfl) (rv_fieldAddr (n := 0) rfl (fr_eval rfl rfl) Try.underlying108 rfl rfl (by kernel_rfl)) ?_
    refine lf_val (v := v) (wantF (d := 15) rfl (by kernel_rfl) rfl rfl) (rv_load1 rfl (hB _ hH.chg) (zMy_g2 s.2) (fr_eval rfl rfl) Try.underlying24 rfl Try.sz24) ?_
    refine lf_val (v := .int .i64 ((l.length : Nat) : Int)) (wantF (d := 15) rfl (by kernel_rfl) rfl rfl) (rv_len rfl (fr_eval rfl rfl) (hr.rd _ hH.chg) Try.underlying24) ?_
    refine lf_val (v := .bool true) (wantF (d := 15) rfl (by kernel_rfl) rfl rfl) (rv_gtr rfl (fr_eval rfl rfl) (fr_eval rfl rfl) (decide_eq_true (by omega))) ?_
    refine lf_val (v := .bool true) (wantAll rfl) (rv_pickF rfl (fr_eval rfl rfl) (fr_eval rfl rfl)) ?_
    refine lf_nil ?_
    refine then_n ?_
    refine wp_gen (fun F' => F' 0 = .pointer (some ⟨g, 0, none⟩) ∧ F' 1 = .int .i64 t ∧ F' 4 = .int .i64 0 ∧ F' 23 = .bool true) ⟨e0, e1, e4, rfl⟩ ?_
    clear e0 e1 e4
    clear F
    rintro F ⟨e0, e1, e4, e23⟩
    refine wp_cond_true (fr_eval rfl e23) ?_
    refine wp_seq ?_
    refine wp_regionF ?_
    refine lf_val (v := .int .i64 5) (wantAll rfl) (rv_assign rfl rfl) ?_
    refine lf_nil ?_
    refine then_n ?_
    refine wp_gen (fun F' => F' 0 = .pointer (some ⟨g, 0, none⟩) ∧ F' 1 = .int .i64 t ∧ F' 4 = .int .i64 5 ∧ F' 23 = .bool true) ⟨e0, e1, rfl, e23⟩ ?_
    clear e0 e1 e4 e23
    clear F
    rintro F ⟨e0, e1, e4, e23⟩
    refine wp_ret ?_
    refine then_ret ?_
    exact bodyPost_ret (v := (.int .i64 5)) (res1 rfl (ro_tmp rfl e4)) rfl (⟨rfl, hH.done⟩)

set_option maxRecDepth 100000 in
set_option maxHeartbeats 4000000 in
theorem kSkip_nil (t : Int) (w : World) :
    Calls Try.prog 52 #[.pointer none, .int .i64 t] w fun e'' w' => e'' = .returned (.int .i64 5) ∧ Ext w w' := by
  refine calls_fr (args := [.pointer none, .int .i64 t]) (n := 28) Try.func52 rfl rfl (show 2 ≤ 28 by decide) ?_
  have hH : Heap (newN w) w w [] := Heap.fresh
  refine wp_seq ?_
  refine wp_gen (fun F' => F' 0 = .pointer none ∧ F' 1 = .int .i64 t) ⟨rfl, rfl⟩ ?_
  rintro F ⟨e0, e1⟩
  refine wp_regionF ?_
  refine lf_val (v := .int .i64 0) (wantAll rfl) (rv_assign rfl rfl) ?_
  refine lf_nil ?_
  refine then_n ?_
  refine wp_seq ?_
  refine wp_seq ?_
  refine wp_gen (fun F' => F' 0 = .pointer none ∧ F' 1 = .int .i64 t ∧ F' 4 = .int .i64 0) ⟨e0, e1, rfl⟩ ?_
  clear e0 e1
  clear F
  rintro F ⟨e0, e1, e4⟩
  refine wp_regionF ?_
  refine lf_val (v := .pointer none) (wantAll rfl) (rv_move rfl (fr_eval rfl e0)) ?_
  refine lf_val (v := .bool true) (wantAll rfl) (rv_eqnil (p := none) rfl (fr_eval rfl rfl) rfl Try.underlying67) ?_
  refine lf_val (v := .bool true) (wantAll rfl) (rv_move rfl (fr_eval rfl rfl)) ?_
  refine lf_not (wantNot (d := 7) rfl (by kernel_rfl) rfl rfl) ?_
  refine lf_not (wantNot (d := 7) rfl (by kernel_rfl) rfl rfl) ?_
  refine lf_not (wantNot (d := 7) rfl (by kernel_rfl) rfl rfl) ?_
  refine lf_not (wantNot (d := 7) rfl (by kernel_rfl) rfl rfl) ?_
  refine lf_not (wantNot (d := 7) rfl (by kernel_rfl) rfl rfl) ?_
  refine lf_not (wantNot (d := 7) rfl (by kernel_rfl) rfl rfl) ?_
  refine lf_val (v := .bool true) (wantAll rfl) (rv_pickT rfl (fr_eval rfl rfl) rfl) ?_
  refine lf_val (v := .bool true) (wantAll rfl) (rv_move rfl (fr_eval rfl rfl)) ?_
  refine lf_not (wantNot (d := 15) rfl (by kernel_rfl) rfl rfl) ?_
  refine lf_not (wantNot (d := 15) rfl (by kernel_rfl) rfl rfl) ?_
  refine lf_not (wantNot (d := 15) rfl (by kernel_rfl) rfl rfl) ?_
  refine lf_not (wantNot (d := 15) rfl (by kernel_rfl) rfl rfl) ?_
  refine lf_not (wantNot (d := 15) rfl (by kernel_rfl) rfl rfl) ?_
  refine lf_not (wantNot (d := 15) rfl (by kernel_rfl) rfl rfl) ?_
  refine lf_not (wantNot (d := 15) rfl (by kernel_rfl) rfl rfl) ?_
  refine lf_val (v := .bool true) (wantAll rfl) (rv_pickT rfl (fr_eval rfl rfl) rfl) ?_
  refine lf_nil ?_
  refine then_n ?_
  refine wp_gen (fun F' => F' 0 = .pointer none ∧ F' 1 = .int .i64 t ∧ F' 4 = .int .i64 0 ∧ F' 23 = .bool true) ⟨e0, e1, e4, rfl⟩ ?_
  clear e0 e1 e4
  clear F
  rintro F ⟨e0, e1, e4, e23⟩
  refine wp_cond_true (fr_eval rfl e23) ?_
  refine wp_seq ?_
  refine wp_regionF ?_
  refine lf_val (v := .int .i64 5) (wantAll rfl) (rv_assign rfl rfl) ?_
  refine lf_nil ?_
  refine then_n ?_
  refine wp_gen (fun F' => F' 0 = .pointer none ∧ F' 1 = .int .i64 t ∧ F' 4 = .int .i64 5 ∧ F' 23 = .bool true) ⟨e0, e1, rfl, e23⟩ ?_
  clear e0 e1 e4 e23
  clear F
  rintro F ⟨e0, e1, e4, e23⟩
  refine wp_ret ?_
  refine then_ret ?_
  exact bodyPost_ret (v := (.int .i64 5)) (res1 rfl (ro_tmp rfl e4)) rfl (⟨rfl, hH.done⟩)

set_option maxRecDepth 100000 in
set_option maxHeartbeats 4000000 in
theorem kSkip_yes {g : Nat} {v : Value} (s : S32) (l : List S32) (hl : l.length ≤ 64) (nx : Nat) (t : Nat) (ht : nx ≤ t) (ht2 : t ≤ l.length) (w : World) (hb0 : Blk w g (cBs s.1 ++ ([v, .int .i64 ((nx : Nat) : Int)] : List Value)) 108) (ho0 : Own w 23 32 v l.length (l.flatMap cS)) :
    Calls Try.prog 52 #[.pointer (some ⟨g, 0, none⟩), .int .i64 ((t : Nat) : Int)] w fun e'' w' => e'' = .returned (.int .i64 0) ∧ Heap (newK w (holdK g v)) w w' [oBlk g (cBs s.1 ++ ([v, .int .i64 ((t : Nat) : Int)] : List Value)) 108, oRow cS 23 32 v l] := by
  refine calls_fr (args := [.pointer (some ⟨g, 0, none⟩), .int .i64 ((t : Nat) : Int)]) (n := 28) Try.func52 rfl rfl (show 2 ≤ 28 by decide) ?_
  have hH : Heap (newK w (holdK g v)) w w [oBlk g (cBs s.1 ++ ([v, .int .i64 ((nx : Nat) : Int)] : List Value)) 108, oRow cS 23 32 v l] := Heap.startBO hb0 ho0 (by decide)
  refine wp_seq ?_
  refine wp_gen (fun F' => F' 0 = .pointer (some ⟨g, 0, none⟩) ∧ F' 1 = .int .i64 ((t : Nat) : Int)) ⟨rfl, rfl⟩ ?_
  rintro F ⟨e0, e1⟩
  refine wp_regionF ?_
  refine lf_val (v := .int .i64 0) (wantAll rfl) (rv_assign rfl rfl) ?_
  refine lf_nil ?_
  refine then_n ?_
  refine wp_seq ?_
  refine wp_seq ?_
  refine wp_gen (fun F' => F' 0 = .pointer (some ⟨g, 0, none⟩) ∧ F' 1 = .int .i64 ((t : Nat) : Int) ∧ F' 4 = .int .i64 0) ⟨e0, e1, rfl⟩ ?_
  clear e0 e1
  clear F
  rintro F ⟨e0, e1, e4⟩
  refine wp_regionF ?_
  refine lf_val (v := .pointer (some ⟨g, 0, none⟩)) (wantAll rfl) (rv_move rfl (fr_eval rfl e0)) ?_
  refine lf_val (v := .bool false) (wantAll rfl) (rv_eqnil (p := (some ⟨g, 0, none⟩)) rfl (fr_eval rfl rfl) rfl Try.underlying67) ?_
  refine lf_val (v := .bool false) (wantAll rfl) (rv_move rfl (fr_eval rfl rfl)) ?_
  refine lf_val (v := .int .i64 ((t : Nat) : Int)) (wantF (d := 7) rfl (by kernel_rfl) rfl rfl) (rv_move rfl (fr_eval rfl e1)) ?_
  refine lf_val (v := .pointer (some ⟨g, 0, none⟩)) (wantF (d := 7) rfl (by kernel_rfl) rfl rfl) (rv_move rfl (fr_eval rfl e0)) ?_
  refine lf_val (v := .pointer (some ⟨g, 0, none⟩)) (wantF (d := 7) rfl (by kernel_rfl) rfl rfl) (rv_nilCheck rfl (fr_eval rfl rfl)) ?_
  refine lf_val (v := .pointer (some ⟨g, 33, none⟩)) (wantF (d := 7) rfl (by kernel_rfl) rfl rfl) (rv_fieldAddr (n := 0) rfl (fr_eval rfl rfl) Try.underlying108 rfl rfl (by kernel_rfl)) ?_
  refine lf_val (v := .int .i64 ((nx : Nat) : Int)) (wantF (d := 7) rfl (by kernel_rfl) rfl rfl) (rv_load1 rfl (hH.blk (i := 0) rfl) (zMy_g4 s.2) (fr_eval rfl rfl) Try.underlying3 rfl Try.sz3) ?_
  refine lf_val (v := .bool false) (wantF (d := 7) rfl (by kernel_rfl) rfl rfl) (rv_lss rfl (fr_eval rfl rfl) (fr_eval rfl rfl) (decide_eq_false (by omega))) ?_
  refine lf_val (v := .bool false) (wantAll rfl) (rv_pickF rfl (fr_eval rfl rfl) (fr_eval rfl rfl)) ?_
  refine lf_val (v := .bool false) (wantAll rfl) (rv_move rfl (fr_eval rfl rfl)) ?_
  refine lf_val (v := .int .i64 ((t : Nat) : Int)) (wantF (d := 15) rfl (by kernel_rfl) rfl rfl) (rv_move rfl (fr_eval rfl e1)) ?_
  refine lf_val (v := .pointer (some ⟨g, 0, none⟩)) (wantF (d := 15) rfl (by kernel_rfl) rfl rfl) (rv_move rfl (fr_eval rfl e0)) ?_
  refine lf_val (v := .pointer (some ⟨g, 0, none⟩)) (wantF (d := 15) rfl (by kernel_rfl) rfl rfl) (rv_nilCheck rfl (fr_eval rfl rfl)) ?_
  refine lf_val (v := .pointer (some ⟨g, 32, none⟩)) (wantF (d := 15) rfl (by kernel_rfl) rfl rfl) (rv_fieldAddr (n := 0) rfl (fr_eval rfl rfl) Try.underlying108 rfl rfl (by kernel_rfl)) ?_
  refine lf_val (v := v) (wantF (d := 15) rfl (by kernel_rfl) rfl rfl) (rv_load1 rfl (hH.blk (i := 0) rfl) (zMy_g2 s.2) (fr_eval rfl rfl) Try.underlying24 rfl Try.sz24) ?_
  refine lf_val (v := .int .i64 ((l.length : Nat) : Int)) (wantF (d := 15) rfl (by kernel_rfl) rfl rfl) (rv_len rfl (fr_eval rfl rfl) (Own.rd (hH.own (i := 1) rfl) (row_one cS_one)) Try.underlying24) ?_
  refine lf_val (v := .bool false) (wantF (d := 15) rfl (by kernel_rfl) rfl rfl) (rv_gtr rfl (fr_eval rfl rfl) (fr_eval rfl rfl) (decide_eq_false (by omega))) ?_
  refine lf_val (v := .bool false) (wantAll rfl) (rv_pickF rfl (fr_eval rfl rfl) (fr_eval rfl rfl)) ?_
  refine lf_nil ?_
  refine then_n ?_
  refine wp_gen (fun F' => F' 0 = .pointer (some ⟨g, 0, none⟩) ∧ F' 1 = .int .i64 ((t : Nat) : Int) ∧ F' 4 = .int .i64 0 ∧ F' 23 = .bool false) ⟨e0, e1, e4, rfl⟩ ?_
  clear e0 e1 e4
  clear F
  rintro F ⟨e0, e1, e4, e23⟩
  refine wp_cond_false (fr_eval rfl e23) ?_
  refine wp_skip ?_
  refine then_n ?_
  refine wp_seq ?_
  refine wp_regionF ?_
  refine lf_val (v := .pointer (some ⟨g, 0, none⟩)) (wantAll rfl) (rv_move rfl (fr_eval rfl e0)) ?_
  refine lf_val (v := .int .i64 ((t : Nat) : Int)) (wantAll rfl) (rv_move rfl (fr_eval rfl e1)) ?_
  refine lf_val (v := .pointer (some ⟨g, 0, none⟩)) (wantAll rfl) (rv_nilCheck rfl (fr_eval rfl rfl)) ?_
  refine lf_val (v := .pointer (some ⟨g, 33, none⟩)) (wantAll rfl) (rv_fieldAddr (n := 0) rfl (fr_eval rfl rfl) Try.underlying108 rfl rfl (by kernel_rfl)) ?_
  refine lf_sk (wantAll rfl) (hx_storeC hH (i := 0) (j := 33) (v := .int .i64 ((t : Nat) : Int)) rfl rfl rfl (lt_of_len (zMy_l0 s.2) (by decide)) (set_lay (lt_of_len (zMy_l0 s.2) (by decide)) (zMy_y5 s.2)) (fr_eval rfl rfl) (fr_eval rfl rfl) Try.sz3 rfl) ?_
  clear hH
  rintro w1 ⟨hH, hx⟩
  replace hH : Heap _ _ _ [_, _] := hH
  clear hx
  refine lf_nil ?_
  refine then_n ?_
  refine wp_seq ?_
  refine wp_gen (fun F' => F' 0 = .pointer (some ⟨g, 0, none⟩) ∧ F' 1 = .int .i64 ((t : Nat) : Int) ∧ F' 4 = .int .i64 0 ∧ F' 23 = .bool false) ⟨e0, e1, e4, e23⟩ ?_
  clear e0 e1 e4 e23
  clear F
  rintro F ⟨e0, e1, e4, e23⟩
  refine wp_regionF ?_
  refine lf_val (v := .int .i64 0) (wantAll rfl) (rv_assign rfl rfl) ?_
  refine lf_nil ?_
  refine then_n ?_
  refine wp_gen (fun F' => F' 0 = .pointer (some ⟨g, 0, none⟩) ∧ F' 1 = .int .i64 ((t : Nat) : Int) ∧ F' 4 = .int .i64 0 ∧ F' 23 = .bool false) ⟨e0, e1, rfl, e23⟩ ?_
  clear e0 e1 e4 e23
  clear F
  rintro F ⟨e0, e1, e4, e23⟩
  refine wp_ret ?_
  have hF := hH
  exact bodyPost_ret (v := (.int .i64 0)) (res1 rfl (ro_tmp rfl e4)) rfl (⟨rfl, hF⟩)

end Go.Proofs.Ytokddhidcjkadaa
