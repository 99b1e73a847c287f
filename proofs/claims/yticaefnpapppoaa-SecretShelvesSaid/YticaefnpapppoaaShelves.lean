/- Chapter 13's shelves: the walks. -/
import Derived.Test.YticaefnpapppoaaSecret2
import Derived.Test.YticaefnpapppoaaHold
import Derived.Test.YticaefnpapppoaaSym
import Derived.Test.YticaefnpapppoaaAppN
namespace Go.Proofs.Yticaefnpapppoaa
open Go.RowKit Go.Bz Go.Bz.Sha
attribute [local irreducible] wpList Code.wp wpAnyX
theorem flat32 {x : S32} : (flat [x.1]).length ≤ 1099511627000 := by simp [flat, x.2]
structure Op13 where
  x : S32
  h : S32
  o : Bool
def cO13 (u : Op13) : List Value := cBs u.x.1 ++ (cBs u.h.1 ++ [.bool u.o])
def zO13 : Op13 := ⟨zS, zS, false⟩
theorem cO13_ln (u : Op13) : (cO13 u).length = 65 := by simp [cO13, u.x.2, u.h.2]
theorem cO13_len {l : List Op13} : ∀ x ∈ l, (cO13 x).length = 65 := fun x _ => cO13_ln x
theorem cO13_one : ∀ x, ∀ u ∈ cO13 x, u.oneCell' = true := fun x => ones_app (cBs_one _) (ones_app (cBs_one _) (ones_cons rfl ones_nil))

theorem zS13_l0 {a0 : List UInt8} (ha0 : a0.length = 32) {a1 : List UInt8} (ha1 : a1.length = 32) {a2 : Value} : List.length (cBs a0 ++ (cBs a1 ++ ([a2] : List Value))) = 65 := (len_app (m := 32) (n := 33) (k := 65) (cBs_len ha0) (len_app (m := 32) (n := 1) (k := 33) (cBs_len ha1) rfl rfl) rfl)
theorem zS13_o1 {a0 : List UInt8} {a1 : List UInt8} {a2 : Value} (qa2 : a2.oneCell' = true) : ∀ u ∈ (cBs a0 ++ (cBs a1 ++ ([a2] : List Value))), u.oneCell' = true := (ones_app (cBs_one _) (ones_app (cBs_one _) (ones_cons qa2 ones_nil)))
theorem zS13_p2 {a0 : List UInt8} (ha0 : a0.length = 32) {a1 : List UInt8} (_ : a1.length = 32) {a2 : Value} : List.take 32 (List.drop 0 (cBs a0 ++ (cBs a1 ++ ([a2] : List Value)))) = cBs a0 := (show List.take 32 (List.drop 0 ([] ++ ((cBs a0) ++ (cBs a1 ++ ([a2] : List Value))))) = cBs a0 from part_app (show List.length ([] : List Value) = 0 from rfl) (cBs_len ha0))
theorem zS13_p3 {a0 : List UInt8} (ha0 : a0.length = 32) {a1 : List UInt8} (ha1 : a1.length = 32) {a2 : Value} : List.take 32 (List.drop 32 (cBs a0 ++ (cBs a1 ++ ([a2] : List Value)))) = cBs a1 := (show List.take 32 (List.drop 32 (cBs a0 ++ ((cBs a1) ++ ([a2])))) = cBs a1 from part_app (cBs_len ha0) (cBs_len ha1))
theorem zS13_g4 {a0 : List UInt8} (ha0 : a0.length = 32) {a1 : List UInt8} (ha1 : a1.length = 32) {a2 : Value} : (cBs a0 ++ (cBs a1 ++ ([a2] : List Value)))[64]? = some a2 := (get_of (cs := cBs a0 ++ (cBs a1 ++ ([a2] : List Value))) (A := (cBs a0 ++ cBs a1 : List Value)) (D := ([a2] : List Value)) (C := ([] : List Value)) (o := 64) (j := 0) (by simp) (len_app (m := 32) (n := 32) (k := 64) (cBs_len ha0) (cBs_len ha1) rfl) rfl (show ([a2] : List Value)[0]? = some (a2) from rfl))
set_option maxRecDepth 100000 in
set_option maxHeartbeats 4000000 in
theorem shLen_calls {g : Nat} {v : Value} (l : List S32) (hl : l.length ≤ 2000000) (w : World) (hB0 : Blk w g [v] 43) (hr0 : Rd w 32 v l.length (l.flatMap cS)) :
    Calls Try.prog 30 #[.pointer (some ⟨g, 0, none⟩)] w fun e'' w' => e'' = .returned (.int .i64 ((l.length : Nat) : Int)) ∧ Ext w w' := by
  refine calls_fr (args := [.pointer (some ⟨g, 0, none⟩)]) (n := 10) Try.func30 rfl rfl (show 1 ≤ 10 by decide) ?_
  have hr := Rd.stab hr0
  have hB := Blk.stab hB0
  have hH : Heap (newN w) w w [] := Heap.fresh
  refine wp_seq ?_
  refine wp_gen (fun F' => F' 0 = .pointer (some ⟨g, 0, none⟩)) rfl ?_
  rintro F e0
  refine wp_regionF ?_
  refine lf_val (v := .int .i64 0) (wantAll rfl) (rv_assign rfl rfl) ?_
  refine lf_nil ?_
  refine then_n ?_
  refine wp_seq ?_
  refine wp_seq ?_
  refine wp_gen (fun F' => F' 0 = .pointer (some ⟨g, 0, none⟩) ∧ F' 2 = .int .i64 0) ⟨e0, rfl⟩ ?_
  clear e0
  clear F
  rintro F ⟨e0, e2⟩
  refine wp_regionF ?_
  refine lf_val (v := .pointer (some ⟨g, 0, none⟩)) (wantAll rfl) (rv_move rfl (fr_eval rfl e0)) ?_
  refine lf_val (v := .bool false) (wantAll rfl) (rv_eqnil (p := (some ⟨g, 0, none⟩)) rfl (fr_eval rfl rfl) rfl Try.underlying40) ?_
  refine lf_nil ?_
  refine then_n ?_
  refine wp_gen (fun F' => F' 0 = .pointer (some ⟨g, 0, none⟩) ∧ F' 2 = .int .i64 0 ∧ F' 4 = .bool false) ⟨e0, e2, rfl⟩ ?_
  clear e0 e2
  clear F
  rintro F ⟨e0, e2, e4⟩
  refine wp_cond_false (fr_eval rfl e4) ?_
  refine wp_skip ?_
  refine then_n ?_
  refine wp_seq ?_
  refine wp_regionF ?_
  refine lf_val (v := .pointer (some ⟨g, 0, none⟩)) (wantAll rfl) (rv_move rfl (fr_eval rfl e0)) ?_
  refine lf_val (v := .pointer (some ⟨g, 0, none⟩)) (wantAll rfl) (rv_nilCheck rfl (fr_eval rfl rfl)) ?_
  refine lf_val (v := .pointer (some ⟨g, 0, none⟩)) (wantAll rfl) (rv_fieldAddr (n := 0) rfl (fr_eval rfl rfl) Try.underlying43 rfl rfl (by kernel_rfl)) ?_
  refine lf_val (v := v) (wantAll rfl) (rv_load1 rfl (hB _ hH.chg) rfl (fr_eval rfl rfl) Try.underlying41 rfl Try.sz41) ?_
  refine lf_val (v := .int .i64 ((l.length : Nat) : Int)) (wantAll rfl) (rv_len rfl (fr_eval rfl rfl) (hr.rd _ hH.chg) Try.underlying41) ?_
  refine lf_val (v := .int .i64 ((l.length : Nat) : Int)) (wantAll rfl) (rv_assign rfl (fr_eval rfl rfl)) ?_
  refine lf_nil ?_
  refine then_n ?_
  refine wp_gen (fun F' => F' 0 = .pointer (some ⟨g, 0, none⟩) ∧ F' 2 = .int .i64 ((l.length : Nat) : Int) ∧ F' 4 = .bool false) ⟨e0, rfl, e4⟩ ?_
  clear e0 e2 e4
  clear F
  rintro F ⟨e0, e2, e4⟩
  refine wp_ret ?_
  exact bodyPost_ret (v := (.int .i64 ((l.length : Nat) : Int))) (res1 rfl (ro_tmp rfl e2)) rfl (⟨rfl, hH.done⟩)

set_option maxRecDepth 100000 in
set_option maxHeartbeats 4000000 in
theorem shAll_calls {g : Nat} {v : Value} (l : List S32) (hl : l.length ≤ 2000000) (w : World) (hB0 : Blk w g [v] 43) (hr0 : Rd w 32 v l.length (l.flatMap cS)) :
    Calls Try.prog 29 #[.pointer (some ⟨g, 0, none⟩)] w fun e'' w' => (∃ v', e'' = .returned v' ∧ Own w' 26 32 v' l.length (l.flatMap cS) ∧ ∀ k, v'.ownBlock = some k → w.heap.size ≤ k) ∧ Ext w w' := by
  refine calls_fr (args := [.pointer (some ⟨g, 0, none⟩)]) (n := 10) Try.func29 rfl rfl (show 1 ≤ 10 by decide) ?_
  have hr := Rd.stab hr0
  have hB := Blk.stab hB0
  have hH : Heap (newN w) w w [] := Heap.fresh
  refine wp_seq ?_
  refine wp_gen (fun F' => F' 0 = .pointer (some ⟨g, 0, none⟩)) rfl ?_
  rintro F e0
  refine wp_regionF ?_
  refine lf_val (v := .slice none 0 0) (wantAll rfl) (rv_assign rfl rfl) ?_
  refine lf_nil ?_
  refine then_n ?_
  refine wp_seq ?_
  refine wp_seq ?_
  refine wp_gen (fun F' => F' 0 = .pointer (some ⟨g, 0, none⟩) ∧ F' 2 = .slice none 0 0) ⟨e0, rfl⟩ ?_
  clear e0
  clear F
  rintro F ⟨e0, e2⟩
  refine wp_regionF ?_
  refine lf_val (v := .pointer (some ⟨g, 0, none⟩)) (wantAll rfl) (rv_move rfl (fr_eval rfl e0)) ?_
  refine lf_val (v := .bool false) (wantAll rfl) (rv_eqnil (p := (some ⟨g, 0, none⟩)) rfl (fr_eval rfl rfl) rfl Try.underlying40) ?_
  refine lf_nil ?_
  refine then_n ?_
  refine wp_gen (fun F' => F' 0 = .pointer (some ⟨g, 0, none⟩) ∧ F' 2 = .slice none 0 0 ∧ F' 4 = .bool false) ⟨e0, e2, rfl⟩ ?_
  clear e0 e2
  clear F
  rintro F ⟨e0, e2, e4⟩
  refine wp_cond_false (fr_eval rfl e4) ?_
  refine wp_skip ?_
  refine then_n ?_
  refine wp_seq ?_
  refine wp_regionF ?_
  refine lf_val (v := .pointer (some ⟨g, 0, none⟩)) (wantAll rfl) (rv_move rfl (fr_eval rfl e0)) ?_
  refine lf_val (v := .pointer (some ⟨g, 0, none⟩)) (wantAll rfl) (rv_nilCheck rfl (fr_eval rfl rfl)) ?_
  refine lf_val (v := .pointer (some ⟨g, 0, none⟩)) (wantAll rfl) (rv_fieldAddr (n := 0) rfl (fr_eval rfl rfl) Try.underlying43 rfl rfl (by kernel_rfl)) ?_
  refine lf_val (v := v) (wantAll rfl) (rv_load1 rfl (hB _ hH.chg) rfl (fr_eval rfl rfl) Try.underlying41 rfl Try.sz41) ?_
  refine lf_ex (wantAll rfl) (hx_appendN hH Try.stSum (nm := (l).length) (xs' := (l).flatMap cS) rfl rfl rfl (hr.rd _ hH.chg) rfl (fr_eval rfl rfl) (by first | omega | (simp only [List.length_append]; omega) | (simp only [List.length_append, List.length_cons, List.length_nil]; omega))) ?_
  clear hH
  rintro y1 w1 ⟨hH, hx⟩
  replace hH : Heap _ _ _ [_] := hH
  clear hx
  refine lf_val (v := y1) (wantAll rfl) (rv_assign rfl (fr_eval rfl rfl)) ?_
  refine lf_nil ?_
  refine then_n ?_
  refine wp_gen (fun F' => F' 0 = .pointer (some ⟨g, 0, none⟩) ∧ F' 2 = y1 ∧ F' 4 = .bool false) ⟨e0, rfl, e4⟩ ?_
  clear e0 e2 e4
  clear F
  rintro F ⟨e0, e2, e4⟩
  refine wp_ret ?_
  exact bodyPost_ret (v := y1) (res1 rfl (ro_tmp rfl e2)) rfl (⟨⟨_, rfl, hH.own (i := 0) rfl, hH.ge (i := 0) rfl⟩, hH.done⟩)

set_option maxRecDepth 100000 in
set_option maxHeartbeats 4000000 in
theorem shClone_calls {g : Nat} {v : Value} (l : List S32) (hl : l.length ≤ 2000000) (w : World) (hB0 : Blk w g [v] 43) (hr0 : Rd w 32 v l.length (l.flatMap cS)) :
    Calls Try.prog 27 #[.pointer (some ⟨g, 0, none⟩)] w fun e'' w' => (∃ v', e'' = .returned (.agg #[v']) ∧ Own w' 26 32 v' l.length (l.flatMap cS) ∧ ∀ k, v'.ownBlock = some k → w.heap.size ≤ k) ∧ Ext w w' := by
  refine calls_fr (args := [.pointer (some ⟨g, 0, none⟩)]) (n := 6) Try.func27 rfl rfl (show 1 ≤ 6 by decide) ?_
  have hr := Rd.stab hr0
  have hB := Blk.stab hB0
  have hH : Heap (newN w) w w [] := Heap.fresh
  refine wp_seq ?_
  refine wp_gen (fun F' => F' 0 = .pointer (some ⟨g, 0, none⟩)) rfl ?_
  rintro F e0
  refine wp_regionF ?_
  refine lf_ex (wantAll rfl) (hx_alloc hH 43 (z := .agg ([.slice none 0 0]).toArray) (n := 1) (cs := [.slice none 0 0]) rfl (by kernel_rfl) (by rfl)) ?_
  clear hH
  rintro _ w1 ⟨g1, rfl, hH, hx⟩
  replace hH : Heap _ _ _ [_] := hH
  clear hx
  refine lf_nil ?_
  refine then_n ?_
  refine wp_seq ?_
  refine wp_gen (fun F' => F' 0 = .pointer (some ⟨g, 0, none⟩) ∧ F' 2 = .pointer (some ⟨g1, 0, none⟩)) ⟨e0, rfl⟩ ?_
  clear e0
  clear F
  rintro F ⟨e0, e2⟩
  refine wp_regionF ?_
  refine lf_val (v := .pointer (some ⟨g, 0, none⟩)) (wantAll rfl) (rv_move rfl (fr_eval rfl e0)) ?_
  refine lf_call (wantAll rfl) (rv_call (args := [.pointer (some ⟨g, 0, none⟩)]) rfl (evc (fr_eval rfl rfl) evn) Try.call29) (shAll_calls l (by omega) _ (hB _ hH.chg) (hr.rd _ hH.chg)) ?_
  rintro _ w2 ⟨⟨y1, rfl, ho, hg⟩, hx⟩
  refine ⟨_, rfl, ?_⟩
  replace hH : Heap _ _ _ [_, _] := hH.addOwn hx hg ho
  clear ho hg
  clear hx
  refine lf_val (v := .agg #[y1]) (wantAll rfl) (rv_buildS (ps := [(0, (.tmp 4))]) (places := #[(0, 1)]) (z := .agg #[.slice none 0 0]) (zc := [.slice none 0 0]) (cs := [y1]) rfl (evpc (fr_eval rfl rfl) evpn) (by kernel_rfl) rfl Try.underlying43 (fun _ => by kernel_rfl) (fill1 rfl (Rd.oneV (Own.rd (hH.own (i := 1) rfl) (row_one cS_one))) (by decide) (show _ = [y1] from rfl) fill0)) ?_
  refine lf_sk (wantAll rfl) (hx_storeW hH (i := 0) (cs := [y1]) rfl rfl rfl (fr_eval rfl e2) (fr_eval rfl rfl) (sz_len Try.sz43 (show List.length [y1] = 1 from rfl)) (((show List.length [.slice none 0 0] = 1 from rfl)).trans ((show List.length [y1] = 1 from rfl)).symm) ((ones_cons (Rd.oneV (Own.rd (hH.own (i := 1) rfl) (row_one cS_one))) ones_nil))) ?_
  clear hH
  rintro w3 ⟨hH, hx⟩
  replace hH : Heap _ _ _ [_, _] := hH
  clear hx
  refine lf_nil ?_
  refine then_n ?_
  refine wp_gen (fun F' => F' 0 = .pointer (some ⟨g, 0, none⟩) ∧ F' 2 = .pointer (some ⟨g1, 0, none⟩)) ⟨e0, e2⟩ ?_
  clear e0 e2
  clear F
  rintro F ⟨e0, e2⟩
  refine wp_ret ?_
  exact bodyPost_ret (v := (.agg #[y1])) (res1 rfl (ro_cell rfl e2 (hH.blk (i := 0) rfl) Try.underlying43 rfl (sz_len Try.sz43 (show List.length [y1] = 1 from rfl)))) rfl (⟨⟨_, rfl, hH.own (i := 1) rfl, hH.ge (i := 1) rfl⟩, hH.done⟩)

set_option maxRecDepth 100000 in
set_option maxHeartbeats 4000000 in
theorem shGet_calls {g : Nat} {v : Value} (l : List S32) (hl : l.length ≤ 2000000) (a : Int) (ha : -9223372036854775808 ≤ a ∧ a ≤ 9223372036854775807) (w : World) (hB0 : Blk w g [v] 43) (hr0 : Rd w 32 v l.length (l.flatMap cS)) :
    Calls Try.prog 31 #[.pointer (some ⟨g, 0, none⟩), .int .i64 a] w fun e'' w' => (∃ s : S32, e'' = .returned (.tuple #[.agg (cBs s.1).toArray, .bool (decide (0 ≤ a ∧ a < l.length))]) ∧ (0 ≤ a ∧ a < l.length → s = l.getD a.toNat zS)) ∧ Ext w w' := by
  refine calls_fr (args := [.pointer (some ⟨g, 0, none⟩), .int .i64 a]) (n := 22) Try.func31 rfl rfl (show 2 ≤ 22 by decide) ?_
  have hr := Rd.stab hr0
  have hB := Blk.stab hB0
  have hH : Heap (newN w) w w [] := Heap.fresh
  refine wp_seq ?_
  refine wp_gen (fun F' => F' 0 = .pointer (some ⟨g, 0, none⟩) ∧ F' 1 = .int .i64 a) ⟨rfl, rfl⟩ ?_
  rintro F ⟨e0, e1⟩
  refine wp_regionF ?_
  refine lf_ex (wantAll rfl) (hx_alloc hH 26 (z := .agg (cBs (List.replicate 32 0)).toArray) (n := 32) (cs := cBs (List.replicate 32 0)) rfl (by kernel_rfl) (by rfl)) ?_
  clear hH
  rintro _ w1 ⟨g1, rfl, hH, hx⟩
  replace hH : Heap _ _ _ [_] := hH
  clear hx
  refine lf_val (v := .bool false) (wantAll rfl) (rv_assign rfl rfl) ?_
  refine lf_nil ?_
  refine then_n ?_
  refine wp_seq ?_
  refine wp_seq ?_
  refine wp_gen (fun F' => F' 0 = .pointer (some ⟨g, 0, none⟩) ∧ F' 1 = .int .i64 a ∧ F' 4 = .pointer (some ⟨g1, 0, none⟩) ∧ F' 5 = .bool false) ⟨e0, e1, rfl, rfl⟩ ?_
  clear e0 e1
  clear F
  rintro F ⟨e0, e1, e4, e5⟩
  refine wp_regionF ?_
  refine lf_val (v := .int .i64 a) (wantAll rfl) (rv_move rfl (fr_eval rfl e1)) ?_
  by_cases hc1 : a < 0
  · refine lf_val (v := .bool true) (wantAll rfl) (rv_lss rfl (fr_eval rfl rfl) rfl (decide_eq_true (by omega))) ?_
    refine lf_val (v := .bool true) (wantAll rfl) (rv_move rfl (fr_eval rfl rfl)) ?_
    refine lf_not (wantNot (d := 8) rfl (by kernel_rfl) rfl rfl) ?_
    refine lf_not (wantNot (d := 8) rfl (by kernel_rfl) rfl rfl) ?_
    refine lf_not (wantNot (d := 8) rfl (by kernel_rfl) rfl rfl) ?_
    refine lf_not (wantNot (d := 8) rfl (by kernel_rfl) rfl rfl) ?_
    refine lf_val (v := .bool true) (wantAll rfl) (rv_pickT rfl (fr_eval rfl rfl) rfl) ?_
    refine lf_nil ?_
    refine then_n ?_
    refine wp_gen (fun F' => F' 0 = .pointer (some ⟨g, 0, none⟩) ∧ F' 1 = .int .i64 a ∧ F' 4 = .pointer (some ⟨g1, 0, none⟩) ∧ F' 5 = .bool false ∧ F' 13 = .bool true) ⟨e0, e1, e4, e5, rfl⟩ ?_
    clear e0 e1 e4 e5
    clear F
    rintro F ⟨e0, e1, e4, e5, e13⟩
    refine wp_cond_true (fr_eval rfl e13) ?_
    refine wp_seq ?_
    refine wp_regionF ?_
    refine lf_val (v := .agg (cBs (List.replicate 32 0)).toArray) (wantAll rfl) (by kernel_rfl) ?_
    refine lf_sk (wantAll rfl) (hx_storeW hH (i := 0) (cs := cBs (List.replicate 32 0)) rfl rfl rfl (fr_eval rfl e4) (fr_eval rfl rfl) (sz_len Try.sz26 (cBs_len (List.length_replicate ..))) (((cBs_len (List.length_replicate ..))).trans ((cBs_len (List.length_replicate ..))).symm) ((cBs_one _))) ?_
    clear hH
    rintro w2 ⟨hH, hx⟩
    replace hH : Heap _ _ _ [_] := hH
    clear hx
    refine lf_val (v := .bool false) (wantAll rfl) (rv_assign rfl rfl) ?_
    refine lf_nil ?_
    refine then_n ?_
    refine wp_gen (fun F' => F' 0 = .pointer (some ⟨g, 0, none⟩) ∧ F' 1 = .int .i64 a ∧ F' 4 = .pointer (some ⟨g1, 0, none⟩) ∧ F' 5 = .bool false ∧ F' 13 = .bool true) ⟨e0, e1, e4, rfl, e13⟩ ?_
    clear e0 e1 e4 e5 e13
    clear F
    rintro F ⟨e0, e1, e4, e5, e13⟩
    refine wp_ret ?_
    refine then_ret ?_
    exact bodyPost_ret (res2 rfl (ro_cell rfl e4 (hH.blk (i := 0) rfl) Try.underlying26 rfl (sz_len Try.sz26 (cBs_len (List.length_replicate ..)))) (ro_tmp rfl e5)) rfl (⟨⟨zS, congrArg (fun b => Ending.returned (.tuple #[_, .bool b])) (decide_eq_false (by omega)).symm, fun h => absurd h (by omega)⟩, hH.done⟩)
  · refine lf_val (v := .bool false) (wantAll rfl) (rv_lss rfl (fr_eval rfl rfl) rfl (decide_eq_false (by omega))) ?_
    refine lf_val (v := .bool false) (wantAll rfl) (rv_move rfl (fr_eval rfl rfl)) ?_
    refine lf_val (v := .int .i64 a) (wantF (d := 8) rfl (by kernel_rfl) rfl rfl) (rv_move rfl (fr_eval rfl e1)) ?_
    refine lf_val (v := .pointer (some ⟨g, 0, none⟩)) (wantF (d := 8) rfl (by kernel_rfl) rfl rfl) (rv_move rfl (fr_eval rfl e0)) ?_
    refine lf_call (wantF (d := 8) rfl (by kernel_rfl) rfl rfl) (rv_call (args := [.pointer (some ⟨g, 0, none⟩)]) rfl (evc (fr_eval rfl rfl) evn) Try.call30) (shLen_calls l (by omega) _ (hB _ hH.chg) (hr.rd _ hH.chg)) ?_
    rintro _ w3 ⟨rfl, hx⟩
    refine ⟨_, rfl, ?_⟩
    replace hH := hH.ext hx
    clear hx
    by_cases hc2 : a ≥ ((l.length : Nat) : Int)
    · refine lf_val (v := .bool true) (wantF (d := 8) rfl (by kernel_rfl) rfl rfl) (rv_geq rfl (fr_eval rfl rfl) (fr_eval rfl rfl) (decide_eq_true (by omega))) ?_
      refine lf_val (v := .bool true) (wantAll rfl) (rv_pickF rfl (fr_eval rfl rfl) (fr_eval rfl rfl)) ?_
      refine lf_nil ?_
      refine then_n ?_
      refine wp_gen (fun F' => F' 0 = .pointer (some ⟨g, 0, none⟩) ∧ F' 1 = .int .i64 a ∧ F' 4 = .pointer (some ⟨g1, 0, none⟩) ∧ F' 5 = .bool false ∧ F' 13 = .bool true) ⟨e0, e1, e4, e5, rfl⟩ ?_
      clear e0 e1 e4 e5
      clear F
      rintro F ⟨e0, e1, e4, e5, e13⟩
      refine wp_cond_true (fr_eval rfl e13) ?_
      refine wp_seq ?_
      refine wp_regionF ?_
      refine lf_val (v := .agg (cBs (List.replicate 32 0)).toArray) (wantAll rfl) (by kernel_rfl) ?_
      refine lf_sk (wantAll rfl) (hx_storeW hH (i := 0) (cs := cBs (List.replicate 32 0)) rfl rfl rfl (fr_eval rfl e4) (fr_eval rfl rfl) (sz_len Try.sz26 (cBs_len (List.length_replicate ..))) (((cBs_len (List.length_replicate ..))).trans ((cBs_len (List.length_replicate ..))).symm) ((cBs_one _))) ?_
      clear hH
      rintro w4 ⟨hH, hx⟩
      replace hH : Heap _ _ _ [_] := hH
      clear hx
      refine lf_val (v := .bool false) (wantAll rfl) (rv_assign rfl rfl) ?_
      refine lf_nil ?_
      refine then_n ?_
      refine wp_gen (fun F' => F' 0 = .pointer (some ⟨g, 0, none⟩) ∧ F' 1 = .int .i64 a ∧ F' 4 = .pointer (some ⟨g1, 0, none⟩) ∧ F' 5 = .bool false ∧ F' 13 = .bool true) ⟨e0, e1, e4, rfl, e13⟩ ?_
      clear e0 e1 e4 e5 e13
      clear F
      rintro F ⟨e0, e1, e4, e5, e13⟩
      refine wp_ret ?_
      refine then_ret ?_
      exact bodyPost_ret (res2 rfl (ro_cell rfl e4 (hH.blk (i := 0) rfl) Try.underlying26 rfl (sz_len Try.sz26 (cBs_len (List.length_replicate ..)))) (ro_tmp rfl e5)) rfl (⟨⟨zS, congrArg (fun b => Ending.returned (.tuple #[_, .bool b])) (decide_eq_false (by omega)).symm, fun h => absurd h (by omega)⟩, hH.done⟩)
    · refine lf_val (v := .bool false) (wantF (d := 8) rfl (by kernel_rfl) rfl rfl) (rv_geq rfl (fr_eval rfl rfl) (fr_eval rfl rfl) (decide_eq_false (by omega))) ?_
      refine lf_val (v := .bool false) (wantAll rfl) (rv_pickF rfl (fr_eval rfl rfl) (fr_eval rfl rfl)) ?_
      refine lf_nil ?_
      refine then_n ?_
      refine wp_gen (fun F' => F' 0 = .pointer (some ⟨g, 0, none⟩) ∧ F' 1 = .int .i64 a ∧ F' 4 = .pointer (some ⟨g1, 0, none⟩) ∧ F' 5 = .bool false ∧ F' 13 = .bool false) ⟨e0, e1, e4, e5, rfl⟩ ?_
      clear e0 e1 e4 e5
      clear F
      rintro F ⟨e0, e1, e4, e5, e13⟩
      refine wp_cond_false (fr_eval rfl e13) ?_
      refine wp_skip ?_
      refine then_n ?_
      refine wp_seq ?_
      obtain ⟨k, rfl⟩ : ∃ k : Nat, a = (k : Int) := ⟨a.toNat, by omega⟩
      refine wp_regionF ?_
      refine lf_val (v := .pointer (some ⟨g, 0, none⟩)) (wantAll rfl) (rv_move rfl (fr_eval rfl e0)) ?_
      refine lf_val (v := .pointer (some ⟨g, 0, none⟩)) (wantAll rfl) (rv_nilCheck rfl (fr_eval rfl rfl)) ?_
      refine lf_val (v := .pointer (some ⟨g, 0, none⟩)) (wantAll rfl) (rv_fieldAddr (n := 0) rfl (fr_eval rfl rfl) Try.underlying43 rfl rfl (by kernel_rfl)) ?_
      refine lf_val (v := v) (wantAll rfl) (rv_load1 rfl (hB _ hH.chg) rfl (fr_eval rfl rfl) Try.underlying41 rfl Try.sz41) ?_
      refine lf_val (v := .int .i64 ((k : Nat) : Int)) (wantAll rfl) (rv_move rfl (fr_eval rfl e1)) ?_
      refine lf_val (v := .pointer (some (elemA v (k * 32)))) (wantAll rfl) (rv_index rfl (fr_eval rfl rfl) (fr_eval rfl rfl) (rdN (hr.rd _ hH.chg) rfl) (show k < l.length from (by omega)) Try.underlying41 Try.sz26 (by decide)) ?_
      refine lf_val (wantAll rfl) (rv_loadElem rfl (fr_eval rfl rfl) (rdN (hr.rd _ hH.chg) rfl) (show k < l.length from (by omega)) (by decide) (flat_part zS cS_len (show k < l.length from (by omega))) Try.underlying26 rfl Try.sz26) ?_
      refine lf_sk (wantAll rfl) (hx_storeW hH (i := 0) (cs := cBs (((List.getD l k zS)).1)) rfl rfl rfl (fr_eval rfl e4) (fr_eval rfl rfl) (sz_len Try.sz26 (cBs_len ((List.getD l k zS)).2)) (((cBs_len (List.length_replicate ..))).trans ((cBs_len ((List.getD l k zS)).2)).symm) ((cBs_one _))) ?_
      clear hH
      rintro w5 ⟨hH, hx⟩
      replace hH : Heap _ _ _ [_] := hH
      clear hx
      refine lf_val (v := .bool true) (wantAll rfl) (rv_assign rfl rfl) ?_
      refine lf_nil ?_
      refine then_n ?_
      refine wp_gen (fun F' => F' 0 = .pointer (some ⟨g, 0, none⟩) ∧ F' 1 = .int .i64 ((k : Nat) : Int) ∧ F' 4 = .pointer (some ⟨g1, 0, none⟩) ∧ F' 5 = .bool true ∧ F' 13 = .bool false) ⟨e0, e1, e4, rfl, e13⟩ ?_
      clear e0 e1 e4 e5 e13
      clear F
      rintro F ⟨e0, e1, e4, e5, e13⟩
      refine wp_ret ?_
      exact bodyPost_ret (res2 rfl (ro_cell rfl e4 (hH.blk (i := 0) rfl) Try.underlying26 rfl (sz_len Try.sz26 (cBs_len ((List.getD l k zS)).2))) (ro_tmp rfl e5)) rfl (⟨⟨l.getD k zS, congrArg (fun b => Ending.returned (.tuple #[_, .bool b])) (decide_eq_true (by omega)).symm, fun _ => by simp⟩, hH.done⟩)

theorem zS_eq {l : List UInt8} {h : l.length = 32} {s : S32} (e : l = s.1) : (⟨l, h⟩ : S32) = s := Subtype.ext e

set_option maxRecDepth 100000 in
set_option maxHeartbeats 4000000 in
theorem shPut_no {g : Nat} (x u : S32) (hne : ¬ join 31 [x.1] = u.1) (w : World) :
    Calls Try.prog 28 #[.pointer (some ⟨g, 0, none⟩), .agg (cBs x.1).toArray, .agg (cBs u.1).toArray] w fun e'' w' => e'' = .returned (.int .i64 16) ∧ Ext w w' := by
  refine calls_fr (args := [.pointer (some ⟨g, 0, none⟩), .agg (cBs x.1).toArray, .agg (cBs u.1).toArray]) (n := 32) Try.func28 rfl rfl (show 3 ≤ 32 by decide) ?_
  have hH : Heap (newN w) w w [] := Heap.fresh
  refine wp_seq ?_
  refine wp_gen (fun F' => F' 0 = .pointer (some ⟨g, 0, none⟩) ∧ F' 1 = .agg (cBs x.1).toArray ∧ F' 2 = .agg (cBs u.1).toArray) ⟨rfl, rfl, rfl⟩ ?_
  rintro F ⟨e0, e1, e2⟩
  refine wp_regionF ?_
  refine lf_ex (wantAll rfl) (hx_box hH 26 (cs := cBs x.1) rfl (fr_eval rfl e1) (by rfl)) ?_
  clear hH
  rintro _ w1 ⟨g1, rfl, hH, hx⟩
  replace hH : Heap _ _ _ [_] := hH
  clear hx
  refine lf_ex (wantAll rfl) (hx_box hH 26 (cs := cBs u.1) rfl (fr_eval rfl e2) (by rfl)) ?_
  clear hH
  rintro _ w2 ⟨g2, rfl, hH, hx⟩
  replace hH : Heap _ _ _ [_, _] := hH
  clear hx
  refine lf_val (v := .int .i64 0) (wantAll rfl) (rv_assign rfl rfl) ?_
  refine lf_nil ?_
  refine then_n ?_
  refine wp_seq ?_
  refine wp_block ?_
  refine wp_seq ?_
  refine wp_gen (fun F' => F' 0 = .pointer (some ⟨g, 0, none⟩) ∧ F' 1 = .agg (cBs x.1).toArray ∧ F' 2 = .agg (cBs u.1).toArray ∧ F' 4 = .pointer (some ⟨g1, 0, none⟩) ∧ F' 5 = .pointer (some ⟨g2, 0, none⟩) ∧ F' 6 = .int .i64 0) ⟨e0, e1, e2, rfl, rfl, rfl⟩ ?_
  clear e0 e1 e2
  clear F
  rintro F ⟨e0, e1, e2, e4, e5, e6⟩
  refine wp_regionF ?_
  refine lf_val (v := .pointer (some ⟨g, 0, none⟩)) (wantAll rfl) (rv_move rfl (fr_eval rfl e0)) ?_
  refine lf_val (v := .bool false) (wantAll rfl) (rv_eqnil (p := (some ⟨g, 0, none⟩)) rfl (fr_eval rfl rfl) rfl Try.underlying40) ?_
  refine lf_val (v := .bool false) (wantAll rfl) (rv_assign rfl (fr_eval rfl rfl)) ?_
  refine lf_nil ?_
  refine then_n ?_
  refine wp_gen (fun F' => F' 0 = .pointer (some ⟨g, 0, none⟩) ∧ F' 1 = .agg (cBs x.1).toArray ∧ F' 2 = .agg (cBs u.1).toArray ∧ F' 4 = .pointer (some ⟨g1, 0, none⟩) ∧ F' 5 = .pointer (some ⟨g2, 0, none⟩) ∧ F' 6 = .int .i64 0 ∧ F' 7 = .bool false) ⟨e0, e1, e2, e4, e5, e6, rfl⟩ ?_
  clear e0 e1 e2 e4 e5 e6
  clear F
  rintro F ⟨e0, e1, e2, e4, e5, e6, e7⟩
  refine wp_cond_false (fr_eval rfl e7) ?_
  refine wp_seq ?_
  refine wp_regionX (fun _ => False) 3 (by kernel_rfl) (by kernel_rfl) ?_
  refine xl_take (i := 0) (v := .agg (cBs x.1).toArray) rfl (by kernel_rfl) (by kernel_rfl) (by kernel_rfl) (by kernel_rfl) (yx_val (wantAll rfl) (fun w' hx' => rv_loadW rfl ((hH.ext hx').blk (i := 0) rfl) (fr_eval rfl e4) Try.underlying26 rfl (sz_len Try.sz26 (cBs_len x.2)))) ?_
  refine xl_take (i := 1) (v := .agg (cBs (Sha.join 31 [x.1])).toArray) rfl (by kernel_rfl) (by kernel_rfl) (by kernel_rfl) (by kernel_rfl) (yx_call (wantAll rfl) (fun w' => rv_call (args := [.agg (cBs x.1).toArray]) rfl (evc (fr_eval rfl rfl) evn) Try.call25) (fun w' hx' => secretHash_calls x.1 x.2 _)) ?_
  refine xl_take (i := 2) (v := .agg (cBs u.1).toArray) rfl (by kernel_rfl) (by kernel_rfl) (by kernel_rfl) (by kernel_rfl) (yx_val (wantAll rfl) (fun w' hx' => rv_loadW rfl ((hH.ext hx').blk (i := 1) rfl) (fr_eval rfl e5) Try.underlying26 rfl (sz_len Try.sz26 (cBs_len u.2)))) ?_
  refine xl_tail (s := 3) rfl ?_
  intro w3 hx
  replace hH := hH.ext hx
  clear hx
  refine lf_val (v := .bool true) (wantAll rfl) (rv_known (neTP (p := ¬ (Sha.join 31 [x.1]) = u.1) rfl (fr_eval rfl rfl) (fr_eval rfl rfl) (join_length _ _) u.2 Iff.rfl) (decide_eq_true hne)) ?_
  refine lf_val (v := .bool true) (wantAll rfl) (rv_assign rfl (fr_eval rfl rfl)) ?_
  refine lf_nil ?_
  refine then_n ?_
  refine wp_gen (fun F' => F' 0 = .pointer (some ⟨g, 0, none⟩) ∧ F' 1 = .agg (cBs x.1).toArray ∧ F' 2 = .agg (cBs u.1).toArray ∧ F' 4 = .pointer (some ⟨g1, 0, none⟩) ∧ F' 5 = .pointer (some ⟨g2, 0, none⟩) ∧ F' 6 = .int .i64 0 ∧ F' 7 = .bool false ∧ F' 10 = .bool true) ⟨e0, e1, e2, e4, e5, e6, e7, rfl⟩ ?_
  clear e0 e1 e2 e4 e5 e6 e7
  clear F
  rintro F ⟨e0, e1, e2, e4, e5, e6, e7, e10⟩
  refine wp_cond_true (fr_eval rfl e10) ?_
  refine wp_seq ?_
  refine wp_regionF ?_
  refine lf_val (v := .int .i64 16) (wantAll rfl) (rv_assign rfl rfl) ?_
  refine lf_nil ?_
  refine then_n ?_
  refine wp_gen (fun F' => F' 0 = .pointer (some ⟨g, 0, none⟩) ∧ F' 1 = .agg (cBs x.1).toArray ∧ F' 2 = .agg (cBs u.1).toArray ∧ F' 4 = .pointer (some ⟨g1, 0, none⟩) ∧ F' 5 = .pointer (some ⟨g2, 0, none⟩) ∧ F' 6 = .int .i64 16 ∧ F' 7 = .bool false ∧ F' 10 = .bool true) ⟨e0, e1, e2, e4, e5, rfl, e7, e10⟩ ?_
  clear e0 e1 e2 e4 e5 e6 e7 e10
  clear F
  rintro F ⟨e0, e1, e2, e4, e5, e6, e7, e10⟩
  refine wp_ret ?_
  refine blk_ret ?_
  refine then_ret ?_
  exact bodyPost_ret (v := (.int .i64 16)) (res1 rfl (ro_tmp rfl e6)) rfl (⟨rfl, hH.done⟩)

set_option maxRecDepth 100000 in
set_option maxHeartbeats 4000000 in
theorem shPut_yes {g : Nat} {v : Value} (l : List S32) (hl : l.length ≤ 1000000) (x u : S32) (he : join 31 [x.1] = u.1) (w : World) (hb0 : Blk w g [v] 43) (ho0 : Own w 26 32 v l.length (l.flatMap cS)) :
    Calls Try.prog 28 #[.pointer (some ⟨g, 0, none⟩), .agg (cBs x.1).toArray, .agg (cBs u.1).toArray] w fun e'' w' => ∃ v', e'' = .returned (.int .i64 0) ∧ Heap (newK w (holdK g v)) w w' [oBlk g [v'] 43, oRow cS 26 32 v' (l ++ [x])] := by
  refine calls_fr (args := [.pointer (some ⟨g, 0, none⟩), .agg (cBs x.1).toArray, .agg (cBs u.1).toArray]) (n := 32) Try.func28 rfl rfl (show 3 ≤ 32 by decide) ?_
  have hH : Heap (newK w (holdK g v)) w w [oBlk g ([v]) 43, oRow cS 26 32 v l] := Heap.startBO hb0 ho0 (by decide)
  refine wp_seq ?_
  refine wp_gen (fun F' => F' 0 = .pointer (some ⟨g, 0, none⟩) ∧ F' 1 = .agg (cBs x.1).toArray ∧ F' 2 = .agg (cBs u.1).toArray) ⟨rfl, rfl, rfl⟩ ?_
  rintro F ⟨e0, e1, e2⟩
  refine wp_regionF ?_
  refine lf_ex (wantAll rfl) (hx_box hH 26 (cs := cBs x.1) rfl (fr_eval rfl e1) (by rfl)) ?_
  clear hH
  rintro _ w1 ⟨g1, rfl, hH, hx⟩
  replace hH : Heap _ _ _ [_, _, _] := hH
  clear hx
  refine lf_ex (wantAll rfl) (hx_box hH 26 (cs := cBs u.1) rfl (fr_eval rfl e2) (by rfl)) ?_
  clear hH
  rintro _ w2 ⟨g2, rfl, hH, hx⟩
  replace hH : Heap _ _ _ [_, _, _, _] := hH
  clear hx
  refine lf_val (v := .int .i64 0) (wantAll rfl) (rv_assign rfl rfl) ?_
  refine lf_nil ?_
  refine then_n ?_
  refine wp_seq ?_
  refine wp_block ?_
  refine wp_seq ?_
  refine wp_gen (fun F' => F' 0 = .pointer (some ⟨g, 0, none⟩) ∧ F' 1 = .agg (cBs x.1).toArray ∧ F' 2 = .agg (cBs u.1).toArray ∧ F' 4 = .pointer (some ⟨g1, 0, none⟩) ∧ F' 5 = .pointer (some ⟨g2, 0, none⟩) ∧ F' 6 = .int .i64 0) ⟨e0, e1, e2, rfl, rfl, rfl⟩ ?_
  clear e0 e1 e2
  clear F
  rintro F ⟨e0, e1, e2, e4, e5, e6⟩
  refine wp_regionF ?_
  refine lf_val (v := .pointer (some ⟨g, 0, none⟩)) (wantAll rfl) (rv_move rfl (fr_eval rfl e0)) ?_
  refine lf_val (v := .bool false) (wantAll rfl) (rv_eqnil (p := (some ⟨g, 0, none⟩)) rfl (fr_eval rfl rfl) rfl Try.underlying40) ?_
  refine lf_val (v := .bool false) (wantAll rfl) (rv_assign rfl (fr_eval rfl rfl)) ?_
  refine lf_nil ?_
  refine then_n ?_
  refine wp_gen (fun F' => F' 0 = .pointer (some ⟨g, 0, none⟩) ∧ F' 1 = .agg (cBs x.1).toArray ∧ F' 2 = .agg (cBs u.1).toArray ∧ F' 4 = .pointer (some ⟨g1, 0, none⟩) ∧ F' 5 = .pointer (some ⟨g2, 0, none⟩) ∧ F' 6 = .int .i64 0 ∧ F' 7 = .bool false) ⟨e0, e1, e2, e4, e5, e6, rfl⟩ ?_
  clear e0 e1 e2 e4 e5 e6
  clear F
  rintro F ⟨e0, e1, e2, e4, e5, e6, e7⟩
  refine wp_cond_false (fr_eval rfl e7) ?_
  refine wp_seq ?_
  refine wp_regionX (fun _ => False) 3 (by kernel_rfl) (by kernel_rfl) ?_
  refine xl_take (i := 0) (v := .agg (cBs x.1).toArray) rfl (by kernel_rfl) (by kernel_rfl) (by kernel_rfl) (by kernel_rfl) (yx_val (wantAll rfl) (fun w' hx' => rv_loadW rfl ((hH.ext hx').blk (i := 2) rfl) (fr_eval rfl e4) Try.underlying26 rfl (sz_len Try.sz26 (cBs_len x.2)))) ?_
  refine xl_take (i := 1) (v := .agg (cBs (Sha.join 31 [x.1])).toArray) rfl (by kernel_rfl) (by kernel_rfl) (by kernel_rfl) (by kernel_rfl) (yx_call (wantAll rfl) (fun w' => rv_call (args := [.agg (cBs x.1).toArray]) rfl (evc (fr_eval rfl rfl) evn) Try.call25) (fun w' hx' => secretHash_calls x.1 x.2 _)) ?_
  refine xl_take (i := 2) (v := .agg (cBs u.1).toArray) rfl (by kernel_rfl) (by kernel_rfl) (by kernel_rfl) (by kernel_rfl) (yx_val (wantAll rfl) (fun w' hx' => rv_loadW rfl ((hH.ext hx').blk (i := 3) rfl) (fr_eval rfl e5) Try.underlying26 rfl (sz_len Try.sz26 (cBs_len u.2)))) ?_
  refine xl_tail (s := 3) rfl ?_
  intro w3 hx
  replace hH := hH.ext hx
  clear hx
  refine lf_val (v := .bool false) (wantAll rfl) (rv_known (neTP (p := ¬ (Sha.join 31 [x.1]) = u.1) rfl (fr_eval rfl rfl) (fr_eval rfl rfl) (join_length _ _) u.2 Iff.rfl) (decide_eq_false (not_not_intro he))) ?_
  refine lf_val (v := .bool false) (wantAll rfl) (rv_assign rfl (fr_eval rfl rfl)) ?_
  refine lf_nil ?_
  refine then_n ?_
  refine wp_gen (fun F' => F' 0 = .pointer (some ⟨g, 0, none⟩) ∧ F' 1 = .agg (cBs x.1).toArray ∧ F' 2 = .agg (cBs u.1).toArray ∧ F' 4 = .pointer (some ⟨g1, 0, none⟩) ∧ F' 5 = .pointer (some ⟨g2, 0, none⟩) ∧ F' 6 = .int .i64 0 ∧ F' 7 = .bool false ∧ F' 10 = .bool false) ⟨e0, e1, e2, e4, e5, e6, e7, rfl⟩ ?_
  clear e0 e1 e2 e4 e5 e6 e7
  clear F
  rintro F ⟨e0, e1, e2, e4, e5, e6, e7, e10⟩
  refine wp_cond_false (fr_eval rfl e10) ?_
  refine wp_seq ?_
  refine wp_regionF ?_
  refine lf_val (v := .pointer (some ⟨g, 0, none⟩)) (wantAll rfl) (rv_move rfl (fr_eval rfl e0)) ?_
  refine lf_val (v := .pointer (some ⟨g, 0, none⟩)) (wantAll rfl) (rv_nilCheck rfl (fr_eval rfl rfl)) ?_
  refine lf_val (v := .pointer (some ⟨g, 0, none⟩)) (wantAll rfl) (rv_fieldAddr (n := 0) rfl (fr_eval rfl rfl) Try.underlying43 rfl rfl (by kernel_rfl)) ?_
  refine lf_val (v := v) (wantAll rfl) (rv_load1 rfl (hH.blk (i := 0) rfl) rfl (fr_eval rfl rfl) Try.underlying41 rfl Try.sz41) ?_
  refine lf_val (v := .int .i64 ((l.length : Nat) : Int)) (wantAll rfl) (rv_len rfl (fr_eval rfl rfl) (Own.rd (hH.own (i := 1) rfl) (row_one cS_one)) Try.underlying41) ?_
  refine lf_val (v := .bool (decide (l.length > 1048576))) (wantAll rfl) (rv_gtrP (p := l.length > 1048576) rfl (fr_eval rfl rfl) rfl (by omega)) ?_
  refine lf_val (v := .bool (decide (l.length > 1048576))) (wantAll rfl) (rv_assign rfl (fr_eval rfl rfl)) ?_
  refine lf_nil ?_
  refine then_n ?_
  refine wp_gen (fun F' => F' 0 = .pointer (some ⟨g, 0, none⟩) ∧ F' 1 = .agg (cBs x.1).toArray ∧ F' 2 = .agg (cBs u.1).toArray ∧ F' 4 = .pointer (some ⟨g1, 0, none⟩) ∧ F' 5 = .pointer (some ⟨g2, 0, none⟩) ∧ F' 6 = .int .i64 0 ∧ F' 7 = .bool false ∧ F' 10 = .bool false ∧ F' 15 = .bool (decide (l.length > 1048576))) ⟨e0, e1, e2, e4, e5, e6, e7, e10, rfl⟩ ?_
  clear e0 e1 e2 e4 e5 e6 e7 e10
  clear F
  rintro F ⟨e0, e1, e2, e4, e5, e6, e7, e10, e15⟩
  by_cases hc1 : l.length > 1048576
  · refine wp_cond_true (fr_eval rfl (e15.trans (congrArg Value.bool (decide_eq_true hc1)))) ?_
    refine wp_seq ?_
    refine wp_regionF ?_
    refine lf_val (v := .int .i64 6) (wantAll rfl) (rv_assign rfl rfl) ?_
    refine lf_nil ?_
    refine then_n ?_
    refine wp_gen (fun F' => F' 0 = .pointer (some ⟨g, 0, none⟩) ∧ F' 1 = .agg (cBs x.1).toArray ∧ F' 2 = .agg (cBs u.1).toArray ∧ F' 4 = .pointer (some ⟨g1, 0, none⟩) ∧ F' 5 = .pointer (some ⟨g2, 0, none⟩) ∧ F' 6 = .int .i64 6 ∧ F' 7 = .bool false ∧ F' 10 = .bool false ∧ F' 15 = .bool true) ⟨e0, e1, e2, e4, e5, rfl, e7, e10, (e15.trans (congrArg Value.bool (decide_eq_true hc1)))⟩ ?_
    clear e0 e1 e2 e4 e5 e6 e7 e10 e15
    clear F
    rintro F ⟨e0, e1, e2, e4, e5, e6, e7, e10, e15⟩
    refine wp_ret ?_
    refine blk_ret ?_
    refine then_ret ?_
    exact bodyPost_ret (v := (.int .i64 6)) (res1 rfl (ro_tmp rfl e6)) rfl (by exfalso; omega)
  · refine wp_cond_false (fr_eval rfl (e15.trans (congrArg Value.bool (decide_eq_false hc1)))) ?_
    refine wp_skip ?_
    refine blk_n ?_
    refine then_n ?_
    refine wp_seq ?_
    refine wp_regionX (newK w (holdK g v)) 8 (by kernel_rfl) (by kernel_rfl) ?_
    refine xl_take (i := 0) (v := .pointer (some ⟨g, 0, none⟩)) rfl (by kernel_rfl) (by kernel_rfl) (by kernel_rfl) (by kernel_rfl) (yx_val (wantAll rfl) (fun w' hx' => rv_move rfl (fr_eval rfl e0))) ?_
    refine xl_take (i := 1) (v := .pointer (some ⟨g, 0, none⟩)) rfl (by kernel_rfl) (by kernel_rfl) (by kernel_rfl) (by kernel_rfl) (yx_val (wantAll rfl) (fun w' hx' => rv_move rfl (fr_eval rfl e0))) ?_
    refine xl_take (i := 2) (v := .pointer (some ⟨g, 0, none⟩)) rfl (by kernel_rfl) (by kernel_rfl) (by kernel_rfl) (by kernel_rfl) (yx_val (wantAll rfl) (fun w' hx' => rv_nilCheck rfl (fr_eval rfl rfl))) ?_
    refine xl_take (i := 3) (v := .pointer (some ⟨g, 0, none⟩)) rfl (by kernel_rfl) (by kernel_rfl) (by kernel_rfl) (by kernel_rfl) (yx_val (wantAll rfl) (fun w' hx' => rv_fieldAddr (n := 0) rfl (fr_eval rfl rfl) Try.underlying43 rfl rfl (by kernel_rfl))) ?_
    refine anyX_ready (rs := [4, 5]) (by kernel_rfl) ?_
    intro w4 hx
    replace hH := hH.ext hx
    clear hx
    refine (anyX_cons ?_ (anyX_cons ?_ anyX_nil))
    · refine xl_step (i := 4) rfl (wantAll rfl) ?_
      refine of_val (v := v) (rv_load1 rfl (hH.blk (i := 0) rfl) rfl (fr_eval rfl rfl) Try.underlying41 rfl Try.sz41) ?_
      refine ⟨Chg.refl _ _, ?_⟩
      refine anyX_ready (rs := [5]) (by kernel_rfl) ?_
      intro w5 hx
      replace hH := hH.ext hx
      clear hx
      refine (anyX_cons ?_ anyX_nil)
      refine xl_step (i := 5) rfl (wantAll rfl) ?_
      refine of_val (v := .agg (cBs x.1).toArray) (rv_loadW rfl (hH.blk (i := 2) rfl) (fr_eval rfl e4) Try.underlying26 rfl (sz_len Try.sz26 (cBs_len x.2))) ?_
      refine ⟨Chg.refl _ _, ?_⟩
      refine anyX_ready (rs := [6]) (by kernel_rfl) ?_
      intro w6 hx
      replace hH := hH.ext hx
      clear hx
      refine (anyX_cons ?_ anyX_nil)
      refine xl_step (i := 6) rfl (wantAll rfl) ?_
      refine of_ex (hx_lit1 hH Try.stSum (cs := cS x) (xs := List.flatMap cS [x]) rfl (fr_eval rfl rfl) (cS_ln x) (by decide) (List.flatMap_singleton ..).symm) ?_
      clear hH
      rintro y1 w7 ⟨hH, hx⟩
      replace hH : Heap _ _ _ [_, _, _, _, _] := hH
      refine ⟨(Ext.any hx), ?_⟩
      clear hx
      refine anyX_ready (rs := [7]) (by kernel_rfl) ?_
      intro w8 hx
      replace hH := hH.ext hx
      clear hx
      refine (anyX_cons ?_ anyX_nil)
      refine xl_step (i := 7) rfl (wantAll rfl) ?_
      refine of_ex (hx_append hH Try.stSum (i := 1) (xs' := (l ++ [x]).flatMap cS) (nm := (l ++ [x]).length) rfl rfl (fun _ => rfl) List.length_append.symm List.flatMap_append.symm (Own.rd (hH.own (i := 4) rfl) (row_one cS_one)) (fr_eval rfl rfl) (fr_eval rfl rfl) (by first | omega | (simp only [List.length_append]; omega) | (simp only [List.length_append, List.length_cons, List.length_nil]; omega))) ?_
      clear hH
      rintro y2 w9 ⟨hH, hx⟩
      replace hH : Heap _ _ _ [_, _, _, _, _] := hH
      refine ⟨hx, ?_⟩
      clear hx
      refine xl_tail (s := 8) rfl ?_
      intro w10 hx
      replace hH := hH.ext hx
      clear hx
      refine lf_val (v := .pointer (some ⟨g, 0, none⟩)) (wantAll rfl) (rv_nilCheck rfl (fr_eval rfl rfl)) ?_
      refine lf_val (v := .pointer (some ⟨g, 0, none⟩)) (wantAll rfl) (rv_fieldAddr (n := 0) rfl (fr_eval rfl rfl) Try.underlying43 rfl rfl (by kernel_rfl)) ?_
      refine lf_sk (wantAll rfl) (hx_storeC hH (i := 0) (j := 0) (v := y2) rfl rfl rfl (show 0 < 1 by decide) rfl (fr_eval rfl rfl) (fr_eval rfl rfl) Try.sz41 (Rd.oneV (Own.rd (hH.own (i := 1) rfl) (row_one cS_one)))) ?_
      clear hH
      rintro w11 ⟨hH, hx⟩
      replace hH : Heap _ _ _ [_, _, _, _, _] := hH
      clear hx
      refine lf_nil ?_
      refine then_n ?_
      refine wp_seq ?_
      replace hH : Heap _ _ _ [_, _, _, _] := hH.drop (.cons_cons _ (.cons_cons _ (.cons_cons _ (.cons_cons _ (.cons _ .slnil)))))
      refine wp_gen (fun F' => F' 0 = .pointer (some ⟨g, 0, none⟩) ∧ F' 1 = .agg (cBs x.1).toArray ∧ F' 2 = .agg (cBs u.1).toArray ∧ F' 4 = .pointer (some ⟨g1, 0, none⟩) ∧ F' 5 = .pointer (some ⟨g2, 0, none⟩) ∧ F' 6 = .int .i64 0 ∧ F' 7 = .bool false ∧ F' 10 = .bool false ∧ F' 15 = .bool false) ⟨e0, e1, e2, e4, e5, e6, e7, e10, (e15.trans (congrArg Value.bool (decide_eq_false hc1)))⟩ ?_
      clear e0 e1 e2 e4 e5 e6 e7 e10 e15
      clear F
      rintro F ⟨e0, e1, e2, e4, e5, e6, e7, e10, e15⟩
      refine wp_regionF ?_
      refine lf_val (v := .int .i64 0) (wantAll rfl) (rv_assign rfl rfl) ?_
      refine lf_nil ?_
      refine then_n ?_
      refine wp_gen (fun F' => F' 0 = .pointer (some ⟨g, 0, none⟩) ∧ F' 1 = .agg (cBs x.1).toArray ∧ F' 2 = .agg (cBs u.1).toArray ∧ F' 4 = .pointer (some ⟨g1, 0, none⟩) ∧ F' 5 = .pointer (some ⟨g2, 0, none⟩) ∧ F' 6 = .int .i64 0 ∧ F' 7 = .bool false ∧ F' 10 = .bool false ∧ F' 15 = .bool false) ⟨e0, e1, e2, e4, e5, rfl, e7, e10, e15⟩ ?_
      clear e0 e1 e2 e4 e5 e6 e7 e10 e15
      clear F
      rintro F ⟨e0, e1, e2, e4, e5, e6, e7, e10, e15⟩
      refine wp_ret ?_
      have hF := hH
      replace hF : Heap _ _ _ [_, _] := hF.drop (.cons_cons _ (.cons_cons _ (.cons _ (.cons _ .slnil))))
      exact bodyPost_ret (v := (.int .i64 0)) (res1 rfl (ro_tmp rfl e6)) rfl (⟨_, rfl, hF⟩)
    · refine xl_step (i := 5) rfl (wantAll rfl) ?_
      refine of_val (v := .agg (cBs x.1).toArray) (rv_loadW rfl (hH.blk (i := 2) rfl) (fr_eval rfl e4) Try.underlying26 rfl (sz_len Try.sz26 (cBs_len x.2))) ?_
      refine ⟨Chg.refl _ _, ?_⟩
      refine anyX_ready (rs := [4, 6]) (by kernel_rfl) ?_
      intro w12 hx
      replace hH := hH.ext hx
      clear hx
      refine (anyX_cons ?_ (anyX_cons ?_ anyX_nil))
      · refine xl_step (i := 4) rfl (wantAll rfl) ?_
        refine of_val (v := v) (rv_load1 rfl (hH.blk (i := 0) rfl) rfl (fr_eval rfl rfl) Try.underlying41 rfl Try.sz41) ?_
        refine ⟨Chg.refl _ _, ?_⟩
        refine anyX_ready (rs := [6]) (by kernel_rfl) ?_
        intro w13 hx
        replace hH := hH.ext hx
        clear hx
        refine (anyX_cons ?_ anyX_nil)
        refine xl_step (i := 6) rfl (wantAll rfl) ?_
        refine of_ex (hx_lit1 hH Try.stSum (cs := cS x) (xs := List.flatMap cS [x]) rfl (fr_eval rfl rfl) (cS_ln x) (by decide) (List.flatMap_singleton ..).symm) ?_
        clear hH
        rintro y3 w14 ⟨hH, hx⟩
        replace hH : Heap _ _ _ [_, _, _, _, _] := hH
        refine ⟨(Ext.any hx), ?_⟩
        clear hx
        refine anyX_ready (rs := [7]) (by kernel_rfl) ?_
        intro w15 hx
        replace hH := hH.ext hx
        clear hx
        refine (anyX_cons ?_ anyX_nil)
        refine xl_step (i := 7) rfl (wantAll rfl) ?_
        refine of_ex (hx_append hH Try.stSum (i := 1) (xs' := (l ++ [x]).flatMap cS) (nm := (l ++ [x]).length) rfl rfl (fun _ => rfl) List.length_append.symm List.flatMap_append.symm (Own.rd (hH.own (i := 4) rfl) (row_one cS_one)) (fr_eval rfl rfl) (fr_eval rfl rfl) (by first | omega | (simp only [List.length_append]; omega) | (simp only [List.length_append, List.length_cons, List.length_nil]; omega))) ?_
        clear hH
        rintro y4 w16 ⟨hH, hx⟩
        replace hH : Heap _ _ _ [_, _, _, _, _] := hH
        refine ⟨hx, ?_⟩
        clear hx
        refine xl_tail (s := 8) rfl ?_
        intro w17 hx
        replace hH := hH.ext hx
        clear hx
        refine lf_val (v := .pointer (some ⟨g, 0, none⟩)) (wantAll rfl) (rv_nilCheck rfl (fr_eval rfl rfl)) ?_
        refine lf_val (v := .pointer (some ⟨g, 0, none⟩)) (wantAll rfl) (rv_fieldAddr (n := 0) rfl (fr_eval rfl rfl) Try.underlying43 rfl rfl (by kernel_rfl)) ?_
        refine lf_sk (wantAll rfl) (hx_storeC hH (i := 0) (j := 0) (v := y4) rfl rfl rfl (show 0 < 1 by decide) rfl (fr_eval rfl rfl) (fr_eval rfl rfl) Try.sz41 (Rd.oneV (Own.rd (hH.own (i := 1) rfl) (row_one cS_one)))) ?_
        clear hH
        rintro w18 ⟨hH, hx⟩
        replace hH : Heap _ _ _ [_, _, _, _, _] := hH
        clear hx
        refine lf_nil ?_
        refine then_n ?_
        refine wp_seq ?_
        replace hH : Heap _ _ _ [_, _, _, _] := hH.drop (.cons_cons _ (.cons_cons _ (.cons_cons _ (.cons_cons _ (.cons _ .slnil)))))
        refine wp_gen (fun F' => F' 0 = .pointer (some ⟨g, 0, none⟩) ∧ F' 1 = .agg (cBs x.1).toArray ∧ F' 2 = .agg (cBs u.1).toArray ∧ F' 4 = .pointer (some ⟨g1, 0, none⟩) ∧ F' 5 = .pointer (some ⟨g2, 0, none⟩) ∧ F' 6 = .int .i64 0 ∧ F' 7 = .bool false ∧ F' 10 = .bool false ∧ F' 15 = .bool false) ⟨e0, e1, e2, e4, e5, e6, e7, e10, (e15.trans (congrArg Value.bool (decide_eq_false hc1)))⟩ ?_
        clear e0 e1 e2 e4 e5 e6 e7 e10 e15
        clear F
        rintro F ⟨e0, e1, e2, e4, e5, e6, e7, e10, e15⟩
        refine wp_regionF ?_
        refine lf_val (v := .int .i64 0) (wantAll rfl) (rv_assign rfl rfl) ?_
        refine lf_nil ?_
        refine then_n ?_
        refine wp_gen (fun F' => F' 0 = .pointer (some ⟨g, 0, none⟩) ∧ F' 1 = .agg (cBs x.1).toArray ∧ F' 2 = .agg (cBs u.1).toArray ∧ F' 4 = .pointer (some ⟨g1, 0, none⟩) ∧ F' 5 = .pointer (some ⟨g2, 0, none⟩) ∧ F' 6 = .int .i64 0 ∧ F' 7 = .bool false ∧ F' 10 = .bool false ∧ F' 15 = .bool false) ⟨e0, e1, e2, e4, e5, rfl, e7, e10, e15⟩ ?_
        clear e0 e1 e2 e4 e5 e6 e7 e10 e15
        clear F
        rintro F ⟨e0, e1, e2, e4, e5, e6, e7, e10, e15⟩
        refine wp_ret ?_
        have hF := hH
        replace hF : Heap _ _ _ [_, _] := hF.drop (.cons_cons _ (.cons_cons _ (.cons _ (.cons _ .slnil))))
        exact bodyPost_ret (v := (.int .i64 0)) (res1 rfl (ro_tmp rfl e6)) rfl (⟨_, rfl, hF⟩)
      · refine xl_step (i := 6) rfl (wantAll rfl) ?_
        refine of_ex (hx_lit1 hH Try.stSum (cs := cS x) (xs := List.flatMap cS [x]) rfl (fr_eval rfl rfl) (cS_ln x) (by decide) (List.flatMap_singleton ..).symm) ?_
        clear hH
        rintro y5 w19 ⟨hH, hx⟩
        replace hH : Heap _ _ _ [_, _, _, _, _] := hH
        refine ⟨(Ext.any hx), ?_⟩
        clear hx
        refine anyX_ready (rs := [4]) (by kernel_rfl) ?_
        intro w20 hx
        replace hH := hH.ext hx
        clear hx
        refine (anyX_cons ?_ anyX_nil)
        refine xl_step (i := 4) rfl (wantAll rfl) ?_
        refine of_val (v := v) (rv_load1 rfl (hH.blk (i := 0) rfl) rfl (fr_eval rfl rfl) Try.underlying41 rfl Try.sz41) ?_
        refine ⟨Chg.refl _ _, ?_⟩
        refine anyX_ready (rs := [7]) (by kernel_rfl) ?_
        intro w21 hx
        replace hH := hH.ext hx
        clear hx
        refine (anyX_cons ?_ anyX_nil)
        refine xl_step (i := 7) rfl (wantAll rfl) ?_
        refine of_ex (hx_append hH Try.stSum (i := 1) (xs' := (l ++ [x]).flatMap cS) (nm := (l ++ [x]).length) rfl rfl (fun _ => rfl) List.length_append.symm List.flatMap_append.symm (Own.rd (hH.own (i := 4) rfl) (row_one cS_one)) (fr_eval rfl rfl) (fr_eval rfl rfl) (by first | omega | (simp only [List.length_append]; omega) | (simp only [List.length_append, List.length_cons, List.length_nil]; omega))) ?_
        clear hH
        rintro y6 w22 ⟨hH, hx⟩
        replace hH : Heap _ _ _ [_, _, _, _, _] := hH
        refine ⟨hx, ?_⟩
        clear hx
        refine xl_tail (s := 8) rfl ?_
        intro w23 hx
        replace hH := hH.ext hx
        clear hx
        refine lf_val (v := .pointer (some ⟨g, 0, none⟩)) (wantAll rfl) (rv_nilCheck rfl (fr_eval rfl rfl)) ?_
        refine lf_val (v := .pointer (some ⟨g, 0, none⟩)) (wantAll rfl) (rv_fieldAddr (n := 0) rfl (fr_eval rfl rfl) Try.underlying43 rfl rfl (by kernel_rfl)) ?_
        refine lf_sk (wantAll rfl) (hx_storeC hH (i := 0) (j := 0) (v := y6) rfl rfl rfl (show 0 < 1 by decide) rfl (fr_eval rfl rfl) (fr_eval rfl rfl) Try.sz41 (Rd.oneV (Own.rd (hH.own (i := 1) rfl) (row_one cS_one)))) ?_
        clear hH
        rintro w24 ⟨hH, hx⟩
        replace hH : Heap _ _ _ [_, _, _, _, _] := hH
        clear hx
        refine lf_nil ?_
        refine then_n ?_
        refine wp_seq ?_
        replace hH : Heap _ _ _ [_, _, _, _] := hH.drop (.cons_cons _ (.cons_cons _ (.cons_cons _ (.cons_cons _ (.cons _ .slnil)))))
        refine wp_gen (fun F' => F' 0 = .pointer (some ⟨g, 0, none⟩) ∧ F' 1 = .agg (cBs x.1).toArray ∧ F' 2 = .agg (cBs u.1).toArray ∧ F' 4 = .pointer (some ⟨g1, 0, none⟩) ∧ F' 5 = .pointer (some ⟨g2, 0, none⟩) ∧ F' 6 = .int .i64 0 ∧ F' 7 = .bool false ∧ F' 10 = .bool false ∧ F' 15 = .bool false) ⟨e0, e1, e2, e4, e5, e6, e7, e10, (e15.trans (congrArg Value.bool (decide_eq_false hc1)))⟩ ?_
        clear e0 e1 e2 e4 e5 e6 e7 e10 e15
        clear F
        rintro F ⟨e0, e1, e2, e4, e5, e6, e7, e10, e15⟩
        refine wp_regionF ?_
        refine lf_val (v := .int .i64 0) (wantAll rfl) (rv_assign rfl rfl) ?_
        refine lf_nil ?_
        refine then_n ?_
        refine wp_gen (fun F' => F' 0 = .pointer (some ⟨g, 0, none⟩) ∧ F' 1 = .agg (cBs x.1).toArray ∧ F' 2 = .agg (cBs u.1).toArray ∧ F' 4 = .pointer (some ⟨g1, 0, none⟩) ∧ F' 5 = .pointer (some ⟨g2, 0, none⟩) ∧ F' 6 = .int .i64 0 ∧ F' 7 = .bool false ∧ F' 10 = .bool false ∧ F' 15 = .bool false) ⟨e0, e1, e2, e4, e5, rfl, e7, e10, e15⟩ ?_
        clear e0 e1 e2 e4 e5 e6 e7 e10 e15
        clear F
        rintro F ⟨e0, e1, e2, e4, e5, e6, e7, e10, e15⟩
        refine wp_ret ?_
        have hF := hH
        replace hF : Heap _ _ _ [_, _] := hF.drop (.cons_cons _ (.cons_cons _ (.cons _ (.cons _ .slnil))))
        exact bodyPost_ret (v := (.int .i64 0)) (res1 rfl (ro_tmp rfl e6)) rfl (⟨_, rfl, hF⟩)

set_option maxRecDepth 100000 in
set_option maxHeartbeats 4000000 in
theorem secretShelves_walk (s : List Op13) (vs : Value) (a1 : Int) (h1 : -9223372036854775808 ≤ a1 ∧ a1 ≤ 9223372036854775807) (a2 : Int) (h2 : -9223372036854775808 ≤ a2 ∧ a2 ≤ 9223372036854775807) (w : World) (hs0 : Rd w 65 vs s.length (s.flatMap cO13)) :
    Calls Try.prog 7 #[vs, .int .i64 a1, .int .i64 a2] w fun e'' w' => e'' = .returned (.bool true) ∧ Ext w w' := by
  refine calls_fr (args := [vs, .int .i64 a1, .int .i64 a2]) (n := 143) Try.func7 rfl rfl (show 3 ≤ 143 by decide) ?_
  have hs := Rd.stab hs0
  have hH : Heap (newN w) w w [] := Heap.fresh
  refine wp_seq ?_
  refine wp_gen (fun F' => F' 0 = vs ∧ F' 1 = .int .i64 a1 ∧ F' 2 = .int .i64 a2) ⟨rfl, rfl, rfl⟩ ?_
  rintro F ⟨e0, e1, e2⟩
  refine wp_regionF ?_
  refine lf_val (v := .bool false) (wantAll rfl) (rv_assign rfl rfl) ?_
  refine lf_nil ?_
  refine then_n ?_
  refine wp_seq ?_
  refine wp_gen (fun F' => F' 0 = vs ∧ F' 1 = .int .i64 a1 ∧ F' 2 = .int .i64 a2 ∧ F' 6 = .bool false) ⟨e0, e1, e2, rfl⟩ ?_
  clear e0 e1 e2
  clear F
  rintro F ⟨e0, e1, e2, e6⟩
  refine wp_regionF ?_
  refine lf_val (v := .agg #[.slice none 0 0]) (wantAll rfl) (rv_buildS (ps := []) (places := #[(0, 1)]) (z := .agg #[.slice none 0 0]) (zc := [.slice none 0 0]) (cs := [.slice none 0 0]) rfl evpn (by kernel_rfl) rfl Try.underlying43 (fun _ => by kernel_rfl) fill0) ?_
  refine lf_ex (wantAll rfl) (hx_box hH 43 (cs := [.slice none 0 0]) rfl (fr_eval rfl rfl) (by rfl)) ?_
  clear hH
  rintro _ w1 ⟨g1, rfl, hH, hx⟩
  replace hH : Heap _ _ _ [_] := hH
  clear hx
  refine lf_val (v := .pointer (some ⟨g1, 0, none⟩)) (wantAll rfl) (rv_assign rfl (fr_eval rfl rfl)) ?_
  refine lf_nil ?_
  refine then_n ?_
  refine wp_seq ?_
  refine wp_gen (fun F' => F' 0 = vs ∧ F' 1 = .int .i64 a1 ∧ F' 2 = .int .i64 a2 ∧ F' 6 = .bool false ∧ F' 7 = .pointer (some ⟨g1, 0, none⟩)) ⟨e0, e1, e2, e6, rfl⟩ ?_
  clear e0 e1 e2 e6
  clear F
  rintro F ⟨e0, e1, e2, e6, e7⟩
  refine wp_regionF ?_
  refine lf_val (v := .slice none 0 0) (wantAll rfl) (rv_assign rfl rfl) ?_
  refine lf_nil ?_
  refine then_n ?_
  refine wp_seq ?_
  refine wp_gen (fun F' => F' 0 = vs ∧ F' 1 = .int .i64 a1 ∧ F' 2 = .int .i64 a2 ∧ F' 6 = .bool false ∧ F' 7 = .pointer (some ⟨g1, 0, none⟩) ∧ F' 8 = .slice none 0 0) ⟨e0, e1, e2, e6, e7, rfl⟩ ?_
  clear e0 e1 e2 e6 e7
  clear F
  rintro F ⟨e0, e1, e2, e6, e7, e8⟩
  refine wp_regionF ?_
  refine lf_val (v := .agg #[.slice none 0 0]) (wantAll rfl) (rv_buildS (ps := []) (places := #[(0, 1)]) (z := .agg #[.slice none 0 0]) (zc := [.slice none 0 0]) (cs := [.slice none 0 0]) rfl evpn (by kernel_rfl) rfl Try.underlying43 (fun _ => by kernel_rfl) fill0) ?_
  refine lf_ex (wantAll rfl) (hx_alloc hH 43 (z := .agg ([.slice none 0 0]).toArray) (n := 1) (cs := [.slice none 0 0]) rfl (by kernel_rfl) (by rfl)) ?_
  clear hH
  rintro _ w2 ⟨g2, rfl, hH, hx⟩
  replace hH : Heap _ _ _ [_, _] := hH
  clear hx
  refine lf_sk (wantAll rfl) (hx_storeW hH (i := 1) (cs := [.slice none 0 0]) rfl rfl rfl (fr_eval rfl rfl) (fr_eval rfl rfl) (sz_len Try.sz43 (show List.length [.slice none 0 0] = 1 from rfl)) (((show List.length [.slice none 0 0] = 1 from rfl)).trans ((show List.length [.slice none 0 0] = 1 from rfl)).symm) ((ones_cons rfl ones_nil))) ?_
  clear hH
  rintro w3 ⟨hH, hx⟩
  replace hH : Heap _ _ _ [_, _] := hH
  clear hx
  refine lf_val (v := .int .i64 0) (wantAll rfl) (rv_assign rfl rfl) ?_
  refine lf_nil ?_
  refine then_n ?_
  refine wp_seq ?_
  refine wp_seq ?_
  refine wp_gen (fun F' => F' 0 = vs ∧ F' 1 = .int .i64 a1 ∧ F' 2 = .int .i64 a2 ∧ F' 6 = .bool false ∧ F' 7 = .pointer (some ⟨g1, 0, none⟩) ∧ F' 8 = .slice none 0 0 ∧ F' 9 = .pointer (some ⟨g2, 0, none⟩) ∧ F' 10 = .int .i64 0) ⟨e0, e1, e2, e6, e7, e8, rfl, rfl⟩ ?_
  clear e0 e1 e2 e6 e7 e8
  clear F
  rintro F ⟨e0, e1, e2, e6, e7, e8, e9, e10⟩
  refine wp_regionF ?_
  refine lf_val (v := .int .i64 0) (wantAll rfl) (rv_assign rfl rfl) ?_
  refine lf_nil ?_
  refine then_n ?_
  refine wp_block ?_
  replace hH : Heap _ _ _ [_, _, _] := hH.addNil 26 32
  replace hH : Heap _ _ _ [_, _, _, _] := hH.addNil 26 32
  replace hH : Heap _ _ _ [_, _, _, _, _] := hH.addNil 26 32
  refine wp_gen (fun F' => F' 0 = vs ∧ F' 1 = .int .i64 a1 ∧ F' 2 = .int .i64 a2 ∧ F' 6 = .bool false ∧ F' 7 = .pointer (some ⟨g1, 0, none⟩) ∧ F' 8 = (.slice none 0 0) ∧ F' 9 = .pointer (some ⟨g2, 0, none⟩) ∧ F' 10 = .int .i64 0 ∧ F' 11 = .int .i64 0) ⟨e0, e1, e2, e6, e7, e8, e9, e10, rfl⟩ ?_
  clear e0 e1 e2 e6 e7 e8 e9 e10
  clear F
  rintro F ⟨e0, e1, e2, e6, e7, e8, e9, e10, e11⟩
  refine wp_loopF (fun m F wr => ∃ i : Nat, ∃ l : List S32, ∃ u : Value, ∃ y : Value, ∃ c : Value, ∃ lc : List S32, m = s.length - i ∧ i ≤ s.length ∧ i ≤ 40 ∧ l.length ≤ i ∧ lc.length ≤ i ∧ F 0 = vs ∧ F 1 = .int .i64 a1 ∧ F 2 = .int .i64 a2 ∧ F 7 = .pointer (some ⟨g1, 0, none⟩) ∧ F 8 = y ∧ F 9 = .pointer (some ⟨g2, 0, none⟩) ∧ F 10 = .int .i64 ((lc.length : Nat) : Int) ∧ F 11 = .int .i64 ((i : Nat) : Int) ∧ Heap (newN w) w wr [oBlk g1 ([u]) 43, oBlk g2 ([c]) 43, oRow cS 26 32 y l, oRow cS 26 32 u l, oRow cS 26 32 c lc]) ⟨0, [], (.slice none 0 0), (.slice none 0 0), (.slice none 0 0), [], rfl, Nat.zero_le _, Nat.zero_le _, Nat.le_refl _, Nat.le_refl _, e0, e1, e2, e7, e8, e9, e10, e11, hH⟩ ?_
  clear e0 e1 e2 e6 e7 e8 e9 e10 e11 hH
  clear F
  rintro m F w4 ⟨i, l, u, y, c, lc, rfl, pi0, pi1, pi2, pi3, e0, e1, e2, e7, e8, e9, e10, e11, hH⟩
  refine wp_seq ?_
  refine wp_seq ?_
  refine wp_regionF ?_
  refine lf_val (v := .int .i64 ((i : Nat) : Int)) (wantAll rfl) (rv_move rfl (fr_eval rfl e11)) ?_
  refine lf_val (v := vs) (wantAll rfl) (rv_move rfl (fr_eval rfl e0)) ?_
  refine lf_val (v := .int .i64 ((s.length : Nat) : Int)) (wantAll rfl) (rv_len rfl (fr_eval rfl rfl) (hs.rd _ hH.chg) Try.underlying39) ?_
  refine lf_val (v := .bool (decide (i < s.length))) (wantAll rfl) (rv_lssP (p := i < s.length) rfl (fr_eval rfl rfl) (fr_eval rfl rfl) (by omega)) ?_
  refine lf_val (v := .bool (decide (i < s.length))) (wantAll rfl) (rv_move rfl (fr_eval rfl rfl)) ?_
  refine lf_joinP (fun F' => F' 0 = vs ∧ F' 1 = .int .i64 a1 ∧ F' 2 = .int .i64 a2 ∧ F' 7 = .pointer (some ⟨g1, 0, none⟩) ∧ F' 8 = y ∧ F' 9 = .pointer (some ⟨g2, 0, none⟩) ∧ F' 10 = .int .i64 ((lc.length : Nat) : Int) ∧ F' 11 = .int .i64 ((i : Nat) : Int) ∧ F' 32 = .bool (decide ((i < s.length) ∧ (i < 40)))) 3 (fun hk => ?_) ?_
  · by_cases hc1 : i < s.length
    · refine lf_val (v := .int .i64 ((i : Nat) : Int)) (wantF (d := 29) rfl (by kernel_rfl) rfl (congrArg Value.bool (decide_eq_true hc1))) (rv_move rfl (fr_eval rfl e11)) ?_
      refine lf_val (v := .bool (decide (i < 40))) (wantF (d := 29) rfl (by kernel_rfl) rfl (congrArg Value.bool (decide_eq_true hc1))) (rv_lssP (p := i < 40) rfl (fr_eval rfl rfl) rfl (by omega)) ?_
      refine lf_val (v := .bool (decide (i < 40))) (wantAll rfl) (rv_pickT rfl (fr_eval rfl (congrArg Value.bool (decide_eq_true hc1))) (fr_eval rfl rfl)) ?_
      exact hk _ ⟨e0, e1, e2, e7, e8, e9, e10, e11, (congrArg Value.bool (dec_and hc1))⟩
    · refine lf_not (wantNot (d := 29) rfl (by kernel_rfl) rfl (congrArg Value.bool (decide_eq_false hc1))) ?_
      refine lf_not (wantNot (d := 29) rfl (by kernel_rfl) rfl (congrArg Value.bool (decide_eq_false hc1))) ?_
      refine lf_val (v := .bool false) (wantAll rfl) (rv_pickF rfl (fr_eval rfl (congrArg Value.bool (decide_eq_false hc1))) rfl) ?_
      exact hk _ ⟨e0, e1, e2, e7, e8, e9, e10, e11, (congrArg Value.bool (dec_andF hc1))⟩
  · clear e0 e1 e2 e7 e8 e9 e10 e11
    clear F
    rintro F ⟨e0, e1, e2, e7, e8, e9, e10, e11, e32⟩
    refine lf_nil ?_
    refine then_n ?_
    by_cases hc2 : (i < s.length) ∧ (i < 40)
    · refine wp_cond_true (fr_eval rfl (e32.trans (congrArg Value.bool (decide_eq_true hc2)))) ?_
      refine wp_skip ?_
      refine then_n ?_
      refine wp_seq ?_
      refine wp_block ?_
      refine wp_seq ?_
      refine wp_seq ?_
      refine wp_regionF ?_
      refine lf_val (v := .int .i64 ((i : Nat) : Int)) (wantAll rfl) (rv_move rfl (fr_eval rfl e11)) ?_
      refine lf_val (v := .int .i64 a1) (wantAll rfl) (rv_move rfl (fr_eval rfl e1)) ?_
      refine lf_val (v := .bool (decide (((i : Nat) : Int) = a1))) (wantAll rfl) (rv_eqlP (p := ((i : Nat) : Int) = a1) rfl (fr_eval rfl rfl) (fr_eval rfl rfl) Iff.rfl) ?_
      refine lf_nil ?_
      refine then_n ?_
      refine wp_gen (fun F' => F' 0 = vs ∧ F' 1 = .int .i64 a1 ∧ F' 2 = .int .i64 a2 ∧ F' 7 = .pointer (some ⟨g1, 0, none⟩) ∧ F' 8 = y ∧ F' 9 = .pointer (some ⟨g2, 0, none⟩) ∧ F' 10 = .int .i64 ((lc.length : Nat) : Int) ∧ F' 11 = .int .i64 ((i : Nat) : Int) ∧ F' 32 = .bool true ∧ F' 37 = .bool (decide (((i : Nat) : Int) = a1))) ⟨e0, e1, e2, e7, e8, e9, e10, e11, (e32.trans (congrArg Value.bool (decide_eq_true hc2))), rfl⟩ ?_
      clear e0 e1 e2 e7 e8 e9 e10 e11 e32
      clear F
      rintro F ⟨e0, e1, e2, e7, e8, e9, e10, e11, e32, e37⟩
      by_cases hc3 : ((i : Nat) : Int) = a1
      · refine wp_cond_true (fr_eval rfl (e37.trans (congrArg Value.bool (decide_eq_true hc3)))) ?_
        refine wp_seq ?_
        refine wp_regionF ?_
        refine lf_val (v := .pointer (some ⟨g1, 0, none⟩)) (wantAll rfl) (rv_move rfl (fr_eval rfl e7)) ?_
        refine lf_call (wantAll rfl) (rv_call (args := [.pointer (some ⟨g1, 0, none⟩)]) rfl (evc (fr_eval rfl rfl) evn) Try.call27) (shClone_calls l (by omega) _ (hH.blk (i := 0) rfl) (Own.rd (hH.own (i := 3) rfl) (row_one cS_one))) ?_
        rintro _ w5 ⟨⟨y1, rfl, ho, hg⟩, hx⟩
        refine ⟨_, rfl, ?_⟩
        replace hH : Heap _ _ _ [_, _, _, _, _, _] := hH.addOwn hx hg ho
        clear ho hg
        clear hx
        refine lf_sk (wantAll rfl) (hx_storeW hH (i := 1) (cs := [y1]) rfl rfl rfl (fr_eval rfl e9) (fr_eval rfl rfl) (sz_len Try.sz43 (show List.length [y1] = 1 from rfl)) (((show List.length [c] = 1 from rfl)).trans ((show List.length [y1] = 1 from rfl)).symm) ((ones_cons (Rd.oneV (Own.rd (hH.own (i := 5) rfl) (row_one cS_one))) ones_nil))) ?_
        clear hH
        rintro w6 ⟨hH, hx⟩
        replace hH : Heap _ _ _ [_, _, _, _, _, _] := hH
        clear hx
        refine lf_nil ?_
        refine then_n ?_
        replace hH : Heap _ _ _ [_, _, _, _, _] := hH.drop (.cons_cons _ (.cons_cons _ (.cons_cons _ (.cons_cons _ (.cons _ (.cons_cons _ .slnil))))))
        refine wp_gen (fun F' => F' 0 = vs ∧ F' 1 = .int .i64 a1 ∧ F' 2 = .int .i64 a2 ∧ F' 7 = .pointer (some ⟨g1, 0, none⟩) ∧ F' 8 = y ∧ F' 9 = .pointer (some ⟨g2, 0, none⟩) ∧ F' 10 = .int .i64 ((lc.length : Nat) : Int) ∧ F' 11 = .int .i64 ((i : Nat) : Int) ∧ F' 32 = .bool true ∧ F' 37 = .bool true) ⟨e0, e1, e2, e7, e8, e9, e10, e11, e32, (e37.trans (congrArg Value.bool (decide_eq_true hc3)))⟩ ?_
        clear e0 e1 e2 e7 e8 e9 e10 e11 e32 e37
        clear F
        rintro F ⟨e0, e1, e2, e7, e8, e9, e10, e11, e32, e37⟩
        refine wp_regionF ?_
        refine lf_val (v := y) (wantAll rfl) (rv_move rfl (fr_eval rfl e8)) ?_
        refine lf_val (v := .int .i64 ((l.length : Nat) : Int)) (wantAll rfl) (rv_len rfl (fr_eval rfl rfl) (Own.rd (hH.own (i := 2) rfl) (row_one cS_one)) Try.underlying41) ?_
        refine lf_val (v := .int .i64 ((l.length : Nat) : Int)) (wantAll rfl) (rv_assign rfl (fr_eval rfl rfl)) ?_
        refine lf_nil ?_
        refine then_n ?_
        refine wp_seq ?_
        refine wp_gen (fun F' => F' 0 = vs ∧ F' 1 = .int .i64 a1 ∧ F' 2 = .int .i64 a2 ∧ F' 7 = .pointer (some ⟨g1, 0, none⟩) ∧ F' 8 = y ∧ F' 9 = .pointer (some ⟨g2, 0, none⟩) ∧ F' 10 = .int .i64 ((l.length : Nat) : Int) ∧ F' 11 = .int .i64 ((i : Nat) : Int) ∧ F' 32 = .bool true ∧ F' 37 = .bool true) ⟨e0, e1, e2, e7, e8, e9, rfl, e11, e32, e37⟩ ?_
        clear e0 e1 e2 e7 e8 e9 e10 e11 e32 e37
        clear F
        rintro F ⟨e0, e1, e2, e7, e8, e9, e10, e11, e32, e37⟩
        refine wp_regionF ?_
        refine lf_val (v := vs) (wantAll rfl) (rv_move rfl (fr_eval rfl e0)) ?_
        refine lf_val (v := .int .i64 ((i : Nat) : Int)) (wantAll rfl) (rv_move rfl (fr_eval rfl e11)) ?_
        refine lf_val (v := .pointer (some (elemA vs (i * 65)))) (wantAll rfl) (rv_index rfl (fr_eval rfl rfl) (fr_eval rfl rfl) (rdN (hs.rd _ hH.chg) rfl) (show i < s.length from (by omega)) Try.underlying39 Try.sz46 (by decide)) ?_
        refine lf_val (wantAll rfl) (rv_loadElem rfl (fr_eval rfl rfl) (rdN (hs.rd _ hH.chg) rfl) (show i < s.length from (by omega)) (by decide) (flat_part zO13 cO13_len (show i < s.length from (by omega))) Try.underlying46 rfl Try.sz46) ?_
        refine lf_ex (wantAll rfl) (hx_alloc hH 46 (z := .agg (cBs (List.replicate 32 0) ++ (cBs (List.replicate 32 0) ++ ([.bool false] : List Value))).toArray) (n := 65) (cs := cBs (List.replicate 32 0) ++ (cBs (List.replicate 32 0) ++ ([.bool false] : List Value))) rfl (by kernel_rfl) (by rfl)) ?_
        clear hH
        rintro _ w7 ⟨g3, rfl, hH, hx⟩
        replace hH : Heap _ _ _ [_, _, _, _, _, _] := hH
        clear hx
        refine lf_sk (wantAll rfl) (hx_storeW hH (i := 5) (cs := cBs ((List.getD s i zO13).x.1) ++ (cBs ((List.getD s i zO13).h.1) ++ ([.bool ((List.getD s i zO13).o)] : List Value))) rfl rfl rfl (fr_eval rfl rfl) (fr_eval rfl rfl) (sz_len Try.sz46 (zS13_l0 ((List.getD s i zO13).x.2) ((List.getD s i zO13).h.2))) (((zS13_l0 (List.length_replicate ..) (List.length_replicate ..))).trans ((zS13_l0 ((List.getD s i zO13).x.2) ((List.getD s i zO13).h.2))).symm) (zS13_o1 rfl)) ?_
        clear hH
        rintro w8 ⟨hH, hx⟩
        replace hH : Heap _ _ _ [_, _, _, _, _, _] := hH
        clear hx
        refine lf_nil ?_
        refine then_n ?_
        refine wp_seq ?_
        refine wp_gen (fun F' => F' 0 = vs ∧ F' 1 = .int .i64 a1 ∧ F' 2 = .int .i64 a2 ∧ F' 7 = .pointer (some ⟨g1, 0, none⟩) ∧ F' 8 = y ∧ F' 9 = .pointer (some ⟨g2, 0, none⟩) ∧ F' 10 = .int .i64 ((l.length : Nat) : Int) ∧ F' 11 = .int .i64 ((i : Nat) : Int) ∧ F' 12 = .pointer (some ⟨g3, 0, none⟩) ∧ F' 32 = .bool true ∧ F' 37 = .bool true) ⟨e0, e1, e2, e7, e8, e9, e10, e11, rfl, e32, e37⟩ ?_
        clear e0 e1 e2 e7 e8 e9 e10 e11 e32 e37
        clear F
        rintro F ⟨e0, e1, e2, e7, e8, e9, e10, e11, e12, e32, e37⟩
        refine wp_regionF ?_
        refine lf_val (v := .pointer (some ⟨g3, 0, none⟩)) (wantAll rfl) (rv_fieldAddr (n := 31) rfl (fr_eval rfl e12) Try.underlying46 rfl rfl (by kernel_rfl)) ?_
        refine lf_val (v := .slice (some ⟨g3, 0, none⟩) 32 32) (wantAll rfl) (rv_sliceArr rfl (fr_eval rfl rfl) Try.underlying26 Try.sz5 (by decide)) ?_
        refine lf_ex (wantAll rfl) (hx_lits hH Try.stBB (n := 1) (nm := 1) [(.tmp 47)] (vs := [.slice (some ⟨g3, 0, none⟩) 32 32]) rfl (evc (fr_eval rfl rfl) evn) (ones_cons (Rd.oneV (rdB_part (hH.blk (i := 5) rfl) (zS13_p2 ((List.getD s i zO13).x.2) ((List.getD s i zO13).h.2)) (List.getD s i zO13).x.2 (by decide))) ones_nil) rfl (by decide) rfl rfl) ?_
        clear hH
        rintro y2 w9 ⟨hH, hx⟩
        replace hH : Heap _ _ _ [_, _, _, _, _, _, _] := hH
        clear hx
        refine lf_call (wantAll rfl) (rv_call (args := [cB 31, y2]) rfl (evc rfl (evc (fr_eval rfl rfl) evn)) Try.call20) (join_calls 31 [(List.getD s i zO13).x.1] (flat32) _ _ (rdP_own (hH.own (i := 6) rfl) (.cons (rdB_part (hH.blk (i := 5) rfl) (zS13_p2 ((List.getD s i zO13).x.2) ((List.getD s i zO13).h.2)) (List.getD s i zO13).x.2 (by decide)) .nil) rfl)) ?_
        rintro _ w10 ⟨rfl, hx⟩
        refine ⟨_, rfl, ?_⟩
        replace hH := hH.ext hx
        clear hx
        refine lf_ex (wantAll rfl) (hx_alloc hH 26 (z := .agg (cBs (List.replicate 32 0)).toArray) (n := 32) (cs := cBs (List.replicate 32 0)) rfl (by kernel_rfl) (by rfl)) ?_
        clear hH
        rintro _ w11 ⟨g4, rfl, hH, hx⟩
        replace hH : Heap _ _ _ [_, _, _, _, _, _, _, _] := hH
        clear hx
        refine lf_sk (wantAll rfl) (hx_storeW hH (i := 7) (cs := cBs (Sha.join 31 [(List.getD s i zO13).x.1])) rfl rfl rfl (fr_eval rfl rfl) (fr_eval rfl rfl) (sz_len Try.sz26 (cBs_len (Sha.join_length _ _))) (((cBs_len (List.length_replicate ..))).trans ((cBs_len (Sha.join_length _ _))).symm) ((cBs_one _))) ?_
        clear hH
        rintro w12 ⟨hH, hx⟩
        replace hH : Heap _ _ _ [_, _, _, _, _, _, _, _] := hH
        clear hx
        refine lf_nil ?_
        refine then_n ?_
        refine wp_seq ?_
        replace hH : Heap _ _ _ [_, _, _, _, _, _, _] := hH.drop (.cons_cons _ (.cons_cons _ (.cons_cons _ (.cons_cons _ (.cons_cons _ (.cons_cons _ (.cons _ (.cons_cons _ .slnil))))))))
        refine wp_gen (fun F' => F' 0 = vs ∧ F' 1 = .int .i64 a1 ∧ F' 2 = .int .i64 a2 ∧ F' 7 = .pointer (some ⟨g1, 0, none⟩) ∧ F' 8 = y ∧ F' 9 = .pointer (some ⟨g2, 0, none⟩) ∧ F' 10 = .int .i64 ((l.length : Nat) : Int) ∧ F' 11 = .int .i64 ((i : Nat) : Int) ∧ F' 12 = .pointer (some ⟨g3, 0, none⟩) ∧ F' 13 = .pointer (some ⟨g4, 0, none⟩) ∧ F' 32 = .bool true ∧ F' 37 = .bool true) ⟨e0, e1, e2, e7, e8, e9, e10, e11, e12, rfl, e32, e37⟩ ?_
        clear e0 e1 e2 e7 e8 e9 e10 e11 e12 e32 e37
        clear F
        rintro F ⟨e0, e1, e2, e7, e8, e9, e10, e11, e12, e13, e32, e37⟩
        refine wp_regionF ?_
        refine lf_val (v := .pointer (some ⟨g3, 32, none⟩)) (wantAll rfl) (rv_fieldAddr (n := 31) rfl (fr_eval rfl e12) Try.underlying46 rfl rfl (by kernel_rfl)) ?_
        refine lf_val (wantAll rfl) (rv_loadP rfl (hH.blk (i := 5) rfl) (zS13_p3 ((List.getD s i zO13).x.2) ((List.getD s i zO13).h.2)) (cBs_len (List.getD s i zO13).h.2) (fr_eval rfl rfl) Try.underlying26 rfl Try.sz26) ?_
        refine lf_ex (wantAll rfl) (hx_alloc hH 26 (z := .agg (cBs (List.replicate 32 0)).toArray) (n := 32) (cs := cBs (List.replicate 32 0)) rfl (by kernel_rfl) (by rfl)) ?_
        clear hH
        rintro _ w13 ⟨g5, rfl, hH, hx⟩
        replace hH : Heap _ _ _ [_, _, _, _, _, _, _, _] := hH
        clear hx
        refine lf_sk (wantAll rfl) (hx_storeW hH (i := 7) (cs := cBs ((List.getD s i zO13).h.1)) rfl rfl rfl (fr_eval rfl rfl) (fr_eval rfl rfl) (sz_len Try.sz26 (cBs_len (List.getD s i zO13).h.2)) (((cBs_len (List.length_replicate ..))).trans ((cBs_len (List.getD s i zO13).h.2)).symm) ((cBs_one _))) ?_
        clear hH
        rintro w14 ⟨hH, hx⟩
        replace hH : Heap _ _ _ [_, _, _, _, _, _, _, _] := hH
        clear hx
        refine lf_nil ?_
        refine then_n ?_
        refine wp_seq ?_
        refine wp_seq ?_
        refine wp_gen (fun F' => F' 0 = vs ∧ F' 1 = .int .i64 a1 ∧ F' 2 = .int .i64 a2 ∧ F' 7 = .pointer (some ⟨g1, 0, none⟩) ∧ F' 8 = y ∧ F' 9 = .pointer (some ⟨g2, 0, none⟩) ∧ F' 10 = .int .i64 ((l.length : Nat) : Int) ∧ F' 11 = .int .i64 ((i : Nat) : Int) ∧ F' 12 = .pointer (some ⟨g3, 0, none⟩) ∧ F' 13 = .pointer (some ⟨g4, 0, none⟩) ∧ F' 14 = .pointer (some ⟨g5, 0, none⟩) ∧ F' 32 = .bool true ∧ F' 37 = .bool true) ⟨e0, e1, e2, e7, e8, e9, e10, e11, e12, e13, rfl, e32, e37⟩ ?_
        clear e0 e1 e2 e7 e8 e9 e10 e11 e12 e13 e32 e37
        clear F
        rintro F ⟨e0, e1, e2, e7, e8, e9, e10, e11, e12, e13, e14, e32, e37⟩
        refine wp_regionF ?_
        refine lf_val (v := .pointer (some ⟨g3, 64, none⟩)) (wantAll rfl) (rv_fieldAddr (n := 0) rfl (fr_eval rfl e12) Try.underlying46 rfl rfl (by kernel_rfl)) ?_
        refine lf_val (v := .bool ((List.getD s i zO13).o)) (wantAll rfl) (rv_load1 rfl (hH.blk (i := 5) rfl) (zS13_g4 ((List.getD s i zO13).x.2) ((List.getD s i zO13).h.2)) (fr_eval rfl rfl) Try.underlying4 rfl Try.sz4) ?_
        refine lf_nil ?_
        refine then_n ?_
        refine wp_gen (fun F' => F' 0 = vs ∧ F' 1 = .int .i64 a1 ∧ F' 2 = .int .i64 a2 ∧ F' 7 = .pointer (some ⟨g1, 0, none⟩) ∧ F' 8 = y ∧ F' 9 = .pointer (some ⟨g2, 0, none⟩) ∧ F' 10 = .int .i64 ((l.length : Nat) : Int) ∧ F' 11 = .int .i64 ((i : Nat) : Int) ∧ F' 12 = .pointer (some ⟨g3, 0, none⟩) ∧ F' 13 = .pointer (some ⟨g4, 0, none⟩) ∧ F' 14 = .pointer (some ⟨g5, 0, none⟩) ∧ F' 32 = .bool true ∧ F' 37 = .bool true ∧ F' 53 = .bool ((List.getD s i zO13).o)) ⟨e0, e1, e2, e7, e8, e9, e10, e11, e12, e13, e14, e32, e37, rfl⟩ ?_
        clear e0 e1 e2 e7 e8 e9 e10 e11 e12 e13 e14 e32 e37
        clear F
        rintro F ⟨e0, e1, e2, e7, e8, e9, e10, e11, e12, e13, e14, e32, e37, e53⟩
        cases hb1 : (List.getD s i zO13).o
        · refine wp_cond_false (fr_eval rfl (e53.trans (by rw [hb1]))) ?_
          refine wp_skip ?_
          refine then_n ?_
          refine wp_seq ?_
          by_cases hf1 : (List.getD s i zO13).h.1 = (Sha.join 31 [(List.getD s i zO13).x.1])
          · refine wp_regionF ?_
            refine lf_val (v := .pointer (some ⟨g1, 0, none⟩)) (wantAll rfl) (rv_move rfl (fr_eval rfl e7)) ?_
            refine lf_val (v := .pointer (some ⟨g3, 0, none⟩)) (wantAll rfl) (rv_fieldAddr (n := 31) rfl (fr_eval rfl e12) Try.underlying46 rfl rfl (by kernel_rfl)) ?_
            refine lf_val (wantAll rfl) (rv_loadP rfl (hH.blk (i := 5) rfl) (zS13_p2 ((List.getD s i zO13).x.2) ((List.getD s i zO13).h.2)) (cBs_len (List.getD s i zO13).x.2) (fr_eval rfl rfl) Try.underlying26 rfl Try.sz26) ?_
            refine lf_val (wantAll rfl) (rv_loadW rfl (hH.blk (i := 7) rfl) (fr_eval rfl e14) Try.underlying26 rfl (sz_len Try.sz26 (cBs_len (List.getD s i zO13).h.2))) ?_
            replace hH : Heap _ _ _ [_, _, _, _, _, _, _, _] := hH.perm (.trans (.swap _ _ _) (.cons _ (.refl _)))
            replace hH : Heap _ _ _ [_, _, _, _, _, _, _, _] := hH.perm (.cons _ (.trans (.swap _ _ _) (.cons _ (.refl _))))
            replace hH : Heap _ _ _ [_, _, _, _, _, _, _, _] := hH.perm (.cons _ (.cons _ (.trans (.swap _ _ _) (.cons _ (.trans (.swap _ _ _) (.cons _ (.refl _)))))))
            replace hH : Heap _ _ _ [_, _, _, _, _, _, _, _] := hH.perm (.cons _ (.cons _ (.cons _ (.trans (.swap _ _ _) (.cons _ (.trans (.swap _ _ _) (.cons _ (.refl _))))))))
            replace hH : Heap _ _ _ [_, _, _, _, _, _, _, _] := hH.perm (.cons _ (.cons _ (.cons _ (.cons _ (.trans (.swap _ _ _) (.cons _ (.trans (.swap _ _ _) (.cons _ (.refl _)))))))))
            replace hH : Heap _ _ _ [_, _, _, _, _, _, _, _] := hH.perm (.cons _ (.cons _ (.cons _ (.cons _ (.cons _ (.trans (.swap _ _ _) (.cons _ (.trans (.swap _ _ _) (.cons _ (.refl _))))))))))
            refine lf_call (wantAll rfl) (rv_call (args := [.pointer (some ⟨g1, 0, none⟩), .agg (cBs ((List.getD s i zO13).x.1)).toArray, .agg (cBs ((List.getD s i zO13).h.1)).toArray]) rfl (evc (fr_eval rfl rfl) (evc (fr_eval rfl rfl) (evc (fr_eval rfl rfl) evn))) Try.call28) (shPut_yes l (by omega) (List.getD s i zO13).x (List.getD s i zO13).h hf1.symm _ (hH.blk (i := 6) rfl) (hH.own (i := 7) rfl)) ?_
            rintro _ w15 ⟨y3, rfl, hP⟩
            refine ⟨_, rfl, ?_⟩
            have hx := hH.callChg (L := [_, _, _, _, _, _]) (M := [_, _]) hold_in hP
            replace hH : Heap _ _ _ [_, _, _, _, _, _, _, _] := hH.call (L := [_, _, _, _, _, _]) (M := [_, _]) hold_in hP (Stays.blk (hP.blk (i := 0) rfl) (Stays.own (hP.own (i := 1) rfl) Stays.nil))
            clear hP
            clear hx
            refine lf_val (v := .int .i64 0) (wantAll rfl) (rv_assign rfl (fr_eval rfl rfl)) ?_
            refine lf_nil ?_
            refine then_n ?_
            refine wp_seq ?_
            refine wp_seq ?_
            refine wp_gen (fun F' => F' 0 = vs ∧ F' 1 = .int .i64 a1 ∧ F' 2 = .int .i64 a2 ∧ F' 7 = .pointer (some ⟨g1, 0, none⟩) ∧ F' 8 = y ∧ F' 9 = .pointer (some ⟨g2, 0, none⟩) ∧ F' 10 = .int .i64 ((l.length : Nat) : Int) ∧ F' 11 = .int .i64 ((i : Nat) : Int) ∧ F' 12 = .pointer (some ⟨g3, 0, none⟩) ∧ F' 13 = .pointer (some ⟨g4, 0, none⟩) ∧ F' 14 = .pointer (some ⟨g5, 0, none⟩) ∧ F' 15 = .int .i64 0 ∧ F' 32 = .bool true ∧ F' 37 = .bool true ∧ F' 53 = .bool false) ⟨e0, e1, e2, e7, e8, e9, e10, e11, e12, e13, e14, rfl, e32, e37, (e53.trans (by rw [hb1]))⟩ ?_
            clear e0 e1 e2 e7 e8 e9 e10 e11 e12 e13 e14 e32 e37 e53
            clear F
            rintro F ⟨e0, e1, e2, e7, e8, e9, e10, e11, e12, e13, e14, e15, e32, e37, e53⟩
            refine wp_regionF ?_
            refine lf_val (wantAll rfl) (rv_loadW rfl (hH.blk (i := 5) rfl) (fr_eval rfl e14) Try.underlying26 rfl (sz_len Try.sz26 (cBs_len (List.getD s i zO13).h.2))) ?_
            refine lf_val (wantAll rfl) (rv_loadW rfl (hH.blk (i := 4) rfl) (fr_eval rfl e13) Try.underlying26 rfl (sz_len Try.sz26 (cBs_len (Sha.join_length _ _)))) ?_
            refine lf_val (v := .bool false) (wantAll rfl) (rv_known (neTP (p := ¬ (List.getD s i zO13).h.1 = (Sha.join 31 [(List.getD s i zO13).x.1])) rfl (fr_eval rfl rfl) (fr_eval rfl rfl) (List.getD s i zO13).h.2 (Sha.join_length _ _) Iff.rfl) (decide_eq_false (not_not_intro hf1))) ?_
            refine lf_nil ?_
            refine then_n ?_
            refine wp_gen (fun F' => F' 0 = vs ∧ F' 1 = .int .i64 a1 ∧ F' 2 = .int .i64 a2 ∧ F' 7 = .pointer (some ⟨g1, 0, none⟩) ∧ F' 8 = y ∧ F' 9 = .pointer (some ⟨g2, 0, none⟩) ∧ F' 10 = .int .i64 ((l.length : Nat) : Int) ∧ F' 11 = .int .i64 ((i : Nat) : Int) ∧ F' 12 = .pointer (some ⟨g3, 0, none⟩) ∧ F' 13 = .pointer (some ⟨g4, 0, none⟩) ∧ F' 14 = .pointer (some ⟨g5, 0, none⟩) ∧ F' 15 = .int .i64 0 ∧ F' 32 = .bool true ∧ F' 37 = .bool true ∧ F' 53 = .bool false ∧ F' 62 = .bool false) ⟨e0, e1, e2, e7, e8, e9, e10, e11, e12, e13, e14, e15, e32, e37, e53, rfl⟩ ?_
            clear e0 e1 e2 e7 e8 e9 e10 e11 e12 e13 e14 e15 e32 e37 e53
            clear F
            rintro F ⟨e0, e1, e2, e7, e8, e9, e10, e11, e12, e13, e14, e15, e32, e37, e53, e62⟩
            refine wp_cond_false (fr_eval rfl e62) ?_
            refine wp_skip ?_
            refine then_n ?_
            refine wp_seq ?_
            refine wp_regionF ?_
            refine lf_val (v := y) (wantAll rfl) (rv_move rfl (fr_eval rfl e8)) ?_
            refine lf_val (v := .pointer (some ⟨g3, 0, none⟩)) (wantAll rfl) (rv_fieldAddr (n := 31) rfl (fr_eval rfl e12) Try.underlying46 rfl rfl (by kernel_rfl)) ?_
            refine lf_val (wantAll rfl) (rv_loadP rfl (hH.blk (i := 3) rfl) (zS13_p2 ((List.getD s i zO13).x.2) ((List.getD s i zO13).h.2)) (cBs_len (List.getD s i zO13).x.2) (fr_eval rfl rfl) Try.underlying26 rfl Try.sz26) ?_
            refine lf_ex (wantAll rfl) (hx_lit1 hH Try.stSum (cs := cS ((List.getD s i zO13).x)) (xs := List.flatMap cS [(List.getD s i zO13).x]) rfl (fr_eval rfl rfl) (cS_ln ((List.getD s i zO13).x)) (by decide) (List.flatMap_singleton ..).symm) ?_
            clear hH
            rintro y4 w16 ⟨hH, hx⟩
            replace hH : Heap _ _ _ [_, _, _, _, _, _, _, _, _] := hH
            clear hx
            refine lf_ex (wantAll rfl) (hx_append hH Try.stSum (i := 1) (xs' := (l ++ [(List.getD s i zO13).x]).flatMap cS) (nm := (l ++ [(List.getD s i zO13).x]).length) rfl rfl (fun _ => rfl) List.length_append.symm List.flatMap_append.symm (Own.rd (hH.own (i := 8) rfl) (row_one cS_one)) (fr_eval rfl rfl) (fr_eval rfl rfl) (by first | omega | (simp only [List.length_append]; omega) | (simp only [List.length_append, List.length_cons, List.length_nil]; omega))) ?_
            clear hH
            rintro y5 w17 ⟨hH, hx⟩
            replace hH : Heap _ _ _ [_, _, _, _, _, _, _, _, _] := hH
            clear hx
            refine lf_val (v := y5) (wantAll rfl) (rv_assign rfl (fr_eval rfl rfl)) ?_
            refine lf_nil ?_
            refine then_n ?_
            refine wp_seq ?_
            replace hH : Heap _ _ _ [_, _, _, _, _, _, _, _] := hH.drop (.cons_cons _ (.cons_cons _ (.cons_cons _ (.cons_cons _ (.cons_cons _ (.cons_cons _ (.cons_cons _ (.cons_cons _ (.cons _ .slnil)))))))))
            refine wp_gen (fun F' => F' 0 = vs ∧ F' 1 = .int .i64 a1 ∧ F' 2 = .int .i64 a2 ∧ F' 7 = .pointer (some ⟨g1, 0, none⟩) ∧ F' 8 = y5 ∧ F' 9 = .pointer (some ⟨g2, 0, none⟩) ∧ F' 10 = .int .i64 ((l.length : Nat) : Int) ∧ F' 11 = .int .i64 ((i : Nat) : Int) ∧ F' 12 = .pointer (some ⟨g3, 0, none⟩) ∧ F' 13 = .pointer (some ⟨g4, 0, none⟩) ∧ F' 14 = .pointer (some ⟨g5, 0, none⟩) ∧ F' 15 = .int .i64 0 ∧ F' 32 = .bool true ∧ F' 37 = .bool true ∧ F' 53 = .bool false ∧ F' 62 = .bool false) ⟨e0, e1, e2, e7, rfl, e9, e10, e11, e12, e13, e14, e15, e32, e37, e53, e62⟩ ?_
            clear e0 e1 e2 e7 e8 e9 e10 e11 e12 e13 e14 e15 e32 e37 e53 e62
            clear F
            rintro F ⟨e0, e1, e2, e7, e8, e9, e10, e11, e12, e13, e14, e15, e32, e37, e53, e62⟩
            refine wp_regionF ?_
            refine lf_val (v := .int .i64 0) (wantAll rfl) (rv_move rfl (fr_eval rfl e15)) ?_
            refine lf_val (v := .bool false) (wantAll rfl) (rv_neq rfl (fr_eval rfl rfl) rfl (show decide ((0 : Int) = 0) = true from by decide)) ?_
            refine lf_nil ?_
            refine then_n ?_
            refine wp_gen (fun F' => F' 0 = vs ∧ F' 1 = .int .i64 a1 ∧ F' 2 = .int .i64 a2 ∧ F' 7 = .pointer (some ⟨g1, 0, none⟩) ∧ F' 8 = y5 ∧ F' 9 = .pointer (some ⟨g2, 0, none⟩) ∧ F' 10 = .int .i64 ((l.length : Nat) : Int) ∧ F' 11 = .int .i64 ((i : Nat) : Int) ∧ F' 12 = .pointer (some ⟨g3, 0, none⟩) ∧ F' 13 = .pointer (some ⟨g4, 0, none⟩) ∧ F' 14 = .pointer (some ⟨g5, 0, none⟩) ∧ F' 15 = .int .i64 0 ∧ F' 32 = .bool true ∧ F' 37 = .bool true ∧ F' 53 = .bool false ∧ F' 62 = .bool false ∧ F' 71 = .bool false) ⟨e0, e1, e2, e7, e8, e9, e10, e11, e12, e13, e14, e15, e32, e37, e53, e62, rfl⟩ ?_
            clear e0 e1 e2 e7 e8 e9 e10 e11 e12 e13 e14 e15 e32 e37 e53 e62
            clear F
            rintro F ⟨e0, e1, e2, e7, e8, e9, e10, e11, e12, e13, e14, e15, e32, e37, e53, e62, e71⟩
            refine wp_cond_false (fr_eval rfl e71) ?_
            refine wp_skip ?_
            refine blk_n ?_
            refine then_n ?_
            refine wp_regionF ?_
            refine lf_val (v := .int .i64 ((i : Nat) : Int)) (wantAll rfl) (rv_move rfl (fr_eval rfl e11)) ?_
            refine lf_val (v := .int .i64 ((i + 1 : Nat) : Int)) (wantAll rfl) (rv_add rfl (fr_eval rfl rfl) rfl (wrap_i64 (by omega) (by omega) (by omega))) ?_
            refine lf_val (v := .int .i64 ((i + 1 : Nat) : Int)) (wantAll rfl) (rv_assign rfl (fr_eval rfl rfl)) ?_
            refine lf_nil ?_
            refine then_n ?_
            replace hH : Heap _ _ _ [_, _, _, _, _] := hH.drop (.cons_cons _ (.cons_cons _ (.cons_cons _ (.cons _ (.cons _ (.cons _ (.cons_cons _ (.cons_cons _ .slnil))))))))
            replace hH : Heap _ _ _ [_, _, _, _, _] := hH.perm (.trans (.swap _ _ _) (.cons _ (.trans (.swap _ _ _) (.cons _ (.trans (.swap _ _ _) (.cons _ (.refl _)))))))
            replace hH : Heap _ _ _ [_, _, _, _, _] := hH.perm (.cons _ (.cons _ (.cons _ (.trans (.swap _ _ _) (.cons _ (.refl _))))))
            exact ⟨_, _, (by omega), rfl, i + 1, (l ++ [(List.getD s i zO13).x]), y3, y5, y1, l, rfl, (by omega), (by omega), (by first | omega | (simp only [List.length_append]; omega) | (simp only [List.length_append, List.length_cons, List.length_nil]; omega)), (by first | omega | (simp only [List.length_append]; omega) | (simp only [List.length_append, List.length_cons, List.length_nil]; omega)), e0, e1, e2, e7, e8, e9, e10, rfl, hH⟩
          · refine wp_regionF ?_
            refine lf_val (v := .pointer (some ⟨g1, 0, none⟩)) (wantAll rfl) (rv_move rfl (fr_eval rfl e7)) ?_
            refine lf_val (v := .pointer (some ⟨g3, 0, none⟩)) (wantAll rfl) (rv_fieldAddr (n := 31) rfl (fr_eval rfl e12) Try.underlying46 rfl rfl (by kernel_rfl)) ?_
            refine lf_val (wantAll rfl) (rv_loadP rfl (hH.blk (i := 5) rfl) (zS13_p2 ((List.getD s i zO13).x.2) ((List.getD s i zO13).h.2)) (cBs_len (List.getD s i zO13).x.2) (fr_eval rfl rfl) Try.underlying26 rfl Try.sz26) ?_
            refine lf_val (wantAll rfl) (rv_loadW rfl (hH.blk (i := 7) rfl) (fr_eval rfl e14) Try.underlying26 rfl (sz_len Try.sz26 (cBs_len (List.getD s i zO13).h.2))) ?_
            refine lf_call (wantAll rfl) (rv_call (args := [.pointer (some ⟨g1, 0, none⟩), .agg (cBs ((List.getD s i zO13).x.1)).toArray, .agg (cBs ((List.getD s i zO13).h.1)).toArray]) rfl (evc (fr_eval rfl rfl) (evc (fr_eval rfl rfl) (evc (fr_eval rfl rfl) evn))) Try.call28) (shPut_no (List.getD s i zO13).x (List.getD s i zO13).h (fun e => hf1 e.symm) _) ?_
            rintro _ w18 ⟨rfl, hx⟩
            refine ⟨_, rfl, ?_⟩
            replace hH := hH.ext hx
            clear hx
            refine lf_val (v := .int .i64 16) (wantAll rfl) (rv_assign rfl (fr_eval rfl rfl)) ?_
            refine lf_nil ?_
            refine then_n ?_
            refine wp_seq ?_
            refine wp_seq ?_
            refine wp_gen (fun F' => F' 0 = vs ∧ F' 1 = .int .i64 a1 ∧ F' 2 = .int .i64 a2 ∧ F' 7 = .pointer (some ⟨g1, 0, none⟩) ∧ F' 8 = y ∧ F' 9 = .pointer (some ⟨g2, 0, none⟩) ∧ F' 10 = .int .i64 ((l.length : Nat) : Int) ∧ F' 11 = .int .i64 ((i : Nat) : Int) ∧ F' 12 = .pointer (some ⟨g3, 0, none⟩) ∧ F' 13 = .pointer (some ⟨g4, 0, none⟩) ∧ F' 14 = .pointer (some ⟨g5, 0, none⟩) ∧ F' 15 = .int .i64 16 ∧ F' 32 = .bool true ∧ F' 37 = .bool true ∧ F' 53 = .bool false) ⟨e0, e1, e2, e7, e8, e9, e10, e11, e12, e13, e14, rfl, e32, e37, (e53.trans (by rw [hb1]))⟩ ?_
            clear e0 e1 e2 e7 e8 e9 e10 e11 e12 e13 e14 e32 e37 e53
            clear F
            rintro F ⟨e0, e1, e2, e7, e8, e9, e10, e11, e12, e13, e14, e15, e32, e37, e53⟩
            refine wp_regionF ?_
            refine lf_val (wantAll rfl) (rv_loadW rfl (hH.blk (i := 7) rfl) (fr_eval rfl e14) Try.underlying26 rfl (sz_len Try.sz26 (cBs_len (List.getD s i zO13).h.2))) ?_
            refine lf_val (wantAll rfl) (rv_loadW rfl (hH.blk (i := 6) rfl) (fr_eval rfl e13) Try.underlying26 rfl (sz_len Try.sz26 (cBs_len (Sha.join_length _ _)))) ?_
            refine lf_val (v := .bool true) (wantAll rfl) (rv_known (neTP (p := ¬ (List.getD s i zO13).h.1 = (Sha.join 31 [(List.getD s i zO13).x.1])) rfl (fr_eval rfl rfl) (fr_eval rfl rfl) (List.getD s i zO13).h.2 (Sha.join_length _ _) Iff.rfl) (decide_eq_true hf1)) ?_
            refine lf_nil ?_
            refine then_n ?_
            refine wp_gen (fun F' => F' 0 = vs ∧ F' 1 = .int .i64 a1 ∧ F' 2 = .int .i64 a2 ∧ F' 7 = .pointer (some ⟨g1, 0, none⟩) ∧ F' 8 = y ∧ F' 9 = .pointer (some ⟨g2, 0, none⟩) ∧ F' 10 = .int .i64 ((l.length : Nat) : Int) ∧ F' 11 = .int .i64 ((i : Nat) : Int) ∧ F' 12 = .pointer (some ⟨g3, 0, none⟩) ∧ F' 13 = .pointer (some ⟨g4, 0, none⟩) ∧ F' 14 = .pointer (some ⟨g5, 0, none⟩) ∧ F' 15 = .int .i64 16 ∧ F' 32 = .bool true ∧ F' 37 = .bool true ∧ F' 53 = .bool false ∧ F' 62 = .bool true) ⟨e0, e1, e2, e7, e8, e9, e10, e11, e12, e13, e14, e15, e32, e37, e53, rfl⟩ ?_
            clear e0 e1 e2 e7 e8 e9 e10 e11 e12 e13 e14 e15 e32 e37 e53
            clear F
            rintro F ⟨e0, e1, e2, e7, e8, e9, e10, e11, e12, e13, e14, e15, e32, e37, e53, e62⟩
            refine wp_cond_true (fr_eval rfl e62) ?_
            refine wp_seq ?_
            refine wp_seq ?_
            refine wp_regionF ?_
            refine lf_val (v := .int .i64 16) (wantAll rfl) (rv_move rfl (fr_eval rfl e15)) ?_
            refine lf_val (v := .bool false) (wantAll rfl) (rv_neq rfl (fr_eval rfl rfl) rfl (show decide ((16 : Int) = 16) = true from by decide)) ?_
            refine lf_nil ?_
            refine then_n ?_
            refine wp_gen (fun F' => F' 0 = vs ∧ F' 1 = .int .i64 a1 ∧ F' 2 = .int .i64 a2 ∧ F' 7 = .pointer (some ⟨g1, 0, none⟩) ∧ F' 8 = y ∧ F' 9 = .pointer (some ⟨g2, 0, none⟩) ∧ F' 10 = .int .i64 ((l.length : Nat) : Int) ∧ F' 11 = .int .i64 ((i : Nat) : Int) ∧ F' 12 = .pointer (some ⟨g3, 0, none⟩) ∧ F' 13 = .pointer (some ⟨g4, 0, none⟩) ∧ F' 14 = .pointer (some ⟨g5, 0, none⟩) ∧ F' 15 = .int .i64 16 ∧ F' 32 = .bool true ∧ F' 37 = .bool true ∧ F' 53 = .bool false ∧ F' 62 = .bool true ∧ F' 64 = .bool false) ⟨e0, e1, e2, e7, e8, e9, e10, e11, e12, e13, e14, e15, e32, e37, e53, e62, rfl⟩ ?_
            clear e0 e1 e2 e7 e8 e9 e10 e11 e12 e13 e14 e15 e32 e37 e53 e62
            clear F
            rintro F ⟨e0, e1, e2, e7, e8, e9, e10, e11, e12, e13, e14, e15, e32, e37, e53, e62, e64⟩
            refine wp_cond_false (fr_eval rfl e64) ?_
            refine wp_skip ?_
            refine then_n ?_
            refine wp_exit ?_
            refine then_exit ?_
            refine blk_exit ?_
            refine then_n ?_
            refine wp_regionF ?_
            refine lf_val (v := .int .i64 ((i : Nat) : Int)) (wantAll rfl) (rv_move rfl (fr_eval rfl e11)) ?_
            refine lf_val (v := .int .i64 ((i + 1 : Nat) : Int)) (wantAll rfl) (rv_add rfl (fr_eval rfl rfl) rfl (wrap_i64 (by omega) (by omega) (by omega))) ?_
            refine lf_val (v := .int .i64 ((i + 1 : Nat) : Int)) (wantAll rfl) (rv_assign rfl (fr_eval rfl rfl)) ?_
            refine lf_nil ?_
            refine then_n ?_
            replace hH : Heap _ _ _ [_, _, _, _, _] := hH.drop (.cons_cons _ (.cons_cons _ (.cons_cons _ (.cons_cons _ (.cons_cons _ (.cons _ (.cons _ (.cons _ .slnil))))))))
            exact ⟨_, _, (by omega), rfl, i + 1, l, u, y, y1, l, rfl, (by omega), (by omega), (by first | omega | (simp only [List.length_append]; omega) | (simp only [List.length_append, List.length_cons, List.length_nil]; omega)), (by first | omega | (simp only [List.length_append]; omega) | (simp only [List.length_append, List.length_cons, List.length_nil]; omega)), e0, e1, e2, e7, e8, e9, e10, rfl, hH⟩
        · refine wp_cond_true (fr_eval rfl (e53.trans (by rw [hb1]))) ?_
          refine wp_regionF ?_
          refine lf_val (wantAll rfl) (rv_loadW rfl (hH.blk (i := 6) rfl) (fr_eval rfl e13) Try.underlying26 rfl (sz_len Try.sz26 (cBs_len (Sha.join_length _ _)))) ?_
          refine lf_sk (wantAll rfl) (hx_storeW hH (i := 7) (cs := cBs (Sha.join 31 [(List.getD s i zO13).x.1])) rfl rfl rfl (fr_eval rfl e14) (fr_eval rfl rfl) (sz_len Try.sz26 (cBs_len (Sha.join_length _ _))) (((cBs_len (List.getD s i zO13).h.2)).trans ((cBs_len (Sha.join_length _ _))).symm) ((cBs_one _))) ?_
          clear hH
          rintro w19 ⟨hH, hx⟩
          replace hH : Heap _ _ _ [_, _, _, _, _, _, _, _] := hH
          clear hx
          refine lf_nil ?_
          refine then_n ?_
          refine wp_seq ?_
          refine wp_gen (fun F' => F' 0 = vs ∧ F' 1 = .int .i64 a1 ∧ F' 2 = .int .i64 a2 ∧ F' 7 = .pointer (some ⟨g1, 0, none⟩) ∧ F' 8 = y ∧ F' 9 = .pointer (some ⟨g2, 0, none⟩) ∧ F' 10 = .int .i64 ((l.length : Nat) : Int) ∧ F' 11 = .int .i64 ((i : Nat) : Int) ∧ F' 12 = .pointer (some ⟨g3, 0, none⟩) ∧ F' 13 = .pointer (some ⟨g4, 0, none⟩) ∧ F' 14 = .pointer (some ⟨g5, 0, none⟩) ∧ F' 32 = .bool true ∧ F' 37 = .bool true ∧ F' 53 = .bool true) ⟨e0, e1, e2, e7, e8, e9, e10, e11, e12, e13, e14, e32, e37, (e53.trans (by rw [hb1]))⟩ ?_
          clear e0 e1 e2 e7 e8 e9 e10 e11 e12 e13 e14 e32 e37 e53
          clear F
          rintro F ⟨e0, e1, e2, e7, e8, e9, e10, e11, e12, e13, e14, e32, e37, e53⟩
          refine wp_regionF ?_
          refine lf_val (v := .pointer (some ⟨g1, 0, none⟩)) (wantAll rfl) (rv_move rfl (fr_eval rfl e7)) ?_
          refine lf_val (v := .pointer (some ⟨g3, 0, none⟩)) (wantAll rfl) (rv_fieldAddr (n := 31) rfl (fr_eval rfl e12) Try.underlying46 rfl rfl (by kernel_rfl)) ?_
          refine lf_val (wantAll rfl) (rv_loadP rfl (hH.blk (i := 5) rfl) (zS13_p2 ((List.getD s i zO13).x.2) ((List.getD s i zO13).h.2)) (cBs_len (List.getD s i zO13).x.2) (fr_eval rfl rfl) Try.underlying26 rfl Try.sz26) ?_
          refine lf_val (wantAll rfl) (rv_loadW rfl (hH.blk (i := 7) rfl) (fr_eval rfl e14) Try.underlying26 rfl (sz_len Try.sz26 (cBs_len (Sha.join_length _ _)))) ?_
          replace hH : Heap _ _ _ [_, _, _, _, _, _, _, _] := hH.perm (.trans (.swap _ _ _) (.cons _ (.refl _)))
          replace hH : Heap _ _ _ [_, _, _, _, _, _, _, _] := hH.perm (.cons _ (.trans (.swap _ _ _) (.cons _ (.refl _))))
          replace hH : Heap _ _ _ [_, _, _, _, _, _, _, _] := hH.perm (.cons _ (.cons _ (.trans (.swap _ _ _) (.cons _ (.trans (.swap _ _ _) (.cons _ (.refl _)))))))
          replace hH : Heap _ _ _ [_, _, _, _, _, _, _, _] := hH.perm (.cons _ (.cons _ (.cons _ (.trans (.swap _ _ _) (.cons _ (.trans (.swap _ _ _) (.cons _ (.refl _))))))))
          replace hH : Heap _ _ _ [_, _, _, _, _, _, _, _] := hH.perm (.cons _ (.cons _ (.cons _ (.cons _ (.trans (.swap _ _ _) (.cons _ (.trans (.swap _ _ _) (.cons _ (.refl _)))))))))
          replace hH : Heap _ _ _ [_, _, _, _, _, _, _, _] := hH.perm (.cons _ (.cons _ (.cons _ (.cons _ (.cons _ (.trans (.swap _ _ _) (.cons _ (.trans (.swap _ _ _) (.cons _ (.refl _))))))))))
          refine lf_call (wantAll rfl) (rv_call (args := [.pointer (some ⟨g1, 0, none⟩), .agg (cBs ((List.getD s i zO13).x.1)).toArray, .agg (cBs (Sha.join 31 [(List.getD s i zO13).x.1])).toArray]) rfl (evc (fr_eval rfl rfl) (evc (fr_eval rfl rfl) (evc (fr_eval rfl rfl) evn))) Try.call28) (shPut_yes l (by omega) (List.getD s i zO13).x (⟨(Sha.join 31 [(List.getD s i zO13).x.1]), (Sha.join_length _ _)⟩ : S32) rfl _ (hH.blk (i := 6) rfl) (hH.own (i := 7) rfl)) ?_
          rintro _ w20 ⟨y6, rfl, hP⟩
          refine ⟨_, rfl, ?_⟩
          have hx := hH.callChg (L := [_, _, _, _, _, _]) (M := [_, _]) hold_in hP
          replace hH : Heap _ _ _ [_, _, _, _, _, _, _, _] := hH.call (L := [_, _, _, _, _, _]) (M := [_, _]) hold_in hP (Stays.blk (hP.blk (i := 0) rfl) (Stays.own (hP.own (i := 1) rfl) Stays.nil))
          clear hP
          clear hx
          refine lf_val (v := .int .i64 0) (wantAll rfl) (rv_assign rfl (fr_eval rfl rfl)) ?_
          refine lf_nil ?_
          refine then_n ?_
          refine wp_seq ?_
          refine wp_seq ?_
          refine wp_gen (fun F' => F' 0 = vs ∧ F' 1 = .int .i64 a1 ∧ F' 2 = .int .i64 a2 ∧ F' 7 = .pointer (some ⟨g1, 0, none⟩) ∧ F' 8 = y ∧ F' 9 = .pointer (some ⟨g2, 0, none⟩) ∧ F' 10 = .int .i64 ((l.length : Nat) : Int) ∧ F' 11 = .int .i64 ((i : Nat) : Int) ∧ F' 12 = .pointer (some ⟨g3, 0, none⟩) ∧ F' 13 = .pointer (some ⟨g4, 0, none⟩) ∧ F' 14 = .pointer (some ⟨g5, 0, none⟩) ∧ F' 15 = .int .i64 0 ∧ F' 32 = .bool true ∧ F' 37 = .bool true ∧ F' 53 = .bool true) ⟨e0, e1, e2, e7, e8, e9, e10, e11, e12, e13, e14, rfl, e32, e37, e53⟩ ?_
          clear e0 e1 e2 e7 e8 e9 e10 e11 e12 e13 e14 e32 e37 e53
          clear F
          rintro F ⟨e0, e1, e2, e7, e8, e9, e10, e11, e12, e13, e14, e15, e32, e37, e53⟩
          refine wp_regionF ?_
          refine lf_val (wantAll rfl) (rv_loadW rfl (hH.blk (i := 5) rfl) (fr_eval rfl e14) Try.underlying26 rfl (sz_len Try.sz26 (cBs_len (Sha.join_length _ _)))) ?_
          refine lf_val (wantAll rfl) (rv_loadW rfl (hH.blk (i := 4) rfl) (fr_eval rfl e13) Try.underlying26 rfl (sz_len Try.sz26 (cBs_len (Sha.join_length _ _)))) ?_
          refine lf_val (v := .bool false) (wantAll rfl) (neT (b := true) rfl (fr_eval rfl rfl) (fr_eval rfl rfl) (Sha.join_length _ _) (Sha.join_length _ _) (beq_self_eq_true _)) ?_
          refine lf_nil ?_
          refine then_n ?_
          refine wp_gen (fun F' => F' 0 = vs ∧ F' 1 = .int .i64 a1 ∧ F' 2 = .int .i64 a2 ∧ F' 7 = .pointer (some ⟨g1, 0, none⟩) ∧ F' 8 = y ∧ F' 9 = .pointer (some ⟨g2, 0, none⟩) ∧ F' 10 = .int .i64 ((l.length : Nat) : Int) ∧ F' 11 = .int .i64 ((i : Nat) : Int) ∧ F' 12 = .pointer (some ⟨g3, 0, none⟩) ∧ F' 13 = .pointer (some ⟨g4, 0, none⟩) ∧ F' 14 = .pointer (some ⟨g5, 0, none⟩) ∧ F' 15 = .int .i64 0 ∧ F' 32 = .bool true ∧ F' 37 = .bool true ∧ F' 53 = .bool true ∧ F' 62 = .bool false) ⟨e0, e1, e2, e7, e8, e9, e10, e11, e12, e13, e14, e15, e32, e37, e53, rfl⟩ ?_
          clear e0 e1 e2 e7 e8 e9 e10 e11 e12 e13 e14 e15 e32 e37 e53
          clear F
          rintro F ⟨e0, e1, e2, e7, e8, e9, e10, e11, e12, e13, e14, e15, e32, e37, e53, e62⟩
          refine wp_cond_false (fr_eval rfl e62) ?_
          refine wp_skip ?_
          refine then_n ?_
          refine wp_seq ?_
          refine wp_regionF ?_
          refine lf_val (v := y) (wantAll rfl) (rv_move rfl (fr_eval rfl e8)) ?_
          refine lf_val (v := .pointer (some ⟨g3, 0, none⟩)) (wantAll rfl) (rv_fieldAddr (n := 31) rfl (fr_eval rfl e12) Try.underlying46 rfl rfl (by kernel_rfl)) ?_
          refine lf_val (wantAll rfl) (rv_loadP rfl (hH.blk (i := 3) rfl) (zS13_p2 ((List.getD s i zO13).x.2) ((List.getD s i zO13).h.2)) (cBs_len (List.getD s i zO13).x.2) (fr_eval rfl rfl) Try.underlying26 rfl Try.sz26) ?_
          refine lf_ex (wantAll rfl) (hx_lit1 hH Try.stSum (cs := cS ((List.getD s i zO13).x)) (xs := List.flatMap cS [(List.getD s i zO13).x]) rfl (fr_eval rfl rfl) (cS_ln ((List.getD s i zO13).x)) (by decide) (List.flatMap_singleton ..).symm) ?_
          clear hH
          rintro y7 w21 ⟨hH, hx⟩
          replace hH : Heap _ _ _ [_, _, _, _, _, _, _, _, _] := hH
          clear hx
          refine lf_ex (wantAll rfl) (hx_append hH Try.stSum (i := 1) (xs' := (l ++ [(List.getD s i zO13).x]).flatMap cS) (nm := (l ++ [(List.getD s i zO13).x]).length) rfl rfl (fun _ => rfl) List.length_append.symm List.flatMap_append.symm (Own.rd (hH.own (i := 8) rfl) (row_one cS_one)) (fr_eval rfl rfl) (fr_eval rfl rfl) (by first | omega | (simp only [List.length_append]; omega) | (simp only [List.length_append, List.length_cons, List.length_nil]; omega))) ?_
          clear hH
          rintro y8 w22 ⟨hH, hx⟩
          replace hH : Heap _ _ _ [_, _, _, _, _, _, _, _, _] := hH
          clear hx
          refine lf_val (v := y8) (wantAll rfl) (rv_assign rfl (fr_eval rfl rfl)) ?_
          refine lf_nil ?_
          refine then_n ?_
          refine wp_seq ?_
          replace hH : Heap _ _ _ [_, _, _, _, _, _, _, _] := hH.drop (.cons_cons _ (.cons_cons _ (.cons_cons _ (.cons_cons _ (.cons_cons _ (.cons_cons _ (.cons_cons _ (.cons_cons _ (.cons _ .slnil)))))))))
          refine wp_gen (fun F' => F' 0 = vs ∧ F' 1 = .int .i64 a1 ∧ F' 2 = .int .i64 a2 ∧ F' 7 = .pointer (some ⟨g1, 0, none⟩) ∧ F' 8 = y8 ∧ F' 9 = .pointer (some ⟨g2, 0, none⟩) ∧ F' 10 = .int .i64 ((l.length : Nat) : Int) ∧ F' 11 = .int .i64 ((i : Nat) : Int) ∧ F' 12 = .pointer (some ⟨g3, 0, none⟩) ∧ F' 13 = .pointer (some ⟨g4, 0, none⟩) ∧ F' 14 = .pointer (some ⟨g5, 0, none⟩) ∧ F' 15 = .int .i64 0 ∧ F' 32 = .bool true ∧ F' 37 = .bool true ∧ F' 53 = .bool true ∧ F' 62 = .bool false) ⟨e0, e1, e2, e7, rfl, e9, e10, e11, e12, e13, e14, e15, e32, e37, e53, e62⟩ ?_
          clear e0 e1 e2 e7 e8 e9 e10 e11 e12 e13 e14 e15 e32 e37 e53 e62
          clear F
          rintro F ⟨e0, e1, e2, e7, e8, e9, e10, e11, e12, e13, e14, e15, e32, e37, e53, e62⟩
          refine wp_regionF ?_
          refine lf_val (v := .int .i64 0) (wantAll rfl) (rv_move rfl (fr_eval rfl e15)) ?_
          refine lf_val (v := .bool false) (wantAll rfl) (rv_neq rfl (fr_eval rfl rfl) rfl (show decide ((0 : Int) = 0) = true from by decide)) ?_
          refine lf_nil ?_
          refine then_n ?_
          refine wp_gen (fun F' => F' 0 = vs ∧ F' 1 = .int .i64 a1 ∧ F' 2 = .int .i64 a2 ∧ F' 7 = .pointer (some ⟨g1, 0, none⟩) ∧ F' 8 = y8 ∧ F' 9 = .pointer (some ⟨g2, 0, none⟩) ∧ F' 10 = .int .i64 ((l.length : Nat) : Int) ∧ F' 11 = .int .i64 ((i : Nat) : Int) ∧ F' 12 = .pointer (some ⟨g3, 0, none⟩) ∧ F' 13 = .pointer (some ⟨g4, 0, none⟩) ∧ F' 14 = .pointer (some ⟨g5, 0, none⟩) ∧ F' 15 = .int .i64 0 ∧ F' 32 = .bool true ∧ F' 37 = .bool true ∧ F' 53 = .bool true ∧ F' 62 = .bool false ∧ F' 71 = .bool false) ⟨e0, e1, e2, e7, e8, e9, e10, e11, e12, e13, e14, e15, e32, e37, e53, e62, rfl⟩ ?_
          clear e0 e1 e2 e7 e8 e9 e10 e11 e12 e13 e14 e15 e32 e37 e53 e62
          clear F
          rintro F ⟨e0, e1, e2, e7, e8, e9, e10, e11, e12, e13, e14, e15, e32, e37, e53, e62, e71⟩
          refine wp_cond_false (fr_eval rfl e71) ?_
          refine wp_skip ?_
          refine blk_n ?_
          refine then_n ?_
          refine wp_regionF ?_
          refine lf_val (v := .int .i64 ((i : Nat) : Int)) (wantAll rfl) (rv_move rfl (fr_eval rfl e11)) ?_
          refine lf_val (v := .int .i64 ((i + 1 : Nat) : Int)) (wantAll rfl) (rv_add rfl (fr_eval rfl rfl) rfl (wrap_i64 (by omega) (by omega) (by omega))) ?_
          refine lf_val (v := .int .i64 ((i + 1 : Nat) : Int)) (wantAll rfl) (rv_assign rfl (fr_eval rfl rfl)) ?_
          refine lf_nil ?_
          refine then_n ?_
          replace hH : Heap _ _ _ [_, _, _, _, _] := hH.drop (.cons_cons _ (.cons_cons _ (.cons_cons _ (.cons _ (.cons _ (.cons _ (.cons_cons _ (.cons_cons _ .slnil))))))))
          replace hH : Heap _ _ _ [_, _, _, _, _] := hH.perm (.trans (.swap _ _ _) (.cons _ (.trans (.swap _ _ _) (.cons _ (.trans (.swap _ _ _) (.cons _ (.refl _)))))))
          replace hH : Heap _ _ _ [_, _, _, _, _] := hH.perm (.cons _ (.cons _ (.cons _ (.trans (.swap _ _ _) (.cons _ (.refl _))))))
          exact ⟨_, _, (by omega), rfl, i + 1, (l ++ [(List.getD s i zO13).x]), y6, y8, y1, l, rfl, (by omega), (by omega), (by first | omega | (simp only [List.length_append]; omega) | (simp only [List.length_append, List.length_cons, List.length_nil]; omega)), (by first | omega | (simp only [List.length_append]; omega) | (simp only [List.length_append, List.length_cons, List.length_nil]; omega)), e0, e1, e2, e7, e8, e9, e10, rfl, hH⟩
      · refine wp_cond_false (fr_eval rfl (e37.trans (congrArg Value.bool (decide_eq_false hc3)))) ?_
        refine wp_skip ?_
        refine then_n ?_
        refine wp_seq ?_
        refine wp_regionF ?_
        refine lf_val (v := vs) (wantAll rfl) (rv_move rfl (fr_eval rfl e0)) ?_
        refine lf_val (v := .int .i64 ((i : Nat) : Int)) (wantAll rfl) (rv_move rfl (fr_eval rfl e11)) ?_
        refine lf_val (v := .pointer (some (elemA vs (i * 65)))) (wantAll rfl) (rv_index rfl (fr_eval rfl rfl) (fr_eval rfl rfl) (rdN (hs.rd _ hH.chg) rfl) (show i < s.length from (by omega)) Try.underlying39 Try.sz46 (by decide)) ?_
        refine lf_val (wantAll rfl) (rv_loadElem rfl (fr_eval rfl rfl) (rdN (hs.rd _ hH.chg) rfl) (show i < s.length from (by omega)) (by decide) (flat_part zO13 cO13_len (show i < s.length from (by omega))) Try.underlying46 rfl Try.sz46) ?_
        refine lf_ex (wantAll rfl) (hx_alloc hH 46 (z := .agg (cBs (List.replicate 32 0) ++ (cBs (List.replicate 32 0) ++ ([.bool false] : List Value))).toArray) (n := 65) (cs := cBs (List.replicate 32 0) ++ (cBs (List.replicate 32 0) ++ ([.bool false] : List Value))) rfl (by kernel_rfl) (by rfl)) ?_
        clear hH
        rintro _ w23 ⟨g6, rfl, hH, hx⟩
        replace hH : Heap _ _ _ [_, _, _, _, _, _] := hH
        clear hx
        refine lf_sk (wantAll rfl) (hx_storeW hH (i := 5) (cs := cBs ((List.getD s i zO13).x.1) ++ (cBs ((List.getD s i zO13).h.1) ++ ([.bool ((List.getD s i zO13).o)] : List Value))) rfl rfl rfl (fr_eval rfl rfl) (fr_eval rfl rfl) (sz_len Try.sz46 (zS13_l0 ((List.getD s i zO13).x.2) ((List.getD s i zO13).h.2))) (((zS13_l0 (List.length_replicate ..) (List.length_replicate ..))).trans ((zS13_l0 ((List.getD s i zO13).x.2) ((List.getD s i zO13).h.2))).symm) (zS13_o1 rfl)) ?_
        clear hH
        rintro w24 ⟨hH, hx⟩
        replace hH : Heap _ _ _ [_, _, _, _, _, _] := hH
        clear hx
        refine lf_nil ?_
        refine then_n ?_
        refine wp_seq ?_
        refine wp_gen (fun F' => F' 0 = vs ∧ F' 1 = .int .i64 a1 ∧ F' 2 = .int .i64 a2 ∧ F' 7 = .pointer (some ⟨g1, 0, none⟩) ∧ F' 8 = y ∧ F' 9 = .pointer (some ⟨g2, 0, none⟩) ∧ F' 10 = .int .i64 ((lc.length : Nat) : Int) ∧ F' 11 = .int .i64 ((i : Nat) : Int) ∧ F' 12 = .pointer (some ⟨g6, 0, none⟩) ∧ F' 32 = .bool true ∧ F' 37 = .bool false) ⟨e0, e1, e2, e7, e8, e9, e10, e11, rfl, e32, (e37.trans (congrArg Value.bool (decide_eq_false hc3)))⟩ ?_
        clear e0 e1 e2 e7 e8 e9 e10 e11 e32 e37
        clear F
        rintro F ⟨e0, e1, e2, e7, e8, e9, e10, e11, e12, e32, e37⟩
        refine wp_regionF ?_
        refine lf_val (v := .pointer (some ⟨g6, 0, none⟩)) (wantAll rfl) (rv_fieldAddr (n := 31) rfl (fr_eval rfl e12) Try.underlying46 rfl rfl (by kernel_rfl)) ?_
        refine lf_val (v := .slice (some ⟨g6, 0, none⟩) 32 32) (wantAll rfl) (rv_sliceArr rfl (fr_eval rfl rfl) Try.underlying26 Try.sz5 (by decide)) ?_
        refine lf_ex (wantAll rfl) (hx_lits hH Try.stBB (n := 1) (nm := 1) [(.tmp 47)] (vs := [.slice (some ⟨g6, 0, none⟩) 32 32]) rfl (evc (fr_eval rfl rfl) evn) (ones_cons (Rd.oneV (rdB_part (hH.blk (i := 5) rfl) (zS13_p2 ((List.getD s i zO13).x.2) ((List.getD s i zO13).h.2)) (List.getD s i zO13).x.2 (by decide))) ones_nil) rfl (by decide) rfl rfl) ?_
        clear hH
        rintro y9 w25 ⟨hH, hx⟩
        replace hH : Heap _ _ _ [_, _, _, _, _, _, _] := hH
        clear hx
        refine lf_call (wantAll rfl) (rv_call (args := [cB 31, y9]) rfl (evc rfl (evc (fr_eval rfl rfl) evn)) Try.call20) (join_calls 31 [(List.getD s i zO13).x.1] (flat32) _ _ (rdP_own (hH.own (i := 6) rfl) (.cons (rdB_part (hH.blk (i := 5) rfl) (zS13_p2 ((List.getD s i zO13).x.2) ((List.getD s i zO13).h.2)) (List.getD s i zO13).x.2 (by decide)) .nil) rfl)) ?_
        rintro _ w26 ⟨rfl, hx⟩
        refine ⟨_, rfl, ?_⟩
        replace hH := hH.ext hx
        clear hx
        refine lf_ex (wantAll rfl) (hx_alloc hH 26 (z := .agg (cBs (List.replicate 32 0)).toArray) (n := 32) (cs := cBs (List.replicate 32 0)) rfl (by kernel_rfl) (by rfl)) ?_
        clear hH
        rintro _ w27 ⟨g7, rfl, hH, hx⟩
        replace hH : Heap _ _ _ [_, _, _, _, _, _, _, _] := hH
        clear hx
        refine lf_sk (wantAll rfl) (hx_storeW hH (i := 7) (cs := cBs (Sha.join 31 [(List.getD s i zO13).x.1])) rfl rfl rfl (fr_eval rfl rfl) (fr_eval rfl rfl) (sz_len Try.sz26 (cBs_len (Sha.join_length _ _))) (((cBs_len (List.length_replicate ..))).trans ((cBs_len (Sha.join_length _ _))).symm) ((cBs_one _))) ?_
        clear hH
        rintro w28 ⟨hH, hx⟩
        replace hH : Heap _ _ _ [_, _, _, _, _, _, _, _] := hH
        clear hx
        refine lf_nil ?_
        refine then_n ?_
        refine wp_seq ?_
        replace hH : Heap _ _ _ [_, _, _, _, _, _, _] := hH.drop (.cons_cons _ (.cons_cons _ (.cons_cons _ (.cons_cons _ (.cons_cons _ (.cons_cons _ (.cons _ (.cons_cons _ .slnil))))))))
        refine wp_gen (fun F' => F' 0 = vs ∧ F' 1 = .int .i64 a1 ∧ F' 2 = .int .i64 a2 ∧ F' 7 = .pointer (some ⟨g1, 0, none⟩) ∧ F' 8 = y ∧ F' 9 = .pointer (some ⟨g2, 0, none⟩) ∧ F' 10 = .int .i64 ((lc.length : Nat) : Int) ∧ F' 11 = .int .i64 ((i : Nat) : Int) ∧ F' 12 = .pointer (some ⟨g6, 0, none⟩) ∧ F' 13 = .pointer (some ⟨g7, 0, none⟩) ∧ F' 32 = .bool true ∧ F' 37 = .bool false) ⟨e0, e1, e2, e7, e8, e9, e10, e11, e12, rfl, e32, e37⟩ ?_
        clear e0 e1 e2 e7 e8 e9 e10 e11 e12 e32 e37
        clear F
        rintro F ⟨e0, e1, e2, e7, e8, e9, e10, e11, e12, e13, e32, e37⟩
        refine wp_regionF ?_
        refine lf_val (v := .pointer (some ⟨g6, 32, none⟩)) (wantAll rfl) (rv_fieldAddr (n := 31) rfl (fr_eval rfl e12) Try.underlying46 rfl rfl (by kernel_rfl)) ?_
        refine lf_val (wantAll rfl) (rv_loadP rfl (hH.blk (i := 5) rfl) (zS13_p3 ((List.getD s i zO13).x.2) ((List.getD s i zO13).h.2)) (cBs_len (List.getD s i zO13).h.2) (fr_eval rfl rfl) Try.underlying26 rfl Try.sz26) ?_
        refine lf_ex (wantAll rfl) (hx_alloc hH 26 (z := .agg (cBs (List.replicate 32 0)).toArray) (n := 32) (cs := cBs (List.replicate 32 0)) rfl (by kernel_rfl) (by rfl)) ?_
        clear hH
        rintro _ w29 ⟨g8, rfl, hH, hx⟩
        replace hH : Heap _ _ _ [_, _, _, _, _, _, _, _] := hH
        clear hx
        refine lf_sk (wantAll rfl) (hx_storeW hH (i := 7) (cs := cBs ((List.getD s i zO13).h.1)) rfl rfl rfl (fr_eval rfl rfl) (fr_eval rfl rfl) (sz_len Try.sz26 (cBs_len (List.getD s i zO13).h.2)) (((cBs_len (List.length_replicate ..))).trans ((cBs_len (List.getD s i zO13).h.2)).symm) ((cBs_one _))) ?_
        clear hH
        rintro w30 ⟨hH, hx⟩
        replace hH : Heap _ _ _ [_, _, _, _, _, _, _, _] := hH
        clear hx
        refine lf_nil ?_
        refine then_n ?_
        refine wp_seq ?_
        refine wp_seq ?_
        refine wp_gen (fun F' => F' 0 = vs ∧ F' 1 = .int .i64 a1 ∧ F' 2 = .int .i64 a2 ∧ F' 7 = .pointer (some ⟨g1, 0, none⟩) ∧ F' 8 = y ∧ F' 9 = .pointer (some ⟨g2, 0, none⟩) ∧ F' 10 = .int .i64 ((lc.length : Nat) : Int) ∧ F' 11 = .int .i64 ((i : Nat) : Int) ∧ F' 12 = .pointer (some ⟨g6, 0, none⟩) ∧ F' 13 = .pointer (some ⟨g7, 0, none⟩) ∧ F' 14 = .pointer (some ⟨g8, 0, none⟩) ∧ F' 32 = .bool true ∧ F' 37 = .bool false) ⟨e0, e1, e2, e7, e8, e9, e10, e11, e12, e13, rfl, e32, e37⟩ ?_
        clear e0 e1 e2 e7 e8 e9 e10 e11 e12 e13 e32 e37
        clear F
        rintro F ⟨e0, e1, e2, e7, e8, e9, e10, e11, e12, e13, e14, e32, e37⟩
        refine wp_regionF ?_
        refine lf_val (v := .pointer (some ⟨g6, 64, none⟩)) (wantAll rfl) (rv_fieldAddr (n := 0) rfl (fr_eval rfl e12) Try.underlying46 rfl rfl (by kernel_rfl)) ?_
        refine lf_val (v := .bool ((List.getD s i zO13).o)) (wantAll rfl) (rv_load1 rfl (hH.blk (i := 5) rfl) (zS13_g4 ((List.getD s i zO13).x.2) ((List.getD s i zO13).h.2)) (fr_eval rfl rfl) Try.underlying4 rfl Try.sz4) ?_
        refine lf_nil ?_
        refine then_n ?_
        refine wp_gen (fun F' => F' 0 = vs ∧ F' 1 = .int .i64 a1 ∧ F' 2 = .int .i64 a2 ∧ F' 7 = .pointer (some ⟨g1, 0, none⟩) ∧ F' 8 = y ∧ F' 9 = .pointer (some ⟨g2, 0, none⟩) ∧ F' 10 = .int .i64 ((lc.length : Nat) : Int) ∧ F' 11 = .int .i64 ((i : Nat) : Int) ∧ F' 12 = .pointer (some ⟨g6, 0, none⟩) ∧ F' 13 = .pointer (some ⟨g7, 0, none⟩) ∧ F' 14 = .pointer (some ⟨g8, 0, none⟩) ∧ F' 32 = .bool true ∧ F' 37 = .bool false ∧ F' 53 = .bool ((List.getD s i zO13).o)) ⟨e0, e1, e2, e7, e8, e9, e10, e11, e12, e13, e14, e32, e37, rfl⟩ ?_
        clear e0 e1 e2 e7 e8 e9 e10 e11 e12 e13 e14 e32 e37
        clear F
        rintro F ⟨e0, e1, e2, e7, e8, e9, e10, e11, e12, e13, e14, e32, e37, e53⟩
        cases hb2 : (List.getD s i zO13).o
        · refine wp_cond_false (fr_eval rfl (e53.trans (by rw [hb2]))) ?_
          refine wp_skip ?_
          refine then_n ?_
          refine wp_seq ?_
          by_cases hf2 : (List.getD s i zO13).h.1 = (Sha.join 31 [(List.getD s i zO13).x.1])
          · refine wp_regionF ?_
            refine lf_val (v := .pointer (some ⟨g1, 0, none⟩)) (wantAll rfl) (rv_move rfl (fr_eval rfl e7)) ?_
            refine lf_val (v := .pointer (some ⟨g6, 0, none⟩)) (wantAll rfl) (rv_fieldAddr (n := 31) rfl (fr_eval rfl e12) Try.underlying46 rfl rfl (by kernel_rfl)) ?_
            refine lf_val (wantAll rfl) (rv_loadP rfl (hH.blk (i := 5) rfl) (zS13_p2 ((List.getD s i zO13).x.2) ((List.getD s i zO13).h.2)) (cBs_len (List.getD s i zO13).x.2) (fr_eval rfl rfl) Try.underlying26 rfl Try.sz26) ?_
            refine lf_val (wantAll rfl) (rv_loadW rfl (hH.blk (i := 7) rfl) (fr_eval rfl e14) Try.underlying26 rfl (sz_len Try.sz26 (cBs_len (List.getD s i zO13).h.2))) ?_
            replace hH : Heap _ _ _ [_, _, _, _, _, _, _, _] := hH.perm (.trans (.swap _ _ _) (.cons _ (.refl _)))
            replace hH : Heap _ _ _ [_, _, _, _, _, _, _, _] := hH.perm (.cons _ (.trans (.swap _ _ _) (.cons _ (.refl _))))
            replace hH : Heap _ _ _ [_, _, _, _, _, _, _, _] := hH.perm (.cons _ (.cons _ (.trans (.swap _ _ _) (.cons _ (.trans (.swap _ _ _) (.cons _ (.refl _)))))))
            replace hH : Heap _ _ _ [_, _, _, _, _, _, _, _] := hH.perm (.cons _ (.cons _ (.cons _ (.trans (.swap _ _ _) (.cons _ (.trans (.swap _ _ _) (.cons _ (.refl _))))))))
            replace hH : Heap _ _ _ [_, _, _, _, _, _, _, _] := hH.perm (.cons _ (.cons _ (.cons _ (.cons _ (.trans (.swap _ _ _) (.cons _ (.trans (.swap _ _ _) (.cons _ (.refl _)))))))))
            replace hH : Heap _ _ _ [_, _, _, _, _, _, _, _] := hH.perm (.cons _ (.cons _ (.cons _ (.cons _ (.cons _ (.trans (.swap _ _ _) (.cons _ (.trans (.swap _ _ _) (.cons _ (.refl _))))))))))
            refine lf_call (wantAll rfl) (rv_call (args := [.pointer (some ⟨g1, 0, none⟩), .agg (cBs ((List.getD s i zO13).x.1)).toArray, .agg (cBs ((List.getD s i zO13).h.1)).toArray]) rfl (evc (fr_eval rfl rfl) (evc (fr_eval rfl rfl) (evc (fr_eval rfl rfl) evn))) Try.call28) (shPut_yes l (by omega) (List.getD s i zO13).x (List.getD s i zO13).h hf2.symm _ (hH.blk (i := 6) rfl) (hH.own (i := 7) rfl)) ?_
            rintro _ w31 ⟨y10, rfl, hP⟩
            refine ⟨_, rfl, ?_⟩
            have hx := hH.callChg (L := [_, _, _, _, _, _]) (M := [_, _]) hold_in hP
            replace hH : Heap _ _ _ [_, _, _, _, _, _, _, _] := hH.call (L := [_, _, _, _, _, _]) (M := [_, _]) hold_in hP (Stays.blk (hP.blk (i := 0) rfl) (Stays.own (hP.own (i := 1) rfl) Stays.nil))
            clear hP
            clear hx
            refine lf_val (v := .int .i64 0) (wantAll rfl) (rv_assign rfl (fr_eval rfl rfl)) ?_
            refine lf_nil ?_
            refine then_n ?_
            refine wp_seq ?_
            refine wp_seq ?_
            refine wp_gen (fun F' => F' 0 = vs ∧ F' 1 = .int .i64 a1 ∧ F' 2 = .int .i64 a2 ∧ F' 7 = .pointer (some ⟨g1, 0, none⟩) ∧ F' 8 = y ∧ F' 9 = .pointer (some ⟨g2, 0, none⟩) ∧ F' 10 = .int .i64 ((lc.length : Nat) : Int) ∧ F' 11 = .int .i64 ((i : Nat) : Int) ∧ F' 12 = .pointer (some ⟨g6, 0, none⟩) ∧ F' 13 = .pointer (some ⟨g7, 0, none⟩) ∧ F' 14 = .pointer (some ⟨g8, 0, none⟩) ∧ F' 15 = .int .i64 0 ∧ F' 32 = .bool true ∧ F' 37 = .bool false ∧ F' 53 = .bool false) ⟨e0, e1, e2, e7, e8, e9, e10, e11, e12, e13, e14, rfl, e32, e37, (e53.trans (by rw [hb2]))⟩ ?_
            clear e0 e1 e2 e7 e8 e9 e10 e11 e12 e13 e14 e32 e37 e53
            clear F
            rintro F ⟨e0, e1, e2, e7, e8, e9, e10, e11, e12, e13, e14, e15, e32, e37, e53⟩
            refine wp_regionF ?_
            refine lf_val (wantAll rfl) (rv_loadW rfl (hH.blk (i := 5) rfl) (fr_eval rfl e14) Try.underlying26 rfl (sz_len Try.sz26 (cBs_len (List.getD s i zO13).h.2))) ?_
            refine lf_val (wantAll rfl) (rv_loadW rfl (hH.blk (i := 4) rfl) (fr_eval rfl e13) Try.underlying26 rfl (sz_len Try.sz26 (cBs_len (Sha.join_length _ _)))) ?_
            refine lf_val (v := .bool false) (wantAll rfl) (rv_known (neTP (p := ¬ (List.getD s i zO13).h.1 = (Sha.join 31 [(List.getD s i zO13).x.1])) rfl (fr_eval rfl rfl) (fr_eval rfl rfl) (List.getD s i zO13).h.2 (Sha.join_length _ _) Iff.rfl) (decide_eq_false (not_not_intro hf2))) ?_
            refine lf_nil ?_
            refine then_n ?_
            refine wp_gen (fun F' => F' 0 = vs ∧ F' 1 = .int .i64 a1 ∧ F' 2 = .int .i64 a2 ∧ F' 7 = .pointer (some ⟨g1, 0, none⟩) ∧ F' 8 = y ∧ F' 9 = .pointer (some ⟨g2, 0, none⟩) ∧ F' 10 = .int .i64 ((lc.length : Nat) : Int) ∧ F' 11 = .int .i64 ((i : Nat) : Int) ∧ F' 12 = .pointer (some ⟨g6, 0, none⟩) ∧ F' 13 = .pointer (some ⟨g7, 0, none⟩) ∧ F' 14 = .pointer (some ⟨g8, 0, none⟩) ∧ F' 15 = .int .i64 0 ∧ F' 32 = .bool true ∧ F' 37 = .bool false ∧ F' 53 = .bool false ∧ F' 62 = .bool false) ⟨e0, e1, e2, e7, e8, e9, e10, e11, e12, e13, e14, e15, e32, e37, e53, rfl⟩ ?_
            clear e0 e1 e2 e7 e8 e9 e10 e11 e12 e13 e14 e15 e32 e37 e53
            clear F
            rintro F ⟨e0, e1, e2, e7, e8, e9, e10, e11, e12, e13, e14, e15, e32, e37, e53, e62⟩
            refine wp_cond_false (fr_eval rfl e62) ?_
            refine wp_skip ?_
            refine then_n ?_
            refine wp_seq ?_
            refine wp_regionF ?_
            refine lf_val (v := y) (wantAll rfl) (rv_move rfl (fr_eval rfl e8)) ?_
            refine lf_val (v := .pointer (some ⟨g6, 0, none⟩)) (wantAll rfl) (rv_fieldAddr (n := 31) rfl (fr_eval rfl e12) Try.underlying46 rfl rfl (by kernel_rfl)) ?_
            refine lf_val (wantAll rfl) (rv_loadP rfl (hH.blk (i := 3) rfl) (zS13_p2 ((List.getD s i zO13).x.2) ((List.getD s i zO13).h.2)) (cBs_len (List.getD s i zO13).x.2) (fr_eval rfl rfl) Try.underlying26 rfl Try.sz26) ?_
            refine lf_ex (wantAll rfl) (hx_lit1 hH Try.stSum (cs := cS ((List.getD s i zO13).x)) (xs := List.flatMap cS [(List.getD s i zO13).x]) rfl (fr_eval rfl rfl) (cS_ln ((List.getD s i zO13).x)) (by decide) (List.flatMap_singleton ..).symm) ?_
            clear hH
            rintro y11 w32 ⟨hH, hx⟩
            replace hH : Heap _ _ _ [_, _, _, _, _, _, _, _, _] := hH
            clear hx
            refine lf_ex (wantAll rfl) (hx_append hH Try.stSum (i := 1) (xs' := (l ++ [(List.getD s i zO13).x]).flatMap cS) (nm := (l ++ [(List.getD s i zO13).x]).length) rfl rfl (fun _ => rfl) List.length_append.symm List.flatMap_append.symm (Own.rd (hH.own (i := 8) rfl) (row_one cS_one)) (fr_eval rfl rfl) (fr_eval rfl rfl) (by first | omega | (simp only [List.length_append]; omega) | (simp only [List.length_append, List.length_cons, List.length_nil]; omega))) ?_
            clear hH
            rintro y12 w33 ⟨hH, hx⟩
            replace hH : Heap _ _ _ [_, _, _, _, _, _, _, _, _] := hH
            clear hx
            refine lf_val (v := y12) (wantAll rfl) (rv_assign rfl (fr_eval rfl rfl)) ?_
            refine lf_nil ?_
            refine then_n ?_
            refine wp_seq ?_
            replace hH : Heap _ _ _ [_, _, _, _, _, _, _, _] := hH.drop (.cons_cons _ (.cons_cons _ (.cons_cons _ (.cons_cons _ (.cons_cons _ (.cons_cons _ (.cons_cons _ (.cons_cons _ (.cons _ .slnil)))))))))
            refine wp_gen (fun F' => F' 0 = vs ∧ F' 1 = .int .i64 a1 ∧ F' 2 = .int .i64 a2 ∧ F' 7 = .pointer (some ⟨g1, 0, none⟩) ∧ F' 8 = y12 ∧ F' 9 = .pointer (some ⟨g2, 0, none⟩) ∧ F' 10 = .int .i64 ((lc.length : Nat) : Int) ∧ F' 11 = .int .i64 ((i : Nat) : Int) ∧ F' 12 = .pointer (some ⟨g6, 0, none⟩) ∧ F' 13 = .pointer (some ⟨g7, 0, none⟩) ∧ F' 14 = .pointer (some ⟨g8, 0, none⟩) ∧ F' 15 = .int .i64 0 ∧ F' 32 = .bool true ∧ F' 37 = .bool false ∧ F' 53 = .bool false ∧ F' 62 = .bool false) ⟨e0, e1, e2, e7, rfl, e9, e10, e11, e12, e13, e14, e15, e32, e37, e53, e62⟩ ?_
            clear e0 e1 e2 e7 e8 e9 e10 e11 e12 e13 e14 e15 e32 e37 e53 e62
            clear F
            rintro F ⟨e0, e1, e2, e7, e8, e9, e10, e11, e12, e13, e14, e15, e32, e37, e53, e62⟩
            refine wp_regionF ?_
            refine lf_val (v := .int .i64 0) (wantAll rfl) (rv_move rfl (fr_eval rfl e15)) ?_
            refine lf_val (v := .bool false) (wantAll rfl) (rv_neq rfl (fr_eval rfl rfl) rfl (show decide ((0 : Int) = 0) = true from by decide)) ?_
            refine lf_nil ?_
            refine then_n ?_
            refine wp_gen (fun F' => F' 0 = vs ∧ F' 1 = .int .i64 a1 ∧ F' 2 = .int .i64 a2 ∧ F' 7 = .pointer (some ⟨g1, 0, none⟩) ∧ F' 8 = y12 ∧ F' 9 = .pointer (some ⟨g2, 0, none⟩) ∧ F' 10 = .int .i64 ((lc.length : Nat) : Int) ∧ F' 11 = .int .i64 ((i : Nat) : Int) ∧ F' 12 = .pointer (some ⟨g6, 0, none⟩) ∧ F' 13 = .pointer (some ⟨g7, 0, none⟩) ∧ F' 14 = .pointer (some ⟨g8, 0, none⟩) ∧ F' 15 = .int .i64 0 ∧ F' 32 = .bool true ∧ F' 37 = .bool false ∧ F' 53 = .bool false ∧ F' 62 = .bool false ∧ F' 71 = .bool false) ⟨e0, e1, e2, e7, e8, e9, e10, e11, e12, e13, e14, e15, e32, e37, e53, e62, rfl⟩ ?_
            clear e0 e1 e2 e7 e8 e9 e10 e11 e12 e13 e14 e15 e32 e37 e53 e62
            clear F
            rintro F ⟨e0, e1, e2, e7, e8, e9, e10, e11, e12, e13, e14, e15, e32, e37, e53, e62, e71⟩
            refine wp_cond_false (fr_eval rfl e71) ?_
            refine wp_skip ?_
            refine blk_n ?_
            refine then_n ?_
            refine wp_regionF ?_
            refine lf_val (v := .int .i64 ((i : Nat) : Int)) (wantAll rfl) (rv_move rfl (fr_eval rfl e11)) ?_
            refine lf_val (v := .int .i64 ((i + 1 : Nat) : Int)) (wantAll rfl) (rv_add rfl (fr_eval rfl rfl) rfl (wrap_i64 (by omega) (by omega) (by omega))) ?_
            refine lf_val (v := .int .i64 ((i + 1 : Nat) : Int)) (wantAll rfl) (rv_assign rfl (fr_eval rfl rfl)) ?_
            refine lf_nil ?_
            refine then_n ?_
            replace hH : Heap _ _ _ [_, _, _, _, _] := hH.drop (.cons_cons _ (.cons_cons _ (.cons_cons _ (.cons _ (.cons _ (.cons _ (.cons_cons _ (.cons_cons _ .slnil))))))))
            replace hH : Heap _ _ _ [_, _, _, _, _] := hH.perm (.trans (.swap _ _ _) (.cons _ (.trans (.swap _ _ _) (.cons _ (.trans (.swap _ _ _) (.cons _ (.refl _)))))))
            replace hH : Heap _ _ _ [_, _, _, _, _] := hH.perm (.cons _ (.cons _ (.cons _ (.trans (.swap _ _ _) (.cons _ (.refl _))))))
            exact ⟨_, _, (by omega), rfl, i + 1, (l ++ [(List.getD s i zO13).x]), y10, y12, c, lc, rfl, (by omega), (by omega), (by first | omega | (simp only [List.length_append]; omega) | (simp only [List.length_append, List.length_cons, List.length_nil]; omega)), (by first | omega | (simp only [List.length_append]; omega) | (simp only [List.length_append, List.length_cons, List.length_nil]; omega)), e0, e1, e2, e7, e8, e9, e10, rfl, hH⟩
          · refine wp_regionF ?_
            refine lf_val (v := .pointer (some ⟨g1, 0, none⟩)) (wantAll rfl) (rv_move rfl (fr_eval rfl e7)) ?_
            refine lf_val (v := .pointer (some ⟨g6, 0, none⟩)) (wantAll rfl) (rv_fieldAddr (n := 31) rfl (fr_eval rfl e12) Try.underlying46 rfl rfl (by kernel_rfl)) ?_
            refine lf_val (wantAll rfl) (rv_loadP rfl (hH.blk (i := 5) rfl) (zS13_p2 ((List.getD s i zO13).x.2) ((List.getD s i zO13).h.2)) (cBs_len (List.getD s i zO13).x.2) (fr_eval rfl rfl) Try.underlying26 rfl Try.sz26) ?_
            refine lf_val (wantAll rfl) (rv_loadW rfl (hH.blk (i := 7) rfl) (fr_eval rfl e14) Try.underlying26 rfl (sz_len Try.sz26 (cBs_len (List.getD s i zO13).h.2))) ?_
            refine lf_call (wantAll rfl) (rv_call (args := [.pointer (some ⟨g1, 0, none⟩), .agg (cBs ((List.getD s i zO13).x.1)).toArray, .agg (cBs ((List.getD s i zO13).h.1)).toArray]) rfl (evc (fr_eval rfl rfl) (evc (fr_eval rfl rfl) (evc (fr_eval rfl rfl) evn))) Try.call28) (shPut_no (List.getD s i zO13).x (List.getD s i zO13).h (fun e => hf2 e.symm) _) ?_
            rintro _ w34 ⟨rfl, hx⟩
            refine ⟨_, rfl, ?_⟩
            replace hH := hH.ext hx
            clear hx
            refine lf_val (v := .int .i64 16) (wantAll rfl) (rv_assign rfl (fr_eval rfl rfl)) ?_
            refine lf_nil ?_
            refine then_n ?_
            refine wp_seq ?_
            refine wp_seq ?_
            refine wp_gen (fun F' => F' 0 = vs ∧ F' 1 = .int .i64 a1 ∧ F' 2 = .int .i64 a2 ∧ F' 7 = .pointer (some ⟨g1, 0, none⟩) ∧ F' 8 = y ∧ F' 9 = .pointer (some ⟨g2, 0, none⟩) ∧ F' 10 = .int .i64 ((lc.length : Nat) : Int) ∧ F' 11 = .int .i64 ((i : Nat) : Int) ∧ F' 12 = .pointer (some ⟨g6, 0, none⟩) ∧ F' 13 = .pointer (some ⟨g7, 0, none⟩) ∧ F' 14 = .pointer (some ⟨g8, 0, none⟩) ∧ F' 15 = .int .i64 16 ∧ F' 32 = .bool true ∧ F' 37 = .bool false ∧ F' 53 = .bool false) ⟨e0, e1, e2, e7, e8, e9, e10, e11, e12, e13, e14, rfl, e32, e37, (e53.trans (by rw [hb2]))⟩ ?_
            clear e0 e1 e2 e7 e8 e9 e10 e11 e12 e13 e14 e32 e37 e53
            clear F
            rintro F ⟨e0, e1, e2, e7, e8, e9, e10, e11, e12, e13, e14, e15, e32, e37, e53⟩
            refine wp_regionF ?_
            refine lf_val (wantAll rfl) (rv_loadW rfl (hH.blk (i := 7) rfl) (fr_eval rfl e14) Try.underlying26 rfl (sz_len Try.sz26 (cBs_len (List.getD s i zO13).h.2))) ?_
            refine lf_val (wantAll rfl) (rv_loadW rfl (hH.blk (i := 6) rfl) (fr_eval rfl e13) Try.underlying26 rfl (sz_len Try.sz26 (cBs_len (Sha.join_length _ _)))) ?_
            refine lf_val (v := .bool true) (wantAll rfl) (rv_known (neTP (p := ¬ (List.getD s i zO13).h.1 = (Sha.join 31 [(List.getD s i zO13).x.1])) rfl (fr_eval rfl rfl) (fr_eval rfl rfl) (List.getD s i zO13).h.2 (Sha.join_length _ _) Iff.rfl) (decide_eq_true hf2)) ?_
            refine lf_nil ?_
            refine then_n ?_
            refine wp_gen (fun F' => F' 0 = vs ∧ F' 1 = .int .i64 a1 ∧ F' 2 = .int .i64 a2 ∧ F' 7 = .pointer (some ⟨g1, 0, none⟩) ∧ F' 8 = y ∧ F' 9 = .pointer (some ⟨g2, 0, none⟩) ∧ F' 10 = .int .i64 ((lc.length : Nat) : Int) ∧ F' 11 = .int .i64 ((i : Nat) : Int) ∧ F' 12 = .pointer (some ⟨g6, 0, none⟩) ∧ F' 13 = .pointer (some ⟨g7, 0, none⟩) ∧ F' 14 = .pointer (some ⟨g8, 0, none⟩) ∧ F' 15 = .int .i64 16 ∧ F' 32 = .bool true ∧ F' 37 = .bool false ∧ F' 53 = .bool false ∧ F' 62 = .bool true) ⟨e0, e1, e2, e7, e8, e9, e10, e11, e12, e13, e14, e15, e32, e37, e53, rfl⟩ ?_
            clear e0 e1 e2 e7 e8 e9 e10 e11 e12 e13 e14 e15 e32 e37 e53
            clear F
            rintro F ⟨e0, e1, e2, e7, e8, e9, e10, e11, e12, e13, e14, e15, e32, e37, e53, e62⟩
            refine wp_cond_true (fr_eval rfl e62) ?_
            refine wp_seq ?_
            refine wp_seq ?_
            refine wp_regionF ?_
            refine lf_val (v := .int .i64 16) (wantAll rfl) (rv_move rfl (fr_eval rfl e15)) ?_
            refine lf_val (v := .bool false) (wantAll rfl) (rv_neq rfl (fr_eval rfl rfl) rfl (show decide ((16 : Int) = 16) = true from by decide)) ?_
            refine lf_nil ?_
            refine then_n ?_
            refine wp_gen (fun F' => F' 0 = vs ∧ F' 1 = .int .i64 a1 ∧ F' 2 = .int .i64 a2 ∧ F' 7 = .pointer (some ⟨g1, 0, none⟩) ∧ F' 8 = y ∧ F' 9 = .pointer (some ⟨g2, 0, none⟩) ∧ F' 10 = .int .i64 ((lc.length : Nat) : Int) ∧ F' 11 = .int .i64 ((i : Nat) : Int) ∧ F' 12 = .pointer (some ⟨g6, 0, none⟩) ∧ F' 13 = .pointer (some ⟨g7, 0, none⟩) ∧ F' 14 = .pointer (some ⟨g8, 0, none⟩) ∧ F' 15 = .int .i64 16 ∧ F' 32 = .bool true ∧ F' 37 = .bool false ∧ F' 53 = .bool false ∧ F' 62 = .bool true ∧ F' 64 = .bool false) ⟨e0, e1, e2, e7, e8, e9, e10, e11, e12, e13, e14, e15, e32, e37, e53, e62, rfl⟩ ?_
            clear e0 e1 e2 e7 e8 e9 e10 e11 e12 e13 e14 e15 e32 e37 e53 e62
            clear F
            rintro F ⟨e0, e1, e2, e7, e8, e9, e10, e11, e12, e13, e14, e15, e32, e37, e53, e62, e64⟩
            refine wp_cond_false (fr_eval rfl e64) ?_
            refine wp_skip ?_
            refine then_n ?_
            refine wp_exit ?_
            refine then_exit ?_
            refine blk_exit ?_
            refine then_n ?_
            refine wp_regionF ?_
            refine lf_val (v := .int .i64 ((i : Nat) : Int)) (wantAll rfl) (rv_move rfl (fr_eval rfl e11)) ?_
            refine lf_val (v := .int .i64 ((i + 1 : Nat) : Int)) (wantAll rfl) (rv_add rfl (fr_eval rfl rfl) rfl (wrap_i64 (by omega) (by omega) (by omega))) ?_
            refine lf_val (v := .int .i64 ((i + 1 : Nat) : Int)) (wantAll rfl) (rv_assign rfl (fr_eval rfl rfl)) ?_
            refine lf_nil ?_
            refine then_n ?_
            replace hH : Heap _ _ _ [_, _, _, _, _] := hH.drop (.cons_cons _ (.cons_cons _ (.cons_cons _ (.cons_cons _ (.cons_cons _ (.cons _ (.cons _ (.cons _ .slnil))))))))
            exact ⟨_, _, (by omega), rfl, i + 1, l, u, y, c, lc, rfl, (by omega), (by omega), (by first | omega | (simp only [List.length_append]; omega) | (simp only [List.length_append, List.length_cons, List.length_nil]; omega)), (by first | omega | (simp only [List.length_append]; omega) | (simp only [List.length_append, List.length_cons, List.length_nil]; omega)), e0, e1, e2, e7, e8, e9, e10, rfl, hH⟩
        · refine wp_cond_true (fr_eval rfl (e53.trans (by rw [hb2]))) ?_
          refine wp_regionF ?_
          refine lf_val (wantAll rfl) (rv_loadW rfl (hH.blk (i := 6) rfl) (fr_eval rfl e13) Try.underlying26 rfl (sz_len Try.sz26 (cBs_len (Sha.join_length _ _)))) ?_
          refine lf_sk (wantAll rfl) (hx_storeW hH (i := 7) (cs := cBs (Sha.join 31 [(List.getD s i zO13).x.1])) rfl rfl rfl (fr_eval rfl e14) (fr_eval rfl rfl) (sz_len Try.sz26 (cBs_len (Sha.join_length _ _))) (((cBs_len (List.getD s i zO13).h.2)).trans ((cBs_len (Sha.join_length _ _))).symm) ((cBs_one _))) ?_
          clear hH
          rintro w35 ⟨hH, hx⟩
          replace hH : Heap _ _ _ [_, _, _, _, _, _, _, _] := hH
          clear hx
          refine lf_nil ?_
          refine then_n ?_
          refine wp_seq ?_
          refine wp_gen (fun F' => F' 0 = vs ∧ F' 1 = .int .i64 a1 ∧ F' 2 = .int .i64 a2 ∧ F' 7 = .pointer (some ⟨g1, 0, none⟩) ∧ F' 8 = y ∧ F' 9 = .pointer (some ⟨g2, 0, none⟩) ∧ F' 10 = .int .i64 ((lc.length : Nat) : Int) ∧ F' 11 = .int .i64 ((i : Nat) : Int) ∧ F' 12 = .pointer (some ⟨g6, 0, none⟩) ∧ F' 13 = .pointer (some ⟨g7, 0, none⟩) ∧ F' 14 = .pointer (some ⟨g8, 0, none⟩) ∧ F' 32 = .bool true ∧ F' 37 = .bool false ∧ F' 53 = .bool true) ⟨e0, e1, e2, e7, e8, e9, e10, e11, e12, e13, e14, e32, e37, (e53.trans (by rw [hb2]))⟩ ?_
          clear e0 e1 e2 e7 e8 e9 e10 e11 e12 e13 e14 e32 e37 e53
          clear F
          rintro F ⟨e0, e1, e2, e7, e8, e9, e10, e11, e12, e13, e14, e32, e37, e53⟩
          refine wp_regionF ?_
          refine lf_val (v := .pointer (some ⟨g1, 0, none⟩)) (wantAll rfl) (rv_move rfl (fr_eval rfl e7)) ?_
          refine lf_val (v := .pointer (some ⟨g6, 0, none⟩)) (wantAll rfl) (rv_fieldAddr (n := 31) rfl (fr_eval rfl e12) Try.underlying46 rfl rfl (by kernel_rfl)) ?_
          refine lf_val (wantAll rfl) (rv_loadP rfl (hH.blk (i := 5) rfl) (zS13_p2 ((List.getD s i zO13).x.2) ((List.getD s i zO13).h.2)) (cBs_len (List.getD s i zO13).x.2) (fr_eval rfl rfl) Try.underlying26 rfl Try.sz26) ?_
          refine lf_val (wantAll rfl) (rv_loadW rfl (hH.blk (i := 7) rfl) (fr_eval rfl e14) Try.underlying26 rfl (sz_len Try.sz26 (cBs_len (Sha.join_length _ _)))) ?_
          replace hH : Heap _ _ _ [_, _, _, _, _, _, _, _] := hH.perm (.trans (.swap _ _ _) (.cons _ (.refl _)))
          replace hH : Heap _ _ _ [_, _, _, _, _, _, _, _] := hH.perm (.cons _ (.trans (.swap _ _ _) (.cons _ (.refl _))))
          replace hH : Heap _ _ _ [_, _, _, _, _, _, _, _] := hH.perm (.cons _ (.cons _ (.trans (.swap _ _ _) (.cons _ (.trans (.swap _ _ _) (.cons _ (.refl _)))))))
          replace hH : Heap _ _ _ [_, _, _, _, _, _, _, _] := hH.perm (.cons _ (.cons _ (.cons _ (.trans (.swap _ _ _) (.cons _ (.trans (.swap _ _ _) (.cons _ (.refl _))))))))
          replace hH : Heap _ _ _ [_, _, _, _, _, _, _, _] := hH.perm (.cons _ (.cons _ (.cons _ (.cons _ (.trans (.swap _ _ _) (.cons _ (.trans (.swap _ _ _) (.cons _ (.refl _)))))))))
          replace hH : Heap _ _ _ [_, _, _, _, _, _, _, _] := hH.perm (.cons _ (.cons _ (.cons _ (.cons _ (.cons _ (.trans (.swap _ _ _) (.cons _ (.trans (.swap _ _ _) (.cons _ (.refl _))))))))))
          refine lf_call (wantAll rfl) (rv_call (args := [.pointer (some ⟨g1, 0, none⟩), .agg (cBs ((List.getD s i zO13).x.1)).toArray, .agg (cBs (Sha.join 31 [(List.getD s i zO13).x.1])).toArray]) rfl (evc (fr_eval rfl rfl) (evc (fr_eval rfl rfl) (evc (fr_eval rfl rfl) evn))) Try.call28) (shPut_yes l (by omega) (List.getD s i zO13).x (⟨(Sha.join 31 [(List.getD s i zO13).x.1]), (Sha.join_length _ _)⟩ : S32) rfl _ (hH.blk (i := 6) rfl) (hH.own (i := 7) rfl)) ?_
          rintro _ w36 ⟨y13, rfl, hP⟩
          refine ⟨_, rfl, ?_⟩
          have hx := hH.callChg (L := [_, _, _, _, _, _]) (M := [_, _]) hold_in hP
          replace hH : Heap _ _ _ [_, _, _, _, _, _, _, _] := hH.call (L := [_, _, _, _, _, _]) (M := [_, _]) hold_in hP (Stays.blk (hP.blk (i := 0) rfl) (Stays.own (hP.own (i := 1) rfl) Stays.nil))
          clear hP
          clear hx
          refine lf_val (v := .int .i64 0) (wantAll rfl) (rv_assign rfl (fr_eval rfl rfl)) ?_
          refine lf_nil ?_
          refine then_n ?_
          refine wp_seq ?_
          refine wp_seq ?_
          refine wp_gen (fun F' => F' 0 = vs ∧ F' 1 = .int .i64 a1 ∧ F' 2 = .int .i64 a2 ∧ F' 7 = .pointer (some ⟨g1, 0, none⟩) ∧ F' 8 = y ∧ F' 9 = .pointer (some ⟨g2, 0, none⟩) ∧ F' 10 = .int .i64 ((lc.length : Nat) : Int) ∧ F' 11 = .int .i64 ((i : Nat) : Int) ∧ F' 12 = .pointer (some ⟨g6, 0, none⟩) ∧ F' 13 = .pointer (some ⟨g7, 0, none⟩) ∧ F' 14 = .pointer (some ⟨g8, 0, none⟩) ∧ F' 15 = .int .i64 0 ∧ F' 32 = .bool true ∧ F' 37 = .bool false ∧ F' 53 = .bool true) ⟨e0, e1, e2, e7, e8, e9, e10, e11, e12, e13, e14, rfl, e32, e37, e53⟩ ?_
          clear e0 e1 e2 e7 e8 e9 e10 e11 e12 e13 e14 e32 e37 e53
          clear F
          rintro F ⟨e0, e1, e2, e7, e8, e9, e10, e11, e12, e13, e14, e15, e32, e37, e53⟩
          refine wp_regionF ?_
          refine lf_val (wantAll rfl) (rv_loadW rfl (hH.blk (i := 5) rfl) (fr_eval rfl e14) Try.underlying26 rfl (sz_len Try.sz26 (cBs_len (Sha.join_length _ _)))) ?_
          refine lf_val (wantAll rfl) (rv_loadW rfl (hH.blk (i := 4) rfl) (fr_eval rfl e13) Try.underlying26 rfl (sz_len Try.sz26 (cBs_len (Sha.join_length _ _)))) ?_
          refine lf_val (v := .bool false) (wantAll rfl) (neT (b := true) rfl (fr_eval rfl rfl) (fr_eval rfl rfl) (Sha.join_length _ _) (Sha.join_length _ _) (beq_self_eq_true _)) ?_
          refine lf_nil ?_
          refine then_n ?_
          refine wp_gen (fun F' => F' 0 = vs ∧ F' 1 = .int .i64 a1 ∧ F' 2 = .int .i64 a2 ∧ F' 7 = .pointer (some ⟨g1, 0, none⟩) ∧ F' 8 = y ∧ F' 9 = .pointer (some ⟨g2, 0, none⟩) ∧ F' 10 = .int .i64 ((lc.length : Nat) : Int) ∧ F' 11 = .int .i64 ((i : Nat) : Int) ∧ F' 12 = .pointer (some ⟨g6, 0, none⟩) ∧ F' 13 = .pointer (some ⟨g7, 0, none⟩) ∧ F' 14 = .pointer (some ⟨g8, 0, none⟩) ∧ F' 15 = .int .i64 0 ∧ F' 32 = .bool true ∧ F' 37 = .bool false ∧ F' 53 = .bool true ∧ F' 62 = .bool false) ⟨e0, e1, e2, e7, e8, e9, e10, e11, e12, e13, e14, e15, e32, e37, e53, rfl⟩ ?_
          clear e0 e1 e2 e7 e8 e9 e10 e11 e12 e13 e14 e15 e32 e37 e53
          clear F
          rintro F ⟨e0, e1, e2, e7, e8, e9, e10, e11, e12, e13, e14, e15, e32, e37, e53, e62⟩
          refine wp_cond_false (fr_eval rfl e62) ?_
          refine wp_skip ?_
          refine then_n ?_
          refine wp_seq ?_
          refine wp_regionF ?_
          refine lf_val (v := y) (wantAll rfl) (rv_move rfl (fr_eval rfl e8)) ?_
          refine lf_val (v := .pointer (some ⟨g6, 0, none⟩)) (wantAll rfl) (rv_fieldAddr (n := 31) rfl (fr_eval rfl e12) Try.underlying46 rfl rfl (by kernel_rfl)) ?_
          refine lf_val (wantAll rfl) (rv_loadP rfl (hH.blk (i := 3) rfl) (zS13_p2 ((List.getD s i zO13).x.2) ((List.getD s i zO13).h.2)) (cBs_len (List.getD s i zO13).x.2) (fr_eval rfl rfl) Try.underlying26 rfl Try.sz26) ?_
          refine lf_ex (wantAll rfl) (hx_lit1 hH Try.stSum (cs := cS ((List.getD s i zO13).x)) (xs := List.flatMap cS [(List.getD s i zO13).x]) rfl (fr_eval rfl rfl) (cS_ln ((List.getD s i zO13).x)) (by decide) (List.flatMap_singleton ..).symm) ?_
          clear hH
          rintro y14 w37 ⟨hH, hx⟩
          replace hH : Heap _ _ _ [_, _, _, _, _, _, _, _, _] := hH
          clear hx
          refine lf_ex (wantAll rfl) (hx_append hH Try.stSum (i := 1) (xs' := (l ++ [(List.getD s i zO13).x]).flatMap cS) (nm := (l ++ [(List.getD s i zO13).x]).length) rfl rfl (fun _ => rfl) List.length_append.symm List.flatMap_append.symm (Own.rd (hH.own (i := 8) rfl) (row_one cS_one)) (fr_eval rfl rfl) (fr_eval rfl rfl) (by first | omega | (simp only [List.length_append]; omega) | (simp only [List.length_append, List.length_cons, List.length_nil]; omega))) ?_
          clear hH
          rintro y15 w38 ⟨hH, hx⟩
          replace hH : Heap _ _ _ [_, _, _, _, _, _, _, _, _] := hH
          clear hx
          refine lf_val (v := y15) (wantAll rfl) (rv_assign rfl (fr_eval rfl rfl)) ?_
          refine lf_nil ?_
          refine then_n ?_
          refine wp_seq ?_
          replace hH : Heap _ _ _ [_, _, _, _, _, _, _, _] := hH.drop (.cons_cons _ (.cons_cons _ (.cons_cons _ (.cons_cons _ (.cons_cons _ (.cons_cons _ (.cons_cons _ (.cons_cons _ (.cons _ .slnil)))))))))
          refine wp_gen (fun F' => F' 0 = vs ∧ F' 1 = .int .i64 a1 ∧ F' 2 = .int .i64 a2 ∧ F' 7 = .pointer (some ⟨g1, 0, none⟩) ∧ F' 8 = y15 ∧ F' 9 = .pointer (some ⟨g2, 0, none⟩) ∧ F' 10 = .int .i64 ((lc.length : Nat) : Int) ∧ F' 11 = .int .i64 ((i : Nat) : Int) ∧ F' 12 = .pointer (some ⟨g6, 0, none⟩) ∧ F' 13 = .pointer (some ⟨g7, 0, none⟩) ∧ F' 14 = .pointer (some ⟨g8, 0, none⟩) ∧ F' 15 = .int .i64 0 ∧ F' 32 = .bool true ∧ F' 37 = .bool false ∧ F' 53 = .bool true ∧ F' 62 = .bool false) ⟨e0, e1, e2, e7, rfl, e9, e10, e11, e12, e13, e14, e15, e32, e37, e53, e62⟩ ?_
          clear e0 e1 e2 e7 e8 e9 e10 e11 e12 e13 e14 e15 e32 e37 e53 e62
          clear F
          rintro F ⟨e0, e1, e2, e7, e8, e9, e10, e11, e12, e13, e14, e15, e32, e37, e53, e62⟩
          refine wp_regionF ?_
          refine lf_val (v := .int .i64 0) (wantAll rfl) (rv_move rfl (fr_eval rfl e15)) ?_
          refine lf_val (v := .bool false) (wantAll rfl) (rv_neq rfl (fr_eval rfl rfl) rfl (show decide ((0 : Int) = 0) = true from by decide)) ?_
          refine lf_nil ?_
          refine then_n ?_
          refine wp_gen (fun F' => F' 0 = vs ∧ F' 1 = .int .i64 a1 ∧ F' 2 = .int .i64 a2 ∧ F' 7 = .pointer (some ⟨g1, 0, none⟩) ∧ F' 8 = y15 ∧ F' 9 = .pointer (some ⟨g2, 0, none⟩) ∧ F' 10 = .int .i64 ((lc.length : Nat) : Int) ∧ F' 11 = .int .i64 ((i : Nat) : Int) ∧ F' 12 = .pointer (some ⟨g6, 0, none⟩) ∧ F' 13 = .pointer (some ⟨g7, 0, none⟩) ∧ F' 14 = .pointer (some ⟨g8, 0, none⟩) ∧ F' 15 = .int .i64 0 ∧ F' 32 = .bool true ∧ F' 37 = .bool false ∧ F' 53 = .bool true ∧ F' 62 = .bool false ∧ F' 71 = .bool false) ⟨e0, e1, e2, e7, e8, e9, e10, e11, e12, e13, e14, e15, e32, e37, e53, e62, rfl⟩ ?_
          clear e0 e1 e2 e7 e8 e9 e10 e11 e12 e13 e14 e15 e32 e37 e53 e62
          clear F
          rintro F ⟨e0, e1, e2, e7, e8, e9, e10, e11, e12, e13, e14, e15, e32, e37, e53, e62, e71⟩
          refine wp_cond_false (fr_eval rfl e71) ?_
          refine wp_skip ?_
          refine blk_n ?_
          refine then_n ?_
          refine wp_regionF ?_
          refine lf_val (v := .int .i64 ((i : Nat) : Int)) (wantAll rfl) (rv_move rfl (fr_eval rfl e11)) ?_
          refine lf_val (v := .int .i64 ((i + 1 : Nat) : Int)) (wantAll rfl) (rv_add rfl (fr_eval rfl rfl) rfl (wrap_i64 (by omega) (by omega) (by omega))) ?_
          refine lf_val (v := .int .i64 ((i + 1 : Nat) : Int)) (wantAll rfl) (rv_assign rfl (fr_eval rfl rfl)) ?_
          refine lf_nil ?_
          refine then_n ?_
          replace hH : Heap _ _ _ [_, _, _, _, _] := hH.drop (.cons_cons _ (.cons_cons _ (.cons_cons _ (.cons _ (.cons _ (.cons _ (.cons_cons _ (.cons_cons _ .slnil))))))))
          replace hH : Heap _ _ _ [_, _, _, _, _] := hH.perm (.trans (.swap _ _ _) (.cons _ (.trans (.swap _ _ _) (.cons _ (.trans (.swap _ _ _) (.cons _ (.refl _)))))))
          replace hH : Heap _ _ _ [_, _, _, _, _] := hH.perm (.cons _ (.cons _ (.cons _ (.trans (.swap _ _ _) (.cons _ (.refl _))))))
          exact ⟨_, _, (by omega), rfl, i + 1, (l ++ [(List.getD s i zO13).x]), y13, y15, c, lc, rfl, (by omega), (by omega), (by first | omega | (simp only [List.length_append]; omega) | (simp only [List.length_append, List.length_cons, List.length_nil]; omega)), (by first | omega | (simp only [List.length_append]; omega) | (simp only [List.length_append, List.length_cons, List.length_nil]; omega)), e0, e1, e2, e7, e8, e9, e10, rfl, hH⟩
    · refine wp_cond_false (fr_eval rfl (e32.trans (congrArg Value.bool (decide_eq_false hc2)))) ?_
      refine wp_exit ?_
      refine then_exit ?_
      refine then_exit ?_
      refine blk_exit ?_
      refine then_n ?_
      refine wp_seq ?_
      refine wp_regionF ?_
      refine lf_val (v := .pointer (some ⟨g1, 0, none⟩)) (wantAll rfl) (rv_move rfl (fr_eval rfl e7)) ?_
      refine lf_call (wantAll rfl) (rv_call (args := [.pointer (some ⟨g1, 0, none⟩)]) rfl (evc (fr_eval rfl rfl) evn) Try.call29) (shAll_calls l (by omega) _ (hH.blk (i := 0) rfl) (Own.rd (hH.own (i := 3) rfl) (row_one cS_one))) ?_
      rintro _ w39 ⟨⟨y16, rfl, ho, hg⟩, hx⟩
      refine ⟨_, rfl, ?_⟩
      replace hH : Heap _ _ _ [_, _, _, _, _, _] := hH.addOwn hx hg ho
      clear ho hg
      clear hx
      refine lf_val (v := y16) (wantAll rfl) (rv_assign rfl (fr_eval rfl rfl)) ?_
      refine lf_nil ?_
      refine then_n ?_
      refine wp_seq ?_
      refine wp_seq ?_
      refine wp_gen (fun F' => F' 0 = vs ∧ F' 1 = .int .i64 a1 ∧ F' 2 = .int .i64 a2 ∧ F' 7 = .pointer (some ⟨g1, 0, none⟩) ∧ F' 8 = y ∧ F' 9 = .pointer (some ⟨g2, 0, none⟩) ∧ F' 10 = .int .i64 ((lc.length : Nat) : Int) ∧ F' 11 = .int .i64 ((i : Nat) : Int) ∧ F' 16 = y16 ∧ F' 32 = .bool false) ⟨e0, e1, e2, e7, e8, e9, e10, e11, rfl, (e32.trans (congrArg Value.bool (decide_eq_false hc2)))⟩ ?_
      clear e0 e1 e2 e7 e8 e9 e10 e11 e32
      clear F
      rintro F ⟨e0, e1, e2, e7, e8, e9, e10, e11, e16, e32⟩
      refine wp_regionF ?_
      refine lf_val (v := y16) (wantAll rfl) (rv_move rfl (fr_eval rfl e16)) ?_
      refine lf_val (v := .int .i64 ((l.length : Nat) : Int)) (wantAll rfl) (rv_len rfl (fr_eval rfl rfl) (Own.rd (hH.own (i := 5) rfl) (row_one cS_one)) Try.underlying41) ?_
      refine lf_val (v := y) (wantAll rfl) (rv_move rfl (fr_eval rfl e8)) ?_
      refine lf_val (v := .int .i64 ((l.length : Nat) : Int)) (wantAll rfl) (rv_len rfl (fr_eval rfl rfl) (Own.rd (hH.own (i := 2) rfl) (row_one cS_one)) Try.underlying41) ?_
      refine lf_val (v := .bool (decide (¬ l.length = l.length))) (wantAll rfl) (rv_neqP (p := ¬ l.length = l.length) rfl (fr_eval rfl rfl) (fr_eval rfl rfl) (by omega)) ?_
      refine lf_val (v := .bool (decide (¬ l.length = l.length))) (wantAll rfl) (rv_move rfl (fr_eval rfl rfl)) ?_
      refine lf_join (fun F' w' => F' 0 = vs ∧ F' 1 = .int .i64 a1 ∧ F' 2 = .int .i64 a2 ∧ F' 7 = .pointer (some ⟨g1, 0, none⟩) ∧ F' 8 = y ∧ F' 9 = .pointer (some ⟨g2, 0, none⟩) ∧ F' 10 = .int .i64 ((lc.length : Nat) : Int) ∧ F' 11 = .int .i64 ((i : Nat) : Int) ∧ F' 16 = y16 ∧ F' 32 = .bool false ∧ F' 85 = .bool (decide (¬ l.length = l.length)) ∧ Heap (newN w) w w' [oBlk g1 ([u]) 43, oBlk g2 ([c]) 43, oRow cS 26 32 y l, oRow cS 26 32 u l, oRow cS 26 32 c lc, oRow cS 26 32 y16 l]) 6 (fun hk => ?_) ?_
      · by_cases hc4 : l.length = l.length
        · refine lf_val (v := .pointer (some ⟨g1, 0, none⟩)) (wantF (d := 79) rfl (by kernel_rfl) rfl (congrArg Value.bool (decide_eq_false (not_not_intro hc4)))) (rv_move rfl (fr_eval rfl e7)) ?_
          refine lf_call (wantF (d := 79) rfl (by kernel_rfl) rfl (congrArg Value.bool (decide_eq_false (not_not_intro hc4)))) (rv_call (args := [.pointer (some ⟨g1, 0, none⟩)]) rfl (evc (fr_eval rfl rfl) evn) Try.call30) (shLen_calls l (by omega) _ (hH.blk (i := 0) rfl) (Own.rd (hH.own (i := 3) rfl) (row_one cS_one))) ?_
          rintro _ w40 ⟨rfl, hx⟩
          refine ⟨_, rfl, ?_⟩
          replace hH := hH.ext hx
          clear hx
          refine lf_val (v := y) (wantF (d := 79) rfl (by kernel_rfl) rfl (congrArg Value.bool (decide_eq_false (not_not_intro hc4)))) (rv_move rfl (fr_eval rfl e8)) ?_
          refine lf_val (v := .int .i64 ((l.length : Nat) : Int)) (wantF (d := 79) rfl (by kernel_rfl) rfl (congrArg Value.bool (decide_eq_false (not_not_intro hc4)))) (rv_len rfl (fr_eval rfl rfl) (Own.rd (hH.own (i := 2) rfl) (row_one cS_one)) Try.underlying41) ?_
          refine lf_val (v := .bool false) (wantF (d := 79) rfl (by kernel_rfl) rfl (congrArg Value.bool (decide_eq_false (not_not_intro hc4)))) (rv_known (rv_neqP (p := ¬ l.length = l.length) rfl (fr_eval rfl rfl) (fr_eval rfl rfl) (by omega)) (decide_eq_false (not_not_intro hc4))) ?_
          refine lf_val (v := .bool false) (wantAll rfl) (rv_pickF rfl (fr_eval rfl (congrArg Value.bool (decide_eq_false (not_not_intro hc4)))) (fr_eval rfl rfl)) ?_
          exact hk _ _ ⟨e0, e1, e2, e7, e8, e9, e10, e11, e16, e32, (congrArg Value.bool (dec_f (not_not_intro hc4))), hH⟩
        · refine lf_not (wantNot (d := 79) rfl (by kernel_rfl) rfl (congrArg Value.bool (decide_eq_true hc4))) ?_
          refine lf_not (wantNot (d := 79) rfl (by kernel_rfl) rfl (congrArg Value.bool (decide_eq_true hc4))) ?_
          refine lf_not (wantNot (d := 79) rfl (by kernel_rfl) rfl (congrArg Value.bool (decide_eq_true hc4))) ?_
          refine lf_not (wantNot (d := 79) rfl (by kernel_rfl) rfl (congrArg Value.bool (decide_eq_true hc4))) ?_
          refine lf_not (wantNot (d := 79) rfl (by kernel_rfl) rfl (congrArg Value.bool (decide_eq_true hc4))) ?_
          refine lf_val (v := .bool true) (wantAll rfl) (rv_pickT rfl (fr_eval rfl (congrArg Value.bool (decide_eq_true hc4))) rfl) ?_
          exact hk _ _ ⟨e0, e1, e2, e7, e8, e9, e10, e11, e16, e32, (congrArg Value.bool (dec_t hc4)), hH⟩
      · clear e0 e1 e2 e7 e8 e9 e10 e11 e16 e32 hH
        clear F
        rintro F w41 ⟨e0, e1, e2, e7, e8, e9, e10, e11, e16, e32, e85, hH⟩
        refine lf_val (v := .bool (decide (¬ l.length = l.length))) (wantAll rfl) (rv_move rfl (fr_eval rfl e85)) ?_
        refine lf_join (fun F' w' => F' 0 = vs ∧ F' 1 = .int .i64 a1 ∧ F' 2 = .int .i64 a2 ∧ F' 7 = .pointer (some ⟨g1, 0, none⟩) ∧ F' 8 = y ∧ F' 9 = .pointer (some ⟨g2, 0, none⟩) ∧ F' 10 = .int .i64 ((lc.length : Nat) : Int) ∧ F' 11 = .int .i64 ((i : Nat) : Int) ∧ F' 16 = y16 ∧ F' 32 = .bool false ∧ F' 90 = .bool (decide ((¬ l.length = l.length) ∨ (¬ lc.length = lc.length))) ∧ Heap (newN w) w w' [oBlk g1 ([u]) 43, oBlk g2 ([c]) 43, oRow cS 26 32 y l, oRow cS 26 32 u l, oRow cS 26 32 c lc, oRow cS 26 32 y16 l]) 4 (fun hk => ?_) ?_
        · by_cases hc5 : l.length = l.length
          · refine lf_call (wantF (d := 86) rfl (by kernel_rfl) rfl (congrArg Value.bool (decide_eq_false (not_not_intro hc5)))) (rv_call (args := [.pointer (some ⟨g2, 0, none⟩)]) rfl (evc (fr_eval rfl e9) evn) Try.call30) (shLen_calls lc (by omega) _ (hH.blk (i := 1) rfl) (Own.rd (hH.own (i := 4) rfl) (row_one cS_one))) ?_
            rintro _ w42 ⟨rfl, hx⟩
            refine ⟨_, rfl, ?_⟩
            replace hH := hH.ext hx
            clear hx
            refine lf_val (v := .int .i64 ((lc.length : Nat) : Int)) (wantF (d := 86) rfl (by kernel_rfl) rfl (congrArg Value.bool (decide_eq_false (not_not_intro hc5)))) (rv_move rfl (fr_eval rfl e10)) ?_
            refine lf_val (v := .bool (decide (¬ lc.length = lc.length))) (wantF (d := 86) rfl (by kernel_rfl) rfl (congrArg Value.bool (decide_eq_false (not_not_intro hc5)))) (rv_neqP (p := ¬ lc.length = lc.length) rfl (fr_eval rfl rfl) (fr_eval rfl rfl) (by omega)) ?_
            refine lf_val (v := .bool (decide (¬ lc.length = lc.length))) (wantAll rfl) (rv_pickF rfl (fr_eval rfl (congrArg Value.bool (decide_eq_false (not_not_intro hc5)))) (fr_eval rfl rfl)) ?_
            exact hk _ _ ⟨e0, e1, e2, e7, e8, e9, e10, e11, e16, e32, (congrArg Value.bool (dec_or (not_not_intro hc5))), hH⟩
          · refine lf_not (wantNot (d := 86) rfl (by kernel_rfl) rfl (congrArg Value.bool (decide_eq_true hc5))) ?_
            refine lf_not (wantNot (d := 86) rfl (by kernel_rfl) rfl (congrArg Value.bool (decide_eq_true hc5))) ?_
            refine lf_not (wantNot (d := 86) rfl (by kernel_rfl) rfl (congrArg Value.bool (decide_eq_true hc5))) ?_
            refine lf_val (v := .bool true) (wantAll rfl) (rv_pickT rfl (fr_eval rfl (congrArg Value.bool (decide_eq_true hc5))) rfl) ?_
            exact hk _ _ ⟨e0, e1, e2, e7, e8, e9, e10, e11, e16, e32, (congrArg Value.bool (dec_orT hc5)), hH⟩
        · clear e0 e1 e2 e7 e8 e9 e10 e11 e16 e32 e85 hH
          clear F
          rintro F w43 ⟨e0, e1, e2, e7, e8, e9, e10, e11, e16, e32, e90, hH⟩
          refine lf_nil ?_
          refine then_n ?_
          by_cases hc6 : (¬ l.length = l.length) ∨ (¬ lc.length = lc.length)
          · refine wp_cond_true (fr_eval rfl (e90.trans (congrArg Value.bool (decide_eq_true hc6)))) ?_
            refine wp_seq ?_
            refine wp_regionF ?_
            refine lf_val (v := .bool false) (wantAll rfl) (rv_assign rfl rfl) ?_
            refine lf_nil ?_
            refine then_n ?_
            refine wp_gen (fun F' => F' 0 = vs ∧ F' 1 = .int .i64 a1 ∧ F' 2 = .int .i64 a2 ∧ F' 6 = .bool false ∧ F' 7 = .pointer (some ⟨g1, 0, none⟩) ∧ F' 8 = y ∧ F' 9 = .pointer (some ⟨g2, 0, none⟩) ∧ F' 10 = .int .i64 ((lc.length : Nat) : Int) ∧ F' 11 = .int .i64 ((i : Nat) : Int) ∧ F' 16 = y16 ∧ F' 32 = .bool false ∧ F' 90 = .bool true) ⟨e0, e1, e2, rfl, e7, e8, e9, e10, e11, e16, e32, (e90.trans (congrArg Value.bool (decide_eq_true hc6)))⟩ ?_
            clear e0 e1 e2 e7 e8 e9 e10 e11 e16 e32 e90
            clear F
            rintro F ⟨e0, e1, e2, e6, e7, e8, e9, e10, e11, e16, e32, e90⟩
            refine wp_ret ?_
            refine then_ret ?_
            exact bodyPost_ret (v := (.bool false)) (res1 rfl (ro_tmp rfl e6)) rfl (by exfalso; omega)
          · refine wp_cond_false (fr_eval rfl (e90.trans (congrArg Value.bool (decide_eq_false hc6)))) ?_
            refine wp_skip ?_
            refine then_n ?_
            refine wp_seq ?_
            refine wp_seq ?_
            refine wp_regionF ?_
            refine lf_val (v := .int .i64 0) (wantAll rfl) (rv_assign rfl rfl) ?_
            refine lf_nil ?_
            refine then_n ?_
            refine wp_block ?_
            refine wp_gen (fun F' => F' 0 = vs ∧ F' 1 = .int .i64 a1 ∧ F' 2 = .int .i64 a2 ∧ F' 7 = .pointer (some ⟨g1, 0, none⟩) ∧ F' 8 = y ∧ F' 9 = .pointer (some ⟨g2, 0, none⟩) ∧ F' 10 = .int .i64 ((lc.length : Nat) : Int) ∧ F' 11 = .int .i64 ((i : Nat) : Int) ∧ F' 16 = y16 ∧ F' 17 = .int .i64 0 ∧ F' 32 = .bool false ∧ F' 90 = .bool false) ⟨e0, e1, e2, e7, e8, e9, e10, e11, e16, rfl, e32, (e90.trans (congrArg Value.bool (decide_eq_false hc6)))⟩ ?_
            clear e0 e1 e2 e7 e8 e9 e10 e11 e16 e32 e90
            clear F
            rintro F ⟨e0, e1, e2, e7, e8, e9, e10, e11, e16, e17, e32, e90⟩
            refine wp_loopF (fun m F wr => ∃ j : Nat, m = l.length - j ∧ j ≤ l.length ∧ F 0 = vs ∧ F 1 = .int .i64 a1 ∧ F 2 = .int .i64 a2 ∧ F 7 = .pointer (some ⟨g1, 0, none⟩) ∧ F 8 = y ∧ F 9 = .pointer (some ⟨g2, 0, none⟩) ∧ F 10 = .int .i64 ((lc.length : Nat) : Int) ∧ F 11 = .int .i64 ((i : Nat) : Int) ∧ F 16 = y16 ∧ F 17 = .int .i64 ((j : Nat) : Int) ∧ F 32 = .bool false ∧ F 90 = .bool false ∧ Heap (newN w) w wr [oBlk g1 ([u]) 43, oBlk g2 ([c]) 43, oRow cS 26 32 y l, oRow cS 26 32 u l, oRow cS 26 32 c lc, oRow cS 26 32 y16 l]) ⟨0, rfl, Nat.zero_le _, e0, e1, e2, e7, e8, e9, e10, e11, e16, e17, e32, e90, hH⟩ ?_
            clear e0 e1 e2 e7 e8 e9 e10 e11 e16 e17 e32 e90 hH
            clear F
            rintro m F w44 ⟨j, rfl, pj0, e0, e1, e2, e7, e8, e9, e10, e11, e16, e17, e32, e90, hH⟩
            refine wp_seq ?_
            refine wp_seq ?_
            refine wp_regionF ?_
            refine lf_val (v := .int .i64 ((j : Nat) : Int)) (wantAll rfl) (rv_move rfl (fr_eval rfl e17)) ?_
            refine lf_val (v := y) (wantAll rfl) (rv_move rfl (fr_eval rfl e8)) ?_
            refine lf_val (v := .int .i64 ((l.length : Nat) : Int)) (wantAll rfl) (rv_len rfl (fr_eval rfl rfl) (Own.rd (hH.own (i := 2) rfl) (row_one cS_one)) Try.underlying41) ?_
            refine lf_val (v := .bool (decide (j < l.length))) (wantAll rfl) (rv_lssP (p := j < l.length) rfl (fr_eval rfl rfl) (fr_eval rfl rfl) (by omega)) ?_
            refine lf_nil ?_
            refine then_n ?_
            refine wp_gen (fun F' => F' 0 = vs ∧ F' 1 = .int .i64 a1 ∧ F' 2 = .int .i64 a2 ∧ F' 7 = .pointer (some ⟨g1, 0, none⟩) ∧ F' 8 = y ∧ F' 9 = .pointer (some ⟨g2, 0, none⟩) ∧ F' 10 = .int .i64 ((lc.length : Nat) : Int) ∧ F' 11 = .int .i64 ((i : Nat) : Int) ∧ F' 16 = y16 ∧ F' 17 = .int .i64 ((j : Nat) : Int) ∧ F' 32 = .bool false ∧ F' 90 = .bool false ∧ F' 94 = .bool (decide (j < l.length))) ⟨e0, e1, e2, e7, e8, e9, e10, e11, e16, e17, e32, e90, rfl⟩ ?_
            clear e0 e1 e2 e7 e8 e9 e10 e11 e16 e17 e32 e90
            clear F
            rintro F ⟨e0, e1, e2, e7, e8, e9, e10, e11, e16, e17, e32, e90, e94⟩
            by_cases hc7 : j < l.length
            · refine wp_cond_true (fr_eval rfl (e94.trans (congrArg Value.bool (decide_eq_true hc7)))) ?_
              refine wp_skip ?_
              refine then_n ?_
              refine wp_seq ?_
              refine wp_block ?_
              refine wp_seq ?_
              refine wp_regionF ?_
              refine lf_val (v := .pointer (some ⟨g1, 0, none⟩)) (wantAll rfl) (rv_move rfl (fr_eval rfl e7)) ?_
              refine lf_val (v := .int .i64 ((j : Nat) : Int)) (wantAll rfl) (rv_move rfl (fr_eval rfl e17)) ?_
              refine lf_call (wantAll rfl) (rv_call (args := [.pointer (some ⟨g1, 0, none⟩), .int .i64 ((j : Nat) : Int)]) rfl (evc (fr_eval rfl rfl) (evc (fr_eval rfl rfl) evn)) Try.call31) (shGet_calls l (by omega) ((j : Nat) : Int) (by omega) _ (hH.blk (i := 0) rfl) (Own.rd (hH.own (i := 3) rfl) (row_one cS_one))) ?_
              rintro _ w45 ⟨⟨sg_t100, rfl, hs_t100⟩, hx⟩
              refine ⟨_, rfl, ?_⟩
              replace hH := hH.ext hx
              clear hx
              refine lf_val (v := .tuple #[.agg (cBs sg_t100.1).toArray, .bool (decide (0 ≤ ((j : Nat) : Int) ∧ ((j : Nat) : Int) < l.length))]) (wantAll rfl) (rv_move rfl (fr_eval rfl rfl)) ?_
              refine lf_val (v := .agg (cBs sg_t100.1).toArray) (wantAll rfl) (rv_extract rfl (fr_eval rfl rfl) rfl) ?_
              refine lf_val (v := .bool (decide (0 ≤ ((j : Nat) : Int) ∧ ((j : Nat) : Int) < l.length))) (wantAll rfl) (rv_extract rfl (fr_eval rfl rfl) rfl) ?_
              refine lf_ex (wantAll rfl) (hx_alloc hH 26 (z := .agg (cBs (List.replicate 32 0)).toArray) (n := 32) (cs := cBs (List.replicate 32 0)) rfl (by kernel_rfl) (by rfl)) ?_
              clear hH
              rintro _ w46 ⟨g9, rfl, hH, hx⟩
              replace hH : Heap _ _ _ [_, _, _, _, _, _, _] := hH
              clear hx
              refine lf_sk (wantAll rfl) (hx_storeW hH (i := 6) (cs := cBs sg_t100.1) rfl rfl rfl (fr_eval rfl rfl) (fr_eval rfl rfl) (sz_len Try.sz26 (cBs_len sg_t100.2)) (((cBs_len (List.length_replicate ..))).trans ((cBs_len sg_t100.2)).symm) ((cBs_one _))) ?_
              clear hH
              rintro w47 ⟨hH, hx⟩
              replace hH : Heap _ _ _ [_, _, _, _, _, _, _] := hH
              clear hx
              refine lf_val (v := .bool (decide (0 ≤ ((j : Nat) : Int) ∧ ((j : Nat) : Int) < l.length))) (wantAll rfl) (rv_assign rfl (fr_eval rfl rfl)) ?_
              refine lf_nil ?_
              refine then_n ?_
              refine wp_seq ?_
              refine wp_gen (fun F' => F' 0 = vs ∧ F' 1 = .int .i64 a1 ∧ F' 2 = .int .i64 a2 ∧ F' 7 = .pointer (some ⟨g1, 0, none⟩) ∧ F' 8 = y ∧ F' 9 = .pointer (some ⟨g2, 0, none⟩) ∧ F' 10 = .int .i64 ((lc.length : Nat) : Int) ∧ F' 11 = .int .i64 ((i : Nat) : Int) ∧ F' 16 = y16 ∧ F' 17 = .int .i64 ((j : Nat) : Int) ∧ F' 18 = .pointer (some ⟨g9, 0, none⟩) ∧ F' 19 = .bool (decide (0 ≤ ((j : Nat) : Int) ∧ ((j : Nat) : Int) < l.length)) ∧ F' 32 = .bool false ∧ F' 90 = .bool false ∧ F' 94 = .bool true) ⟨e0, e1, e2, e7, e8, e9, e10, e11, e16, e17, rfl, rfl, e32, e90, (e94.trans (congrArg Value.bool (decide_eq_true hc7)))⟩ ?_
              clear e0 e1 e2 e7 e8 e9 e10 e11 e16 e17 e32 e90 e94
              clear F
              rintro F ⟨e0, e1, e2, e7, e8, e9, e10, e11, e16, e17, e18, e19, e32, e90, e94⟩
              have hq : sg_t100 = l.getD j zS := by have := hs_t100 (by omega); simpa using this
              refine wp_regionX (fun _ => False) 15 (by kernel_rfl) (by kernel_rfl) ?_
              refine xl_take (i := 0) (v := y16) rfl (by kernel_rfl) (by kernel_rfl) (by kernel_rfl) (by kernel_rfl) (yx_val (wantAll rfl) (fun w' hx' => rv_move rfl (fr_eval rfl e16))) ?_
              refine xl_take (i := 1) (v := .int .i64 ((j : Nat) : Int)) rfl (by kernel_rfl) (by kernel_rfl) (by kernel_rfl) (by kernel_rfl) (yx_val (wantAll rfl) (fun w' hx' => rv_move rfl (fr_eval rfl e17))) ?_
              refine xl_take (i := 2) (v := .pointer (some (elemA y16 (j * 32)))) rfl (by kernel_rfl) (by kernel_rfl) (by kernel_rfl) (by kernel_rfl) (yx_val (wantAll rfl) (fun w' hx' => rv_index rfl (fr_eval rfl rfl) (fr_eval rfl rfl) (rdN (Own.rd ((hH.ext hx').own (i := 5) rfl) (row_one cS_one)) rfl) (show j < l.length from (by omega)) Try.underlying41 Try.sz26 (by decide))) ?_
              refine xl_take (i := 3) (v := .agg (cBs (((List.getD l j zS)).1)).toArray) rfl (by kernel_rfl) (by kernel_rfl) (by kernel_rfl) (by kernel_rfl) (yx_val (wantAll rfl) (fun w' hx' => rv_loadElem rfl (fr_eval rfl rfl) (rdN (Own.rd ((hH.ext hx').own (i := 5) rfl) (row_one cS_one)) rfl) (show j < l.length from (by omega)) (by decide) (flat_part zS cS_len (show j < l.length from (by omega))) Try.underlying26 rfl Try.sz26)) ?_
              refine xl_take (i := 4) (v := y) rfl (by kernel_rfl) (by kernel_rfl) (by kernel_rfl) (by kernel_rfl) (yx_val (wantAll rfl) (fun w' hx' => rv_move rfl (fr_eval rfl e8))) ?_
              refine xl_take (i := 5) (v := .int .i64 ((j : Nat) : Int)) rfl (by kernel_rfl) (by kernel_rfl) (by kernel_rfl) (by kernel_rfl) (yx_val (wantAll rfl) (fun w' hx' => rv_move rfl (fr_eval rfl e17))) ?_
              refine xl_take (i := 6) (v := .pointer (some (elemA y (j * 32)))) rfl (by kernel_rfl) (by kernel_rfl) (by kernel_rfl) (by kernel_rfl) (yx_val (wantAll rfl) (fun w' hx' => rv_index rfl (fr_eval rfl rfl) (fr_eval rfl rfl) (rdN (Own.rd ((hH.ext hx').own (i := 2) rfl) (row_one cS_one)) rfl) (show j < l.length from (by omega)) Try.underlying41 Try.sz26 (by decide))) ?_
              refine xl_take (i := 7) (v := .agg (cBs (((List.getD l j zS)).1)).toArray) rfl (by kernel_rfl) (by kernel_rfl) (by kernel_rfl) (by kernel_rfl) (yx_val (wantAll rfl) (fun w' hx' => rv_loadElem rfl (fr_eval rfl rfl) (rdN (Own.rd ((hH.ext hx').own (i := 2) rfl) (row_one cS_one)) rfl) (show j < l.length from (by omega)) (by decide) (flat_part zS cS_len (show j < l.length from (by omega))) Try.underlying26 rfl Try.sz26)) ?_
              refine xl_take (i := 8) (v := .bool false) rfl (by kernel_rfl) (by kernel_rfl) (by kernel_rfl) (by kernel_rfl) (yx_val (wantAll rfl) (fun w' hx' => neT (b := true) rfl (fr_eval rfl rfl) (fr_eval rfl rfl) ((List.getD l j zS)).2 ((List.getD l j zS)).2 (beq_self_eq_true _))) ?_
              refine xl_take (i := 9) (v := .bool false) rfl (by kernel_rfl) (by kernel_rfl) (by kernel_rfl) (by kernel_rfl) (yx_val (wantAll rfl) (fun w' hx' => rv_move rfl (fr_eval rfl rfl))) ?_
              refine xl_take (i := 10) (v := .agg (cBs sg_t100.1).toArray) rfl (by kernel_rfl) (by kernel_rfl) (by kernel_rfl) (by kernel_rfl) (yx_val (wantF (d := 112) rfl (by kernel_rfl) rfl rfl) (fun w' hx' => rv_loadW rfl ((hH.ext hx').blk (i := 6) rfl) (fr_eval rfl e18) Try.underlying26 rfl (sz_len Try.sz26 (cBs_len sg_t100.2)))) ?_
              refine xl_take (i := 11) (v := y) rfl (by kernel_rfl) (by kernel_rfl) (by kernel_rfl) (by kernel_rfl) (yx_val (wantF (d := 112) rfl (by kernel_rfl) rfl rfl) (fun w' hx' => rv_move rfl (fr_eval rfl e8))) ?_
              refine xl_take (i := 12) (v := .int .i64 ((j : Nat) : Int)) rfl (by kernel_rfl) (by kernel_rfl) (by kernel_rfl) (by kernel_rfl) (yx_val (wantF (d := 112) rfl (by kernel_rfl) rfl rfl) (fun w' hx' => rv_move rfl (fr_eval rfl e17))) ?_
              refine xl_take (i := 13) (v := .pointer (some (elemA y (j * 32)))) rfl (by kernel_rfl) (by kernel_rfl) (by kernel_rfl) (by kernel_rfl) (yx_val (wantF (d := 112) rfl (by kernel_rfl) rfl rfl) (fun w' hx' => rv_index rfl (fr_eval rfl rfl) (fr_eval rfl rfl) (rdN (Own.rd ((hH.ext hx').own (i := 2) rfl) (row_one cS_one)) rfl) (show j < l.length from (by omega)) Try.underlying41 Try.sz26 (by decide))) ?_
              refine xl_take (i := 14) (v := .agg (cBs (((List.getD l j zS)).1)).toArray) rfl (by kernel_rfl) (by kernel_rfl) (by kernel_rfl) (by kernel_rfl) (yx_val (wantF (d := 112) rfl (by kernel_rfl) rfl rfl) (fun w' hx' => rv_loadElem rfl (fr_eval rfl rfl) (rdN (Own.rd ((hH.ext hx').own (i := 2) rfl) (row_one cS_one)) rfl) (show j < l.length from (by omega)) (by decide) (flat_part zS cS_len (show j < l.length from (by omega))) Try.underlying26 rfl Try.sz26)) ?_
              refine xl_tail (s := 15) rfl ?_
              intro w48 hx
              replace hH := hH.ext hx
              clear hx
              refine lf_val (v := .bool false) (wantF (d := 112) rfl (by kernel_rfl) rfl rfl) (neT rfl (fr_eval rfl rfl) (fr_eval rfl rfl) sg_t100.2 ((List.getD l j zS)).2 (b := true) (by rw [hq]; exact beq_self_eq_true _)) ?_
              refine lf_val (v := .bool false) (wantAll rfl) (rv_pickF rfl (fr_eval rfl rfl) (fr_eval rfl rfl)) ?_
              refine lf_val (v := .bool false) (wantAll rfl) (rv_move rfl (fr_eval rfl rfl)) ?_
              refine lf_val (wantF (d := 120) rfl (by kernel_rfl) rfl rfl) (rv_move rfl (fr_eval rfl e19)) ?_
              refine lf_val (v := .bool (decide (¬ (0 ≤ ((j : Nat) : Int) ∧ ((j : Nat) : Int) < l.length)))) (wantF (d := 120) rfl (by kernel_rfl) rfl rfl) (rv_notP (q := ¬ (0 ≤ ((j : Nat) : Int) ∧ ((j : Nat) : Int) < l.length)) rfl (fr_eval rfl rfl) Iff.rfl) ?_
              refine lf_val (v := .bool (decide (¬ (0 ≤ ((j : Nat) : Int) ∧ ((j : Nat) : Int) < l.length)))) (wantAll rfl) (rv_pickF rfl (fr_eval rfl rfl) (fr_eval rfl rfl)) ?_
              refine lf_nil ?_
              refine then_n ?_
              refine wp_gen (fun F' => F' 0 = vs ∧ F' 1 = .int .i64 a1 ∧ F' 2 = .int .i64 a2 ∧ F' 7 = .pointer (some ⟨g1, 0, none⟩) ∧ F' 8 = y ∧ F' 9 = .pointer (some ⟨g2, 0, none⟩) ∧ F' 10 = .int .i64 ((lc.length : Nat) : Int) ∧ F' 11 = .int .i64 ((i : Nat) : Int) ∧ F' 16 = y16 ∧ F' 17 = .int .i64 ((j : Nat) : Int) ∧ F' 18 = .pointer (some ⟨g9, 0, none⟩) ∧ F' 19 = .bool (decide (0 ≤ ((j : Nat) : Int) ∧ ((j : Nat) : Int) < l.length)) ∧ F' 32 = .bool false ∧ F' 90 = .bool false ∧ F' 94 = .bool true ∧ F' 123 = .bool (decide (¬ (0 ≤ ((j : Nat) : Int) ∧ ((j : Nat) : Int) < l.length)))) ⟨e0, e1, e2, e7, e8, e9, e10, e11, e16, e17, e18, e19, e32, e90, e94, rfl⟩ ?_
              clear e0 e1 e2 e7 e8 e9 e10 e11 e16 e17 e18 e19 e32 e90 e94
              clear F
              rintro F ⟨e0, e1, e2, e7, e8, e9, e10, e11, e16, e17, e18, e19, e32, e90, e94, e123⟩
              by_cases hc8 : 0 ≤ ((j : Nat) : Int) ∧ ((j : Nat) : Int) < l.length
              · refine wp_cond_false (fr_eval rfl (e123.trans (congrArg Value.bool (decide_eq_false (not_not_intro hc8))))) ?_
                refine wp_skip ?_
                refine blk_n ?_
                refine then_n ?_
                refine wp_regionF ?_
                refine lf_val (v := .int .i64 ((j : Nat) : Int)) (wantAll rfl) (rv_move rfl (fr_eval rfl e17)) ?_
                refine lf_val (v := .int .i64 ((j + 1 : Nat) : Int)) (wantAll rfl) (rv_add rfl (fr_eval rfl rfl) rfl (wrap_i64 (by omega) (by omega) (by omega))) ?_
                refine lf_val (v := .int .i64 ((j + 1 : Nat) : Int)) (wantAll rfl) (rv_assign rfl (fr_eval rfl rfl)) ?_
                refine lf_nil ?_
                refine then_n ?_
                replace hH : Heap _ _ _ [_, _, _, _, _, _] := hH.drop (.cons_cons _ (.cons_cons _ (.cons_cons _ (.cons_cons _ (.cons_cons _ (.cons_cons _ (.cons _ .slnil)))))))
                exact ⟨_, _, (by omega), rfl, j + 1, rfl, (by omega), e0, e1, e2, e7, e8, e9, e10, e11, e16, rfl, e32, e90, hH⟩
              · refine wp_cond_true (fr_eval rfl (e123.trans (congrArg Value.bool (decide_eq_true hc8)))) ?_
                refine wp_seq ?_
                refine wp_regionF ?_
                refine lf_val (v := .bool false) (wantAll rfl) (rv_assign rfl rfl) ?_
                refine lf_nil ?_
                refine then_n ?_
                refine wp_gen (fun F' => F' 0 = vs ∧ F' 1 = .int .i64 a1 ∧ F' 2 = .int .i64 a2 ∧ F' 6 = .bool false ∧ F' 7 = .pointer (some ⟨g1, 0, none⟩) ∧ F' 8 = y ∧ F' 9 = .pointer (some ⟨g2, 0, none⟩) ∧ F' 10 = .int .i64 ((lc.length : Nat) : Int) ∧ F' 11 = .int .i64 ((i : Nat) : Int) ∧ F' 16 = y16 ∧ F' 17 = .int .i64 ((j : Nat) : Int) ∧ F' 18 = .pointer (some ⟨g9, 0, none⟩) ∧ F' 19 = .bool (decide (0 ≤ ((j : Nat) : Int) ∧ ((j : Nat) : Int) < l.length)) ∧ F' 32 = .bool false ∧ F' 90 = .bool false ∧ F' 94 = .bool true ∧ F' 123 = .bool true) ⟨e0, e1, e2, rfl, e7, e8, e9, e10, e11, e16, e17, e18, e19, e32, e90, e94, (e123.trans (congrArg Value.bool (decide_eq_true hc8)))⟩ ?_
                clear e0 e1 e2 e7 e8 e9 e10 e11 e16 e17 e18 e19 e32 e90 e94 e123
                clear F
                rintro F ⟨e0, e1, e2, e6, e7, e8, e9, e10, e11, e16, e17, e18, e19, e32, e90, e94, e123⟩
                refine wp_ret ?_
                refine blk_ret ?_
                refine then_ret ?_
                refine then_ret ?_
                refine blk_ret ?_
                refine then_ret ?_
                exact bodyPost_ret (v := (.bool false)) (res1 rfl (ro_tmp rfl e6)) rfl (by exfalso; omega)
            · refine wp_cond_false (fr_eval rfl (e94.trans (congrArg Value.bool (decide_eq_false hc7)))) ?_
              refine wp_exit ?_
              refine then_exit ?_
              refine then_exit ?_
              refine blk_exit ?_
              refine then_n ?_
              refine wp_seq ?_
              refine wp_regionF ?_
              refine lf_val (v := .pointer (some ⟨g1, 0, none⟩)) (wantAll rfl) (rv_move rfl (fr_eval rfl e7)) ?_
              refine lf_val (v := .int .i64 a2) (wantAll rfl) (rv_move rfl (fr_eval rfl e2)) ?_
              refine lf_call (wantAll rfl) (rv_call (args := [.pointer (some ⟨g1, 0, none⟩), .int .i64 a2]) rfl (evc (fr_eval rfl rfl) (evc (fr_eval rfl rfl) evn)) Try.call31) (shGet_calls l (by omega) a2 (by omega) _ (hH.blk (i := 0) rfl) (Own.rd (hH.own (i := 3) rfl) (row_one cS_one))) ?_
              rintro _ w49 ⟨⟨sg_t127, rfl, hs_t127⟩, hx⟩
              refine ⟨_, rfl, ?_⟩
              replace hH := hH.ext hx
              clear hx
              refine lf_val (v := .tuple #[.agg (cBs sg_t127.1).toArray, .bool (decide (0 ≤ a2 ∧ a2 < l.length))]) (wantAll rfl) (rv_move rfl (fr_eval rfl rfl)) ?_
              refine lf_val (v := .agg (cBs sg_t127.1).toArray) (wantAll rfl) (rv_extract rfl (fr_eval rfl rfl) rfl) ?_
              refine lf_val (v := .bool (decide (0 ≤ a2 ∧ a2 < l.length))) (wantAll rfl) (rv_extract rfl (fr_eval rfl rfl) rfl) ?_
              refine lf_ex (wantAll rfl) (hx_alloc hH 26 (z := .agg (cBs (List.replicate 32 0)).toArray) (n := 32) (cs := cBs (List.replicate 32 0)) rfl (by kernel_rfl) (by rfl)) ?_
              clear hH
              rintro _ w50 ⟨g10, rfl, hH, hx⟩
              replace hH : Heap _ _ _ [_, _, _, _, _, _, _] := hH
              clear hx
              refine lf_sk (wantAll rfl) (hx_storeW hH (i := 6) (cs := cBs sg_t127.1) rfl rfl rfl (fr_eval rfl rfl) (fr_eval rfl rfl) (sz_len Try.sz26 (cBs_len sg_t127.2)) (((cBs_len (List.length_replicate ..))).trans ((cBs_len sg_t127.2)).symm) ((cBs_one _))) ?_
              clear hH
              rintro w51 ⟨hH, hx⟩
              replace hH : Heap _ _ _ [_, _, _, _, _, _, _] := hH
              clear hx
              refine lf_val (v := .bool (decide (0 ≤ a2 ∧ a2 < l.length))) (wantAll rfl) (rv_assign rfl (fr_eval rfl rfl)) ?_
              refine lf_nil ?_
              refine then_n ?_
              refine wp_seq ?_
              replace hH : Heap _ _ _ [_, _, _, _, _, _] := hH.drop (.cons_cons _ (.cons_cons _ (.cons_cons _ (.cons_cons _ (.cons_cons _ (.cons_cons _ (.cons _ .slnil)))))))
              refine wp_gen (fun F' => F' 0 = vs ∧ F' 1 = .int .i64 a1 ∧ F' 2 = .int .i64 a2 ∧ F' 7 = .pointer (some ⟨g1, 0, none⟩) ∧ F' 8 = y ∧ F' 9 = .pointer (some ⟨g2, 0, none⟩) ∧ F' 10 = .int .i64 ((lc.length : Nat) : Int) ∧ F' 11 = .int .i64 ((i : Nat) : Int) ∧ F' 16 = y16 ∧ F' 17 = .int .i64 ((j : Nat) : Int) ∧ F' 21 = .bool (decide (0 ≤ a2 ∧ a2 < l.length)) ∧ F' 32 = .bool false ∧ F' 90 = .bool false ∧ F' 94 = .bool false) ⟨e0, e1, e2, e7, e8, e9, e10, e11, e16, e17, rfl, e32, e90, (e94.trans (congrArg Value.bool (decide_eq_false hc7)))⟩ ?_
              clear e0 e1 e2 e7 e8 e9 e10 e11 e16 e17 e32 e90 e94
              clear F
              rintro F ⟨e0, e1, e2, e7, e8, e9, e10, e11, e16, e17, e21, e32, e90, e94⟩
              refine wp_regionF ?_
              refine lf_val (v := .bool (decide (0 ≤ a2 ∧ a2 < l.length))) (wantAll rfl) (rv_move rfl (fr_eval rfl e21)) ?_
              refine lf_val (v := .int .i64 a2) (wantAll rfl) (rv_move rfl (fr_eval rfl e2)) ?_
              refine lf_val (v := .bool (decide (a2 ≥ 0))) (wantAll rfl) (rv_geqP (p := a2 ≥ 0) rfl (fr_eval rfl rfl) rfl Iff.rfl) ?_
              refine lf_val (v := .bool (decide (a2 ≥ 0))) (wantAll rfl) (rv_move rfl (fr_eval rfl rfl)) ?_
              refine lf_joinP (fun F' => F' 0 = vs ∧ F' 1 = .int .i64 a1 ∧ F' 2 = .int .i64 a2 ∧ F' 7 = .pointer (some ⟨g1, 0, none⟩) ∧ F' 8 = y ∧ F' 9 = .pointer (some ⟨g2, 0, none⟩) ∧ F' 10 = .int .i64 ((lc.length : Nat) : Int) ∧ F' 11 = .int .i64 ((i : Nat) : Int) ∧ F' 16 = y16 ∧ F' 17 = .int .i64 ((j : Nat) : Int) ∧ F' 21 = .bool (decide (0 ≤ a2 ∧ a2 < l.length)) ∧ F' 32 = .bool false ∧ F' 90 = .bool false ∧ F' 94 = .bool false ∧ F' 130 = .bool (decide (0 ≤ a2 ∧ a2 < l.length)) ∧ F' 138 = .bool (decide ((a2 ≥ 0) ∧ (a2 < ((l.length : Nat) : Int))))) 5 (fun hk => ?_) ?_
              · by_cases hc9 : a2 ≥ 0
                · refine lf_val (v := .int .i64 a2) (wantF (d := 133) rfl (by kernel_rfl) rfl (congrArg Value.bool (decide_eq_true hc9))) (rv_move rfl (fr_eval rfl e2)) ?_
                  refine lf_val (v := y) (wantF (d := 133) rfl (by kernel_rfl) rfl (congrArg Value.bool (decide_eq_true hc9))) (rv_move rfl (fr_eval rfl e8)) ?_
                  refine lf_val (v := .int .i64 ((l.length : Nat) : Int)) (wantF (d := 133) rfl (by kernel_rfl) rfl (congrArg Value.bool (decide_eq_true hc9))) (rv_len rfl (fr_eval rfl rfl) (Own.rd (hH.own (i := 2) rfl) (row_one cS_one)) Try.underlying41) ?_
                  refine lf_val (v := .bool (decide (a2 < ((l.length : Nat) : Int)))) (wantF (d := 133) rfl (by kernel_rfl) rfl (congrArg Value.bool (decide_eq_true hc9))) (rv_lssP (p := a2 < ((l.length : Nat) : Int)) rfl (fr_eval rfl rfl) (fr_eval rfl rfl) Iff.rfl) ?_
                  refine lf_val (v := .bool (decide (a2 < ((l.length : Nat) : Int)))) (wantAll rfl) (rv_pickT rfl (fr_eval rfl (congrArg Value.bool (decide_eq_true hc9))) (fr_eval rfl rfl)) ?_
                  exact hk _ ⟨e0, e1, e2, e7, e8, e9, e10, e11, e16, e17, e21, e32, e90, e94, rfl, (congrArg Value.bool (dec_and hc9))⟩
                · refine lf_not (wantNot (d := 133) rfl (by kernel_rfl) rfl (congrArg Value.bool (decide_eq_false hc9))) ?_
                  refine lf_not (wantNot (d := 133) rfl (by kernel_rfl) rfl (congrArg Value.bool (decide_eq_false hc9))) ?_
                  refine lf_not (wantNot (d := 133) rfl (by kernel_rfl) rfl (congrArg Value.bool (decide_eq_false hc9))) ?_
                  refine lf_not (wantNot (d := 133) rfl (by kernel_rfl) rfl (congrArg Value.bool (decide_eq_false hc9))) ?_
                  refine lf_val (v := .bool false) (wantAll rfl) (rv_pickF rfl (fr_eval rfl (congrArg Value.bool (decide_eq_false hc9))) rfl) ?_
                  exact hk _ ⟨e0, e1, e2, e7, e8, e9, e10, e11, e16, e17, e21, e32, e90, e94, rfl, (congrArg Value.bool (dec_andF hc9))⟩
              · clear e0 e1 e2 e7 e8 e9 e10 e11 e16 e17 e21 e32 e90 e94
                clear F
                rintro F ⟨e0, e1, e2, e7, e8, e9, e10, e11, e16, e17, e21, e32, e90, e94, e130, e138⟩
                refine lf_val (v := .bool (decide ((0 ≤ a2 ∧ a2 < l.length) ↔ ((a2 ≥ 0) ∧ (a2 < ((l.length : Nat) : Int)))))) (wantAll rfl) (rv_eqbP rfl (fr_eval rfl e130) (fr_eval rfl e138) Try.underlying4) ?_
                refine lf_val (v := .bool (decide ((0 ≤ a2 ∧ a2 < l.length) ↔ ((a2 ≥ 0) ∧ (a2 < ((l.length : Nat) : Int)))))) (wantAll rfl) (rv_move rfl (fr_eval rfl rfl)) ?_
                refine lf_join (fun F' w' => F' 0 = vs ∧ F' 1 = .int .i64 a1 ∧ F' 2 = .int .i64 a2 ∧ F' 7 = .pointer (some ⟨g1, 0, none⟩) ∧ F' 8 = y ∧ F' 9 = .pointer (some ⟨g2, 0, none⟩) ∧ F' 10 = .int .i64 ((lc.length : Nat) : Int) ∧ F' 11 = .int .i64 ((i : Nat) : Int) ∧ F' 16 = y16 ∧ F' 17 = .int .i64 ((j : Nat) : Int) ∧ F' 21 = .bool (decide (0 ≤ a2 ∧ a2 < l.length)) ∧ F' 32 = .bool false ∧ F' 90 = .bool false ∧ F' 94 = .bool false ∧ F' 142 = .bool (decide ((0 ≤ a2 ∧ a2 < l.length) ↔ ((a2 ≥ 0) ∧ (a2 < ((l.length : Nat) : Int))))) ∧ Heap (newN w) w w' [oBlk g1 ([u]) 43, oBlk g2 ([c]) 43, oRow cS 26 32 y l, oRow cS 26 32 u l, oRow cS 26 32 c lc, oRow cS 26 32 y16 l]) 2 (fun hk => ?_) ?_
                · by_cases hc10 : (0 ≤ a2 ∧ a2 < l.length) ↔ ((a2 ≥ 0) ∧ (a2 < ((l.length : Nat) : Int)))
                  · refine lf_call (wantF (d := 140) rfl (by kernel_rfl) rfl (congrArg Value.bool (decide_eq_true hc10))) (rv_call (args := []) rfl evn Try.call23) (awake13_calls _) ?_
                    rintro _ w52 ⟨rfl, hx⟩
                    refine ⟨_, rfl, ?_⟩
                    replace hH := hH.ext hx
                    clear hx
                    refine lf_val (v := .bool true) (wantAll rfl) (rv_pickT rfl (fr_eval rfl (congrArg Value.bool (decide_eq_true hc10))) (fr_eval rfl rfl)) ?_
                    exact hk _ _ ⟨e0, e1, e2, e7, e8, e9, e10, e11, e16, e17, e21, e32, e90, e94, (congrArg Value.bool (dec_t hc10)), hH⟩
                  · refine lf_not (wantNot (d := 140) rfl (by kernel_rfl) rfl (congrArg Value.bool (decide_eq_false hc10))) ?_
                    refine lf_val (v := .bool false) (wantAll rfl) (rv_pickF rfl (fr_eval rfl (congrArg Value.bool (decide_eq_false hc10))) rfl) ?_
                    exact hk _ _ ⟨e0, e1, e2, e7, e8, e9, e10, e11, e16, e17, e21, e32, e90, e94, (congrArg Value.bool (dec_f hc10)), hH⟩
                · clear e0 e1 e2 e7 e8 e9 e10 e11 e16 e17 e21 e32 e90 e94 e130 e138 hH
                  clear F
                  rintro F w53 ⟨e0, e1, e2, e7, e8, e9, e10, e11, e16, e17, e21, e32, e90, e94, e142, hH⟩
                  refine lf_val (wantAll rfl) (rv_assign rfl (fr_eval rfl e142)) ?_
                  refine lf_nil ?_
                  refine then_n ?_
                  refine wp_gen (fun F' => F' 0 = vs ∧ F' 1 = .int .i64 a1 ∧ F' 2 = .int .i64 a2 ∧ F' 6 = .bool (decide ((0 ≤ a2 ∧ a2 < l.length) ↔ ((a2 ≥ 0) ∧ (a2 < ((l.length : Nat) : Int))))) ∧ F' 7 = .pointer (some ⟨g1, 0, none⟩) ∧ F' 8 = y ∧ F' 9 = .pointer (some ⟨g2, 0, none⟩) ∧ F' 10 = .int .i64 ((lc.length : Nat) : Int) ∧ F' 11 = .int .i64 ((i : Nat) : Int) ∧ F' 16 = y16 ∧ F' 17 = .int .i64 ((j : Nat) : Int) ∧ F' 21 = .bool (decide (0 ≤ a2 ∧ a2 < l.length)) ∧ F' 32 = .bool false ∧ F' 90 = .bool false ∧ F' 94 = .bool false) ⟨e0, e1, e2, rfl, e7, e8, e9, e10, e11, e16, e17, e21, e32, e90, e94⟩ ?_
                  clear e0 e1 e2 e7 e8 e9 e10 e11 e16 e17 e21 e32 e90 e94 e142
                  clear F
                  rintro F ⟨e0, e1, e2, e6, e7, e8, e9, e10, e11, e16, e17, e21, e32, e90, e94⟩
                  refine wp_ret ?_
                  exact bodyPost_ret (res1 rfl (ro_tmp rfl e6)) rfl (⟨congrArg (fun b => Ending.returned (.bool b)) (decide_eq_true (by omega)), hH.done⟩)

end Go.Proofs.Yticaefnpapppoaa
