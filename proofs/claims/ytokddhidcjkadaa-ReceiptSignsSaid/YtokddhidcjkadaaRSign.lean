/- Chapter 12: receipts that a key signs: the walk of ReceiptSigns. -/
import Derived.Test.YtokddhidcjkadaaManys2
import Derived.Test.YtokddhidcjkadaaOpenP
import Derived.Test.YtokddhidcjkadaaGets12
namespace Go.Bz.Rcpt
open Go.RowKit Go.Bz
theorem getD_memR {α : Type} {l : List α} {i : Nat} {d : α} (h : i < l.length) : l.getD i d ∈ l := by
  rw [List.getD_eq_getElem?_getD, List.getElem?_eq_getElem h]; exact List.getElem_mem _
def cRc (r : Rc) : List Value := (([.int .i64 r.t, .int .i64 r.c, .int .i64 r.s] : List Value) ++ (cBs r.h.1 ++ cBs r.b.1))
theorem cRc_ln (r : Rc) : (cRc r).length = 67 := by simp [cRc, r.h.2, r.b.2]
theorem cRc_len {l : List Rc} : ∀ x ∈ l, (cRc x).length = 67 := fun x _ => cRc_ln x
theorem cRc_one : ∀ x, ∀ u ∈ cRc x, u.oneCell' = true := fun x => ones_app (ones_cons rfl (ones_cons rfl (ones_cons rfl ones_nil))) (ones_app (cBs_one _) (cBs_one _))
end Go.Bz.Rcpt
namespace Go.Proofs.Ytokddhidcjkadaa
open Go.RowKit Go.Bz Go.Bz.Sha Go.Bz.Lamp Go.Bz.Merkle Go.Bz.Wire Go.Bz.Many Go.Bz.Rcpt
attribute [local irreducible] wpList Code.wp wpAnyX sigs backK

theorem zRS_l0 {a0 : Value} {a1 : Value} {a2 : Value} {a3 : List UInt8} (ha3 : a3.length = 32) {a4 : List UInt8} (ha4 : a4.length = 32) : List.length (([a0, a1, a2] : List Value) ++ (cBs a3 ++ cBs a4)) = 67 := (len_app (m := 3) (n := 64) (k := 67) rfl (len_app (m := 32) (n := 32) (k := 64) (cBs_len ha3) (cBs_len ha4) rfl) rfl)
theorem zRS_p1 {a0 : Value} {a1 : Value} {a2 : Value} {a3 : List UInt8} (ha3 : a3.length = 32) {a4 : List UInt8} (ha4 : a4.length = 32) {a5 : Value} : List.take 67 (List.drop 0 (([a0, a1, a2] : List Value) ++ (cBs a3 ++ (cBs a4 ++ ([a5] : List Value))))) = ([a0, a1, a2] : List Value) ++ (cBs a3 ++ cBs a4) := (part_of (cs := ([a0, a1, a2] : List Value) ++ (cBs a3 ++ (cBs a4 ++ ([a5] : List Value)))) (A := ([] : List Value)) (D := (([a0, a1, a2] : List Value) ++ (cBs a3 ++ cBs a4) : List Value)) (C := ([a5] : List Value)) (by simp) (show List.length ([] : List Value) = 0 from rfl) (len_app (m := 3) (n := 64) (k := 67) rfl (len_app (m := 32) (n := 32) (k := 64) (cBs_len ha3) (cBs_len ha4) rfl) rfl))
theorem zRS_g2 {a0 : Value} {a1 : Value} {a2 : Value} {a3 : List UInt8} (ha3 : a3.length = 32) {a4 : List UInt8} (ha4 : a4.length = 32) {a5 : Value} : (([a0, a1, a2] : List Value) ++ (cBs a3 ++ (cBs a4 ++ ([a5] : List Value))))[67]? = some a5 := (get_of (cs := ([a0, a1, a2] : List Value) ++ (cBs a3 ++ (cBs a4 ++ ([a5] : List Value)))) (A := (([a0, a1, a2] : List Value) ++ (cBs a3 ++ cBs a4) : List Value)) (D := ([a5] : List Value)) (C := ([] : List Value)) (o := 67) (j := 0) (by simp) (len_app (m := 3) (n := 64) (k := 67) rfl (len_app (m := 32) (n := 32) (k := 64) (cBs_len ha3) (cBs_len ha4) rfl) rfl) rfl (show ([a5] : List Value)[0]? = some (a5) from rfl))
theorem zRS_l3 {a0 : Value} {a1 : Value} {a2 : Value} {a3 : List UInt8} (ha3 : a3.length = 32) {a4 : List UInt8} (ha4 : a4.length = 32) {a5 : Value} : List.length (([a0, a1, a2] : List Value) ++ (cBs a3 ++ (cBs a4 ++ ([a5] : List Value)))) = 68 := (len_app (m := 3) (n := 65) (k := 68) rfl (len_app (m := 32) (n := 33) (k := 65) (cBs_len ha3) (len_app (m := 32) (n := 1) (k := 33) (cBs_len ha4) rfl rfl) rfl) rfl)
theorem zRS_y4 {a0 : Value} {a1 : Value} {a2 : Value} {a3 : List UInt8} (ha3 : a3.length = 32) {a4 : List UInt8} (ha4 : a4.length = 32) {a5 : Value} {n0 : Value} {n1 : Value} {n2 : Value} {n3 : List UInt8} (hn3 : n3.length = 32) {n4 : List UInt8} (hn4 : n4.length = 32) : lay (([a0, a1, a2] : List Value) ++ (cBs a3 ++ (cBs a4 ++ ([a5] : List Value)))) 0 (([n0, n1, n2] : List Value) ++ (cBs n3 ++ cBs n4)) = ([n0, n1, n2] : List Value) ++ (cBs n3 ++ (cBs n4 ++ ([a5] : List Value))) := (lay_of (cur := ([a0, a1, a2] : List Value) ++ (cBs a3 ++ (cBs a4 ++ ([a5] : List Value)))) (cs := ([n0, n1, n2] : List Value) ++ (cBs n3 ++ cBs n4)) (cur' := ([n0, n1, n2] : List Value) ++ (cBs n3 ++ (cBs n4 ++ ([a5] : List Value)))) (A := ([] : List Value)) (D := (([a0, a1, a2] : List Value) ++ (cBs a3 ++ cBs a4) : List Value)) (C := ([a5] : List Value)) (by simp) (by simp) (show List.length ([] : List Value) = 0 from rfl) ((len_app (m := 3) (n := 64) (k := 67) rfl (len_app (m := 32) (n := 32) (k := 64) (cBs_len ha3) (cBs_len ha4) rfl) rfl).trans (len_app (m := 3) (n := 64) (k := 67) rfl (len_app (m := 32) (n := 32) (k := 64) (cBs_len hn3) (cBs_len hn4) rfl) rfl).symm))
theorem zRS_y5 {a0 : Value} {a1 : Value} {a2 : Value} {a3 : List UInt8} (ha3 : a3.length = 32) {a4 : List UInt8} (ha4 : a4.length = 32) {a5 : Value} {n0 : Value} : lay (([a0, a1, a2] : List Value) ++ (cBs a3 ++ (cBs a4 ++ ([a5] : List Value)))) 67 ([n0]) = ([a0, a1, a2] : List Value) ++ (cBs a3 ++ (cBs a4 ++ ([n0] : List Value))) := (lay_of (cur := ([a0, a1, a2] : List Value) ++ (cBs a3 ++ (cBs a4 ++ ([a5] : List Value)))) (cs := [n0]) (cur' := ([a0, a1, a2] : List Value) ++ (cBs a3 ++ (cBs a4 ++ ([n0] : List Value)))) (A := (([a0, a1, a2] : List Value) ++ (cBs a3 ++ cBs a4) : List Value)) (D := ([a5] : List Value)) (C := ([] : List Value)) (by simp) (by simp) (len_app (m := 3) (n := 64) (k := 67) rfl (len_app (m := 32) (n := 32) (k := 64) (cBs_len ha3) (cBs_len ha4) rfl) rfl) ((show List.length [a5] = 1 from rfl).trans (show List.length [n0] = 1 from rfl).symm))
theorem zRS_o6 {a0 : Value} {a1 : Value} {a2 : Value} {a3 : List UInt8} {a4 : List UInt8} {a5 : Value} (qa0 : a0.oneCell' = true) (qa1 : a1.oneCell' = true) (qa2 : a2.oneCell' = true) (qa5 : a5.oneCell' = true) : ∀ u ∈ (([a0, a1, a2] : List Value) ++ (cBs a3 ++ (cBs a4 ++ ([a5] : List Value)))), u.oneCell' = true := (ones_app (ones_cons qa0 (ones_cons qa1 (ones_cons qa2 ones_nil))) (ones_app (cBs_one _) (ones_app (cBs_one _) (ones_cons qa5 ones_nil))))
set_option maxRecDepth 100000 in
set_option maxHeartbeats 4000000 in
theorem rcSign_bad (r : Rc) (hri : ¬ inR r) (u : Value) (w : World) :
    Calls Try.prog 54 #[u, .agg (([.int .i64 r.t, .int .i64 r.c, .int .i64 r.s] : List Value) ++ (cBs r.h.1 ++ cBs r.b.1)).toArray] w fun e'' w' => e'' = .returned (.tuple #[.slice none 0 0, .int .i64 1]) ∧ Ext w w' := by
  refine calls_fr (args := [u, .agg (([.int .i64 r.t, .int .i64 r.c, .int .i64 r.s] : List Value) ++ (cBs r.h.1 ++ cBs r.b.1)).toArray]) (n := 15) Try.func54 rfl rfl (show 2 ≤ 15 by decide) ?_
  have hH : Heap (newN w) w w [] := Heap.fresh
  refine wp_seq ?_
  refine wp_gen (fun F' => F' 0 = u ∧ F' 1 = .agg (([.int .i64 r.t, .int .i64 r.c, .int .i64 r.s] : List Value) ++ (cBs r.h.1 ++ cBs r.b.1)).toArray) ⟨rfl, rfl⟩ ?_
  rintro F ⟨e0, e1⟩
  refine wp_regionF ?_
  refine lf_ex (wantAll rfl) (hx_box hH 93 (cs := ([.int .i64 r.t, .int .i64 r.c, .int .i64 r.s] : List Value) ++ (cBs r.h.1 ++ cBs r.b.1)) rfl (fr_eval rfl e1) (by rfl)) ?_
  clear hH
  rintro _ w1 ⟨g1, rfl, hH, hx⟩
  replace hH : Heap _ _ _ [_] := hH
  clear hx
  refine lf_val (v := .slice none 0 0) (wantAll rfl) (rv_assign rfl rfl) ?_
  refine lf_val (v := .int .i64 0) (wantAll rfl) (rv_assign rfl rfl) ?_
  refine lf_nil ?_
  refine then_n ?_
  refine wp_seq ?_
  refine wp_seq ?_
  refine wp_gen (fun F' => F' 0 = u ∧ F' 1 = .agg (([.int .i64 r.t, .int .i64 r.c, .int .i64 r.s] : List Value) ++ (cBs r.h.1 ++ cBs r.b.1)).toArray ∧ F' 3 = .pointer (some ⟨g1, 0, none⟩) ∧ F' 4 = .slice none 0 0 ∧ F' 5 = .int .i64 0) ⟨e0, e1, rfl, rfl, rfl⟩ ?_
  clear e0 e1
  clear F
  rintro F ⟨e0, e1, e3, e4, e5⟩
  refine wp_regionF ?_
  refine lf_val (wantAll rfl) (rv_loadW rfl (hH.blk (i := 0) rfl) (fr_eval rfl e3) Try.underlying93 rfl (sz_len Try.sz93 (zRS_l0 r.h.2 r.b.2))) ?_
  refine lf_call (wantAll rfl) (rv_call (args := [.agg (([.int .i64 r.t, .int .i64 r.c, .int .i64 r.s] : List Value) ++ (cBs r.h.1 ++ cBs r.b.1)).toArray]) rfl (evc (fr_eval rfl rfl) evn) Try.call76) (calls_known (b' := false) (rcRight_calls r _) (decide_eq_false hri)) ?_
  rintro _ w2 ⟨rfl, hx⟩
  refine ⟨_, rfl, ?_⟩
  replace hH := hH.ext hx
  clear hx
  refine lf_val (v := .bool true) (wantAll rfl) (rv_not (b := false) rfl (fr_eval rfl rfl)) ?_
  refine lf_nil ?_
  refine then_n ?_
  refine wp_gen (fun F' => F' 0 = u ∧ F' 1 = .agg (([.int .i64 r.t, .int .i64 r.c, .int .i64 r.s] : List Value) ++ (cBs r.h.1 ++ cBs r.b.1)).toArray ∧ F' 3 = .pointer (some ⟨g1, 0, none⟩) ∧ F' 4 = .slice none 0 0 ∧ F' 5 = .int .i64 0 ∧ F' 8 = .bool true) ⟨e0, e1, e3, e4, e5, rfl⟩ ?_
  clear e0 e1 e3 e4 e5
  clear F
  rintro F ⟨e0, e1, e3, e4, e5, e8⟩
  refine wp_cond_true (fr_eval rfl e8) ?_
  refine wp_seq ?_
  refine wp_regionF ?_
  refine lf_val (v := .slice none 0 0) (wantAll rfl) (rv_assign rfl rfl) ?_
  refine lf_val (v := .int .i64 1) (wantAll rfl) (rv_assign rfl rfl) ?_
  refine lf_nil ?_
  refine then_n ?_
  refine wp_gen (fun F' => F' 0 = u ∧ F' 1 = .agg (([.int .i64 r.t, .int .i64 r.c, .int .i64 r.s] : List Value) ++ (cBs r.h.1 ++ cBs r.b.1)).toArray ∧ F' 3 = .pointer (some ⟨g1, 0, none⟩) ∧ F' 4 = .slice none 0 0 ∧ F' 5 = .int .i64 1 ∧ F' 8 = .bool true) ⟨e0, e1, e3, rfl, rfl, e8⟩ ?_
  clear e0 e1 e3 e4 e5 e8
  clear F
  rintro F ⟨e0, e1, e3, e4, e5, e8⟩
  refine wp_ret ?_
  refine then_ret ?_
  exact bodyPost_ret (v := .tuple #[.slice none 0 0, .int .i64 1]) (res2 rfl (ro_tmp rfl e4) (ro_tmp rfl e5)) rfl (⟨rfl, hH.done⟩)

set_option maxRecDepth 100000 in
set_option maxHeartbeats 4000000 in
theorem rcSign_used {g : Nat} {v : Value} (s : S32) (l : List S32) (hl : l.length ≤ 1000000) (r : Rc) (hri : inR r) (w : World) (hB0 : Blk w g (cBs s.1 ++ ([v, .int .i64 ((l.length : Nat) : Int)] : List Value)) 108) (hr0 : Rd w 32 v l.length (l.flatMap cS)) :
    Calls Try.prog 54 #[.pointer (some ⟨g, 0, none⟩), .agg (([.int .i64 r.t, .int .i64 r.c, .int .i64 r.s] : List Value) ++ (cBs r.h.1 ++ cBs r.b.1)).toArray] w fun e'' w' => e'' = .returned (.tuple #[.slice none 0 0, .int .i64 15]) ∧ Ext w w' := by
  refine calls_fr (args := [.pointer (some ⟨g, 0, none⟩), .agg (([.int .i64 r.t, .int .i64 r.c, .int .i64 r.s] : List Value) ++ (cBs r.h.1 ++ cBs r.b.1)).toArray]) (n := 15) Try.func54 rfl rfl (show 2 ≤ 15 by decide) ?_
  have hin := inR_in hri
  have htl := textR_len r
  have hr := Rd.stab hr0
  have hB := Blk.stab hB0
  have hH : Heap (newN w) w w [] := Heap.fresh
  refine wp_seq ?_
  refine wp_gen (fun F' => F' 0 = .pointer (some ⟨g, 0, none⟩) ∧ F' 1 = .agg (([.int .i64 r.t, .int .i64 r.c, .int .i64 r.s] : List Value) ++ (cBs r.h.1 ++ cBs r.b.1)).toArray) ⟨rfl, rfl⟩ ?_
  rintro F ⟨e0, e1⟩
  refine wp_regionF ?_
  refine lf_ex (wantAll rfl) (hx_box hH 93 (cs := ([.int .i64 r.t, .int .i64 r.c, .int .i64 r.s] : List Value) ++ (cBs r.h.1 ++ cBs r.b.1)) rfl (fr_eval rfl e1) (by rfl)) ?_
  clear hH
  rintro _ w1 ⟨g1, rfl, hH, hx⟩
  replace hH : Heap _ _ _ [_] := hH
  clear hx
  refine lf_val (v := .slice none 0 0) (wantAll rfl) (rv_assign rfl rfl) ?_
  refine lf_val (v := .int .i64 0) (wantAll rfl) (rv_assign rfl rfl) ?_
  refine lf_nil ?_
  refine then_n ?_
  refine wp_seq ?_
  refine wp_seq ?_
  refine wp_gen (fun F' => F' 0 = .pointer (some ⟨g, 0, none⟩) ∧ F' 1 = .agg (([.int .i64 r.t, .int .i64 r.c, .int .i64 r.s] : List Value) ++ (cBs r.h.1 ++ cBs r.b.1)).toArray ∧ F' 3 = .pointer (some ⟨g1, 0, none⟩) ∧ F' 4 = .slice none 0 0 ∧ F' 5 = .int .i64 0) ⟨e0, e1, rfl, rfl, rfl⟩ ?_
  clear e0 e1
  clear F
  rintro F ⟨e0, e1, e3, e4, e5⟩
  refine wp_regionF ?_
  refine lf_val (wantAll rfl) (rv_loadW rfl (hH.blk (i := 0) rfl) (fr_eval rfl e3) Try.underlying93 rfl (sz_len Try.sz93 (zRS_l0 r.h.2 r.b.2))) ?_
  refine lf_call (wantAll rfl) (rv_call (args := [.agg (([.int .i64 r.t, .int .i64 r.c, .int .i64 r.s] : List Value) ++ (cBs r.h.1 ++ cBs r.b.1)).toArray]) rfl (evc (fr_eval rfl rfl) evn) Try.call76) (calls_known (b' := true) (rcRight_calls r _) (decide_eq_true hri)) ?_
  rintro _ w2 ⟨rfl, hx⟩
  refine ⟨_, rfl, ?_⟩
  replace hH := hH.ext hx
  clear hx
  refine lf_val (v := .bool false) (wantAll rfl) (rv_not (b := true) rfl (fr_eval rfl rfl)) ?_
  refine lf_nil ?_
  refine then_n ?_
  refine wp_gen (fun F' => F' 0 = .pointer (some ⟨g, 0, none⟩) ∧ F' 1 = .agg (([.int .i64 r.t, .int .i64 r.c, .int .i64 r.s] : List Value) ++ (cBs r.h.1 ++ cBs r.b.1)).toArray ∧ F' 3 = .pointer (some ⟨g1, 0, none⟩) ∧ F' 4 = .slice none 0 0 ∧ F' 5 = .int .i64 0 ∧ F' 8 = .bool false) ⟨e0, e1, e3, e4, e5, rfl⟩ ?_
  clear e0 e1 e3 e4 e5
  clear F
  rintro F ⟨e0, e1, e3, e4, e5, e8⟩
  refine wp_cond_false (fr_eval rfl e8) ?_
  refine wp_skip ?_
  refine then_n ?_
  refine wp_seq ?_
  refine wp_regionF ?_
  refine lf_val (v := .pointer (some ⟨g, 0, none⟩)) (wantAll rfl) (rv_move rfl (fr_eval rfl e0)) ?_
  refine lf_val (wantAll rfl) (rv_loadW rfl (hH.blk (i := 0) rfl) (fr_eval rfl e3) Try.underlying93 rfl (sz_len Try.sz93 (zRS_l0 r.h.2 r.b.2))) ?_
  refine lf_call (wantAll rfl) (rv_call (args := [.agg (([.int .i64 r.t, .int .i64 r.c, .int .i64 r.s] : List Value) ++ (cBs r.h.1 ++ cBs r.b.1)).toArray]) rfl (evc (fr_eval rfl rfl) evn) Try.call77) (rcText_calls r hin _) ?_
  rintro _ w3 ⟨⟨y1, rfl, ho, hg⟩, hx⟩
  refine ⟨_, rfl, ?_⟩
  replace hH : Heap _ _ _ [_, _] := hH.addOwn hx hg ho
  clear ho hg
  clear hx
  refine lf_call (wantAll rfl) (rv_call (args := [.pointer (some ⟨g, 0, none⟩), y1]) rfl (evc (fr_eval rfl rfl) (evc (fr_eval rfl rfl) evn)) Try.call39) (kSign_no s l (by omega) _ _ (hB _ hH.chg) (hr.rd _ hH.chg)) ?_
  rintro _ w4 ⟨rfl, hx⟩
  refine ⟨_, rfl, ?_⟩
  replace hH := hH.ext hx
  clear hx
  refine lf_val (v := .slice none 0 0) (wantAll rfl) (rv_extract rfl (fr_eval rfl rfl) rfl) ?_
  refine lf_val (v := .int .i64 15) (wantAll rfl) (rv_extract rfl (fr_eval rfl rfl) rfl) ?_
  refine lf_val (v := .slice none 0 0) (wantAll rfl) (rv_assign rfl (fr_eval rfl rfl)) ?_
  refine lf_val (v := .int .i64 15) (wantAll rfl) (rv_assign rfl (fr_eval rfl rfl)) ?_
  refine lf_nil ?_
  refine then_n ?_
  replace hH : Heap _ _ _ [_] := hH.drop (.cons_cons _ (.cons _ .slnil))
  refine wp_gen (fun F' => F' 0 = .pointer (some ⟨g, 0, none⟩) ∧ F' 1 = .agg (([.int .i64 r.t, .int .i64 r.c, .int .i64 r.s] : List Value) ++ (cBs r.h.1 ++ cBs r.b.1)).toArray ∧ F' 3 = .pointer (some ⟨g1, 0, none⟩) ∧ F' 4 = .slice none 0 0 ∧ F' 5 = .int .i64 15 ∧ F' 8 = .bool false) ⟨e0, e1, e3, rfl, rfl, e8⟩ ?_
  clear e0 e1 e3 e4 e5 e8
  clear F
  rintro F ⟨e0, e1, e3, e4, e5, e8⟩
  refine wp_ret ?_
  exact bodyPost_ret (v := .tuple #[.slice none 0 0, .int .i64 15]) (res2 rfl (ro_tmp rfl e4) (ro_tmp rfl e5)) rfl (⟨rfl, hH.done⟩)

set_option maxRecDepth 100000 in
set_option maxHeartbeats 4000000 in
theorem rcSign_yes {g : Nat} {v : Value} (s : S32) (l : List S32) (hl : l.length ≤ 64) (i : Nat) (hi : i < l.length) (r : Rc) (hri : inR r) (w : World) (hb0 : Blk w g (cBs s.1 ++ ([v, .int .i64 ((i : Nat) : Int)] : List Value)) 108) (ho0 : Own w 23 32 v l.length (l.flatMap cS)) :
    Calls Try.prog 54 #[.pointer (some ⟨g, 0, none⟩), .agg (([.int .i64 r.t, .int .i64 r.c, .int .i64 r.s] : List Value) ++ (cBs r.h.1 ++ cBs r.b.1)).toArray] w fun e'' w' => ∃ y, e'' = .returned (.tuple #[y, .int .i64 0]) ∧ Heap (newK w (holdK g v)) w w' [oBlk g (cBs s.1 ++ ([v, .int .i64 ((i + 1 : Nat) : Int)] : List Value)) 108, oRow cS 23 32 v l, oB y (sigM i l.length (pathT (l.map leafS) i) (sigs (seedS s i).1 (join 14 [textR r]) 64))] := by
  refine calls_fr (args := [.pointer (some ⟨g, 0, none⟩), .agg (([.int .i64 r.t, .int .i64 r.c, .int .i64 r.s] : List Value) ++ (cBs r.h.1 ++ cBs r.b.1)).toArray]) (n := 15) Try.func54 rfl rfl (show 2 ≤ 15 by decide) ?_
  have hin := inR_in hri
  have htl := textR_len r
  have hH : Heap (newK w (holdK g v)) w w [oBlk g (cBs s.1 ++ ([v, .int .i64 ((i : Nat) : Int)] : List Value)) 108, oRow cS 23 32 v l] := Heap.startBO hb0 ho0 (by decide)
  refine wp_seq ?_
  refine wp_gen (fun F' => F' 0 = .pointer (some ⟨g, 0, none⟩) ∧ F' 1 = .agg (([.int .i64 r.t, .int .i64 r.c, .int .i64 r.s] : List Value) ++ (cBs r.h.1 ++ cBs r.b.1)).toArray) ⟨rfl, rfl⟩ ?_
  rintro F ⟨e0, e1⟩
  refine wp_regionF ?_
  refine lf_ex (wantAll rfl) (hx_box hH 93 (cs := ([.int .i64 r.t, .int .i64 r.c, .int .i64 r.s] : List Value) ++ (cBs r.h.1 ++ cBs r.b.1)) rfl (fr_eval rfl e1) (by rfl)) ?_
  clear hH
  rintro _ w1 ⟨g1, rfl, hH, hx⟩
  replace hH : Heap _ _ _ [_, _, _] := hH
  clear hx
  refine lf_val (v := .slice none 0 0) (wantAll rfl) (rv_assign rfl rfl) ?_
  refine lf_val (v := .int .i64 0) (wantAll rfl) (rv_assign rfl rfl) ?_
  refine lf_nil ?_
  refine then_n ?_
  refine wp_seq ?_
  refine wp_seq ?_
  refine wp_gen (fun F' => F' 0 = .pointer (some ⟨g, 0, none⟩) ∧ F' 1 = .agg (([.int .i64 r.t, .int .i64 r.c, .int .i64 r.s] : List Value) ++ (cBs r.h.1 ++ cBs r.b.1)).toArray ∧ F' 3 = .pointer (some ⟨g1, 0, none⟩) ∧ F' 4 = .slice none 0 0 ∧ F' 5 = .int .i64 0) ⟨e0, e1, rfl, rfl, rfl⟩ ?_
  clear e0 e1
  clear F
  rintro F ⟨e0, e1, e3, e4, e5⟩
  refine wp_regionF ?_
  refine lf_val (wantAll rfl) (rv_loadW rfl (hH.blk (i := 2) rfl) (fr_eval rfl e3) Try.underlying93 rfl (sz_len Try.sz93 (zRS_l0 r.h.2 r.b.2))) ?_
  refine lf_call (wantAll rfl) (rv_call (args := [.agg (([.int .i64 r.t, .int .i64 r.c, .int .i64 r.s] : List Value) ++ (cBs r.h.1 ++ cBs r.b.1)).toArray]) rfl (evc (fr_eval rfl rfl) evn) Try.call76) (calls_known (b' := true) (rcRight_calls r _) (decide_eq_true hri)) ?_
  rintro _ w2 ⟨rfl, hx⟩
  refine ⟨_, rfl, ?_⟩
  replace hH := hH.ext hx
  clear hx
  refine lf_val (v := .bool false) (wantAll rfl) (rv_not (b := true) rfl (fr_eval rfl rfl)) ?_
  refine lf_nil ?_
  refine then_n ?_
  refine wp_gen (fun F' => F' 0 = .pointer (some ⟨g, 0, none⟩) ∧ F' 1 = .agg (([.int .i64 r.t, .int .i64 r.c, .int .i64 r.s] : List Value) ++ (cBs r.h.1 ++ cBs r.b.1)).toArray ∧ F' 3 = .pointer (some ⟨g1, 0, none⟩) ∧ F' 4 = .slice none 0 0 ∧ F' 5 = .int .i64 0 ∧ F' 8 = .bool false) ⟨e0, e1, e3, e4, e5, rfl⟩ ?_
  clear e0 e1 e3 e4 e5
  clear F
  rintro F ⟨e0, e1, e3, e4, e5, e8⟩
  refine wp_cond_false (fr_eval rfl e8) ?_
  refine wp_skip ?_
  refine then_n ?_
  refine wp_seq ?_
  refine wp_regionF ?_
  refine lf_val (v := .pointer (some ⟨g, 0, none⟩)) (wantAll rfl) (rv_move rfl (fr_eval rfl e0)) ?_
  refine lf_val (wantAll rfl) (rv_loadW rfl (hH.blk (i := 2) rfl) (fr_eval rfl e3) Try.underlying93 rfl (sz_len Try.sz93 (zRS_l0 r.h.2 r.b.2))) ?_
  refine lf_call (wantAll rfl) (rv_call (args := [.agg (([.int .i64 r.t, .int .i64 r.c, .int .i64 r.s] : List Value) ++ (cBs r.h.1 ++ cBs r.b.1)).toArray]) rfl (evc (fr_eval rfl rfl) evn) Try.call77) (rcText_calls r hin _) ?_
  rintro _ w3 ⟨⟨y1, rfl, ho, hg⟩, hx⟩
  refine ⟨_, rfl, ?_⟩
  replace hH : Heap _ _ _ [_, _, _, _] := hH.addOwn hx hg ho
  clear ho hg
  clear hx
  replace hH : Heap _ _ _ [_, _, _, _] := hH.perm (.trans (.swap _ _ _) (.cons _ (.trans (.swap _ _ _) (.cons _ (.refl _)))))
  replace hH : Heap _ _ _ [_, _, _, _] := hH.perm (.cons _ (.trans (.swap _ _ _) (.cons _ (.trans (.swap _ _ _) (.cons _ (.refl _))))))
  refine lf_call (wantAll rfl) (rv_call (args := [.pointer (some ⟨g, 0, none⟩), y1]) rfl (evc (fr_eval rfl rfl) (evc (fr_eval rfl rfl) evn)) Try.call39) (kSign_yes s l (by omega) i (by omega) (textR r) (Nat.le_trans (textR_len r) (by decide)) _ _ (hH.blk (i := 2) rfl) (hH.own (i := 3) rfl) (OwnB.rd (hH.own (i := 1) rfl)) (fun k hk _ hK => hK.elim (fun e => apart_at hH.apart (i := 1) (j := 2) rfl rfl (by decide) k hk e) (fun e => apart_at hH.apart (i := 1) (j := 3) rfl rfl (by decide) k hk e))) ?_
  rintro _ w4 ⟨y2, rfl, hP⟩
  refine ⟨_, rfl, ?_⟩
  have hx := hH.callChg (L := [_, _]) (M := [_, _]) hold_in hP
  replace hH : Heap _ _ _ [_, _, _, _, _] := hH.call (L := [_, _]) (M := [_, _]) hold_in hP (Stays.blk (hP.blk (i := 0) rfl) (Stays.own (hP.own (i := 1) rfl) (Stays.own (hP.own (i := 2) rfl) Stays.nil)))
  clear hP
  clear hx
  refine lf_val (v := y2) (wantAll rfl) (rv_extract rfl (fr_eval rfl rfl) rfl) ?_
  refine lf_val (v := .int .i64 0) (wantAll rfl) (rv_extract rfl (fr_eval rfl rfl) rfl) ?_
  refine lf_val (v := y2) (wantAll rfl) (rv_assign rfl (fr_eval rfl rfl)) ?_
  refine lf_val (v := .int .i64 0) (wantAll rfl) (rv_assign rfl (fr_eval rfl rfl)) ?_
  refine lf_nil ?_
  refine then_n ?_
  replace hH : Heap _ _ _ [_, _, _, _] := hH.drop (.cons_cons _ (.cons _ (.cons_cons _ (.cons_cons _ (.cons_cons _ .slnil)))))
  refine wp_gen (fun F' => F' 0 = .pointer (some ⟨g, 0, none⟩) ∧ F' 1 = .agg (([.int .i64 r.t, .int .i64 r.c, .int .i64 r.s] : List Value) ++ (cBs r.h.1 ++ cBs r.b.1)).toArray ∧ F' 3 = .pointer (some ⟨g1, 0, none⟩) ∧ F' 4 = y2 ∧ F' 5 = .int .i64 0 ∧ F' 8 = .bool false) ⟨e0, e1, e3, rfl, rfl, e8⟩ ?_
  clear e0 e1 e3 e4 e5 e8
  clear F
  rintro F ⟨e0, e1, e3, e4, e5, e8⟩
  refine wp_ret ?_
  have hF := hH
  replace hF : Heap _ _ _ [_, _, _] := hF.drop (.cons _ (.cons_cons _ (.cons_cons _ (.cons_cons _ .slnil))))
  exact bodyPost_ret (v := .tuple #[y2, .int .i64 0]) (res2 rfl (ro_tmp rfl e4) (ro_tmp rfl e5)) rfl (⟨_, rfl, hF⟩)

set_option maxRecDepth 100000 in
set_option maxHeartbeats 4000000 in
theorem rcVerify_calls (a n : Nat) (p : List S32) (one : List UInt8) (ha : a ≤ 64) (hn : n ≤ 64) (hp : p.length ≤ 8) (ho : one.length = 4096) (root : S32) (r : Rc) (hin : inRc r) (v : Value) (w : World) (hr0 : RdB w v (sigM a n p one)) :
    Calls Try.prog 57 #[.agg (cBs root.1).toArray, .agg (([.int .i64 r.t, .int .i64 r.c, .int .i64 r.s] : List Value) ++ (cBs r.h.1 ++ cBs r.b.1)).toArray, v] w fun e'' w' => e'' = .returned (.bool (decide (inR r) && verM root (textR r) a n p one)) ∧ Ext w w' := by
  refine calls_fr (args := [.agg (cBs root.1).toArray, .agg (([.int .i64 r.t, .int .i64 r.c, .int .i64 r.s] : List Value) ++ (cBs r.h.1 ++ cBs r.b.1)).toArray, v]) (n := 16) Try.func57 rfl rfl (show 3 ≤ 16 by decide) ?_
  have htl := textR_len r
  have hr := Rd.stab hr0
  have hH : Heap (newN w) w w [] := Heap.fresh
  refine wp_seq ?_
  refine wp_gen (fun F' => F' 0 = .agg (cBs root.1).toArray ∧ F' 1 = .agg (([.int .i64 r.t, .int .i64 r.c, .int .i64 r.s] : List Value) ++ (cBs r.h.1 ++ cBs r.b.1)).toArray ∧ F' 2 = v) ⟨rfl, rfl, rfl⟩ ?_
  rintro F ⟨e0, e1, e2⟩
  refine wp_regionF ?_
  refine lf_ex (wantAll rfl) (hx_box hH 23 (cs := cBs root.1) rfl (fr_eval rfl e0) (by rfl)) ?_
  clear hH
  rintro _ w1 ⟨g1, rfl, hH, hx⟩
  replace hH : Heap _ _ _ [_] := hH
  clear hx
  refine lf_ex (wantAll rfl) (hx_box hH 93 (cs := ([.int .i64 r.t, .int .i64 r.c, .int .i64 r.s] : List Value) ++ (cBs r.h.1 ++ cBs r.b.1)) rfl (fr_eval rfl e1) (by rfl)) ?_
  clear hH
  rintro _ w2 ⟨g2, rfl, hH, hx⟩
  replace hH : Heap _ _ _ [_, _] := hH
  clear hx
  refine lf_val (v := .bool false) (wantAll rfl) (rv_assign rfl rfl) ?_
  refine lf_nil ?_
  refine then_n ?_
  refine wp_seq ?_
  refine wp_gen (fun F' => F' 0 = .agg (cBs root.1).toArray ∧ F' 1 = .agg (([.int .i64 r.t, .int .i64 r.c, .int .i64 r.s] : List Value) ++ (cBs r.h.1 ++ cBs r.b.1)).toArray ∧ F' 2 = v ∧ F' 3 = .pointer (some ⟨g1, 0, none⟩) ∧ F' 4 = .pointer (some ⟨g2, 0, none⟩) ∧ F' 6 = .bool false) ⟨e0, e1, e2, rfl, rfl, rfl⟩ ?_
  clear e0 e1 e2
  clear F
  rintro F ⟨e0, e1, e2, e3, e4, e6⟩
  refine wp_regionX (fun _ => False) 7 (by kernel_rfl) (by kernel_rfl) ?_
  refine xl_take (i := 0) (v := .agg (([.int .i64 r.t, .int .i64 r.c, .int .i64 r.s] : List Value) ++ (cBs r.h.1 ++ cBs r.b.1)).toArray) rfl (by kernel_rfl) (by kernel_rfl) (by kernel_rfl) (by kernel_rfl) (yx_val (wantAll rfl) (fun w' hx' => rv_loadW rfl ((hH.ext hx').blk (i := 1) rfl) (fr_eval rfl e4) Try.underlying93 rfl (sz_len Try.sz93 (zRS_l0 r.h.2 r.b.2)))) ?_
  refine xl_take (i := 1) (v := .bool (decide (inR r))) rfl (by kernel_rfl) (by kernel_rfl) (by kernel_rfl) (by kernel_rfl) (yx_call (wantAll rfl) (fun w' => rv_call (args := [.agg (([.int .i64 r.t, .int .i64 r.c, .int .i64 r.s] : List Value) ++ (cBs r.h.1 ++ cBs r.b.1)).toArray]) rfl (evc (fr_eval rfl rfl) evn) Try.call76) (fun w' hx' => rcRight_calls r _)) ?_
  refine xl_take (i := 2) (v := .bool (decide (inR r))) rfl (by kernel_rfl) (by kernel_rfl) (by kernel_rfl) (by kernel_rfl) (yx_val (wantAll rfl) (fun w' hx' => rv_move rfl (fr_eval rfl rfl))) ?_
  by_cases hc1 : inR r
  · refine xl_take (i := 3) (v := .agg (cBs root.1).toArray) rfl (by kernel_rfl) (by kernel_rfl) (by kernel_rfl) (by kernel_rfl) (yx_val (wantF (d := 9) rfl (by kernel_rfl) rfl (congrArg Value.bool (decide_eq_true hc1))) (fun w' hx' => rv_loadW rfl ((hH.ext hx').blk (i := 0) rfl) (fr_eval rfl e3) Try.underlying23 rfl (sz_len Try.sz23 (cBs_len root.2)))) ?_
    refine xl_take (i := 4) (v := .agg (([.int .i64 r.t, .int .i64 r.c, .int .i64 r.s] : List Value) ++ (cBs r.h.1 ++ cBs r.b.1)).toArray) rfl (by kernel_rfl) (by kernel_rfl) (by kernel_rfl) (by kernel_rfl) (yx_val (wantF (d := 9) rfl (by kernel_rfl) rfl (congrArg Value.bool (decide_eq_true hc1))) (fun w' hx' => rv_loadW rfl ((hH.ext hx').blk (i := 1) rfl) (fr_eval rfl e4) Try.underlying93 rfl (sz_len Try.sz93 (zRS_l0 r.h.2 r.b.2)))) ?_
    refine xl_take (i := 6) (v := v) rfl (by kernel_rfl) (by kernel_rfl) (by kernel_rfl) (by kernel_rfl) (yx_val (wantF (d := 9) rfl (by kernel_rfl) rfl (congrArg Value.bool (decide_eq_true hc1))) (fun w' hx' => rv_move rfl (fr_eval rfl e2))) ?_
    refine anyX_ready (rs := [5]) (by kernel_rfl) ?_
    intro w3 hx
    replace hH := hH.ext hx
    clear hx
    refine (anyX_cons ?_ anyX_nil)
    refine xl_step (i := 5) rfl (wantF (d := 9) rfl (by kernel_rfl) rfl (congrArg Value.bool (decide_eq_true hc1))) ?_
    refine of_call (rv_call (args := [.agg (([.int .i64 r.t, .int .i64 r.c, .int .i64 r.s] : List Value) ++ (cBs r.h.1 ++ cBs r.b.1)).toArray]) rfl (evc (fr_eval rfl rfl) evn) Try.call77) (rcText_calls r hin _) ?_
    rintro _ w4 ⟨⟨y1, rfl, ho, hg⟩, hx⟩
    refine ⟨_, rfl, ?_⟩
    replace hH : Heap _ _ _ [_, _, _] := hH.addOwn hx hg ho
    clear ho hg
    refine ⟨hx, ?_⟩
    clear hx
    refine xl_tail (s := 7) rfl ?_
    intro w5 hx
    replace hH := hH.ext hx
    clear hx
    refine lf_call (wantF (d := 9) rfl (by kernel_rfl) rfl (congrArg Value.bool (decide_eq_true hc1))) (rv_call (args := [.agg (cBs root.1).toArray, y1, v]) rfl (evc (fr_eval rfl rfl) (evc (fr_eval rfl rfl) (evc (fr_eval rfl rfl) evn))) Try.call48) (verify5_calls a n p one (by omega) (by omega) (by omega) (by omega) root (textR r) (Nat.le_trans (textR_len r) (by decide)) _ _ _ (OwnB.rd (hH.own (i := 2) rfl)) (hr.rd _ hH.chg)) ?_
    rintro _ w6 ⟨rfl, hx⟩
    refine ⟨_, rfl, ?_⟩
    replace hH := hH.ext hx
    clear hx
    refine lf_val (v := .bool (verM root (textR r) a n p one)) (wantAll rfl) (rv_pickT rfl (fr_eval rfl (congrArg Value.bool (decide_eq_true hc1))) (fr_eval rfl rfl)) ?_
    refine lf_val (v := .bool (verM root (textR r) a n p one)) (wantAll rfl) (rv_assign rfl (fr_eval rfl rfl)) ?_
    refine lf_nil ?_
    refine then_n ?_
    replace hH : Heap _ _ _ [_, _] := hH.drop (.cons_cons _ (.cons_cons _ (.cons _ .slnil)))
    refine wp_gen (fun F' => F' 0 = .agg (cBs root.1).toArray ∧ F' 1 = .agg (([.int .i64 r.t, .int .i64 r.c, .int .i64 r.s] : List Value) ++ (cBs r.h.1 ++ cBs r.b.1)).toArray ∧ F' 2 = v ∧ F' 3 = .pointer (some ⟨g1, 0, none⟩) ∧ F' 4 = .pointer (some ⟨g2, 0, none⟩) ∧ F' 6 = .bool (verM root (textR r) a n p one)) ⟨e0, e1, e2, e3, e4, rfl⟩ ?_
    clear e0 e1 e2 e3 e4 e6
    clear F
    rintro F ⟨e0, e1, e2, e3, e4, e6⟩
    refine wp_ret ?_
    exact bodyPost_ret (v := (.bool (verM root (textR r) a n p one))) (res1 rfl (ro_tmp rfl e6)) rfl (⟨congrArg (fun b => Ending.returned (.bool b)) (by rw [decide_eq_true (by assumption), Bool.true_and]), hH.done⟩)
  · refine xl_take (i := 3) (v := undef) rfl (by kernel_rfl) (by kernel_rfl) (by kernel_rfl) (by kernel_rfl) (yx_not (wantNot (d := 9) rfl (by kernel_rfl) rfl (congrArg Value.bool (decide_eq_false hc1)))) ?_
    refine xl_take (i := 4) (v := undef) rfl (by kernel_rfl) (by kernel_rfl) (by kernel_rfl) (by kernel_rfl) (yx_not (wantNot (d := 9) rfl (by kernel_rfl) rfl (congrArg Value.bool (decide_eq_false hc1)))) ?_
    refine xl_take (i := 5) (v := undef) rfl (by kernel_rfl) (by kernel_rfl) (by kernel_rfl) (by kernel_rfl) (yx_not (wantNot (d := 9) rfl (by kernel_rfl) rfl (congrArg Value.bool (decide_eq_false hc1)))) ?_
    refine xl_take (i := 6) (v := undef) rfl (by kernel_rfl) (by kernel_rfl) (by kernel_rfl) (by kernel_rfl) (yx_not (wantNot (d := 9) rfl (by kernel_rfl) rfl (congrArg Value.bool (decide_eq_false hc1)))) ?_
    refine xl_tail (s := 7) rfl ?_
    intro w7 hx
    replace hH := hH.ext hx
    clear hx
    refine lf_not (wantNot (d := 9) rfl (by kernel_rfl) rfl (congrArg Value.bool (decide_eq_false hc1))) ?_
    refine lf_val (v := .bool false) (wantAll rfl) (rv_pickF rfl (fr_eval rfl (congrArg Value.bool (decide_eq_false hc1))) rfl) ?_
    refine lf_val (v := .bool false) (wantAll rfl) (rv_assign rfl (fr_eval rfl rfl)) ?_
    refine lf_nil ?_
    refine then_n ?_
    refine wp_gen (fun F' => F' 0 = .agg (cBs root.1).toArray ∧ F' 1 = .agg (([.int .i64 r.t, .int .i64 r.c, .int .i64 r.s] : List Value) ++ (cBs r.h.1 ++ cBs r.b.1)).toArray ∧ F' 2 = v ∧ F' 3 = .pointer (some ⟨g1, 0, none⟩) ∧ F' 4 = .pointer (some ⟨g2, 0, none⟩) ∧ F' 6 = .bool false) ⟨e0, e1, e2, e3, e4, rfl⟩ ?_
    clear e0 e1 e2 e3 e4 e6
    clear F
    rintro F ⟨e0, e1, e2, e3, e4, e6⟩
    refine wp_ret ?_
    exact bodyPost_ret (v := (.bool false)) (res1 rfl (ro_tmp rfl e6)) rfl (⟨congrArg (fun b => Ending.returned (.bool b)) (by rw [decide_eq_false (by assumption)]; rfl), hH.done⟩)

set_option maxRecDepth 100000 in
set_option maxHeartbeats 4000000 in
theorem rcGood_calls (a n : Nat) (p : List S32) (one : List UInt8) (ha : a ≤ 64) (hn : n ≤ 64) (hp : p.length ≤ 8) (ho : one.length = 4096) (root : S32) (r : Rc) (hin : inRc r) (v : Value) (w : World) (hr0 : RdB w v (sigM a n p one)) :
    Calls Try.prog 56 #[.agg (([.int .i64 r.t, .int .i64 r.c, .int .i64 r.s] : List Value) ++ (cBs r.h.1 ++ (cBs r.b.1 ++ ([v] : List Value)))).toArray, .agg (cBs root.1).toArray] w fun e'' w' => e'' = .returned (.bool (decide (inR r) && verM root (textR r) a n p one)) ∧ Ext w w' := by
  refine calls_fr (args := [.agg (([.int .i64 r.t, .int .i64 r.c, .int .i64 r.s] : List Value) ++ (cBs r.h.1 ++ (cBs r.b.1 ++ ([v] : List Value)))).toArray, .agg (cBs root.1).toArray]) (n := 11) Try.func56 rfl rfl (show 2 ≤ 11 by decide) ?_
  have hr := Rd.stab hr0
  have hH : Heap (newN w) w w [] := Heap.fresh
  refine wp_seq ?_
  refine wp_gen (fun F' => F' 0 = .agg (([.int .i64 r.t, .int .i64 r.c, .int .i64 r.s] : List Value) ++ (cBs r.h.1 ++ (cBs r.b.1 ++ ([v] : List Value)))).toArray ∧ F' 1 = .agg (cBs root.1).toArray) ⟨rfl, rfl⟩ ?_
  rintro F ⟨e0, e1⟩
  refine wp_regionF ?_
  refine lf_ex (wantAll rfl) (hx_box hH 97 (cs := ([.int .i64 r.t, .int .i64 r.c, .int .i64 r.s] : List Value) ++ (cBs r.h.1 ++ (cBs r.b.1 ++ ([v] : List Value)))) rfl (fr_eval rfl e0) (by rfl)) ?_
  clear hH
  rintro _ w1 ⟨g1, rfl, hH, hx⟩
  replace hH : Heap _ _ _ [_] := hH
  clear hx
  refine lf_ex (wantAll rfl) (hx_box hH 23 (cs := cBs root.1) rfl (fr_eval rfl e1) (by rfl)) ?_
  clear hH
  rintro _ w2 ⟨g2, rfl, hH, hx⟩
  replace hH : Heap _ _ _ [_, _] := hH
  clear hx
  refine lf_val (v := .bool false) (wantAll rfl) (rv_assign rfl rfl) ?_
  refine lf_nil ?_
  refine then_n ?_
  refine wp_seq ?_
  refine wp_gen (fun F' => F' 0 = .agg (([.int .i64 r.t, .int .i64 r.c, .int .i64 r.s] : List Value) ++ (cBs r.h.1 ++ (cBs r.b.1 ++ ([v] : List Value)))).toArray ∧ F' 1 = .agg (cBs root.1).toArray ∧ F' 2 = .pointer (some ⟨g1, 0, none⟩) ∧ F' 3 = .pointer (some ⟨g2, 0, none⟩) ∧ F' 4 = .bool false) ⟨e0, e1, rfl, rfl, rfl⟩ ?_
  clear e0 e1
  clear F
  rintro F ⟨e0, e1, e2, e3, e4⟩
  refine wp_regionF ?_
  refine lf_val (v := .agg (cBs root.1).toArray) (wantAll rfl) (rv_loadW rfl (hH.blk (i := 1) rfl) (fr_eval rfl e3) Try.underlying23 rfl (sz_len Try.sz23 (cBs_len root.2))) ?_
  refine lf_val (v := .pointer (some ⟨g1, 0, none⟩)) (wantAll rfl) (rv_fieldAddr (n := 66) rfl (fr_eval rfl e2) Try.underlying97 rfl rfl (by kernel_rfl)) ?_
  refine lf_val (wantAll rfl) (rv_loadP rfl (hH.blk (i := 0) rfl) (zRS_p1 r.h.2 r.b.2) (zRS_l0 r.h.2 r.b.2) (fr_eval rfl rfl) Try.underlying93 rfl Try.sz93) ?_
  refine lf_val (v := .pointer (some ⟨g1, 67, none⟩)) (wantAll rfl) (rv_fieldAddr (n := 0) rfl (fr_eval rfl e2) Try.underlying97 rfl rfl (by kernel_rfl)) ?_
  refine lf_val (v := v) (wantAll rfl) (rv_load1 rfl (hH.blk (i := 0) rfl) (zRS_g2 r.h.2 r.b.2) (fr_eval rfl rfl) Try.underlying58 rfl Try.sz58) ?_
  refine lf_call (wantAll rfl) (rv_call (args := [.agg (cBs root.1).toArray, .agg (([.int .i64 r.t, .int .i64 r.c, .int .i64 r.s] : List Value) ++ (cBs r.h.1 ++ cBs r.b.1)).toArray, v]) rfl (evc (fr_eval rfl rfl) (evc (fr_eval rfl rfl) (evc (fr_eval rfl rfl) evn))) Try.call57) (rcVerify_calls a n p one (by omega) (by omega) (by omega) (by omega) root r hin _ _ (hr.rd _ hH.chg)) ?_
  rintro _ w3 ⟨rfl, hx⟩
  refine ⟨_, rfl, ?_⟩
  replace hH := hH.ext hx
  clear hx
  refine lf_val (v := .bool (decide (inR r) && verM root (textR r) a n p one)) (wantAll rfl) (rv_assign rfl (fr_eval rfl rfl)) ?_
  refine lf_nil ?_
  refine then_n ?_
  refine wp_gen (fun F' => F' 0 = .agg (([.int .i64 r.t, .int .i64 r.c, .int .i64 r.s] : List Value) ++ (cBs r.h.1 ++ (cBs r.b.1 ++ ([v] : List Value)))).toArray ∧ F' 1 = .agg (cBs root.1).toArray ∧ F' 2 = .pointer (some ⟨g1, 0, none⟩) ∧ F' 3 = .pointer (some ⟨g2, 0, none⟩) ∧ F' 4 = .bool (decide (inR r) && verM root (textR r) a n p one)) ⟨e0, e1, e2, e3, rfl⟩ ?_
  clear e0 e1 e2 e3 e4
  clear F
  rintro F ⟨e0, e1, e2, e3, e4⟩
  refine wp_ret ?_
  exact bodyPost_ret (v := (.bool (decide (inR r) && verM root (textR r) a n p one))) (res1 rfl (ro_tmp rfl e4)) rfl (⟨rfl, hH.done⟩)

set_option maxRecDepth 100000 in
set_option maxHeartbeats 4000000 in
theorem receiptSigns_walk (s : S32) (z : Int) (hz : (-9223372036854775808 ≤ z ∧ z ≤ 9223372036854775807)) (l : List Rc) (hrc : ∀ r ∈ l, inRc r) (vl : Value) (o : Rc) (ho : inRc o) (w : World) (hl0 : Rd w 67 vl l.length (l.flatMap cRc)) :
    Calls Try.prog 13 #[.agg (cBs s.1).toArray, .int .i64 z, vl, .agg (([.int .i64 o.t, .int .i64 o.c, .int .i64 o.s] : List Value) ++ (cBs o.h.1 ++ cBs o.b.1)).toArray] w fun e'' w' => e'' = .returned (.bool true) ∧ Ext w w' := by
  refine calls_fr (args := [.agg (cBs s.1).toArray, .int .i64 z, vl, .agg (([.int .i64 o.t, .int .i64 o.c, .int .i64 o.s] : List Value) ++ (cBs o.h.1 ++ cBs o.b.1)).toArray]) (n := 126) Try.func13 rfl rfl (show 4 ≤ 126 by decide) ?_
  have hto := textR_len o
  have hl := Rd.stab hl0
  have hH : Heap (newN w) w w [] := Heap.fresh
  refine wp_seq ?_
  refine wp_gen (fun F' => F' 0 = .agg (cBs s.1).toArray ∧ F' 1 = .int .i64 z ∧ F' 2 = vl ∧ F' 3 = .agg (([.int .i64 o.t, .int .i64 o.c, .int .i64 o.s] : List Value) ++ (cBs o.h.1 ++ cBs o.b.1)).toArray) ⟨rfl, rfl, rfl, rfl⟩ ?_
  rintro F ⟨e0, e1, e2, e3⟩
  refine wp_regionF ?_
  refine lf_ex (wantAll rfl) (hx_box hH 23 (cs := cBs s.1) rfl (fr_eval rfl e0) (by rfl)) ?_
  clear hH
  rintro _ w1 ⟨g1, rfl, hH, hx⟩
  replace hH : Heap _ _ _ [_] := hH
  clear hx
  refine lf_ex (wantAll rfl) (hx_box hH 93 (cs := ([.int .i64 o.t, .int .i64 o.c, .int .i64 o.s] : List Value) ++ (cBs o.h.1 ++ cBs o.b.1)) rfl (fr_eval rfl e3) (by rfl)) ?_
  clear hH
  rintro _ w2 ⟨g2, rfl, hH, hx⟩
  replace hH : Heap _ _ _ [_, _] := hH
  clear hx
  refine lf_val (v := .bool false) (wantAll rfl) (rv_assign rfl rfl) ?_
  refine lf_nil ?_
  refine then_n ?_
  refine wp_seq ?_
  refine wp_seq ?_
  refine wp_gen (fun F' => F' 0 = .agg (cBs s.1).toArray ∧ F' 1 = .int .i64 z ∧ F' 2 = vl ∧ F' 3 = .agg (([.int .i64 o.t, .int .i64 o.c, .int .i64 o.s] : List Value) ++ (cBs o.h.1 ++ cBs o.b.1)).toArray ∧ F' 4 = .pointer (some ⟨g1, 0, none⟩) ∧ F' 7 = .pointer (some ⟨g2, 0, none⟩) ∧ F' 8 = .bool false) ⟨e0, e1, e2, e3, rfl, rfl, rfl⟩ ?_
  clear e0 e1 e2 e3
  clear F
  rintro F ⟨e0, e1, e2, e3, e4, e7, e8⟩
  refine wp_regionF ?_
  refine lf_val (v := .int .i64 z) (wantAll rfl) (rv_move rfl (fr_eval rfl e1)) ?_
  refine lf_val (v := .bool (decide (z < 1))) (wantAll rfl) (rv_lssP (p := z < 1) rfl (fr_eval rfl rfl) rfl Iff.rfl) ?_
  refine lf_val (v := .bool (decide (z < 1))) (wantAll rfl) (rv_move rfl (fr_eval rfl rfl)) ?_
  refine lf_joinP (fun F' => F' 0 = .agg (cBs s.1).toArray ∧ F' 1 = .int .i64 z ∧ F' 2 = vl ∧ F' 3 = .agg (([.int .i64 o.t, .int .i64 o.c, .int .i64 o.s] : List Value) ++ (cBs o.h.1 ++ cBs o.b.1)).toArray ∧ F' 4 = .pointer (some ⟨g1, 0, none⟩) ∧ F' 7 = .pointer (some ⟨g2, 0, none⟩) ∧ F' 8 = .bool false ∧ F' 21 = .bool (decide ((z < 1) ∨ (z > 3)))) 3 (fun hk => ?_) ?_
  · by_cases hc1 : z < 1
    · refine lf_not (wantNot (d := 18) rfl (by kernel_rfl) rfl (congrArg Value.bool (decide_eq_true hc1))) ?_
      refine lf_not (wantNot (d := 18) rfl (by kernel_rfl) rfl (congrArg Value.bool (decide_eq_true hc1))) ?_
      refine lf_val (v := .bool true) (wantAll rfl) (rv_pickT rfl (fr_eval rfl (congrArg Value.bool (decide_eq_true hc1))) rfl) ?_
      exact hk _ ⟨e0, e1, e2, e3, e4, e7, e8, (congrArg Value.bool (dec_orT hc1))⟩
    · refine lf_val (v := .int .i64 z) (wantF (d := 18) rfl (by kernel_rfl) rfl (congrArg Value.bool (decide_eq_false hc1))) (rv_move rfl (fr_eval rfl e1)) ?_
      refine lf_val (v := .bool (decide (z > 3))) (wantF (d := 18) rfl (by kernel_rfl) rfl (congrArg Value.bool (decide_eq_false hc1))) (rv_gtrP (p := z > 3) rfl (fr_eval rfl rfl) rfl Iff.rfl) ?_
      refine lf_val (v := .bool (decide (z > 3))) (wantAll rfl) (rv_pickF rfl (fr_eval rfl (congrArg Value.bool (decide_eq_false hc1))) (fr_eval rfl rfl)) ?_
      exact hk _ ⟨e0, e1, e2, e3, e4, e7, e8, (congrArg Value.bool (dec_or hc1))⟩
  · clear e0 e1 e2 e3 e4 e7 e8
    clear F
    rintro F ⟨e0, e1, e2, e3, e4, e7, e8, e21⟩
    refine lf_val (v := .bool (decide ((z < 1) ∨ (z > 3)))) (wantAll rfl) (rv_move rfl (fr_eval rfl e21)) ?_
    refine lf_joinP (fun F' => F' 0 = .agg (cBs s.1).toArray ∧ F' 1 = .int .i64 z ∧ F' 2 = vl ∧ F' 3 = .agg (([.int .i64 o.t, .int .i64 o.c, .int .i64 o.s] : List Value) ++ (cBs o.h.1 ++ cBs o.b.1)).toArray ∧ F' 4 = .pointer (some ⟨g1, 0, none⟩) ∧ F' 7 = .pointer (some ⟨g2, 0, none⟩) ∧ F' 8 = .bool false ∧ F' 26 = .bool (decide (((z < 1) ∨ (z > 3)) ∨ (l.length > 4)))) 4 (fun hk => ?_) ?_
    · by_cases hc2 : (z < 1) ∨ (z > 3)
      · refine lf_not (wantNot (d := 22) rfl (by kernel_rfl) rfl (congrArg Value.bool (decide_eq_true hc2))) ?_
        refine lf_not (wantNot (d := 22) rfl (by kernel_rfl) rfl (congrArg Value.bool (decide_eq_true hc2))) ?_
        refine lf_not (wantNot (d := 22) rfl (by kernel_rfl) rfl (congrArg Value.bool (decide_eq_true hc2))) ?_
        refine lf_val (v := .bool true) (wantAll rfl) (rv_pickT rfl (fr_eval rfl (congrArg Value.bool (decide_eq_true hc2))) rfl) ?_
        exact hk _ ⟨e0, e1, e2, e3, e4, e7, e8, (congrArg Value.bool (dec_orT hc2))⟩
      · refine lf_val (v := vl) (wantF (d := 22) rfl (by kernel_rfl) rfl (congrArg Value.bool (decide_eq_false hc2))) (rv_move rfl (fr_eval rfl e2)) ?_
        refine lf_val (v := .int .i64 ((l.length : Nat) : Int)) (wantF (d := 22) rfl (by kernel_rfl) rfl (congrArg Value.bool (decide_eq_false hc2))) (rv_len rfl (fr_eval rfl rfl) (hl.rd _ hH.chg) Try.underlying91) ?_
        refine lf_val (v := .bool (decide (l.length > 4))) (wantF (d := 22) rfl (by kernel_rfl) rfl (congrArg Value.bool (decide_eq_false hc2))) (rv_gtrP (p := l.length > 4) rfl (fr_eval rfl rfl) rfl (by omega)) ?_
        refine lf_val (v := .bool (decide (l.length > 4))) (wantAll rfl) (rv_pickF rfl (fr_eval rfl (congrArg Value.bool (decide_eq_false hc2))) (fr_eval rfl rfl)) ?_
        exact hk _ ⟨e0, e1, e2, e3, e4, e7, e8, (congrArg Value.bool (dec_or hc2))⟩
    · clear e0 e1 e2 e3 e4 e7 e8 e21
      clear F
      rintro F ⟨e0, e1, e2, e3, e4, e7, e8, e26⟩
      refine lf_nil ?_
      refine then_n ?_
      by_cases hc3 : ((z < 1) ∨ (z > 3)) ∨ (l.length > 4)
      · refine wp_cond_true (fr_eval rfl (e26.trans (congrArg Value.bool (decide_eq_true hc3)))) ?_
        refine wp_seq ?_
        refine wp_regionF ?_
        refine lf_call (wantAll rfl) (rv_call (args := []) rfl evn Try.call53) (awake12_calls _) ?_
        rintro _ w3 ⟨rfl, hx⟩
        refine ⟨_, rfl, ?_⟩
        replace hH := hH.ext hx
        clear hx
        refine lf_val (v := .bool true) (wantAll rfl) (rv_assign rfl (fr_eval rfl rfl)) ?_
        refine lf_nil ?_
        refine then_n ?_
        refine wp_gen (fun F' => F' 0 = .agg (cBs s.1).toArray ∧ F' 1 = .int .i64 z ∧ F' 2 = vl ∧ F' 3 = .agg (([.int .i64 o.t, .int .i64 o.c, .int .i64 o.s] : List Value) ++ (cBs o.h.1 ++ cBs o.b.1)).toArray ∧ F' 4 = .pointer (some ⟨g1, 0, none⟩) ∧ F' 7 = .pointer (some ⟨g2, 0, none⟩) ∧ F' 8 = .bool true ∧ F' 26 = .bool true) ⟨e0, e1, e2, e3, e4, e7, rfl, (e26.trans (congrArg Value.bool (decide_eq_true hc3)))⟩ ?_
        clear e0 e1 e2 e3 e4 e7 e8 e26
        clear F
        rintro F ⟨e0, e1, e2, e3, e4, e7, e8, e26⟩
        refine wp_ret ?_
        refine then_ret ?_
        exact bodyPost_ret (v := (.bool true)) (res1 rfl (ro_tmp rfl e8)) rfl (⟨rfl, hH.done⟩)
      · refine wp_cond_false (fr_eval rfl (e26.trans (congrArg Value.bool (decide_eq_false hc3)))) ?_
        refine wp_skip ?_
        refine then_n ?_
        refine wp_seq ?_
        obtain ⟨n, rfl⟩ : ∃ n : Nat, z = (n : Int) := ⟨z.toNat, by omega⟩
        have hkl := keyL_len s n
        refine wp_regionF ?_
        refine lf_val (v := .agg (cBs s.1).toArray) (wantAll rfl) (rv_loadW rfl (hH.blk (i := 0) rfl) (fr_eval rfl e4) Try.underlying23 rfl (sz_len Try.sz23 (cBs_len s.2))) ?_
        refine lf_val (v := .int .i64 ((n : Nat) : Int)) (wantAll rfl) (rv_move rfl (fr_eval rfl e1)) ?_
        refine lf_call (wantAll rfl) (rv_call (args := [.agg (cBs s.1).toArray, .int .i64 ((n : Nat) : Int)]) rfl (evc (fr_eval rfl rfl) (evc (fr_eval rfl rfl) evn)) Try.call36) (new_yes s n (by omega) (by omega) _) ?_
        rintro _ w4 ⟨g3, y1, rfl, hP⟩
        refine ⟨_, rfl, ?_⟩
        have hx := hP.done
        replace hH : Heap _ _ _ [_, _, _, _] := hH.joinN hP (Stays.blk (hP.blk (i := 0) rfl) (Stays.own (hP.own (i := 1) rfl) Stays.nil))
        clear hP
        clear hx
        refine lf_val (v := .tuple #[.pointer (some ⟨g3, 0, none⟩), .int .i64 0]) (wantAll rfl) (rv_move rfl (fr_eval rfl rfl)) ?_
        refine lf_val (v := .pointer (some ⟨g3, 0, none⟩)) (wantAll rfl) (rv_extract rfl (fr_eval rfl rfl) rfl) ?_
        refine lf_val (v := .int .i64 0) (wantAll rfl) (rv_extract rfl (fr_eval rfl rfl) rfl) ?_
        refine lf_val (v := .pointer (some ⟨g3, 0, none⟩)) (wantAll rfl) (rv_assign rfl (fr_eval rfl rfl)) ?_
        refine lf_val (v := .int .i64 0) (wantAll rfl) (rv_assign rfl (fr_eval rfl rfl)) ?_
        refine lf_nil ?_
        refine then_n ?_
        refine wp_seq ?_
        refine wp_seq ?_
        refine wp_gen (fun F' => F' 0 = .agg (cBs s.1).toArray ∧ F' 1 = .int .i64 ((n : Nat) : Int) ∧ F' 2 = vl ∧ F' 3 = .agg (([.int .i64 o.t, .int .i64 o.c, .int .i64 o.s] : List Value) ++ (cBs o.h.1 ++ cBs o.b.1)).toArray ∧ F' 4 = .pointer (some ⟨g1, 0, none⟩) ∧ F' 7 = .pointer (some ⟨g2, 0, none⟩) ∧ F' 8 = .bool false ∧ F' 9 = .pointer (some ⟨g3, 0, none⟩) ∧ F' 10 = .int .i64 0 ∧ F' 26 = .bool false) ⟨e0, e1, e2, e3, e4, e7, e8, rfl, rfl, (e26.trans (congrArg Value.bool (decide_eq_false hc3)))⟩ ?_
        clear e0 e1 e2 e3 e4 e7 e8 e26
        clear F
        rintro F ⟨e0, e1, e2, e3, e4, e7, e8, e9, e10, e26⟩
        refine wp_regionF ?_
        refine lf_val (v := .int .i64 0) (wantAll rfl) (rv_move rfl (fr_eval rfl e10)) ?_
        refine lf_val (v := .bool false) (wantAll rfl) (rv_neq rfl (fr_eval rfl rfl) rfl (show decide ((0 : Int) = 0) = true from by decide)) ?_
        refine lf_val (v := .bool false) (wantAll rfl) (rv_move rfl (fr_eval rfl rfl)) ?_
        refine lf_val (v := .pointer (some ⟨g3, 0, none⟩)) (wantF (d := 36) rfl (by kernel_rfl) rfl rfl) (rv_move rfl (fr_eval rfl e9)) ?_
        refine lf_val (v := .bool false) (wantF (d := 36) rfl (by kernel_rfl) rfl rfl) (rv_eqnil (p := (some ⟨g3, 0, none⟩)) rfl (fr_eval rfl rfl) rfl Try.underlying67) ?_
        refine lf_val (v := .bool false) (wantAll rfl) (rv_pickF rfl (fr_eval rfl rfl) (fr_eval rfl rfl)) ?_
        refine lf_nil ?_
        refine then_n ?_
        refine wp_gen (fun F' => F' 0 = .agg (cBs s.1).toArray ∧ F' 1 = .int .i64 ((n : Nat) : Int) ∧ F' 2 = vl ∧ F' 3 = .agg (([.int .i64 o.t, .int .i64 o.c, .int .i64 o.s] : List Value) ++ (cBs o.h.1 ++ cBs o.b.1)).toArray ∧ F' 4 = .pointer (some ⟨g1, 0, none⟩) ∧ F' 7 = .pointer (some ⟨g2, 0, none⟩) ∧ F' 8 = .bool false ∧ F' 9 = .pointer (some ⟨g3, 0, none⟩) ∧ F' 10 = .int .i64 0 ∧ F' 26 = .bool false ∧ F' 39 = .bool false) ⟨e0, e1, e2, e3, e4, e7, e8, e9, e10, e26, rfl⟩ ?_
        clear e0 e1 e2 e3 e4 e7 e8 e9 e10 e26
        clear F
        rintro F ⟨e0, e1, e2, e3, e4, e7, e8, e9, e10, e26, e39⟩
        refine wp_cond_false (fr_eval rfl e39) ?_
        refine wp_skip ?_
        refine then_n ?_
        refine wp_seq ?_
        refine wp_regionF ?_
        refine lf_val (v := .int .i64 0) (wantAll rfl) (rv_assign rfl rfl) ?_
        refine lf_nil ?_
        refine then_n ?_
        refine wp_seq ?_
        refine wp_seq ?_
        refine wp_gen (fun F' => F' 0 = .agg (cBs s.1).toArray ∧ F' 1 = .int .i64 ((n : Nat) : Int) ∧ F' 2 = vl ∧ F' 3 = .agg (([.int .i64 o.t, .int .i64 o.c, .int .i64 o.s] : List Value) ++ (cBs o.h.1 ++ cBs o.b.1)).toArray ∧ F' 4 = .pointer (some ⟨g1, 0, none⟩) ∧ F' 7 = .pointer (some ⟨g2, 0, none⟩) ∧ F' 8 = .bool false ∧ F' 9 = .pointer (some ⟨g3, 0, none⟩) ∧ F' 10 = .int .i64 0 ∧ F' 11 = .int .i64 0 ∧ F' 26 = .bool false ∧ F' 39 = .bool false) ⟨e0, e1, e2, e3, e4, e7, e8, e9, e10, rfl, e26, e39⟩ ?_
        clear e0 e1 e2 e3 e4 e7 e8 e9 e10 e26 e39
        clear F
        rintro F ⟨e0, e1, e2, e3, e4, e7, e8, e9, e10, e11, e26, e39⟩
        refine wp_regionF ?_
        refine lf_val (v := .int .i64 0) (wantAll rfl) (rv_assign rfl rfl) ?_
        refine lf_nil ?_
        refine then_n ?_
        refine wp_block ?_
        refine wp_gen (fun F' => F' 0 = .agg (cBs s.1).toArray ∧ F' 1 = .int .i64 ((n : Nat) : Int) ∧ F' 2 = vl ∧ F' 3 = .agg (([.int .i64 o.t, .int .i64 o.c, .int .i64 o.s] : List Value) ++ (cBs o.h.1 ++ cBs o.b.1)).toArray ∧ F' 4 = .pointer (some ⟨g1, 0, none⟩) ∧ F' 7 = .pointer (some ⟨g2, 0, none⟩) ∧ F' 8 = .bool false ∧ F' 9 = .pointer (some ⟨g3, 0, none⟩) ∧ F' 10 = .int .i64 0 ∧ F' 11 = .int .i64 0 ∧ F' 12 = .int .i64 0 ∧ F' 26 = .bool false ∧ F' 39 = .bool false) ⟨e0, e1, e2, e3, e4, e7, e8, e9, e10, e11, rfl, e26, e39⟩ ?_
        clear e0 e1 e2 e3 e4 e7 e8 e9 e10 e11 e26 e39
        clear F
        rintro F ⟨e0, e1, e2, e3, e4, e7, e8, e9, e10, e11, e12, e26, e39⟩
        refine wp_loopF (fun m F wr => ∃ i : Nat, ∃ u : Nat, m = l.length - i ∧ i ≤ l.length ∧ u ≤ n ∧ F 0 = .agg (cBs s.1).toArray ∧ F 1 = .int .i64 ((n : Nat) : Int) ∧ F 2 = vl ∧ F 3 = .agg (([.int .i64 o.t, .int .i64 o.c, .int .i64 o.s] : List Value) ++ (cBs o.h.1 ++ cBs o.b.1)).toArray ∧ F 4 = .pointer (some ⟨g1, 0, none⟩) ∧ F 7 = .pointer (some ⟨g2, 0, none⟩) ∧ F 9 = .pointer (some ⟨g3, 0, none⟩) ∧ F 10 = .int .i64 0 ∧ F 11 = .int .i64 ((u : Nat) : Int) ∧ F 12 = .int .i64 ((i : Nat) : Int) ∧ F 26 = .bool false ∧ F 39 = .bool false ∧ Heap (newN w) w wr [oBlk g1 (cBs s.1) 23, oBlk g2 (([.int .i64 o.t, .int .i64 o.c, .int .i64 o.s] : List Value) ++ (cBs o.h.1 ++ cBs o.b.1)) 93, oBlk g3 (cBs s.1 ++ ([y1, .int .i64 ((u : Nat) : Int)] : List Value)) 108, oRow cS 23 32 y1 (keyL s n)]) ⟨0, 0, rfl, Nat.zero_le _, Nat.zero_le _, e0, e1, e2, e3, e4, e7, e9, e10, e11, e12, e26, e39, hH⟩ ?_
        clear e0 e1 e2 e3 e4 e7 e8 e9 e10 e11 e12 e26 e39 hH
        clear F
        rintro m F w5 ⟨i, u, rfl, pi0, pi1, e0, e1, e2, e3, e4, e7, e9, e10, e11, e12, e26, e39, hH⟩
        refine wp_seq ?_
        refine wp_seq ?_
        by_cases hf1 : u ≥ n
        · refine wp_regionF ?_
          refine lf_val (v := .int .i64 ((i : Nat) : Int)) (wantAll rfl) (rv_move rfl (fr_eval rfl e12)) ?_
          refine lf_val (v := vl) (wantAll rfl) (rv_move rfl (fr_eval rfl e2)) ?_
          refine lf_val (v := .int .i64 ((l.length : Nat) : Int)) (wantAll rfl) (rv_len rfl (fr_eval rfl rfl) (hl.rd _ hH.chg) Try.underlying91) ?_
          refine lf_val (v := .bool (decide (i < l.length))) (wantAll rfl) (rv_lssP (p := i < l.length) rfl (fr_eval rfl rfl) (fr_eval rfl rfl) (by omega)) ?_
          refine lf_nil ?_
          refine then_n ?_
          refine wp_gen (fun F' => F' 0 = .agg (cBs s.1).toArray ∧ F' 1 = .int .i64 ((n : Nat) : Int) ∧ F' 2 = vl ∧ F' 3 = .agg (([.int .i64 o.t, .int .i64 o.c, .int .i64 o.s] : List Value) ++ (cBs o.h.1 ++ cBs o.b.1)).toArray ∧ F' 4 = .pointer (some ⟨g1, 0, none⟩) ∧ F' 7 = .pointer (some ⟨g2, 0, none⟩) ∧ F' 9 = .pointer (some ⟨g3, 0, none⟩) ∧ F' 10 = .int .i64 0 ∧ F' 11 = .int .i64 ((u : Nat) : Int) ∧ F' 12 = .int .i64 ((i : Nat) : Int) ∧ F' 26 = .bool false ∧ F' 39 = .bool false ∧ F' 43 = .bool (decide (i < l.length))) ⟨e0, e1, e2, e3, e4, e7, e9, e10, e11, e12, e26, e39, rfl⟩ ?_
          clear e0 e1 e2 e3 e4 e7 e9 e10 e11 e12 e26 e39
          clear F
          rintro F ⟨e0, e1, e2, e3, e4, e7, e9, e10, e11, e12, e26, e39, e43⟩
          by_cases hc4 : i < l.length
          · refine wp_cond_true (fr_eval rfl (e43.trans (congrArg Value.bool (decide_eq_true hc4)))) ?_
            refine wp_skip ?_
            refine then_n ?_
            refine wp_seq ?_
            refine wp_block ?_
            refine wp_seq ?_
            by_cases hf2 : inR (List.getD l i zR)
            · have htl := textR_len (List.getD l i zR)
              obtain rfl : n = u := by omega
              refine wp_regionF ?_
              refine lf_val (v := .pointer (some ⟨g3, 0, none⟩)) (wantAll rfl) (rv_move rfl (fr_eval rfl e9)) ?_
              refine lf_val (v := vl) (wantAll rfl) (rv_move rfl (fr_eval rfl e2)) ?_
              refine lf_val (v := .int .i64 ((i : Nat) : Int)) (wantAll rfl) (rv_move rfl (fr_eval rfl e12)) ?_
              refine lf_val (v := .pointer (some (elemA vl (i * 67)))) (wantAll rfl) (rv_index rfl (fr_eval rfl rfl) (fr_eval rfl rfl) (rdN (hl.rd _ hH.chg) rfl) (show i < l.length from (by omega)) Try.underlying91 Try.sz93 (by decide)) ?_
              refine lf_val (wantAll rfl) (rv_loadElem rfl (fr_eval rfl rfl) (rdN (hl.rd _ hH.chg) rfl) (show i < l.length from (by omega)) (by decide) (flat_part zR cRc_len (show i < l.length from (by omega))) Try.underlying93 rfl Try.sz93) ?_
              refine lf_call (wantAll rfl) (rv_call (args := [.pointer (some ⟨g3, 0, none⟩), .agg (([.int .i64 ((List.getD l i zR).t), .int .i64 ((List.getD l i zR).c), .int .i64 ((List.getD l i zR).s)] : List Value) ++ (cBs ((List.getD l i zR).h.1) ++ cBs ((List.getD l i zR).b.1))).toArray]) rfl (evc (fr_eval rfl rfl) (evc (fr_eval rfl rfl) evn)) Try.call54) (rcSign_used s (keyL s n) (by omega) (List.getD l i zR) hf2 _ (by have := (hH.blk (i := 2) rfl); rw [show ((n : Nat) : Int) = (((keyL s n).length : Nat) : Int) from by rw [hkl]] at this; exact this) (Own.rd (hH.own (i := 3) rfl) (row_one cS_one))) ?_
              rintro _ w6 ⟨rfl, hx⟩
              refine ⟨_, rfl, ?_⟩
              replace hH := hH.ext hx
              clear hx
              refine lf_val (v := .tuple #[.slice none 0 0, .int .i64 15]) (wantAll rfl) (rv_move rfl (fr_eval rfl rfl)) ?_
              refine lf_val (v := .slice none 0 0) (wantAll rfl) (rv_extract rfl (fr_eval rfl rfl) rfl) ?_
              refine lf_val (v := .int .i64 15) (wantAll rfl) (rv_extract rfl (fr_eval rfl rfl) rfl) ?_
              refine lf_val (v := .slice none 0 0) (wantAll rfl) (rv_assign rfl (fr_eval rfl rfl)) ?_
              refine lf_val (v := .int .i64 15) (wantAll rfl) (rv_assign rfl (fr_eval rfl rfl)) ?_
              refine lf_nil ?_
              refine then_n ?_
              refine wp_seq ?_
              refine wp_seq ?_
              refine wp_gen (fun F' => F' 0 = .agg (cBs s.1).toArray ∧ F' 1 = .int .i64 ((n : Nat) : Int) ∧ F' 2 = vl ∧ F' 3 = .agg (([.int .i64 o.t, .int .i64 o.c, .int .i64 o.s] : List Value) ++ (cBs o.h.1 ++ cBs o.b.1)).toArray ∧ F' 4 = .pointer (some ⟨g1, 0, none⟩) ∧ F' 7 = .pointer (some ⟨g2, 0, none⟩) ∧ F' 9 = .pointer (some ⟨g3, 0, none⟩) ∧ F' 10 = .int .i64 0 ∧ F' 11 = .int .i64 ((n : Nat) : Int) ∧ F' 12 = .int .i64 ((i : Nat) : Int) ∧ F' 13 = .slice none 0 0 ∧ F' 14 = .int .i64 15 ∧ F' 26 = .bool false ∧ F' 39 = .bool false ∧ F' 43 = .bool true) ⟨e0, e1, e2, e3, e4, e7, e9, e10, e11, e12, rfl, rfl, e26, e39, (e43.trans (congrArg Value.bool (decide_eq_true hc4)))⟩ ?_
              clear e0 e1 e2 e3 e4 e7 e9 e10 e11 e12 e26 e39 e43
              clear F
              rintro F ⟨e0, e1, e2, e3, e4, e7, e9, e10, e11, e12, e13, e14, e26, e39, e43⟩
              refine wp_regionF ?_
              refine lf_val (v := vl) (wantAll rfl) (rv_move rfl (fr_eval rfl e2)) ?_
              refine lf_val (v := .int .i64 ((i : Nat) : Int)) (wantAll rfl) (rv_move rfl (fr_eval rfl e12)) ?_
              refine lf_val (v := .pointer (some (elemA vl (i * 67)))) (wantAll rfl) (rv_index rfl (fr_eval rfl rfl) (fr_eval rfl rfl) (rdN (hl.rd _ hH.chg) rfl) (show i < l.length from (by omega)) Try.underlying91 Try.sz93 (by decide)) ?_
              refine lf_val (wantAll rfl) (rv_loadElem rfl (fr_eval rfl rfl) (rdN (hl.rd _ hH.chg) rfl) (show i < l.length from (by omega)) (by decide) (flat_part zR cRc_len (show i < l.length from (by omega))) Try.underlying93 rfl Try.sz93) ?_
              refine lf_call (wantAll rfl) (rv_call (args := [.agg (([.int .i64 ((List.getD l i zR).t), .int .i64 ((List.getD l i zR).c), .int .i64 ((List.getD l i zR).s)] : List Value) ++ (cBs ((List.getD l i zR).h.1) ++ cBs ((List.getD l i zR).b.1))).toArray]) rfl (evc (fr_eval rfl rfl) evn) Try.call55) (calls_known (b' := true) (rcRight12_calls (List.getD l i zR) _) (decide_eq_true hf2)) ?_
              rintro _ w7 ⟨rfl, hx⟩
              refine ⟨_, rfl, ?_⟩
              replace hH := hH.ext hx
              clear hx
              refine lf_val (v := .bool false) (wantAll rfl) (rv_not (b := true) rfl (fr_eval rfl rfl)) ?_
              refine lf_nil ?_
              refine then_n ?_
              refine wp_gen (fun F' => F' 0 = .agg (cBs s.1).toArray ∧ F' 1 = .int .i64 ((n : Nat) : Int) ∧ F' 2 = vl ∧ F' 3 = .agg (([.int .i64 o.t, .int .i64 o.c, .int .i64 o.s] : List Value) ++ (cBs o.h.1 ++ cBs o.b.1)).toArray ∧ F' 4 = .pointer (some ⟨g1, 0, none⟩) ∧ F' 7 = .pointer (some ⟨g2, 0, none⟩) ∧ F' 9 = .pointer (some ⟨g3, 0, none⟩) ∧ F' 10 = .int .i64 0 ∧ F' 11 = .int .i64 ((n : Nat) : Int) ∧ F' 12 = .int .i64 ((i : Nat) : Int) ∧ F' 13 = .slice none 0 0 ∧ F' 14 = .int .i64 15 ∧ F' 26 = .bool false ∧ F' 39 = .bool false ∧ F' 43 = .bool true ∧ F' 60 = .bool false) ⟨e0, e1, e2, e3, e4, e7, e9, e10, e11, e12, e13, e14, e26, e39, e43, rfl⟩ ?_
              clear e0 e1 e2 e3 e4 e7 e9 e10 e11 e12 e13 e14 e26 e39 e43
              clear F
              rintro F ⟨e0, e1, e2, e3, e4, e7, e9, e10, e11, e12, e13, e14, e26, e39, e43, e60⟩
              refine wp_cond_false (fr_eval rfl e60) ?_
              refine wp_skip ?_
              refine then_n ?_
              refine wp_seq ?_
              refine wp_seq ?_
              refine wp_regionF ?_
              refine lf_val (v := .int .i64 ((n : Nat) : Int)) (wantAll rfl) (rv_move rfl (fr_eval rfl e11)) ?_
              refine lf_val (v := .int .i64 ((n : Nat) : Int)) (wantAll rfl) (rv_move rfl (fr_eval rfl e1)) ?_
              refine lf_val (v := .bool true) (wantAll rfl) (rv_known (rv_geqP (p := True) rfl (fr_eval rfl rfl) (fr_eval rfl rfl) (by simp)) (decide_eq_true trivial)) ?_
              refine lf_nil ?_
              refine then_n ?_
              refine wp_gen (fun F' => F' 0 = .agg (cBs s.1).toArray ∧ F' 1 = .int .i64 ((n : Nat) : Int) ∧ F' 2 = vl ∧ F' 3 = .agg (([.int .i64 o.t, .int .i64 o.c, .int .i64 o.s] : List Value) ++ (cBs o.h.1 ++ cBs o.b.1)).toArray ∧ F' 4 = .pointer (some ⟨g1, 0, none⟩) ∧ F' 7 = .pointer (some ⟨g2, 0, none⟩) ∧ F' 9 = .pointer (some ⟨g3, 0, none⟩) ∧ F' 10 = .int .i64 0 ∧ F' 11 = .int .i64 ((n : Nat) : Int) ∧ F' 12 = .int .i64 ((i : Nat) : Int) ∧ F' 13 = .slice none 0 0 ∧ F' 14 = .int .i64 15 ∧ F' 26 = .bool false ∧ F' 39 = .bool false ∧ F' 43 = .bool true ∧ F' 60 = .bool false ∧ F' 76 = .bool true) ⟨e0, e1, e2, e3, e4, e7, e9, e10, e11, e12, e13, e14, e26, e39, e43, e60, rfl⟩ ?_
              clear e0 e1 e2 e3 e4 e7 e9 e10 e11 e12 e13 e14 e26 e39 e43 e60
              clear F
              rintro F ⟨e0, e1, e2, e3, e4, e7, e9, e10, e11, e12, e13, e14, e26, e39, e43, e60, e76⟩
              refine wp_cond_true (fr_eval rfl e76) ?_
              refine wp_seq ?_
              refine wp_seq ?_
              refine wp_regionF ?_
              refine lf_val (v := .int .i64 15) (wantAll rfl) (rv_move rfl (fr_eval rfl e14)) ?_
              refine lf_val (v := .bool false) (wantAll rfl) (rv_neq rfl (fr_eval rfl rfl) rfl (show decide ((15 : Int) = 15) = true from by decide)) ?_
              refine lf_nil ?_
              refine then_n ?_
              refine wp_gen (fun F' => F' 0 = .agg (cBs s.1).toArray ∧ F' 1 = .int .i64 ((n : Nat) : Int) ∧ F' 2 = vl ∧ F' 3 = .agg (([.int .i64 o.t, .int .i64 o.c, .int .i64 o.s] : List Value) ++ (cBs o.h.1 ++ cBs o.b.1)).toArray ∧ F' 4 = .pointer (some ⟨g1, 0, none⟩) ∧ F' 7 = .pointer (some ⟨g2, 0, none⟩) ∧ F' 9 = .pointer (some ⟨g3, 0, none⟩) ∧ F' 10 = .int .i64 0 ∧ F' 11 = .int .i64 ((n : Nat) : Int) ∧ F' 12 = .int .i64 ((i : Nat) : Int) ∧ F' 13 = .slice none 0 0 ∧ F' 14 = .int .i64 15 ∧ F' 26 = .bool false ∧ F' 39 = .bool false ∧ F' 43 = .bool true ∧ F' 60 = .bool false ∧ F' 76 = .bool true ∧ F' 78 = .bool false) ⟨e0, e1, e2, e3, e4, e7, e9, e10, e11, e12, e13, e14, e26, e39, e43, e60, e76, rfl⟩ ?_
              clear e0 e1 e2 e3 e4 e7 e9 e10 e11 e12 e13 e14 e26 e39 e43 e60 e76
              clear F
              rintro F ⟨e0, e1, e2, e3, e4, e7, e9, e10, e11, e12, e13, e14, e26, e39, e43, e60, e76, e78⟩
              refine wp_cond_false (fr_eval rfl e78) ?_
              refine wp_skip ?_
              refine then_n ?_
              refine wp_exit ?_
              refine then_exit ?_
              refine blk_exit ?_
              refine then_n ?_
              refine wp_regionF ?_
              refine lf_val (v := .int .i64 ((i : Nat) : Int)) (wantAll rfl) (rv_move rfl (fr_eval rfl e12)) ?_
              refine lf_val (v := .int .i64 ((i + 1 : Nat) : Int)) (wantAll rfl) (rv_add rfl (fr_eval rfl rfl) rfl (wrap_i64 (by omega) (by omega) (by omega))) ?_
              refine lf_val (v := .int .i64 ((i + 1 : Nat) : Int)) (wantAll rfl) (rv_assign rfl (fr_eval rfl rfl)) ?_
              refine lf_nil ?_
              refine then_n ?_
              exact ⟨_, _, (by omega), rfl, i + 1, n, rfl, (by omega), (by omega), e0, e1, e2, e3, e4, e7, e9, e10, e11, rfl, e26, e39, hH⟩
            · have htl := textR_len (List.getD l i zR)
              obtain rfl : n = u := by omega
              refine wp_regionF ?_
              refine lf_val (v := .pointer (some ⟨g3, 0, none⟩)) (wantAll rfl) (rv_move rfl (fr_eval rfl e9)) ?_
              refine lf_val (v := vl) (wantAll rfl) (rv_move rfl (fr_eval rfl e2)) ?_
              refine lf_val (v := .int .i64 ((i : Nat) : Int)) (wantAll rfl) (rv_move rfl (fr_eval rfl e12)) ?_
              refine lf_val (v := .pointer (some (elemA vl (i * 67)))) (wantAll rfl) (rv_index rfl (fr_eval rfl rfl) (fr_eval rfl rfl) (rdN (hl.rd _ hH.chg) rfl) (show i < l.length from (by omega)) Try.underlying91 Try.sz93 (by decide)) ?_
              refine lf_val (wantAll rfl) (rv_loadElem rfl (fr_eval rfl rfl) (rdN (hl.rd _ hH.chg) rfl) (show i < l.length from (by omega)) (by decide) (flat_part zR cRc_len (show i < l.length from (by omega))) Try.underlying93 rfl Try.sz93) ?_
              refine lf_call (wantAll rfl) (rv_call (args := [.pointer (some ⟨g3, 0, none⟩), .agg (([.int .i64 ((List.getD l i zR).t), .int .i64 ((List.getD l i zR).c), .int .i64 ((List.getD l i zR).s)] : List Value) ++ (cBs ((List.getD l i zR).h.1) ++ cBs ((List.getD l i zR).b.1))).toArray]) rfl (evc (fr_eval rfl rfl) (evc (fr_eval rfl rfl) evn)) Try.call54) (rcSign_bad (List.getD l i zR) hf2 _ _) ?_
              rintro _ w8 ⟨rfl, hx⟩
              refine ⟨_, rfl, ?_⟩
              replace hH := hH.ext hx
              clear hx
              refine lf_val (v := .tuple #[.slice none 0 0, .int .i64 1]) (wantAll rfl) (rv_move rfl (fr_eval rfl rfl)) ?_
              refine lf_val (v := .slice none 0 0) (wantAll rfl) (rv_extract rfl (fr_eval rfl rfl) rfl) ?_
              refine lf_val (v := .int .i64 1) (wantAll rfl) (rv_extract rfl (fr_eval rfl rfl) rfl) ?_
              refine lf_val (v := .slice none 0 0) (wantAll rfl) (rv_assign rfl (fr_eval rfl rfl)) ?_
              refine lf_val (v := .int .i64 1) (wantAll rfl) (rv_assign rfl (fr_eval rfl rfl)) ?_
              refine lf_nil ?_
              refine then_n ?_
              refine wp_seq ?_
              refine wp_seq ?_
              refine wp_gen (fun F' => F' 0 = .agg (cBs s.1).toArray ∧ F' 1 = .int .i64 ((n : Nat) : Int) ∧ F' 2 = vl ∧ F' 3 = .agg (([.int .i64 o.t, .int .i64 o.c, .int .i64 o.s] : List Value) ++ (cBs o.h.1 ++ cBs o.b.1)).toArray ∧ F' 4 = .pointer (some ⟨g1, 0, none⟩) ∧ F' 7 = .pointer (some ⟨g2, 0, none⟩) ∧ F' 9 = .pointer (some ⟨g3, 0, none⟩) ∧ F' 10 = .int .i64 0 ∧ F' 11 = .int .i64 ((n : Nat) : Int) ∧ F' 12 = .int .i64 ((i : Nat) : Int) ∧ F' 13 = .slice none 0 0 ∧ F' 14 = .int .i64 1 ∧ F' 26 = .bool false ∧ F' 39 = .bool false ∧ F' 43 = .bool true) ⟨e0, e1, e2, e3, e4, e7, e9, e10, e11, e12, rfl, rfl, e26, e39, (e43.trans (congrArg Value.bool (decide_eq_true hc4)))⟩ ?_
              clear e0 e1 e2 e3 e4 e7 e9 e10 e11 e12 e26 e39 e43
              clear F
              rintro F ⟨e0, e1, e2, e3, e4, e7, e9, e10, e11, e12, e13, e14, e26, e39, e43⟩
              refine wp_regionF ?_
              refine lf_val (v := vl) (wantAll rfl) (rv_move rfl (fr_eval rfl e2)) ?_
              refine lf_val (v := .int .i64 ((i : Nat) : Int)) (wantAll rfl) (rv_move rfl (fr_eval rfl e12)) ?_
              refine lf_val (v := .pointer (some (elemA vl (i * 67)))) (wantAll rfl) (rv_index rfl (fr_eval rfl rfl) (fr_eval rfl rfl) (rdN (hl.rd _ hH.chg) rfl) (show i < l.length from (by omega)) Try.underlying91 Try.sz93 (by decide)) ?_
              refine lf_val (wantAll rfl) (rv_loadElem rfl (fr_eval rfl rfl) (rdN (hl.rd _ hH.chg) rfl) (show i < l.length from (by omega)) (by decide) (flat_part zR cRc_len (show i < l.length from (by omega))) Try.underlying93 rfl Try.sz93) ?_
              refine lf_call (wantAll rfl) (rv_call (args := [.agg (([.int .i64 ((List.getD l i zR).t), .int .i64 ((List.getD l i zR).c), .int .i64 ((List.getD l i zR).s)] : List Value) ++ (cBs ((List.getD l i zR).h.1) ++ cBs ((List.getD l i zR).b.1))).toArray]) rfl (evc (fr_eval rfl rfl) evn) Try.call55) (calls_known (b' := false) (rcRight12_calls (List.getD l i zR) _) (decide_eq_false hf2)) ?_
              rintro _ w9 ⟨rfl, hx⟩
              refine ⟨_, rfl, ?_⟩
              replace hH := hH.ext hx
              clear hx
              refine lf_val (v := .bool true) (wantAll rfl) (rv_not (b := false) rfl (fr_eval rfl rfl)) ?_
              refine lf_nil ?_
              refine then_n ?_
              refine wp_gen (fun F' => F' 0 = .agg (cBs s.1).toArray ∧ F' 1 = .int .i64 ((n : Nat) : Int) ∧ F' 2 = vl ∧ F' 3 = .agg (([.int .i64 o.t, .int .i64 o.c, .int .i64 o.s] : List Value) ++ (cBs o.h.1 ++ cBs o.b.1)).toArray ∧ F' 4 = .pointer (some ⟨g1, 0, none⟩) ∧ F' 7 = .pointer (some ⟨g2, 0, none⟩) ∧ F' 9 = .pointer (some ⟨g3, 0, none⟩) ∧ F' 10 = .int .i64 0 ∧ F' 11 = .int .i64 ((n : Nat) : Int) ∧ F' 12 = .int .i64 ((i : Nat) : Int) ∧ F' 13 = .slice none 0 0 ∧ F' 14 = .int .i64 1 ∧ F' 26 = .bool false ∧ F' 39 = .bool false ∧ F' 43 = .bool true ∧ F' 60 = .bool true) ⟨e0, e1, e2, e3, e4, e7, e9, e10, e11, e12, e13, e14, e26, e39, e43, rfl⟩ ?_
              clear e0 e1 e2 e3 e4 e7 e9 e10 e11 e12 e13 e14 e26 e39 e43
              clear F
              rintro F ⟨e0, e1, e2, e3, e4, e7, e9, e10, e11, e12, e13, e14, e26, e39, e43, e60⟩
              refine wp_cond_true (fr_eval rfl e60) ?_
              refine wp_seq ?_
              refine wp_seq ?_
              refine wp_regionF ?_
              refine lf_val (v := .int .i64 1) (wantAll rfl) (rv_move rfl (fr_eval rfl e14)) ?_
              refine lf_val (v := .bool false) (wantAll rfl) (rv_neq rfl (fr_eval rfl rfl) rfl (show decide ((1 : Int) = 1) = true from by decide)) ?_
              refine lf_val (v := .bool false) (wantAll rfl) (rv_move rfl (fr_eval rfl rfl)) ?_
              refine lf_val (v := .slice none 0 0) (wantF (d := 63) rfl (by kernel_rfl) rfl rfl) (rv_move rfl (fr_eval rfl e13)) ?_
              refine lf_val (v := .int .i64 0) (wantF (d := 63) rfl (by kernel_rfl) rfl rfl) (rv_len rfl (fr_eval rfl rfl) (Rd.nil (size := 1)) Try.underlying58) ?_
              refine lf_val (v := .bool false) (wantF (d := 63) rfl (by kernel_rfl) rfl rfl) (rv_neq rfl (fr_eval rfl rfl) rfl (show decide ((0 : Int) = 0) = true from by decide)) ?_
              refine lf_val (v := .bool false) (wantAll rfl) (rv_pickF rfl (fr_eval rfl rfl) (fr_eval rfl rfl)) ?_
              refine lf_val (v := .bool false) (wantAll rfl) (rv_move rfl (fr_eval rfl rfl)) ?_
              refine lf_val (v := .pointer (some ⟨g3, 0, none⟩)) (wantF (d := 68) rfl (by kernel_rfl) rfl rfl) (rv_move rfl (fr_eval rfl e9)) ?_
              refine lf_call (wantF (d := 68) rfl (by kernel_rfl) rfl rfl) (rv_call (args := [.pointer (some ⟨g3, 0, none⟩)]) rfl (evc (fr_eval rfl rfl) evn) Try.call49) (kNext s (keyL s n) (by omega) n (by omega) _ (hH.blk (i := 2) rfl) (Own.rd (hH.own (i := 3) rfl) (row_one cS_one))) ?_
              rintro _ w10 ⟨rfl, hx⟩
              refine ⟨_, rfl, ?_⟩
              replace hH := hH.ext hx
              clear hx
              refine lf_val (v := .int .i64 ((n : Nat) : Int)) (wantF (d := 68) rfl (by kernel_rfl) rfl rfl) (rv_move rfl (fr_eval rfl e11)) ?_
              refine lf_val (v := .bool false) (wantF (d := 68) rfl (by kernel_rfl) rfl rfl) (rv_known (rv_neqP (p := False) rfl (fr_eval rfl rfl) (fr_eval rfl rfl) (by simp)) (decide_eq_false id)) ?_
              refine lf_val (v := .bool false) (wantAll rfl) (rv_pickF rfl (fr_eval rfl rfl) (fr_eval rfl rfl)) ?_
              refine lf_nil ?_
              refine then_n ?_
              refine wp_gen (fun F' => F' 0 = .agg (cBs s.1).toArray ∧ F' 1 = .int .i64 ((n : Nat) : Int) ∧ F' 2 = vl ∧ F' 3 = .agg (([.int .i64 o.t, .int .i64 o.c, .int .i64 o.s] : List Value) ++ (cBs o.h.1 ++ cBs o.b.1)).toArray ∧ F' 4 = .pointer (some ⟨g1, 0, none⟩) ∧ F' 7 = .pointer (some ⟨g2, 0, none⟩) ∧ F' 9 = .pointer (some ⟨g3, 0, none⟩) ∧ F' 10 = .int .i64 0 ∧ F' 11 = .int .i64 ((n : Nat) : Int) ∧ F' 12 = .int .i64 ((i : Nat) : Int) ∧ F' 13 = .slice none 0 0 ∧ F' 14 = .int .i64 1 ∧ F' 26 = .bool false ∧ F' 39 = .bool false ∧ F' 43 = .bool true ∧ F' 60 = .bool true ∧ F' 73 = .bool false) ⟨e0, e1, e2, e3, e4, e7, e9, e10, e11, e12, e13, e14, e26, e39, e43, e60, rfl⟩ ?_
              clear e0 e1 e2 e3 e4 e7 e9 e10 e11 e12 e13 e14 e26 e39 e43 e60
              clear F
              rintro F ⟨e0, e1, e2, e3, e4, e7, e9, e10, e11, e12, e13, e14, e26, e39, e43, e60, e73⟩
              refine wp_cond_false (fr_eval rfl e73) ?_
              refine wp_skip ?_
              refine then_n ?_
              refine wp_exit ?_
              refine then_exit ?_
              refine blk_exit ?_
              refine then_n ?_
              refine wp_regionF ?_
              refine lf_val (v := .int .i64 ((i : Nat) : Int)) (wantAll rfl) (rv_move rfl (fr_eval rfl e12)) ?_
              refine lf_val (v := .int .i64 ((i + 1 : Nat) : Int)) (wantAll rfl) (rv_add rfl (fr_eval rfl rfl) rfl (wrap_i64 (by omega) (by omega) (by omega))) ?_
              refine lf_val (v := .int .i64 ((i + 1 : Nat) : Int)) (wantAll rfl) (rv_assign rfl (fr_eval rfl rfl)) ?_
              refine lf_nil ?_
              refine then_n ?_
              exact ⟨_, _, (by omega), rfl, i + 1, n, rfl, (by omega), (by omega), e0, e1, e2, e3, e4, e7, e9, e10, e11, rfl, e26, e39, hH⟩
          · refine wp_cond_false (fr_eval rfl (e43.trans (congrArg Value.bool (decide_eq_false hc4)))) ?_
            refine wp_exit ?_
            refine then_exit ?_
            refine then_exit ?_
            refine blk_exit ?_
            refine then_n ?_
            refine wp_seq ?_
            refine wp_regionF ?_
            refine lf_call (wantAll rfl) (rv_call (args := []) rfl evn Try.call53) (awake12_calls _) ?_
            rintro _ w11 ⟨rfl, hx⟩
            refine ⟨_, rfl, ?_⟩
            replace hH := hH.ext hx
            clear hx
            refine lf_val (v := .bool true) (wantAll rfl) (rv_assign rfl (fr_eval rfl rfl)) ?_
            refine lf_nil ?_
            refine then_n ?_
            refine wp_gen (fun F' => F' 0 = .agg (cBs s.1).toArray ∧ F' 1 = .int .i64 ((n : Nat) : Int) ∧ F' 2 = vl ∧ F' 3 = .agg (([.int .i64 o.t, .int .i64 o.c, .int .i64 o.s] : List Value) ++ (cBs o.h.1 ++ cBs o.b.1)).toArray ∧ F' 4 = .pointer (some ⟨g1, 0, none⟩) ∧ F' 7 = .pointer (some ⟨g2, 0, none⟩) ∧ F' 8 = .bool true ∧ F' 9 = .pointer (some ⟨g3, 0, none⟩) ∧ F' 10 = .int .i64 0 ∧ F' 11 = .int .i64 ((u : Nat) : Int) ∧ F' 12 = .int .i64 ((i : Nat) : Int) ∧ F' 26 = .bool false ∧ F' 39 = .bool false ∧ F' 43 = .bool false) ⟨e0, e1, e2, e3, e4, e7, rfl, e9, e10, e11, e12, e26, e39, (e43.trans (congrArg Value.bool (decide_eq_false hc4)))⟩ ?_
            clear e0 e1 e2 e3 e4 e7 e9 e10 e11 e12 e26 e39 e43
            clear F
            rintro F ⟨e0, e1, e2, e3, e4, e7, e8, e9, e10, e11, e12, e26, e39, e43⟩
            refine wp_ret ?_
            exact bodyPost_ret (v := (.bool true)) (res1 rfl (ro_tmp rfl e8)) rfl (⟨rfl, hH.done⟩)
        · refine wp_regionF ?_
          refine lf_val (v := .int .i64 ((i : Nat) : Int)) (wantAll rfl) (rv_move rfl (fr_eval rfl e12)) ?_
          refine lf_val (v := vl) (wantAll rfl) (rv_move rfl (fr_eval rfl e2)) ?_
          refine lf_val (v := .int .i64 ((l.length : Nat) : Int)) (wantAll rfl) (rv_len rfl (fr_eval rfl rfl) (hl.rd _ hH.chg) Try.underlying91) ?_
          refine lf_val (v := .bool (decide (i < l.length))) (wantAll rfl) (rv_lssP (p := i < l.length) rfl (fr_eval rfl rfl) (fr_eval rfl rfl) (by omega)) ?_
          refine lf_nil ?_
          refine then_n ?_
          refine wp_gen (fun F' => F' 0 = .agg (cBs s.1).toArray ∧ F' 1 = .int .i64 ((n : Nat) : Int) ∧ F' 2 = vl ∧ F' 3 = .agg (([.int .i64 o.t, .int .i64 o.c, .int .i64 o.s] : List Value) ++ (cBs o.h.1 ++ cBs o.b.1)).toArray ∧ F' 4 = .pointer (some ⟨g1, 0, none⟩) ∧ F' 7 = .pointer (some ⟨g2, 0, none⟩) ∧ F' 9 = .pointer (some ⟨g3, 0, none⟩) ∧ F' 10 = .int .i64 0 ∧ F' 11 = .int .i64 ((u : Nat) : Int) ∧ F' 12 = .int .i64 ((i : Nat) : Int) ∧ F' 26 = .bool false ∧ F' 39 = .bool false ∧ F' 43 = .bool (decide (i < l.length))) ⟨e0, e1, e2, e3, e4, e7, e9, e10, e11, e12, e26, e39, rfl⟩ ?_
          clear e0 e1 e2 e3 e4 e7 e9 e10 e11 e12 e26 e39
          clear F
          rintro F ⟨e0, e1, e2, e3, e4, e7, e9, e10, e11, e12, e26, e39, e43⟩
          by_cases hc5 : i < l.length
          · refine wp_cond_true (fr_eval rfl (e43.trans (congrArg Value.bool (decide_eq_true hc5)))) ?_
            refine wp_skip ?_
            refine then_n ?_
            refine wp_seq ?_
            refine wp_block ?_
            refine wp_seq ?_
            by_cases hf3 : inR (List.getD l i zR)
            · have htl := textR_len (List.getD l i zR)
              have hpl : (pathT (List.map leafS (keyL s n)) u).length ≤ 8 := pathM_len (s := s) (n := n) (i := u) (by omega)
              have hone := oneM_len s u (textR (List.getD l i zR))
              refine wp_regionF ?_
              refine lf_val (v := .pointer (some ⟨g3, 0, none⟩)) (wantAll rfl) (rv_move rfl (fr_eval rfl e9)) ?_
              refine lf_val (v := vl) (wantAll rfl) (rv_move rfl (fr_eval rfl e2)) ?_
              refine lf_val (v := .int .i64 ((i : Nat) : Int)) (wantAll rfl) (rv_move rfl (fr_eval rfl e12)) ?_
              refine lf_val (v := .pointer (some (elemA vl (i * 67)))) (wantAll rfl) (rv_index rfl (fr_eval rfl rfl) (fr_eval rfl rfl) (rdN (hl.rd _ hH.chg) rfl) (show i < l.length from (by omega)) Try.underlying91 Try.sz93 (by decide)) ?_
              refine lf_val (wantAll rfl) (rv_loadElem rfl (fr_eval rfl rfl) (rdN (hl.rd _ hH.chg) rfl) (show i < l.length from (by omega)) (by decide) (flat_part zR cRc_len (show i < l.length from (by omega))) Try.underlying93 rfl Try.sz93) ?_
              refine lf_call (wantAll rfl) (rv_call (args := [.pointer (some ⟨g3, 0, none⟩), .agg (([.int .i64 ((List.getD l i zR).t), .int .i64 ((List.getD l i zR).c), .int .i64 ((List.getD l i zR).s)] : List Value) ++ (cBs ((List.getD l i zR).h.1) ++ cBs ((List.getD l i zR).b.1))).toArray]) rfl (evc (fr_eval rfl rfl) (evc (fr_eval rfl rfl) evn)) Try.call54) (rcSign_yes s (keyL s n) (by omega) u (by omega) (List.getD l i zR) hf3 _ (hH.blk (i := 2) rfl) (hH.own (i := 3) rfl)) ?_
              rintro _ w12 ⟨y2, rfl, hP⟩
              refine ⟨_, rfl, ?_⟩
              have hx := hH.callChg (L := [_, _]) (M := [_, _]) hold_in hP
              replace hH : Heap _ _ _ [_, _, _, _, _] := hH.call (L := [_, _]) (M := [_, _]) hold_in hP (Stays.blk (hP.blk (i := 0) rfl) (Stays.own (hP.own (i := 1) rfl) (Stays.own (hP.own (i := 2) rfl) Stays.nil)))
              clear hP
              clear hx
              refine lf_val (v := .tuple #[y2, .int .i64 0]) (wantAll rfl) (rv_move rfl (fr_eval rfl rfl)) ?_
              refine lf_val (v := y2) (wantAll rfl) (rv_extract rfl (fr_eval rfl rfl) rfl) ?_
              refine lf_val (v := .int .i64 0) (wantAll rfl) (rv_extract rfl (fr_eval rfl rfl) rfl) ?_
              refine lf_val (v := y2) (wantAll rfl) (rv_assign rfl (fr_eval rfl rfl)) ?_
              refine lf_val (v := .int .i64 0) (wantAll rfl) (rv_assign rfl (fr_eval rfl rfl)) ?_
              refine lf_nil ?_
              refine then_n ?_
              refine wp_seq ?_
              refine wp_seq ?_
              refine wp_gen (fun F' => F' 0 = .agg (cBs s.1).toArray ∧ F' 1 = .int .i64 ((n : Nat) : Int) ∧ F' 2 = vl ∧ F' 3 = .agg (([.int .i64 o.t, .int .i64 o.c, .int .i64 o.s] : List Value) ++ (cBs o.h.1 ++ cBs o.b.1)).toArray ∧ F' 4 = .pointer (some ⟨g1, 0, none⟩) ∧ F' 7 = .pointer (some ⟨g2, 0, none⟩) ∧ F' 9 = .pointer (some ⟨g3, 0, none⟩) ∧ F' 10 = .int .i64 0 ∧ F' 11 = .int .i64 ((u : Nat) : Int) ∧ F' 12 = .int .i64 ((i : Nat) : Int) ∧ F' 13 = y2 ∧ F' 14 = .int .i64 0 ∧ F' 26 = .bool false ∧ F' 39 = .bool false ∧ F' 43 = .bool true) ⟨e0, e1, e2, e3, e4, e7, e9, e10, e11, e12, rfl, rfl, e26, e39, (e43.trans (congrArg Value.bool (decide_eq_true hc5)))⟩ ?_
              clear e0 e1 e2 e3 e4 e7 e9 e10 e11 e12 e26 e39 e43
              clear F
              rintro F ⟨e0, e1, e2, e3, e4, e7, e9, e10, e11, e12, e13, e14, e26, e39, e43⟩
              refine wp_regionF ?_
              refine lf_val (v := vl) (wantAll rfl) (rv_move rfl (fr_eval rfl e2)) ?_
              refine lf_val (v := .int .i64 ((i : Nat) : Int)) (wantAll rfl) (rv_move rfl (fr_eval rfl e12)) ?_
              refine lf_val (v := .pointer (some (elemA vl (i * 67)))) (wantAll rfl) (rv_index rfl (fr_eval rfl rfl) (fr_eval rfl rfl) (rdN (hl.rd _ hH.chg) rfl) (show i < l.length from (by omega)) Try.underlying91 Try.sz93 (by decide)) ?_
              refine lf_val (wantAll rfl) (rv_loadElem rfl (fr_eval rfl rfl) (rdN (hl.rd _ hH.chg) rfl) (show i < l.length from (by omega)) (by decide) (flat_part zR cRc_len (show i < l.length from (by omega))) Try.underlying93 rfl Try.sz93) ?_
              refine lf_call (wantAll rfl) (rv_call (args := [.agg (([.int .i64 ((List.getD l i zR).t), .int .i64 ((List.getD l i zR).c), .int .i64 ((List.getD l i zR).s)] : List Value) ++ (cBs ((List.getD l i zR).h.1) ++ cBs ((List.getD l i zR).b.1))).toArray]) rfl (evc (fr_eval rfl rfl) evn) Try.call55) (calls_known (b' := true) (rcRight12_calls (List.getD l i zR) _) (decide_eq_true hf3)) ?_
              rintro _ w13 ⟨rfl, hx⟩
              refine ⟨_, rfl, ?_⟩
              replace hH := hH.ext hx
              clear hx
              refine lf_val (v := .bool false) (wantAll rfl) (rv_not (b := true) rfl (fr_eval rfl rfl)) ?_
              refine lf_nil ?_
              refine then_n ?_
              refine wp_gen (fun F' => F' 0 = .agg (cBs s.1).toArray ∧ F' 1 = .int .i64 ((n : Nat) : Int) ∧ F' 2 = vl ∧ F' 3 = .agg (([.int .i64 o.t, .int .i64 o.c, .int .i64 o.s] : List Value) ++ (cBs o.h.1 ++ cBs o.b.1)).toArray ∧ F' 4 = .pointer (some ⟨g1, 0, none⟩) ∧ F' 7 = .pointer (some ⟨g2, 0, none⟩) ∧ F' 9 = .pointer (some ⟨g3, 0, none⟩) ∧ F' 10 = .int .i64 0 ∧ F' 11 = .int .i64 ((u : Nat) : Int) ∧ F' 12 = .int .i64 ((i : Nat) : Int) ∧ F' 13 = y2 ∧ F' 14 = .int .i64 0 ∧ F' 26 = .bool false ∧ F' 39 = .bool false ∧ F' 43 = .bool true ∧ F' 60 = .bool false) ⟨e0, e1, e2, e3, e4, e7, e9, e10, e11, e12, e13, e14, e26, e39, e43, rfl⟩ ?_
              clear e0 e1 e2 e3 e4 e7 e9 e10 e11 e12 e13 e14 e26 e39 e43
              clear F
              rintro F ⟨e0, e1, e2, e3, e4, e7, e9, e10, e11, e12, e13, e14, e26, e39, e43, e60⟩
              refine wp_cond_false (fr_eval rfl e60) ?_
              refine wp_skip ?_
              refine then_n ?_
              refine wp_seq ?_
              refine wp_seq ?_
              refine wp_regionF ?_
              refine lf_val (v := .int .i64 ((u : Nat) : Int)) (wantAll rfl) (rv_move rfl (fr_eval rfl e11)) ?_
              refine lf_val (v := .int .i64 ((n : Nat) : Int)) (wantAll rfl) (rv_move rfl (fr_eval rfl e1)) ?_
              refine lf_val (v := .bool false) (wantAll rfl) (rv_known (rv_geqP (p := u ≥ n) rfl (fr_eval rfl rfl) (fr_eval rfl rfl) (by omega)) (decide_eq_false hf1)) ?_
              refine lf_nil ?_
              refine then_n ?_
              refine wp_gen (fun F' => F' 0 = .agg (cBs s.1).toArray ∧ F' 1 = .int .i64 ((n : Nat) : Int) ∧ F' 2 = vl ∧ F' 3 = .agg (([.int .i64 o.t, .int .i64 o.c, .int .i64 o.s] : List Value) ++ (cBs o.h.1 ++ cBs o.b.1)).toArray ∧ F' 4 = .pointer (some ⟨g1, 0, none⟩) ∧ F' 7 = .pointer (some ⟨g2, 0, none⟩) ∧ F' 9 = .pointer (some ⟨g3, 0, none⟩) ∧ F' 10 = .int .i64 0 ∧ F' 11 = .int .i64 ((u : Nat) : Int) ∧ F' 12 = .int .i64 ((i : Nat) : Int) ∧ F' 13 = y2 ∧ F' 14 = .int .i64 0 ∧ F' 26 = .bool false ∧ F' 39 = .bool false ∧ F' 43 = .bool true ∧ F' 60 = .bool false ∧ F' 76 = .bool false) ⟨e0, e1, e2, e3, e4, e7, e9, e10, e11, e12, e13, e14, e26, e39, e43, e60, rfl⟩ ?_
              clear e0 e1 e2 e3 e4 e7 e9 e10 e11 e12 e13 e14 e26 e39 e43 e60
              clear F
              rintro F ⟨e0, e1, e2, e3, e4, e7, e9, e10, e11, e12, e13, e14, e26, e39, e43, e60, e76⟩
              refine wp_cond_false (fr_eval rfl e76) ?_
              refine wp_skip ?_
              refine then_n ?_
              refine wp_seq ?_
              refine wp_regionF ?_
              refine lf_val (v := .int .i64 ((u : Nat) : Int)) (wantAll rfl) (rv_move rfl (fr_eval rfl e11)) ?_
              refine lf_val (v := .int .i64 ((u + 1 : Nat) : Int)) (wantAll rfl) (rv_add rfl (fr_eval rfl rfl) rfl (wrap_i64 (by omega) (by omega) (by omega))) ?_
              refine lf_val (v := .int .i64 ((u + 1 : Nat) : Int)) (wantAll rfl) (rv_assign rfl (fr_eval rfl rfl)) ?_
              refine lf_nil ?_
              refine then_n ?_
              refine wp_seq ?_
              refine wp_gen (fun F' => F' 0 = .agg (cBs s.1).toArray ∧ F' 1 = .int .i64 ((n : Nat) : Int) ∧ F' 2 = vl ∧ F' 3 = .agg (([.int .i64 o.t, .int .i64 o.c, .int .i64 o.s] : List Value) ++ (cBs o.h.1 ++ cBs o.b.1)).toArray ∧ F' 4 = .pointer (some ⟨g1, 0, none⟩) ∧ F' 7 = .pointer (some ⟨g2, 0, none⟩) ∧ F' 9 = .pointer (some ⟨g3, 0, none⟩) ∧ F' 10 = .int .i64 0 ∧ F' 11 = .int .i64 ((u + 1 : Nat) : Int) ∧ F' 12 = .int .i64 ((i : Nat) : Int) ∧ F' 13 = y2 ∧ F' 14 = .int .i64 0 ∧ F' 26 = .bool false ∧ F' 39 = .bool false ∧ F' 43 = .bool true ∧ F' 60 = .bool false ∧ F' 76 = .bool false) ⟨e0, e1, e2, e3, e4, e7, e9, e10, rfl, e12, e13, e14, e26, e39, e43, e60, e76⟩ ?_
              clear e0 e1 e2 e3 e4 e7 e9 e10 e11 e12 e13 e14 e26 e39 e43 e60 e76
              clear F
              rintro F ⟨e0, e1, e2, e3, e4, e7, e9, e10, e11, e12, e13, e14, e26, e39, e43, e60, e76⟩
              refine wp_regionF ?_
              refine lf_val (v := vl) (wantAll rfl) (rv_move rfl (fr_eval rfl e2)) ?_
              refine lf_val (v := .int .i64 ((i : Nat) : Int)) (wantAll rfl) (rv_move rfl (fr_eval rfl e12)) ?_
              refine lf_val (v := .pointer (some (elemA vl (i * 67)))) (wantAll rfl) (rv_index rfl (fr_eval rfl rfl) (fr_eval rfl rfl) (rdN (hl.rd _ hH.chg) rfl) (show i < l.length from (by omega)) Try.underlying91 Try.sz93 (by decide)) ?_
              refine lf_val (wantAll rfl) (rv_loadElem rfl (fr_eval rfl rfl) (rdN (hl.rd _ hH.chg) rfl) (show i < l.length from (by omega)) (by decide) (flat_part zR cRc_len (show i < l.length from (by omega))) Try.underlying93 rfl Try.sz93) ?_
              refine lf_val (v := y2) (wantAll rfl) (rv_move rfl (fr_eval rfl e13)) ?_
              refine lf_val (wantAll rfl) (rv_buildS (ps := [(0, (.tmp 84)), (1, (.tmp 85))]) (places := #[(0, 67), (67, 1)]) (z := .agg (([.int .i64 0, .int .i64 0, .int .i64 0] : List Value) ++ (cBs (List.replicate 32 0) ++ (cBs (List.replicate 32 0) ++ ([.slice none 0 0] : List Value)))).toArray) (zc := ([.int .i64 0, .int .i64 0, .int .i64 0] : List Value) ++ (cBs (List.replicate 32 0) ++ (cBs (List.replicate 32 0) ++ ([.slice none 0 0] : List Value)))) (cs := ([.int .i64 ((List.getD l i zR).t), .int .i64 ((List.getD l i zR).c), .int .i64 ((List.getD l i zR).s)] : List Value) ++ (cBs ((List.getD l i zR).h.1) ++ (cBs ((List.getD l i zR).b.1) ++ ([y2] : List Value)))) rfl (evpc (fr_eval rfl rfl) (evpc (fr_eval rfl rfl) evpn)) (by kernel_rfl) rfl Try.underlying97 (fun _ => by kernel_rfl) (fillM (cells' := _) (cs := ([.int .i64 ((List.getD l i zR).t), .int .i64 ((List.getD l i zR).c), .int .i64 ((List.getD l i zR).s)] : List Value) ++ (cBs ((List.getD l i zR).h.1) ++ cBs ((List.getD l i zR).b.1))) (off := 0) (n := 67) rfl (cells_agg _) (zRS_l0 ((List.getD l i zR).h.2) ((List.getD l i zR).b.2)) (le_of_len2 (zRS_l3 (List.length_replicate ..) (List.length_replicate ..)) (by decide)) (zRS_y4 (List.length_replicate ..) (List.length_replicate ..) ((List.getD l i zR).h.2) ((List.getD l i zR).b.2)) (fillM (cells' := _) (cs := [y2]) (off := 67) (n := 1) rfl (cells_one (Rd.oneV (OwnB.rd (hH.own (i := 4) rfl)))) (show List.length [y2] = 1 from rfl) (le_of_len2 (zRS_l3 ((List.getD l i zR).h.2) ((List.getD l i zR).b.2)) (by decide)) (zRS_y5 ((List.getD l i zR).h.2) ((List.getD l i zR).b.2)) fill0))) ?_
              refine lf_ex (wantAll rfl) (hx_alloc hH 97 (z := .agg (([.int .i64 0, .int .i64 0, .int .i64 0] : List Value) ++ (cBs (List.replicate 32 0) ++ (cBs (List.replicate 32 0) ++ ([.slice none 0 0] : List Value)))).toArray) (n := 68) (cs := ([.int .i64 0, .int .i64 0, .int .i64 0] : List Value) ++ (cBs (List.replicate 32 0) ++ (cBs (List.replicate 32 0) ++ ([.slice none 0 0] : List Value)))) rfl (by kernel_rfl) (by rfl)) ?_
              clear hH
              rintro _ w14 ⟨g4, rfl, hH, hx⟩
              replace hH : Heap _ _ _ [_, _, _, _, _, _] := hH
              clear hx
              refine lf_sk (wantAll rfl) (hx_storeW hH (i := 5) (cs := ([.int .i64 ((List.getD l i zR).t), .int .i64 ((List.getD l i zR).c), .int .i64 ((List.getD l i zR).s)] : List Value) ++ (cBs ((List.getD l i zR).h.1) ++ (cBs ((List.getD l i zR).b.1) ++ ([y2] : List Value)))) rfl rfl rfl (fr_eval rfl rfl) (fr_eval rfl rfl) (sz_len Try.sz97 (zRS_l3 ((List.getD l i zR).h.2) ((List.getD l i zR).b.2))) (((zRS_l3 (List.length_replicate ..) (List.length_replicate ..))).trans ((zRS_l3 ((List.getD l i zR).h.2) ((List.getD l i zR).b.2))).symm) (zRS_o6 rfl rfl rfl (Rd.oneV (OwnB.rd (hH.own (i := 4) rfl))))) ?_
              clear hH
              rintro w15 ⟨hH, hx⟩
              replace hH : Heap _ _ _ [_, _, _, _, _, _] := hH
              clear hx
              refine lf_nil ?_
              refine then_n ?_
              refine wp_seq ?_
              refine wp_gen (fun F' => F' 0 = .agg (cBs s.1).toArray ∧ F' 1 = .int .i64 ((n : Nat) : Int) ∧ F' 2 = vl ∧ F' 3 = .agg (([.int .i64 o.t, .int .i64 o.c, .int .i64 o.s] : List Value) ++ (cBs o.h.1 ++ cBs o.b.1)).toArray ∧ F' 4 = .pointer (some ⟨g1, 0, none⟩) ∧ F' 7 = .pointer (some ⟨g2, 0, none⟩) ∧ F' 9 = .pointer (some ⟨g3, 0, none⟩) ∧ F' 10 = .int .i64 0 ∧ F' 11 = .int .i64 ((u + 1 : Nat) : Int) ∧ F' 12 = .int .i64 ((i : Nat) : Int) ∧ F' 13 = y2 ∧ F' 14 = .int .i64 0 ∧ F' 15 = .pointer (some ⟨g4, 0, none⟩) ∧ F' 26 = .bool false ∧ F' 39 = .bool false ∧ F' 43 = .bool true ∧ F' 60 = .bool false ∧ F' 76 = .bool false) ⟨e0, e1, e2, e3, e4, e7, e9, e10, e11, e12, e13, e14, rfl, e26, e39, e43, e60, e76⟩ ?_
              clear e0 e1 e2 e3 e4 e7 e9 e10 e11 e12 e13 e14 e26 e39 e43 e60 e76
              clear F
              rintro F ⟨e0, e1, e2, e3, e4, e7, e9, e10, e11, e12, e13, e14, e15, e26, e39, e43, e60, e76⟩
              refine wp_regionX (fun _ => False) 34 (by kernel_rfl) (by kernel_rfl) ?_
              refine xl_take (i := 0) (v := .int .i64 0) rfl (by kernel_rfl) (by kernel_rfl) (by kernel_rfl) (by kernel_rfl) (yx_val (wantAll rfl) (fun w' hx' => rv_move rfl (fr_eval rfl e14))) ?_
              refine xl_take (i := 1) (v := .bool false) rfl (by kernel_rfl) (by kernel_rfl) (by kernel_rfl) (by kernel_rfl) (yx_val (wantAll rfl) (fun w' hx' => rv_neq rfl (fr_eval rfl rfl) rfl (show decide ((0 : Int) = 0) = true from by decide))) ?_
              refine xl_take (i := 2) (v := .bool false) rfl (by kernel_rfl) (by kernel_rfl) (by kernel_rfl) (by kernel_rfl) (yx_val (wantAll rfl) (fun w' hx' => rv_move rfl (fr_eval rfl rfl))) ?_
              refine xl_take (i := 3) (v := .agg (([.int .i64 ((List.getD l i zR).t), .int .i64 ((List.getD l i zR).c), .int .i64 ((List.getD l i zR).s)] : List Value) ++ (cBs ((List.getD l i zR).h.1) ++ (cBs ((List.getD l i zR).b.1) ++ ([y2] : List Value)))).toArray) rfl (by kernel_rfl) (by kernel_rfl) (by kernel_rfl) (by kernel_rfl) (yx_val (wantF (d := 89) rfl (by kernel_rfl) rfl rfl) (fun w' hx' => rv_loadW rfl ((hH.ext hx').blk (i := 5) rfl) (fr_eval rfl e15) Try.underlying97 rfl (sz_len Try.sz97 (zRS_l3 ((List.getD l i zR).h.2) ((List.getD l i zR).b.2))))) ?_
              refine xl_take (i := 4) (v := .pointer (some ⟨g3, 0, none⟩)) rfl (by kernel_rfl) (by kernel_rfl) (by kernel_rfl) (by kernel_rfl) (yx_val (wantF (d := 89) rfl (by kernel_rfl) rfl rfl) (fun w' hx' => rv_move rfl (fr_eval rfl e9))) ?_
              refine xl_take (i := 5) (v := .agg (cBs ((rootS (keyL s n)).1)).toArray) rfl (by kernel_rfl) (by kernel_rfl) (by kernel_rfl) (by kernel_rfl) (yx_call (wantF (d := 89) rfl (by kernel_rfl) rfl rfl) (fun w' => rv_call (args := [.pointer (some ⟨g3, 0, none⟩)]) rfl (evc (fr_eval rfl rfl) evn) Try.call51) (fun w' hx' => kRoot s (keyL s n) (by omega) (u + 1) (by omega) _ ((hH.ext hx').blk (i := 2) rfl) (Own.rd ((hH.ext hx').own (i := 3) rfl) (row_one cS_one)))) ?_
              refine xl_take (i := 6) (v := .bool true) rfl (by kernel_rfl) (by kernel_rfl) (by kernel_rfl) (by kernel_rfl) (yx_call (wantF (d := 89) rfl (by kernel_rfl) rfl rfl) (fun w' => rv_call (args := [.agg (([.int .i64 ((List.getD l i zR).t), .int .i64 ((List.getD l i zR).c), .int .i64 ((List.getD l i zR).s)] : List Value) ++ (cBs ((List.getD l i zR).h.1) ++ (cBs ((List.getD l i zR).b.1) ++ ([y2] : List Value)))).toArray, .agg (cBs ((rootS (keyL s n)).1)).toArray]) rfl (evc (fr_eval rfl rfl) (evc (fr_eval rfl rfl) evn)) Try.call56) (fun w' hx' => calls_known (b' := true) (rcGood_calls u (keyL s n).length (pathT (List.map leafS (keyL s n)) u) (sigs (seedS s u).1 (join 14 [textR (List.getD l i zR)]) 64) (by omega) (by omega) (by omega) (by omega) (rootS (keyL s n)) (List.getD l i zR) (hrc _ (getD_memR (by omega))) _ _ (OwnB.rd ((hH.ext hx').own (i := 4) rfl))) (by rw [decide_eq_true (by assumption : inR (List.getD l i zR)), Bool.true_and, hkl]; exact verM_ok (by omega) (by omega)))) ?_
              refine xl_take (i := 7) (v := .bool false) rfl (by kernel_rfl) (by kernel_rfl) (by kernel_rfl) (by kernel_rfl) (yx_val (wantF (d := 89) rfl (by kernel_rfl) rfl rfl) (fun w' hx' => rv_not (b := true) rfl (fr_eval rfl rfl))) ?_
              refine xl_take (i := 8) (v := .bool false) rfl (by kernel_rfl) (by kernel_rfl) (by kernel_rfl) (by kernel_rfl) (yx_val (wantAll rfl) (fun w' hx' => rv_pickF rfl (fr_eval rfl rfl) (fr_eval rfl rfl))) ?_
              refine xl_take (i := 9) (v := .bool false) rfl (by kernel_rfl) (by kernel_rfl) (by kernel_rfl) (by kernel_rfl) (yx_val (wantAll rfl) (fun w' hx' => rv_move rfl (fr_eval rfl rfl))) ?_
              refine xl_take (i := 10) (v := .pointer (some ⟨g3, 0, none⟩)) rfl (by kernel_rfl) (by kernel_rfl) (by kernel_rfl) (by kernel_rfl) (yx_val (wantF (d := 96) rfl (by kernel_rfl) rfl rfl) (fun w' hx' => rv_move rfl (fr_eval rfl e9))) ?_
              refine xl_take (i := 11) (v := .agg (cBs ((rootS (keyL s n)).1)).toArray) rfl (by kernel_rfl) (by kernel_rfl) (by kernel_rfl) (by kernel_rfl) (yx_call (wantF (d := 96) rfl (by kernel_rfl) rfl rfl) (fun w' => rv_call (args := [.pointer (some ⟨g3, 0, none⟩)]) rfl (evc (fr_eval rfl rfl) evn) Try.call51) (fun w' hx' => kRoot s (keyL s n) (by omega) (u + 1) (by omega) _ ((hH.ext hx').blk (i := 2) rfl) (Own.rd ((hH.ext hx').own (i := 3) rfl) (row_one cS_one)))) ?_
              refine xl_take (i := 12) (v := vl) rfl (by kernel_rfl) (by kernel_rfl) (by kernel_rfl) (by kernel_rfl) (yx_val (wantF (d := 96) rfl (by kernel_rfl) rfl rfl) (fun w' hx' => rv_move rfl (fr_eval rfl e2))) ?_
              refine xl_take (i := 13) (v := .int .i64 ((i : Nat) : Int)) rfl (by kernel_rfl) (by kernel_rfl) (by kernel_rfl) (by kernel_rfl) (yx_val (wantF (d := 96) rfl (by kernel_rfl) rfl rfl) (fun w' hx' => rv_move rfl (fr_eval rfl e12))) ?_
              refine xl_take (i := 14) (v := .pointer (some (elemA vl (i * 67)))) rfl (by kernel_rfl) (by kernel_rfl) (by kernel_rfl) (by kernel_rfl) (yx_val (wantF (d := 96) rfl (by kernel_rfl) rfl rfl) (fun w' hx' => rv_index rfl (fr_eval rfl rfl) (fr_eval rfl rfl) (rdN (hl.rd _ (hH.chg.trans (Ext.any hx'))) rfl) (show i < l.length from (by omega)) Try.underlying91 Try.sz93 (by decide))) ?_
              refine xl_take (i := 15) (v := .agg (([.int .i64 ((List.getD l i zR).t), .int .i64 ((List.getD l i zR).c), .int .i64 ((List.getD l i zR).s)] : List Value) ++ (cBs ((List.getD l i zR).h.1) ++ cBs ((List.getD l i zR).b.1))).toArray) rfl (by kernel_rfl) (by kernel_rfl) (by kernel_rfl) (by kernel_rfl) (yx_val (wantF (d := 96) rfl (by kernel_rfl) rfl rfl) (fun w' hx' => rv_loadElem rfl (fr_eval rfl rfl) (rdN (hl.rd _ (hH.chg.trans (Ext.any hx'))) rfl) (show i < l.length from (by omega)) (by decide) (flat_part zR cRc_len (show i < l.length from (by omega))) Try.underlying93 rfl Try.sz93)) ?_
              refine xl_take (i := 16) (v := y2) rfl (by kernel_rfl) (by kernel_rfl) (by kernel_rfl) (by kernel_rfl) (yx_val (wantF (d := 96) rfl (by kernel_rfl) rfl rfl) (fun w' hx' => rv_move rfl (fr_eval rfl e13))) ?_
              refine xl_take (i := 17) (v := .bool true) rfl (by kernel_rfl) (by kernel_rfl) (by kernel_rfl) (by kernel_rfl) (yx_call (wantF (d := 96) rfl (by kernel_rfl) rfl rfl) (fun w' => rv_call (args := [.agg (cBs ((rootS (keyL s n)).1)).toArray, .agg (([.int .i64 ((List.getD l i zR).t), .int .i64 ((List.getD l i zR).c), .int .i64 ((List.getD l i zR).s)] : List Value) ++ (cBs ((List.getD l i zR).h.1) ++ cBs ((List.getD l i zR).b.1))).toArray, y2]) rfl (evc (fr_eval rfl rfl) (evc (fr_eval rfl rfl) (evc (fr_eval rfl rfl) evn))) Try.call57) (fun w' hx' => calls_known (b' := true) (rcVerify_calls u (keyL s n).length (pathT (List.map leafS (keyL s n)) u) (sigs (seedS s u).1 (join 14 [textR (List.getD l i zR)]) 64) (by omega) (by omega) (by omega) (by omega) (rootS (keyL s n)) (List.getD l i zR) (hrc _ (getD_memR (by omega))) _ _ (OwnB.rd ((hH.ext hx').own (i := 4) rfl))) (by rw [decide_eq_true (by assumption : inR (List.getD l i zR)), Bool.true_and, hkl]; exact verM_ok (by omega) (by omega)))) ?_
              refine xl_take (i := 18) (v := .bool false) rfl (by kernel_rfl) (by kernel_rfl) (by kernel_rfl) (by kernel_rfl) (yx_val (wantF (d := 96) rfl (by kernel_rfl) rfl rfl) (fun w' hx' => rv_not (b := true) rfl (fr_eval rfl rfl))) ?_
              refine xl_take (i := 19) (v := .bool false) rfl (by kernel_rfl) (by kernel_rfl) (by kernel_rfl) (by kernel_rfl) (yx_val (wantAll rfl) (fun w' hx' => rv_pickF rfl (fr_eval rfl rfl) (fr_eval rfl rfl))) ?_
              refine xl_take (i := 20) (v := .bool false) rfl (by kernel_rfl) (by kernel_rfl) (by kernel_rfl) (by kernel_rfl) (yx_val (wantAll rfl) (fun w' hx' => rv_move rfl (fr_eval rfl rfl))) ?_
              refine xl_take (i := 21) (v := .pointer (some ⟨g3, 0, none⟩)) rfl (by kernel_rfl) (by kernel_rfl) (by kernel_rfl) (by kernel_rfl) (yx_val (wantF (d := 107) rfl (by kernel_rfl) rfl rfl) (fun w' hx' => rv_move rfl (fr_eval rfl e9))) ?_
              refine xl_take (i := 22) (v := .agg (cBs ((rootS (keyL s n)).1)).toArray) rfl (by kernel_rfl) (by kernel_rfl) (by kernel_rfl) (by kernel_rfl) (yx_call (wantF (d := 107) rfl (by kernel_rfl) rfl rfl) (fun w' => rv_call (args := [.pointer (some ⟨g3, 0, none⟩)]) rfl (evc (fr_eval rfl rfl) evn) Try.call51) (fun w' hx' => kRoot s (keyL s n) (by omega) (u + 1) (by omega) _ ((hH.ext hx').blk (i := 2) rfl) (Own.rd ((hH.ext hx').own (i := 3) rfl) (row_one cS_one)))) ?_
              refine xl_take (i := 23) (v := .agg (([.int .i64 o.t, .int .i64 o.c, .int .i64 o.s] : List Value) ++ (cBs o.h.1 ++ cBs o.b.1)).toArray) rfl (by kernel_rfl) (by kernel_rfl) (by kernel_rfl) (by kernel_rfl) (yx_val (wantF (d := 107) rfl (by kernel_rfl) rfl rfl) (fun w' hx' => rv_loadW rfl ((hH.ext hx').blk (i := 1) rfl) (fr_eval rfl e7) Try.underlying93 rfl (sz_len Try.sz93 (zRS_l0 o.h.2 o.b.2)))) ?_
              refine xl_take (i := 24) (v := y2) rfl (by kernel_rfl) (by kernel_rfl) (by kernel_rfl) (by kernel_rfl) (yx_val (wantF (d := 107) rfl (by kernel_rfl) rfl rfl) (fun w' hx' => rv_move rfl (fr_eval rfl e13))) ?_
              refine xl_take (i := 25) (v := .bool (decide (inR o) && verM (rootS (keyL s n)) (textR o) u (keyL s n).length (pathT (List.map leafS (keyL s n)) u) (sigs (seedS s u).1 (join 14 [textR (List.getD l i zR)]) 64))) rfl (by kernel_rfl) (by kernel_rfl) (by kernel_rfl) (by kernel_rfl) (yx_call (wantF (d := 107) rfl (by kernel_rfl) rfl rfl) (fun w' => rv_call (args := [.agg (cBs ((rootS (keyL s n)).1)).toArray, .agg (([.int .i64 o.t, .int .i64 o.c, .int .i64 o.s] : List Value) ++ (cBs o.h.1 ++ cBs o.b.1)).toArray, y2]) rfl (evc (fr_eval rfl rfl) (evc (fr_eval rfl rfl) (evc (fr_eval rfl rfl) evn))) Try.call57) (fun w' hx' => rcVerify_calls u (keyL s n).length (pathT (List.map leafS (keyL s n)) u) (sigs (seedS s u).1 (join 14 [textR (List.getD l i zR)]) 64) (by omega) (by omega) (by omega) (by omega) (rootS (keyL s n)) o ho _ _ (OwnB.rd ((hH.ext hx').own (i := 4) rfl)))) ?_
              refine xl_take (i := 26) (v := .agg (([.int .i64 o.t, .int .i64 o.c, .int .i64 o.s] : List Value) ++ (cBs o.h.1 ++ cBs o.b.1)).toArray) rfl (by kernel_rfl) (by kernel_rfl) (by kernel_rfl) (by kernel_rfl) (yx_val (wantF (d := 107) rfl (by kernel_rfl) rfl rfl) (fun w' hx' => rv_loadW rfl ((hH.ext hx').blk (i := 1) rfl) (fr_eval rfl e7) Try.underlying93 rfl (sz_len Try.sz93 (zRS_l0 o.h.2 o.b.2)))) ?_
              refine xl_take (i := 27) (v := .bool (decide (inR o))) rfl (by kernel_rfl) (by kernel_rfl) (by kernel_rfl) (by kernel_rfl) (yx_call (wantF (d := 107) rfl (by kernel_rfl) rfl rfl) (fun w' => rv_call (args := [.agg (([.int .i64 o.t, .int .i64 o.c, .int .i64 o.s] : List Value) ++ (cBs o.h.1 ++ cBs o.b.1)).toArray]) rfl (evc (fr_eval rfl rfl) evn) Try.call55) (fun w' hx' => rcRight12_calls o _)) ?_
              refine xl_take (i := 28) (v := .bool (decide (inR o))) rfl (by kernel_rfl) (by kernel_rfl) (by kernel_rfl) (by kernel_rfl) (yx_val (wantF (d := 107) rfl (by kernel_rfl) rfl rfl) (fun w' hx' => rv_move rfl (fr_eval rfl rfl))) ?_
              by_cases hc6 : inR o
              · refine xl_take (i := 29) (v := .pointer (some ⟨g3, 0, none⟩)) rfl (by kernel_rfl) (by kernel_rfl) (by kernel_rfl) (by kernel_rfl) (yx_val (wantF (d := 115) rfl (by kernel_rfl) rfl (congrArg Value.bool (decide_eq_true hc6))) (fun w' hx' => rv_move rfl (fr_eval rfl e9))) ?_
                refine xl_take (i := 30) (v := .agg (cBs ((rootS (keyL s n)).1)).toArray) rfl (by kernel_rfl) (by kernel_rfl) (by kernel_rfl) (by kernel_rfl) (yx_call (wantF (d := 115) rfl (by kernel_rfl) rfl (congrArg Value.bool (decide_eq_true hc6))) (fun w' => rv_call (args := [.pointer (some ⟨g3, 0, none⟩)]) rfl (evc (fr_eval rfl rfl) evn) Try.call51) (fun w' hx' => kRoot s (keyL s n) (by omega) (u + 1) (by omega) _ ((hH.ext hx').blk (i := 2) rfl) (Own.rd ((hH.ext hx').own (i := 3) rfl) (row_one cS_one)))) ?_
                refine xl_take (i := 31) (v := .agg (([.int .i64 o.t, .int .i64 o.c, .int .i64 o.s] : List Value) ++ (cBs o.h.1 ++ cBs o.b.1)).toArray) rfl (by kernel_rfl) (by kernel_rfl) (by kernel_rfl) (by kernel_rfl) (yx_val (wantF (d := 115) rfl (by kernel_rfl) rfl (congrArg Value.bool (decide_eq_true hc6))) (fun w' hx' => rv_loadW rfl ((hH.ext hx').blk (i := 1) rfl) (fr_eval rfl e7) Try.underlying93 rfl (sz_len Try.sz93 (zRS_l0 o.h.2 o.b.2)))) ?_
                refine xl_take (i := 33) (v := y2) rfl (by kernel_rfl) (by kernel_rfl) (by kernel_rfl) (by kernel_rfl) (yx_val (wantF (d := 115) rfl (by kernel_rfl) rfl (congrArg Value.bool (decide_eq_true hc6))) (fun w' hx' => rv_move rfl (fr_eval rfl e13))) ?_
                refine anyX_ready (rs := [32]) (by kernel_rfl) ?_
                intro w16 hx
                replace hH := hH.ext hx
                clear hx
                refine (anyX_cons ?_ anyX_nil)
                refine xl_step (i := 32) rfl (wantF (d := 115) rfl (by kernel_rfl) rfl (congrArg Value.bool (decide_eq_true hc6))) ?_
                refine of_call (rv_call (args := [.agg (([.int .i64 o.t, .int .i64 o.c, .int .i64 o.s] : List Value) ++ (cBs o.h.1 ++ cBs o.b.1)).toArray]) rfl (evc (fr_eval rfl rfl) evn) Try.call58) (rcText12_calls o ho _) ?_
                rintro _ w17 ⟨⟨y3, rfl, ho, hg⟩, hx⟩
                refine ⟨_, rfl, ?_⟩
                replace hH : Heap _ _ _ [_, _, _, _, _, _, _] := hH.addOwn hx hg ho
                clear ho hg
                refine ⟨hx, ?_⟩
                clear hx
                refine xl_tail (s := 34) rfl ?_
                intro w18 hx
                replace hH := hH.ext hx
                clear hx
                refine lf_call (wantF (d := 115) rfl (by kernel_rfl) rfl (congrArg Value.bool (decide_eq_true hc6))) (rv_call (args := [.agg (cBs ((rootS (keyL s n)).1)).toArray, y3, y2]) rfl (evc (fr_eval rfl rfl) (evc (fr_eval rfl rfl) (evc (fr_eval rfl rfl) evn))) Try.call48) (verify5_calls u (keyL s n).length (pathT (List.map leafS (keyL s n)) u) (sigs (seedS s u).1 (join 14 [textR (List.getD l i zR)]) 64) (by omega) (by omega) (by omega) (by omega) (rootS (keyL s n)) (textR o) (Nat.le_trans (textR_len o) (by decide)) _ _ _ (OwnB.rd (hH.own (i := 6) rfl)) (OwnB.rd (hH.own (i := 4) rfl))) ?_
                rintro _ w19 ⟨rfl, hx⟩
                refine ⟨_, rfl, ?_⟩
                replace hH := hH.ext hx
                clear hx
                refine lf_val (v := .bool (verM (rootS (keyL s n)) (textR o) u (keyL s n).length (pathT (List.map leafS (keyL s n)) u) (sigs (seedS s u).1 (join 14 [textR (List.getD l i zR)]) 64))) (wantF (d := 107) rfl (by kernel_rfl) rfl rfl) (rv_pickT rfl (fr_eval rfl (congrArg Value.bool (decide_eq_true hc6))) (fr_eval rfl rfl)) ?_
                refine lf_val (v := .bool false) (wantF (d := 107) rfl (by kernel_rfl) rfl rfl) (rv_neb (d := true) rfl (fr_eval rfl rfl) (fr_eval rfl rfl) Try.underlying4 (by first | (rw [decide_eq_true (by assumption : inR o), Bool.true_and]; exact beq_self_eq_true _) | (rw [decide_eq_false (by assumption : ¬ inR o)]; rfl))) ?_
                refine lf_val (v := .bool false) (wantAll rfl) (rv_pickF rfl (fr_eval rfl rfl) (fr_eval rfl rfl)) ?_
                refine lf_nil ?_
                refine then_n ?_
                replace hH : Heap _ _ _ [_, _, _, _, _, _] := hH.drop (.cons_cons _ (.cons_cons _ (.cons_cons _ (.cons_cons _ (.cons_cons _ (.cons_cons _ (.cons _ .slnil)))))))
                refine wp_gen (fun F' => F' 0 = .agg (cBs s.1).toArray ∧ F' 1 = .int .i64 ((n : Nat) : Int) ∧ F' 2 = vl ∧ F' 3 = .agg (([.int .i64 o.t, .int .i64 o.c, .int .i64 o.s] : List Value) ++ (cBs o.h.1 ++ cBs o.b.1)).toArray ∧ F' 4 = .pointer (some ⟨g1, 0, none⟩) ∧ F' 7 = .pointer (some ⟨g2, 0, none⟩) ∧ F' 9 = .pointer (some ⟨g3, 0, none⟩) ∧ F' 10 = .int .i64 0 ∧ F' 11 = .int .i64 ((u + 1 : Nat) : Int) ∧ F' 12 = .int .i64 ((i : Nat) : Int) ∧ F' 13 = y2 ∧ F' 14 = .int .i64 0 ∧ F' 15 = .pointer (some ⟨g4, 0, none⟩) ∧ F' 26 = .bool false ∧ F' 39 = .bool false ∧ F' 43 = .bool true ∧ F' 60 = .bool false ∧ F' 76 = .bool false ∧ F' 124 = .bool false) ⟨e0, e1, e2, e3, e4, e7, e9, e10, e11, e12, e13, e14, e15, e26, e39, e43, e60, e76, rfl⟩ ?_
                clear e0 e1 e2 e3 e4 e7 e9 e10 e11 e12 e13 e14 e15 e26 e39 e43 e60 e76
                clear F
                rintro F ⟨e0, e1, e2, e3, e4, e7, e9, e10, e11, e12, e13, e14, e15, e26, e39, e43, e60, e76, e124⟩
                refine wp_cond_false (fr_eval rfl e124) ?_
                refine wp_skip ?_
                refine blk_n ?_
                refine then_n ?_
                refine wp_regionF ?_
                refine lf_val (v := .int .i64 ((i : Nat) : Int)) (wantAll rfl) (rv_move rfl (fr_eval rfl e12)) ?_
                refine lf_val (v := .int .i64 ((i + 1 : Nat) : Int)) (wantAll rfl) (rv_add rfl (fr_eval rfl rfl) rfl (wrap_i64 (by omega) (by omega) (by omega))) ?_
                refine lf_val (v := .int .i64 ((i + 1 : Nat) : Int)) (wantAll rfl) (rv_assign rfl (fr_eval rfl rfl)) ?_
                refine lf_nil ?_
                refine then_n ?_
                replace hH : Heap _ _ _ [_, _, _, _] := hH.drop (.cons_cons _ (.cons_cons _ (.cons_cons _ (.cons_cons _ (.cons _ (.cons _ .slnil))))))
                exact ⟨_, _, (by omega), rfl, i + 1, (u + 1), rfl, (by omega), (by omega), e0, e1, e2, e3, e4, e7, e9, e10, e11, rfl, e26, e39, hH⟩
              · refine xl_take (i := 29) (v := undef) rfl (by kernel_rfl) (by kernel_rfl) (by kernel_rfl) (by kernel_rfl) (yx_not (wantNot (d := 115) rfl (by kernel_rfl) rfl (congrArg Value.bool (decide_eq_false hc6)))) ?_
                refine xl_take (i := 30) (v := undef) rfl (by kernel_rfl) (by kernel_rfl) (by kernel_rfl) (by kernel_rfl) (yx_not (wantNot (d := 115) rfl (by kernel_rfl) rfl (congrArg Value.bool (decide_eq_false hc6)))) ?_
                refine xl_take (i := 31) (v := undef) rfl (by kernel_rfl) (by kernel_rfl) (by kernel_rfl) (by kernel_rfl) (yx_not (wantNot (d := 115) rfl (by kernel_rfl) rfl (congrArg Value.bool (decide_eq_false hc6)))) ?_
                refine xl_take (i := 32) (v := undef) rfl (by kernel_rfl) (by kernel_rfl) (by kernel_rfl) (by kernel_rfl) (yx_not (wantNot (d := 115) rfl (by kernel_rfl) rfl (congrArg Value.bool (decide_eq_false hc6)))) ?_
                refine xl_take (i := 33) (v := undef) rfl (by kernel_rfl) (by kernel_rfl) (by kernel_rfl) (by kernel_rfl) (yx_not (wantNot (d := 115) rfl (by kernel_rfl) rfl (congrArg Value.bool (decide_eq_false hc6)))) ?_
                refine xl_tail (s := 34) rfl ?_
                intro w20 hx
                replace hH := hH.ext hx
                clear hx
                refine lf_not (wantNot (d := 115) rfl (by kernel_rfl) rfl (congrArg Value.bool (decide_eq_false hc6))) ?_
                refine lf_val (v := .bool false) (wantF (d := 107) rfl (by kernel_rfl) rfl rfl) (rv_pickF rfl (fr_eval rfl (congrArg Value.bool (decide_eq_false hc6))) rfl) ?_
                refine lf_val (v := .bool false) (wantF (d := 107) rfl (by kernel_rfl) rfl rfl) (rv_neb (d := true) rfl (fr_eval rfl rfl) (fr_eval rfl rfl) Try.underlying4 (by first | (rw [decide_eq_true (by assumption : inR o), Bool.true_and]; exact beq_self_eq_true _) | (rw [decide_eq_false (by assumption : ¬ inR o)]; rfl))) ?_
                refine lf_val (v := .bool false) (wantAll rfl) (rv_pickF rfl (fr_eval rfl rfl) (fr_eval rfl rfl)) ?_
                refine lf_nil ?_
                refine then_n ?_
                refine wp_gen (fun F' => F' 0 = .agg (cBs s.1).toArray ∧ F' 1 = .int .i64 ((n : Nat) : Int) ∧ F' 2 = vl ∧ F' 3 = .agg (([.int .i64 o.t, .int .i64 o.c, .int .i64 o.s] : List Value) ++ (cBs o.h.1 ++ cBs o.b.1)).toArray ∧ F' 4 = .pointer (some ⟨g1, 0, none⟩) ∧ F' 7 = .pointer (some ⟨g2, 0, none⟩) ∧ F' 9 = .pointer (some ⟨g3, 0, none⟩) ∧ F' 10 = .int .i64 0 ∧ F' 11 = .int .i64 ((u + 1 : Nat) : Int) ∧ F' 12 = .int .i64 ((i : Nat) : Int) ∧ F' 13 = y2 ∧ F' 14 = .int .i64 0 ∧ F' 15 = .pointer (some ⟨g4, 0, none⟩) ∧ F' 26 = .bool false ∧ F' 39 = .bool false ∧ F' 43 = .bool true ∧ F' 60 = .bool false ∧ F' 76 = .bool false ∧ F' 124 = .bool false) ⟨e0, e1, e2, e3, e4, e7, e9, e10, e11, e12, e13, e14, e15, e26, e39, e43, e60, e76, rfl⟩ ?_
                clear e0 e1 e2 e3 e4 e7 e9 e10 e11 e12 e13 e14 e15 e26 e39 e43 e60 e76
                clear F
                rintro F ⟨e0, e1, e2, e3, e4, e7, e9, e10, e11, e12, e13, e14, e15, e26, e39, e43, e60, e76, e124⟩
                refine wp_cond_false (fr_eval rfl e124) ?_
                refine wp_skip ?_
                refine blk_n ?_
                refine then_n ?_
                refine wp_regionF ?_
                refine lf_val (v := .int .i64 ((i : Nat) : Int)) (wantAll rfl) (rv_move rfl (fr_eval rfl e12)) ?_
                refine lf_val (v := .int .i64 ((i + 1 : Nat) : Int)) (wantAll rfl) (rv_add rfl (fr_eval rfl rfl) rfl (wrap_i64 (by omega) (by omega) (by omega))) ?_
                refine lf_val (v := .int .i64 ((i + 1 : Nat) : Int)) (wantAll rfl) (rv_assign rfl (fr_eval rfl rfl)) ?_
                refine lf_nil ?_
                refine then_n ?_
                replace hH : Heap _ _ _ [_, _, _, _] := hH.drop (.cons_cons _ (.cons_cons _ (.cons_cons _ (.cons_cons _ (.cons _ (.cons _ .slnil))))))
                exact ⟨_, _, (by omega), rfl, i + 1, (u + 1), rfl, (by omega), (by omega), e0, e1, e2, e3, e4, e7, e9, e10, e11, rfl, e26, e39, hH⟩
            · have htl := textR_len (List.getD l i zR)
              refine wp_regionF ?_
              refine lf_val (v := .pointer (some ⟨g3, 0, none⟩)) (wantAll rfl) (rv_move rfl (fr_eval rfl e9)) ?_
              refine lf_val (v := vl) (wantAll rfl) (rv_move rfl (fr_eval rfl e2)) ?_
              refine lf_val (v := .int .i64 ((i : Nat) : Int)) (wantAll rfl) (rv_move rfl (fr_eval rfl e12)) ?_
              refine lf_val (v := .pointer (some (elemA vl (i * 67)))) (wantAll rfl) (rv_index rfl (fr_eval rfl rfl) (fr_eval rfl rfl) (rdN (hl.rd _ hH.chg) rfl) (show i < l.length from (by omega)) Try.underlying91 Try.sz93 (by decide)) ?_
              refine lf_val (wantAll rfl) (rv_loadElem rfl (fr_eval rfl rfl) (rdN (hl.rd _ hH.chg) rfl) (show i < l.length from (by omega)) (by decide) (flat_part zR cRc_len (show i < l.length from (by omega))) Try.underlying93 rfl Try.sz93) ?_
              refine lf_call (wantAll rfl) (rv_call (args := [.pointer (some ⟨g3, 0, none⟩), .agg (([.int .i64 ((List.getD l i zR).t), .int .i64 ((List.getD l i zR).c), .int .i64 ((List.getD l i zR).s)] : List Value) ++ (cBs ((List.getD l i zR).h.1) ++ cBs ((List.getD l i zR).b.1))).toArray]) rfl (evc (fr_eval rfl rfl) (evc (fr_eval rfl rfl) evn)) Try.call54) (rcSign_bad (List.getD l i zR) hf3 _ _) ?_
              rintro _ w21 ⟨rfl, hx⟩
              refine ⟨_, rfl, ?_⟩
              replace hH := hH.ext hx
              clear hx
              refine lf_val (v := .tuple #[.slice none 0 0, .int .i64 1]) (wantAll rfl) (rv_move rfl (fr_eval rfl rfl)) ?_
              refine lf_val (v := .slice none 0 0) (wantAll rfl) (rv_extract rfl (fr_eval rfl rfl) rfl) ?_
              refine lf_val (v := .int .i64 1) (wantAll rfl) (rv_extract rfl (fr_eval rfl rfl) rfl) ?_
              refine lf_val (v := .slice none 0 0) (wantAll rfl) (rv_assign rfl (fr_eval rfl rfl)) ?_
              refine lf_val (v := .int .i64 1) (wantAll rfl) (rv_assign rfl (fr_eval rfl rfl)) ?_
              refine lf_nil ?_
              refine then_n ?_
              refine wp_seq ?_
              refine wp_seq ?_
              refine wp_gen (fun F' => F' 0 = .agg (cBs s.1).toArray ∧ F' 1 = .int .i64 ((n : Nat) : Int) ∧ F' 2 = vl ∧ F' 3 = .agg (([.int .i64 o.t, .int .i64 o.c, .int .i64 o.s] : List Value) ++ (cBs o.h.1 ++ cBs o.b.1)).toArray ∧ F' 4 = .pointer (some ⟨g1, 0, none⟩) ∧ F' 7 = .pointer (some ⟨g2, 0, none⟩) ∧ F' 9 = .pointer (some ⟨g3, 0, none⟩) ∧ F' 10 = .int .i64 0 ∧ F' 11 = .int .i64 ((u : Nat) : Int) ∧ F' 12 = .int .i64 ((i : Nat) : Int) ∧ F' 13 = .slice none 0 0 ∧ F' 14 = .int .i64 1 ∧ F' 26 = .bool false ∧ F' 39 = .bool false ∧ F' 43 = .bool true) ⟨e0, e1, e2, e3, e4, e7, e9, e10, e11, e12, rfl, rfl, e26, e39, (e43.trans (congrArg Value.bool (decide_eq_true hc5)))⟩ ?_
              clear e0 e1 e2 e3 e4 e7 e9 e10 e11 e12 e26 e39 e43
              clear F
              rintro F ⟨e0, e1, e2, e3, e4, e7, e9, e10, e11, e12, e13, e14, e26, e39, e43⟩
              refine wp_regionF ?_
              refine lf_val (v := vl) (wantAll rfl) (rv_move rfl (fr_eval rfl e2)) ?_
              refine lf_val (v := .int .i64 ((i : Nat) : Int)) (wantAll rfl) (rv_move rfl (fr_eval rfl e12)) ?_
              refine lf_val (v := .pointer (some (elemA vl (i * 67)))) (wantAll rfl) (rv_index rfl (fr_eval rfl rfl) (fr_eval rfl rfl) (rdN (hl.rd _ hH.chg) rfl) (show i < l.length from (by omega)) Try.underlying91 Try.sz93 (by decide)) ?_
              refine lf_val (wantAll rfl) (rv_loadElem rfl (fr_eval rfl rfl) (rdN (hl.rd _ hH.chg) rfl) (show i < l.length from (by omega)) (by decide) (flat_part zR cRc_len (show i < l.length from (by omega))) Try.underlying93 rfl Try.sz93) ?_
              refine lf_call (wantAll rfl) (rv_call (args := [.agg (([.int .i64 ((List.getD l i zR).t), .int .i64 ((List.getD l i zR).c), .int .i64 ((List.getD l i zR).s)] : List Value) ++ (cBs ((List.getD l i zR).h.1) ++ cBs ((List.getD l i zR).b.1))).toArray]) rfl (evc (fr_eval rfl rfl) evn) Try.call55) (calls_known (b' := false) (rcRight12_calls (List.getD l i zR) _) (decide_eq_false hf3)) ?_
              rintro _ w22 ⟨rfl, hx⟩
              refine ⟨_, rfl, ?_⟩
              replace hH := hH.ext hx
              clear hx
              refine lf_val (v := .bool true) (wantAll rfl) (rv_not (b := false) rfl (fr_eval rfl rfl)) ?_
              refine lf_nil ?_
              refine then_n ?_
              refine wp_gen (fun F' => F' 0 = .agg (cBs s.1).toArray ∧ F' 1 = .int .i64 ((n : Nat) : Int) ∧ F' 2 = vl ∧ F' 3 = .agg (([.int .i64 o.t, .int .i64 o.c, .int .i64 o.s] : List Value) ++ (cBs o.h.1 ++ cBs o.b.1)).toArray ∧ F' 4 = .pointer (some ⟨g1, 0, none⟩) ∧ F' 7 = .pointer (some ⟨g2, 0, none⟩) ∧ F' 9 = .pointer (some ⟨g3, 0, none⟩) ∧ F' 10 = .int .i64 0 ∧ F' 11 = .int .i64 ((u : Nat) : Int) ∧ F' 12 = .int .i64 ((i : Nat) : Int) ∧ F' 13 = .slice none 0 0 ∧ F' 14 = .int .i64 1 ∧ F' 26 = .bool false ∧ F' 39 = .bool false ∧ F' 43 = .bool true ∧ F' 60 = .bool true) ⟨e0, e1, e2, e3, e4, e7, e9, e10, e11, e12, e13, e14, e26, e39, e43, rfl⟩ ?_
              clear e0 e1 e2 e3 e4 e7 e9 e10 e11 e12 e13 e14 e26 e39 e43
              clear F
              rintro F ⟨e0, e1, e2, e3, e4, e7, e9, e10, e11, e12, e13, e14, e26, e39, e43, e60⟩
              refine wp_cond_true (fr_eval rfl e60) ?_
              refine wp_seq ?_
              refine wp_seq ?_
              refine wp_regionF ?_
              refine lf_val (v := .int .i64 1) (wantAll rfl) (rv_move rfl (fr_eval rfl e14)) ?_
              refine lf_val (v := .bool false) (wantAll rfl) (rv_neq rfl (fr_eval rfl rfl) rfl (show decide ((1 : Int) = 1) = true from by decide)) ?_
              refine lf_val (v := .bool false) (wantAll rfl) (rv_move rfl (fr_eval rfl rfl)) ?_
              refine lf_val (v := .slice none 0 0) (wantF (d := 63) rfl (by kernel_rfl) rfl rfl) (rv_move rfl (fr_eval rfl e13)) ?_
              refine lf_val (v := .int .i64 0) (wantF (d := 63) rfl (by kernel_rfl) rfl rfl) (rv_len rfl (fr_eval rfl rfl) (Rd.nil (size := 1)) Try.underlying58) ?_
              refine lf_val (v := .bool false) (wantF (d := 63) rfl (by kernel_rfl) rfl rfl) (rv_neq rfl (fr_eval rfl rfl) rfl (show decide ((0 : Int) = 0) = true from by decide)) ?_
              refine lf_val (v := .bool false) (wantAll rfl) (rv_pickF rfl (fr_eval rfl rfl) (fr_eval rfl rfl)) ?_
              refine lf_val (v := .bool false) (wantAll rfl) (rv_move rfl (fr_eval rfl rfl)) ?_
              refine lf_val (v := .pointer (some ⟨g3, 0, none⟩)) (wantF (d := 68) rfl (by kernel_rfl) rfl rfl) (rv_move rfl (fr_eval rfl e9)) ?_
              refine lf_call (wantF (d := 68) rfl (by kernel_rfl) rfl rfl) (rv_call (args := [.pointer (some ⟨g3, 0, none⟩)]) rfl (evc (fr_eval rfl rfl) evn) Try.call49) (kNext s (keyL s n) (by omega) u (by omega) _ (hH.blk (i := 2) rfl) (Own.rd (hH.own (i := 3) rfl) (row_one cS_one))) ?_
              rintro _ w23 ⟨rfl, hx⟩
              refine ⟨_, rfl, ?_⟩
              replace hH := hH.ext hx
              clear hx
              refine lf_val (v := .int .i64 ((u : Nat) : Int)) (wantF (d := 68) rfl (by kernel_rfl) rfl rfl) (rv_move rfl (fr_eval rfl e11)) ?_
              refine lf_val (v := .bool false) (wantF (d := 68) rfl (by kernel_rfl) rfl rfl) (rv_known (rv_neqP (p := False) rfl (fr_eval rfl rfl) (fr_eval rfl rfl) (by simp)) (decide_eq_false id)) ?_
              refine lf_val (v := .bool false) (wantAll rfl) (rv_pickF rfl (fr_eval rfl rfl) (fr_eval rfl rfl)) ?_
              refine lf_nil ?_
              refine then_n ?_
              refine wp_gen (fun F' => F' 0 = .agg (cBs s.1).toArray ∧ F' 1 = .int .i64 ((n : Nat) : Int) ∧ F' 2 = vl ∧ F' 3 = .agg (([.int .i64 o.t, .int .i64 o.c, .int .i64 o.s] : List Value) ++ (cBs o.h.1 ++ cBs o.b.1)).toArray ∧ F' 4 = .pointer (some ⟨g1, 0, none⟩) ∧ F' 7 = .pointer (some ⟨g2, 0, none⟩) ∧ F' 9 = .pointer (some ⟨g3, 0, none⟩) ∧ F' 10 = .int .i64 0 ∧ F' 11 = .int .i64 ((u : Nat) : Int) ∧ F' 12 = .int .i64 ((i : Nat) : Int) ∧ F' 13 = .slice none 0 0 ∧ F' 14 = .int .i64 1 ∧ F' 26 = .bool false ∧ F' 39 = .bool false ∧ F' 43 = .bool true ∧ F' 60 = .bool true ∧ F' 73 = .bool false) ⟨e0, e1, e2, e3, e4, e7, e9, e10, e11, e12, e13, e14, e26, e39, e43, e60, rfl⟩ ?_
              clear e0 e1 e2 e3 e4 e7 e9 e10 e11 e12 e13 e14 e26 e39 e43 e60
              clear F
              rintro F ⟨e0, e1, e2, e3, e4, e7, e9, e10, e11, e12, e13, e14, e26, e39, e43, e60, e73⟩
              refine wp_cond_false (fr_eval rfl e73) ?_
              refine wp_skip ?_
              refine then_n ?_
              refine wp_exit ?_
              refine then_exit ?_
              refine blk_exit ?_
              refine then_n ?_
              refine wp_regionF ?_
              refine lf_val (v := .int .i64 ((i : Nat) : Int)) (wantAll rfl) (rv_move rfl (fr_eval rfl e12)) ?_
              refine lf_val (v := .int .i64 ((i + 1 : Nat) : Int)) (wantAll rfl) (rv_add rfl (fr_eval rfl rfl) rfl (wrap_i64 (by omega) (by omega) (by omega))) ?_
              refine lf_val (v := .int .i64 ((i + 1 : Nat) : Int)) (wantAll rfl) (rv_assign rfl (fr_eval rfl rfl)) ?_
              refine lf_nil ?_
              refine then_n ?_
              exact ⟨_, _, (by omega), rfl, i + 1, u, rfl, (by omega), (by omega), e0, e1, e2, e3, e4, e7, e9, e10, e11, rfl, e26, e39, hH⟩
          · refine wp_cond_false (fr_eval rfl (e43.trans (congrArg Value.bool (decide_eq_false hc5)))) ?_
            refine wp_exit ?_
            refine then_exit ?_
            refine then_exit ?_
            refine blk_exit ?_
            refine then_n ?_
            refine wp_seq ?_
            refine wp_regionF ?_
            refine lf_call (wantAll rfl) (rv_call (args := []) rfl evn Try.call53) (awake12_calls _) ?_
            rintro _ w24 ⟨rfl, hx⟩
            refine ⟨_, rfl, ?_⟩
            replace hH := hH.ext hx
            clear hx
            refine lf_val (v := .bool true) (wantAll rfl) (rv_assign rfl (fr_eval rfl rfl)) ?_
            refine lf_nil ?_
            refine then_n ?_
            refine wp_gen (fun F' => F' 0 = .agg (cBs s.1).toArray ∧ F' 1 = .int .i64 ((n : Nat) : Int) ∧ F' 2 = vl ∧ F' 3 = .agg (([.int .i64 o.t, .int .i64 o.c, .int .i64 o.s] : List Value) ++ (cBs o.h.1 ++ cBs o.b.1)).toArray ∧ F' 4 = .pointer (some ⟨g1, 0, none⟩) ∧ F' 7 = .pointer (some ⟨g2, 0, none⟩) ∧ F' 8 = .bool true ∧ F' 9 = .pointer (some ⟨g3, 0, none⟩) ∧ F' 10 = .int .i64 0 ∧ F' 11 = .int .i64 ((u : Nat) : Int) ∧ F' 12 = .int .i64 ((i : Nat) : Int) ∧ F' 26 = .bool false ∧ F' 39 = .bool false ∧ F' 43 = .bool false) ⟨e0, e1, e2, e3, e4, e7, rfl, e9, e10, e11, e12, e26, e39, (e43.trans (congrArg Value.bool (decide_eq_false hc5)))⟩ ?_
            clear e0 e1 e2 e3 e4 e7 e9 e10 e11 e12 e26 e39 e43
            clear F
            rintro F ⟨e0, e1, e2, e3, e4, e7, e8, e9, e10, e11, e12, e26, e39, e43⟩
            refine wp_ret ?_
            exact bodyPost_ret (v := (.bool true)) (res1 rfl (ro_tmp rfl e8)) rfl (⟨rfl, hH.done⟩)

end Go.Proofs.Ytokddhidcjkadaa
