/- Keys that sign: signing, what is read of a signature, and whether it is verified. -/
import Derived.Test.YtokddhidcjkadaaManys
namespace Go.Proofs.Ytokddhidcjkadaa
open Go.RowKit Go.Bz Go.Bz.Sha Go.Bz.Lamp Go.Bz.Merkle Go.Bz.Wire Go.Bz.Many
attribute [local irreducible] wpList Code.wp wpAnyX sigs backK
theorem uptoP_calls {g : Nat} {v0 : Value} {rest : List UInt8} (z m : Int) (h0 : 0 ≤ z) (hz : z ≤ m) (hm : m ≤ 9223372036854775807) (w : World) (he0 : EyeAt w g v0 (put z ++ rest) 0) (hne : v0.ownBlock ≠ some g) :
    Calls Try.prog 84 #[.pointer (some ⟨g, 0, none⟩), .int .i64 m] w fun e'' w' => e'' = .returned (.int .i64 z) ∧ EyeAt w' g v0 rest 0 ∧ Chg (· = g) w w' := by
  have h := upto_calls m w he0 hne
  obtain ⟨h1, h2, h3⟩ := upto_put (rest := rest) h0 hz hm
  rw [h1, h2, h3] at h; exact h
theorem sumP_calls {g : Nat} {v0 : Value} {rest : List UInt8} (s : S32) (w : World) (he0 : EyeAt w g v0 (s.1 ++ rest) 0) (hne : v0.ownBlock ≠ some g) (hv0 : ∀ k, v0.ownBlock = some k → k < w.heap.size) :
    Calls Try.prog 85 #[.pointer (some ⟨g, 0, none⟩)] w fun e'' w' => e'' = .returned (.agg (cBs s.1).toArray) ∧ EyeAt w' g v0 rest 0 ∧ Chg (· = g) w w' := by
  have h := sumE_calls w he0 hne hv0
  obtain ⟨h1, h2, h3⟩ := sum_of (r := s.1 ++ rest) (e := 0) rfl rfl s.2
  rw [h1, h2, h3] at h; exact h
theorem textP_calls {g : Nat} {v0 : Value} {rest : List UInt8} (b : List UInt8) (m : Int) (hb : (b.length : Int) ≤ m) (hm : m ≤ 9223372036854775807) (w : World) (he0 : EyeAt w g v0 (put (b.length : Int) ++ (b ++ rest)) 0) (hne : v0.ownBlock ≠ some g) :
    Calls Try.prog 86 #[.pointer (some ⟨g, 0, none⟩), .int .i64 m] w fun e'' w' => (∃ v', e'' = .returned v' ∧ OwnB w' v' b ∧ ∀ k, v'.ownBlock = some k → w.heap.size ≤ k) ∧ EyeAt w' g v0 rest 0 ∧ Chg (· = g) w w' := by
  have h := textE_calls m w he0 hne
  obtain ⟨h1, h2, h3⟩ := text_of (r := put (b.length : Int) ++ (b ++ rest)) (e := 0) (m := m) rfl rfl hb hm
  rw [h1, h2, h3] at h; exact h
theorem doneP_calls {g : Nat} {v0 : Value} (w : World) (he0 : EyeAt w g v0 [] 0) (hne : v0.ownBlock ≠ some g) :
    Calls Try.prog 87 #[.pointer (some ⟨g, 0, none⟩)] w fun e'' w' => e'' = .returned (.int .i64 0) ∧ EyeAt w' g v0 [] 0 ∧ Chg (· = g) w w' := by
  have h := done_calls w he0 hne
  rw [show doneE [] 0 = 0 from rfl] at h; exact h

theorem zMz_g0 {a0 : List UInt8} (ha0 : a0.length = 32) {a1 : Value} {a2 : Value} : (cBs a0 ++ ([a1, a2] : List Value))[33]? = some a2 := (show (cBs a0 ++ ([a1, a2]))[33]? = some (a2) from get_r (n := 32) (j := 1) rfl (cBs_len ha0) rfl)
theorem zMz_y1 {a0 : List UInt8} (ha0 : a0.length = 32) {a1 : Value} {a2 : Value} {n0 : Value} : lay (cBs a0 ++ ([a1, a2] : List Value)) 33 ([n0]) = cBs a0 ++ ([a1, n0] : List Value) := (lay_of (cur := cBs a0 ++ ([a1, a2] : List Value)) (cs := [n0]) (cur' := cBs a0 ++ ([a1, n0] : List Value)) (A := (cBs a0 ++ ([a1] : List Value) : List Value)) (D := ([a2] : List Value)) (C := ([] : List Value)) (by simp) (by simp) (len_app (m := 32) (n := 1) (k := 33) (cBs_len ha0) rfl rfl) ((show List.length [a2] = 1 from rfl).trans (show List.length [n0] = 1 from rfl).symm))
theorem zMz_l2 {a0 : List UInt8} (ha0 : a0.length = 32) {a1 : Value} {a2 : Value} : List.length (cBs a0 ++ ([a1, a2] : List Value)) = 34 := (len_app (m := 32) (n := 2) (k := 34) (cBs_len ha0) rfl rfl)
theorem zMz_g3 {a0 : List UInt8} (ha0 : a0.length = 32) {a1 : Value} {a2 : Value} : (cBs a0 ++ ([a1, a2] : List Value))[32]? = some a1 := (show (cBs a0 ++ ([a1, a2]))[32]? = some (a1) from get_r (n := 32) (j := 0) rfl (cBs_len ha0) rfl)
theorem zMz_p4 {a0 : List UInt8} (ha0 : a0.length = 32) {a1 : Value} {a2 : Value} : List.take 32 (List.drop 0 (cBs a0 ++ ([a1, a2] : List Value))) = cBs a0 := (show List.take 32 (List.drop 0 ([] ++ ((cBs a0) ++ ([a1, a2])))) = cBs a0 from part_app (show List.length ([] : List Value) = 0 from rfl) (cBs_len ha0))
set_option maxRecDepth 100000 in
set_option maxHeartbeats 4000000 in
theorem kSign_nil (vt : Value) (w : World) :
    Calls Try.prog 39 #[.pointer none, vt] w fun e'' w' => e'' = .returned (.tuple #[.slice none 0 0, .int .i64 15]) ∧ Ext w w' := by
  refine calls_fr (args := [.pointer none, vt]) (n := 64) Try.func39 rfl rfl (show 2 ≤ 64 by decide) ?_
  have hH : Heap (newN w) w w [] := Heap.fresh
  refine wp_seq ?_
  refine wp_gen (fun F' => F' 0 = .pointer none ∧ F' 1 = vt) ⟨rfl, rfl⟩ ?_
  rintro F ⟨e0, e1⟩
  refine wp_regionF ?_
  refine lf_val (v := .slice none 0 0) (wantAll rfl) (rv_assign rfl rfl) ?_
  refine lf_val (v := .int .i64 0) (wantAll rfl) (rv_assign rfl rfl) ?_
  refine lf_nil ?_
  refine then_n ?_
  refine wp_seq ?_
  refine wp_seq ?_
  refine wp_gen (fun F' => F' 0 = .pointer none ∧ F' 1 = vt ∧ F' 4 = .slice none 0 0 ∧ F' 5 = .int .i64 0) ⟨e0, e1, rfl, rfl⟩ ?_
  clear e0 e1
  clear F
  rintro F ⟨e0, e1, e4, e5⟩
  refine wp_regionF ?_
  refine lf_val (v := .pointer none) (wantAll rfl) (rv_move rfl (fr_eval rfl e0)) ?_
  refine lf_call (wantAll rfl) (rv_call (args := [.pointer none]) rfl (evc (fr_eval rfl rfl) evn) Try.call40) (kLeft_nil _) ?_
  rintro _ w1 ⟨rfl, hx⟩
  refine ⟨_, rfl, ?_⟩
  replace hH := hH.ext hx
  clear hx
  refine lf_val (v := .bool true) (wantAll rfl) (rv_eql rfl (fr_eval rfl rfl) rfl (by decide)) ?_
  refine lf_nil ?_
  refine then_n ?_
  refine wp_gen (fun F' => F' 0 = .pointer none ∧ F' 1 = vt ∧ F' 4 = .slice none 0 0 ∧ F' 5 = .int .i64 0 ∧ F' 14 = .bool true) ⟨e0, e1, e4, e5, rfl⟩ ?_
  clear e0 e1 e4 e5
  clear F
  rintro F ⟨e0, e1, e4, e5, e14⟩
  refine wp_cond_true (fr_eval rfl e14) ?_
  refine wp_seq ?_
  refine wp_regionF ?_
  refine lf_val (v := .slice none 0 0) (wantAll rfl) (rv_assign rfl rfl) ?_
  refine lf_val (v := .int .i64 15) (wantAll rfl) (rv_assign rfl rfl) ?_
  refine lf_nil ?_
  refine then_n ?_
  refine wp_gen (fun F' => F' 0 = .pointer none ∧ F' 1 = vt ∧ F' 4 = .slice none 0 0 ∧ F' 5 = .int .i64 15 ∧ F' 14 = .bool true) ⟨e0, e1, rfl, rfl, e14⟩ ?_
  clear e0 e1 e4 e5 e14
  clear F
  rintro F ⟨e0, e1, e4, e5, e14⟩
  refine wp_ret ?_
  refine then_ret ?_
  exact bodyPost_ret (v := .tuple #[.slice none 0 0, .int .i64 15]) (res2 rfl (ro_tmp rfl e4) (ro_tmp rfl e5)) rfl (⟨rfl, hH.done⟩)

set_option maxRecDepth 100000 in
set_option maxHeartbeats 4000000 in
theorem kSign_no {g : Nat} {v : Value} (s : S32) (l : List S32) (hl : l.length ≤ 1000000) (vt : Value) (w : World) (hB0 : Blk w g (cBs s.1 ++ ([v, .int .i64 ((l.length : Nat) : Int)] : List Value)) 108) (hr0 : Rd w 32 v l.length (l.flatMap cS)) :
    Calls Try.prog 39 #[.pointer (some ⟨g, 0, none⟩), vt] w fun e'' w' => e'' = .returned (.tuple #[.slice none 0 0, .int .i64 15]) ∧ Ext w w' := by
  refine calls_fr (args := [.pointer (some ⟨g, 0, none⟩), vt]) (n := 64) Try.func39 rfl rfl (show 2 ≤ 64 by decide) ?_
  have hr := Rd.stab hr0
  have hB := Blk.stab hB0
  have hH : Heap (newN w) w w [] := Heap.fresh
  refine wp_seq ?_
  refine wp_gen (fun F' => F' 0 = .pointer (some ⟨g, 0, none⟩) ∧ F' 1 = vt) ⟨rfl, rfl⟩ ?_
  rintro F ⟨e0, e1⟩
  refine wp_regionF ?_
  refine lf_val (v := .slice none 0 0) (wantAll rfl) (rv_assign rfl rfl) ?_
  refine lf_val (v := .int .i64 0) (wantAll rfl) (rv_assign rfl rfl) ?_
  refine lf_nil ?_
  refine then_n ?_
  refine wp_seq ?_
  refine wp_seq ?_
  refine wp_gen (fun F' => F' 0 = .pointer (some ⟨g, 0, none⟩) ∧ F' 1 = vt ∧ F' 4 = .slice none 0 0 ∧ F' 5 = .int .i64 0) ⟨e0, e1, rfl, rfl⟩ ?_
  clear e0 e1
  clear F
  rintro F ⟨e0, e1, e4, e5⟩
  refine wp_regionF ?_
  refine lf_val (v := .pointer (some ⟨g, 0, none⟩)) (wantAll rfl) (rv_move rfl (fr_eval rfl e0)) ?_
  refine lf_call (wantAll rfl) (rv_call (args := [.pointer (some ⟨g, 0, none⟩)]) rfl (evc (fr_eval rfl rfl) evn) Try.call40) (kLeft s l (by omega) l.length (by omega) (by omega) _ (hB _ hH.chg) (hr.rd _ hH.chg)) ?_
  rintro _ w1 ⟨rfl, hx⟩
  refine ⟨_, rfl, ?_⟩
  replace hH := hH.ext hx
  clear hx
  refine lf_val (v := .bool true) (wantAll rfl) (rv_eql rfl (fr_eval rfl rfl) rfl (decide_eq_true (by omega))) ?_
  refine lf_nil ?_
  refine then_n ?_
  refine wp_gen (fun F' => F' 0 = .pointer (some ⟨g, 0, none⟩) ∧ F' 1 = vt ∧ F' 4 = .slice none 0 0 ∧ F' 5 = .int .i64 0 ∧ F' 14 = .bool true) ⟨e0, e1, e4, e5, rfl⟩ ?_
  clear e0 e1 e4 e5
  clear F
  rintro F ⟨e0, e1, e4, e5, e14⟩
  refine wp_cond_true (fr_eval rfl e14) ?_
  refine wp_seq ?_
  refine wp_regionF ?_
  refine lf_val (v := .slice none 0 0) (wantAll rfl) (rv_assign rfl rfl) ?_
  refine lf_val (v := .int .i64 15) (wantAll rfl) (rv_assign rfl rfl) ?_
  refine lf_nil ?_
  refine then_n ?_
  refine wp_gen (fun F' => F' 0 = .pointer (some ⟨g, 0, none⟩) ∧ F' 1 = vt ∧ F' 4 = .slice none 0 0 ∧ F' 5 = .int .i64 15 ∧ F' 14 = .bool true) ⟨e0, e1, rfl, rfl, e14⟩ ?_
  clear e0 e1 e4 e5 e14
  clear F
  rintro F ⟨e0, e1, e4, e5, e14⟩
  refine wp_ret ?_
  refine then_ret ?_
  exact bodyPost_ret (v := .tuple #[.slice none 0 0, .int .i64 15]) (res2 rfl (ro_tmp rfl e4) (ro_tmp rfl e5)) rfl (⟨rfl, hH.done⟩)

set_option maxRecDepth 100000 in
set_option maxHeartbeats 4000000 in
theorem kSign_yes {g : Nat} {v : Value} (s : S32) (l : List S32) (hl : l.length ≤ 64) (i : Nat) (hi : i < l.length) (t : List UInt8) (hts : t.length ≤ 1000000) (vt : Value) (w : World) (hb0 : Blk w g (cBs s.1 ++ ([v, .int .i64 ((i : Nat) : Int)] : List Value)) 108) (ho0 : Own w 23 32 v l.length (l.flatMap cS)) (ht0 : RdB w vt t) (htk : ∀ k, vt.ownBlock = some k → 0 < (cBs t).length → ¬ holdK g v k) :
    Calls Try.prog 39 #[.pointer (some ⟨g, 0, none⟩), vt] w fun e'' w' => ∃ y, e'' = .returned (.tuple #[y, .int .i64 0]) ∧ Heap (newK w (holdK g v)) w w' [oBlk g (cBs s.1 ++ ([v, .int .i64 ((i + 1 : Nat) : Int)] : List Value)) 108, oRow cS 23 32 v l, oB y (sigM i l.length (pathT (l.map leafS) i) (sigs (seedS s i).1 (join 14 [t]) 64))] := by
  refine calls_fr (args := [.pointer (some ⟨g, 0, none⟩), vt]) (n := 64) Try.func39 rfl rfl (show 2 ≤ 64 by decide) ?_
  have hone : (sigs (seedS s i).1 (join 14 [t]) 64).length = 4096 := by rw [sigs_len]
  have hpl : (pathT (l.map leafS) i).length ≤ 8 := Nat.le_trans (pathT_len 6 _ _ (by simpa using hl)) (by decide)
  have ht := Rd.stabK ht0 htk
  have hH : Heap (newK w (holdK g v)) w w [oBlk g (cBs s.1 ++ ([v, .int .i64 ((i : Nat) : Int)] : List Value)) 108, oRow cS 23 32 v l] := Heap.startBO hb0 ho0 (by decide)
  refine wp_seq ?_
  refine wp_gen (fun F' => F' 0 = .pointer (some ⟨g, 0, none⟩) ∧ F' 1 = vt) ⟨rfl, rfl⟩ ?_
  rintro F ⟨e0, e1⟩
  refine wp_regionF ?_
  refine lf_val (v := .slice none 0 0) (wantAll rfl) (rv_assign rfl rfl) ?_
  refine lf_val (v := .int .i64 0) (wantAll rfl) (rv_assign rfl rfl) ?_
  refine lf_nil ?_
  refine then_n ?_
  refine wp_seq ?_
  refine wp_seq ?_
  refine wp_gen (fun F' => F' 0 = .pointer (some ⟨g, 0, none⟩) ∧ F' 1 = vt ∧ F' 4 = .slice none 0 0 ∧ F' 5 = .int .i64 0) ⟨e0, e1, rfl, rfl⟩ ?_
  clear e0 e1
  clear F
  rintro F ⟨e0, e1, e4, e5⟩
  refine wp_regionF ?_
  refine lf_val (v := .pointer (some ⟨g, 0, none⟩)) (wantAll rfl) (rv_move rfl (fr_eval rfl e0)) ?_
  refine lf_call (wantAll rfl) (rv_call (args := [.pointer (some ⟨g, 0, none⟩)]) rfl (evc (fr_eval rfl rfl) evn) Try.call40) (kLeft s l (by omega) i (by omega) (by omega) _ (hH.blk (i := 0) rfl) (Own.rd (hH.own (i := 1) rfl) (row_one cS_one))) ?_
  rintro _ w1 ⟨rfl, hx⟩
  refine ⟨_, rfl, ?_⟩
  replace hH := hH.ext hx
  clear hx
  refine lf_val (v := .bool false) (wantAll rfl) (rv_eql rfl (fr_eval rfl rfl) rfl (decide_eq_false (by omega))) ?_
  refine lf_nil ?_
  refine then_n ?_
  refine wp_gen (fun F' => F' 0 = .pointer (some ⟨g, 0, none⟩) ∧ F' 1 = vt ∧ F' 4 = .slice none 0 0 ∧ F' 5 = .int .i64 0 ∧ F' 14 = .bool false) ⟨e0, e1, e4, e5, rfl⟩ ?_
  clear e0 e1 e4 e5
  clear F
  rintro F ⟨e0, e1, e4, e5, e14⟩
  refine wp_cond_false (fr_eval rfl e14) ?_
  refine wp_skip ?_
  refine then_n ?_
  refine wp_seq ?_
  refine wp_regionF ?_
  refine lf_val (v := .pointer (some ⟨g, 0, none⟩)) (wantAll rfl) (rv_move rfl (fr_eval rfl e0)) ?_
  refine lf_val (v := .pointer (some ⟨g, 0, none⟩)) (wantAll rfl) (rv_nilCheck rfl (fr_eval rfl rfl)) ?_
  refine lf_val (v := .pointer (some ⟨g, 33, none⟩)) (wantAll rfl) (rv_fieldAddr (n := 0) rfl (fr_eval rfl rfl) Try.underlying108 rfl rfl (by kernel_rfl)) ?_
  refine lf_val (v := .int .i64 ((i : Nat) : Int)) (wantAll rfl) (rv_load1 rfl (hH.blk (i := 0) rfl) (zMz_g0 s.2) (fr_eval rfl rfl) Try.underlying3 rfl Try.sz3) ?_
  refine lf_val (v := .int .i64 ((i : Nat) : Int)) (wantAll rfl) (rv_assign rfl (fr_eval rfl rfl)) ?_
  refine lf_nil ?_
  refine then_n ?_
  refine wp_seq ?_
  refine wp_gen (fun F' => F' 0 = .pointer (some ⟨g, 0, none⟩) ∧ F' 1 = vt ∧ F' 4 = .slice none 0 0 ∧ F' 5 = .int .i64 0 ∧ F' 6 = .int .i64 ((i : Nat) : Int) ∧ F' 14 = .bool false) ⟨e0, e1, e4, e5, rfl, e14⟩ ?_
  clear e0 e1 e4 e5 e14
  clear F
  rintro F ⟨e0, e1, e4, e5, e6, e14⟩
  refine wp_regionF ?_
  refine lf_val (v := .pointer (some ⟨g, 0, none⟩)) (wantAll rfl) (rv_move rfl (fr_eval rfl e0)) ?_
  refine lf_val (v := .pointer (some ⟨g, 0, none⟩)) (wantAll rfl) (rv_nilCheck rfl (fr_eval rfl rfl)) ?_
  refine lf_val (v := .pointer (some ⟨g, 33, none⟩)) (wantAll rfl) (rv_fieldAddr (n := 0) rfl (fr_eval rfl rfl) Try.underlying108 rfl rfl (by kernel_rfl)) ?_
  refine lf_val (v := .int .i64 ((i : Nat) : Int)) (wantAll rfl) (rv_load1 rfl (hH.blk (i := 0) rfl) (zMz_g0 s.2) (fr_eval rfl rfl) Try.underlying3 rfl Try.sz3) ?_
  refine lf_val (v := .int .i64 ((i + 1 : Nat) : Int)) (wantAll rfl) (rv_add rfl (fr_eval rfl rfl) rfl (wrap_i64 (by omega) (by omega) (by omega))) ?_
  refine lf_val (v := .pointer (some ⟨g, 0, none⟩)) (wantAll rfl) (rv_nilCheck rfl (fr_eval rfl rfl)) ?_
  refine lf_val (v := .pointer (some ⟨g, 33, none⟩)) (wantAll rfl) (rv_fieldAddr (n := 0) rfl (fr_eval rfl rfl) Try.underlying108 rfl rfl (by kernel_rfl)) ?_
  refine lf_sk (wantAll rfl) (hx_storeC hH (i := 0) (j := 33) (v := .int .i64 ((i + 1 : Nat) : Int)) rfl rfl rfl (lt_of_len (zMz_l2 s.2) (by decide)) (set_lay (lt_of_len (zMz_l2 s.2) (by decide)) (zMz_y1 s.2)) (fr_eval rfl rfl) (fr_eval rfl rfl) Try.sz3 rfl) ?_
  clear hH
  rintro w2 ⟨hH, hx⟩
  replace hH : Heap _ _ _ [_, _] := hH
  clear hx
  refine lf_nil ?_
  refine then_n ?_
  refine wp_seq ?_
  refine wp_gen (fun F' => F' 0 = .pointer (some ⟨g, 0, none⟩) ∧ F' 1 = vt ∧ F' 4 = .slice none 0 0 ∧ F' 5 = .int .i64 0 ∧ F' 6 = .int .i64 ((i : Nat) : Int) ∧ F' 14 = .bool false) ⟨e0, e1, e4, e5, e6, e14⟩ ?_
  clear e0 e1 e4 e5 e6 e14
  clear F
  rintro F ⟨e0, e1, e4, e5, e6, e14⟩
  refine wp_regionF ?_
  refine lf_val (v := .int .i64 ((i : Nat) : Int)) (wantAll rfl) (rv_move rfl (fr_eval rfl e6)) ?_
  refine lf_val (v := .pointer (some ⟨g, 0, none⟩)) (wantAll rfl) (rv_move rfl (fr_eval rfl e0)) ?_
  refine lf_val (v := .pointer (some ⟨g, 0, none⟩)) (wantAll rfl) (rv_nilCheck rfl (fr_eval rfl rfl)) ?_
  refine lf_val (v := .pointer (some ⟨g, 32, none⟩)) (wantAll rfl) (rv_fieldAddr (n := 0) rfl (fr_eval rfl rfl) Try.underlying108 rfl rfl (by kernel_rfl)) ?_
  refine lf_val (v := v) (wantAll rfl) (rv_load1 rfl (hH.blk (i := 0) rfl) (zMz_g3 s.2) (fr_eval rfl rfl) Try.underlying24 rfl Try.sz24) ?_
  refine lf_call (wantAll rfl) (rv_call (args := [.int .i64 ((i : Nat) : Int), v]) rfl (evc (fr_eval rfl rfl) (evc (fr_eval rfl rfl) evn)) Try.call18) (path_in i l (by omega) (by omega) _ _ (Own.rd (hH.own (i := 1) rfl) (row_one cS_one))) ?_
  rintro _ w3 ⟨⟨y1, rfl, ho, hg⟩, hx⟩
  refine ⟨_, rfl, ?_⟩
  replace hH : Heap (newK w (holdK g v)) w w3 [oBlk g (cBs s.1 ++ ([v, .int .i64 ((i + 1 : Nat) : Int)] : List Value)) 108, oRow cS 23 32 v l, oRow cS 23 32 y1 (pathT (List.map leafS l) i)] := hH.addOwn hx hg ho
  clear ho hg
  clear hx
  refine lf_val (v := .tuple #[y1, .bool true]) (wantAll rfl) (rv_move rfl (fr_eval rfl rfl)) ?_
  refine lf_val (v := y1) (wantAll rfl) (rv_extract rfl (fr_eval rfl rfl) rfl) ?_
  refine lf_val (v := .bool true) (wantAll rfl) (rv_extract rfl (fr_eval rfl rfl) rfl) ?_
  refine lf_val (v := y1) (wantAll rfl) (rv_assign rfl (fr_eval rfl rfl)) ?_
  refine lf_val (v := .bool true) (wantAll rfl) (rv_assign rfl (fr_eval rfl rfl)) ?_
  refine lf_nil ?_
  refine then_n ?_
  refine wp_seq ?_
  refine wp_gen (fun F' => F' 0 = .pointer (some ⟨g, 0, none⟩) ∧ F' 1 = vt ∧ F' 4 = .slice none 0 0 ∧ F' 5 = .int .i64 0 ∧ F' 6 = .int .i64 ((i : Nat) : Int) ∧ F' 7 = y1 ∧ F' 14 = .bool false) ⟨e0, e1, e4, e5, e6, rfl, e14⟩ ?_
  clear e0 e1 e4 e5 e6 e14
  clear F
  rintro F ⟨e0, e1, e4, e5, e6, e7, e14⟩
  refine wp_regionF ?_
  refine lf_ex (wantAll rfl) (hx_alloc hH 76 (z := .agg ([.slice none 0 0]).toArray) (n := 1) (cs := [.slice none 0 0]) rfl (by kernel_rfl) (by rfl)) ?_
  clear hH
  rintro _ w4 ⟨g1, rfl, hH, hx⟩
  replace hH : Heap _ _ _ [_, _, _, _] := hH
  clear hx
  refine lf_nil ?_
  refine then_n ?_
  refine wp_seq ?_
  refine wp_gen (fun F' => F' 0 = .pointer (some ⟨g, 0, none⟩) ∧ F' 1 = vt ∧ F' 4 = .slice none 0 0 ∧ F' 5 = .int .i64 0 ∧ F' 6 = .int .i64 ((i : Nat) : Int) ∧ F' 7 = y1 ∧ F' 9 = .pointer (some ⟨g1, 0, none⟩) ∧ F' 14 = .bool false) ⟨e0, e1, e4, e5, e6, e7, rfl, e14⟩ ?_
  clear e0 e1 e4 e5 e6 e7 e14
  clear F
  rintro F ⟨e0, e1, e4, e5, e6, e7, e9, e14⟩
  refine wp_regionF ?_
  refine lf_val (v := .int .i64 ((i : Nat) : Int)) (wantAll rfl) (rv_move rfl (fr_eval rfl e6)) ?_
  refine lf_val (v := .pointer (some ⟨g, 0, none⟩)) (wantAll rfl) (rv_move rfl (fr_eval rfl e0)) ?_
  refine lf_val (v := .pointer (some ⟨g, 0, none⟩)) (wantAll rfl) (rv_nilCheck rfl (fr_eval rfl rfl)) ?_
  refine lf_val (v := .pointer (some ⟨g, 32, none⟩)) (wantAll rfl) (rv_fieldAddr (n := 0) rfl (fr_eval rfl rfl) Try.underlying108 rfl rfl (by kernel_rfl)) ?_
  refine lf_val (v := v) (wantAll rfl) (rv_load1 rfl (hH.blk (i := 0) rfl) (zMz_g3 s.2) (fr_eval rfl rfl) Try.underlying24 rfl Try.sz24) ?_
  refine lf_val (v := .int .i64 ((l.length : Nat) : Int)) (wantAll rfl) (rv_len rfl (fr_eval rfl rfl) (Own.rd (hH.own (i := 1) rfl) (row_one cS_one)) Try.underlying24) ?_
  refine lf_val (v := y1) (wantAll rfl) (rv_move rfl (fr_eval rfl e7)) ?_
  refine lf_val (v := .int .i64 (((pathT (List.map leafS l) i).length : Nat) : Int)) (wantAll rfl) (rv_len rfl (fr_eval rfl rfl) (Own.rd (hH.own (i := 2) rfl) (row_one cS_one)) Try.underlying24) ?_
  refine lf_ex (wantAll rfl) (hx_lits hH Try.stInt (n := 3) (nm := List.length [((i : Nat) : Int), ((l.length : Nat) : Int), (((pathT (List.map leafS l) i).length : Nat) : Int)]) [(.tmp 35), (.tmp 40), (.tmp 42)] (vs := [(.int .i64 ((i : Nat) : Int)), (.int .i64 ((l.length : Nat) : Int)), (.int .i64 (((pathT (List.map leafS l) i).length : Nat) : Int))]) (cs := List.flatMap cI [((i : Nat) : Int), ((l.length : Nat) : Int), (((pathT (List.map leafS l) i).length : Nat) : Int)]) rfl (evc (fr_eval rfl rfl) (evc (fr_eval rfl rfl) (evc (fr_eval rfl rfl) evn))) (row_one (l := [((i : Nat) : Int), ((l.length : Nat) : Int), (((pathT (List.map leafS l) i).length : Nat) : Int)]) cI_one) rfl (by decide) rfl rfl) ?_
  clear hH
  rintro y2 w5 ⟨hH, hx⟩
  replace hH : Heap _ _ _ [_, _, _, _, _] := hH
  clear hx
  replace hH : Heap _ _ _ [_, _, _, _, _] := hH.toPen (i := 3) rfl rfl
  refine lf_call (wantAll rfl) (rv_call (args := [.pointer (some ⟨g1, 0, none⟩), y2]) rfl (evc (fr_eval rfl e9) (evc (fr_eval rfl rfl) evn)) Try.call41) (penNums_calls (nums3 (by omega) (by omega) (by omega)) _ (Own.rd (hH.own (i := 4) rfl) (row_one cI_one)) (fun k hk h0 e => apart_at hH.apart (i := 4) (j := 3) rfl rfl (by decide) k hk (Or.inl e)) (fun k hk h0 h => apart_at hH.apart (i := 4) (j := 3) rfl rfl (by decide) k hk (Or.inr h)) (hH.pen (i := 3) rfl) (by first | omega | (simp only [List.length_append]; omega) | (simp only [List.length_append, List.length_cons, List.length_nil]; omega))) ?_
  rintro _ w6 ⟨rfl, hp⟩
  refine ⟨_, rfl, ?_⟩
  obtain ⟨y3, hH', hx, hxf, hgr⟩ := hH.penPost (i := 3) (l2 := puts [((i : Nat) : Int), ((l.length : Nat) : Int), (((pathT (List.map leafS l) i).length : Nat) : Int)]) rfl (fun _ => rfl) hp
  clear hH hp
  have hH : Heap _ _ _ [_, _, _, _, _] := hH'
  clear hH'
  clear hxf hgr hx
  refine lf_nil ?_
  refine then_n ?_
  refine wp_seq ?_
  refine wp_seq ?_
  replace hH : Heap _ _ _ [_, _, _, _] := hH.drop (.cons_cons _ (.cons_cons _ (.cons_cons _ (.cons_cons _ (.cons _ .slnil)))))
  refine wp_gen (fun F' => F' 0 = .pointer (some ⟨g, 0, none⟩) ∧ F' 1 = vt ∧ F' 4 = .slice none 0 0 ∧ F' 5 = .int .i64 0 ∧ F' 6 = .int .i64 ((i : Nat) : Int) ∧ F' 7 = y1 ∧ F' 9 = .pointer (some ⟨g1, 0, none⟩) ∧ F' 14 = .bool false) ⟨e0, e1, e4, e5, e6, e7, e9, e14⟩ ?_
  clear e0 e1 e4 e5 e6 e7 e9 e14
  clear F
  rintro F ⟨e0, e1, e4, e5, e6, e7, e9, e14⟩
  refine wp_regionF ?_
  refine lf_val (v := y1) (wantAll rfl) (rv_move rfl (fr_eval rfl e7)) ?_
  refine lf_val (v := .int .i64 (((pathT (List.map leafS l) i).length : Nat) : Int)) (wantAll rfl) (rv_len rfl (fr_eval rfl rfl) (Own.rd (hH.own (i := 2) rfl) (row_one cS_one)) Try.underlying24) ?_
  refine lf_val (v := .int .i64 0) (wantAll rfl) (rv_move rfl rfl) ?_
  refine lf_nil ?_
  refine then_n ?_
  refine wp_block ?_
  rw [show puts [((i : Nat) : Int), ((l.length : Nat) : Int), (((pathT (List.map leafS l) i).length : Nat) : Int)] = puts [((i : Nat) : Int), ((l.length : Nat) : Int), (((pathT (List.map leafS l) i).length : Nat) : Int)] ++ sumsB (List.take 0 (pathT (List.map leafS l) i)) from (by simp [sumsB])] at hH
  refine wp_gen (fun F' => F' 0 = .pointer (some ⟨g, 0, none⟩) ∧ F' 1 = vt ∧ F' 4 = .slice none 0 0 ∧ F' 5 = .int .i64 0 ∧ F' 6 = .int .i64 ((i : Nat) : Int) ∧ F' 7 = y1 ∧ F' 9 = .pointer (some ⟨g1, 0, none⟩) ∧ F' 14 = .bool false ∧ F' 45 = y1 ∧ F' 46 = .int .i64 (((pathT (List.map leafS l) i).length : Nat) : Int) ∧ F' 47 = .int .i64 0) ⟨e0, e1, e4, e5, e6, e7, e9, e14, rfl, rfl, rfl⟩ ?_
  clear e0 e1 e4 e5 e6 e7 e9 e14
  clear F
  rintro F ⟨e0, e1, e4, e5, e6, e7, e9, e14, e45, e46, e47⟩
  refine wp_loopF (fun m F wr => ∃ j : Nat, ∃ yp : Value, m = (pathT (List.map leafS l) i).length - j ∧ j ≤ (pathT (List.map leafS l) i).length ∧ F 0 = .pointer (some ⟨g, 0, none⟩) ∧ F 1 = vt ∧ F 4 = .slice none 0 0 ∧ F 5 = .int .i64 0 ∧ F 6 = .int .i64 ((i : Nat) : Int) ∧ F 7 = y1 ∧ F 9 = .pointer (some ⟨g1, 0, none⟩) ∧ F 14 = .bool false ∧ F 45 = y1 ∧ F 46 = .int .i64 (((pathT (List.map leafS l) i).length : Nat) : Int) ∧ F 47 = .int .i64 ((j : Nat) : Int) ∧ Heap (newK w (holdK g v)) w wr [oBlk g (cBs s.1 ++ ([v, .int .i64 ((i + 1 : Nat) : Int)] : List Value)) 108, oRow cS 23 32 v l, oRow cS 23 32 y1 (pathT (List.map leafS l) i), oPen g1 yp (puts [((i : Nat) : Int), ((l.length : Nat) : Int), (((pathT (List.map leafS l) i).length : Nat) : Int)] ++ sumsB (List.take j (pathT (List.map leafS l) i)))]) ⟨0, _, rfl, Nat.zero_le _, e0, e1, e4, e5, e6, e7, e9, e14, e45, e46, e47, hH⟩ ?_
  clear e0 e1 e4 e5 e6 e7 e9 e14 e45 e46 e47 hH
  clear F
  rintro m F w7 ⟨j, yp, rfl, pj0, e0, e1, e4, e5, e6, e7, e9, e14, e45, e46, e47, hH⟩
  refine wp_seq ?_
  refine wp_regionF ?_
  refine lf_val (v := .bool (decide (j < (pathT (List.map leafS l) i).length))) (wantAll rfl) (rv_lssP (p := j < (pathT (List.map leafS l) i).length) rfl (fr_eval rfl e47) (fr_eval rfl e46) (by omega)) ?_
  refine lf_nil ?_
  refine then_n ?_
  refine wp_seq ?_
  refine wp_gen (fun F' => F' 0 = .pointer (some ⟨g, 0, none⟩) ∧ F' 1 = vt ∧ F' 4 = .slice none 0 0 ∧ F' 5 = .int .i64 0 ∧ F' 6 = .int .i64 ((i : Nat) : Int) ∧ F' 7 = y1 ∧ F' 9 = .pointer (some ⟨g1, 0, none⟩) ∧ F' 14 = .bool false ∧ F' 45 = y1 ∧ F' 46 = .int .i64 (((pathT (List.map leafS l) i).length : Nat) : Int) ∧ F' 47 = .int .i64 ((j : Nat) : Int) ∧ F' 48 = .bool (decide (j < (pathT (List.map leafS l) i).length))) ⟨e0, e1, e4, e5, e6, e7, e9, e14, e45, e46, e47, rfl⟩ ?_
  clear e0 e1 e4 e5 e6 e7 e9 e14 e45 e46 e47
  clear F
  rintro F ⟨e0, e1, e4, e5, e6, e7, e9, e14, e45, e46, e47, e48⟩
  by_cases hc1 : j < (pathT (List.map leafS l) i).length
  · refine wp_cond_true (fr_eval rfl (e48.trans (congrArg Value.bool (decide_eq_true hc1)))) ?_
    refine wp_skip ?_
    refine then_n ?_
    refine wp_seq ?_
    refine wp_block ?_
    refine wp_seq ?_
    refine wp_regionF ?_
    refine lf_val (v := .pointer (some (elemA y1 (j * 32)))) (wantAll rfl) (rv_index rfl (fr_eval rfl e45) (fr_eval rfl e47) (rdN (Own.rd (hH.own (i := 2) rfl) (row_one cS_one)) rfl) (show j < (pathT (List.map leafS l) i).length from (by omega)) Try.underlying24 Try.sz23 (by decide)) ?_
    refine lf_val (wantAll rfl) (rv_loadElem rfl (fr_eval rfl rfl) (rdN (Own.rd (hH.own (i := 2) rfl) (row_one cS_one)) rfl) (show j < (pathT (List.map leafS l) i).length from (by omega)) (by decide) (flat_part zS cS_len (show j < (pathT (List.map leafS l) i).length from (by omega))) Try.underlying23 rfl Try.sz23) ?_
    refine lf_ex (wantAll rfl) (hx_alloc hH 23 (z := .agg (cBs (List.replicate 32 0)).toArray) (n := 32) (cs := cBs (List.replicate 32 0)) rfl (by kernel_rfl) (by rfl)) ?_
    clear hH
    rintro _ w8 ⟨g2, rfl, hH, hx⟩
    replace hH : Heap _ _ _ [_, _, _, _, _] := hH
    clear hx
    refine lf_sk (wantAll rfl) (hx_storeW hH (i := 4) (cs := cBs (((List.getD (pathT (List.map leafS l) i) j zS)).1)) rfl rfl rfl (fr_eval rfl rfl) (fr_eval rfl rfl) (sz_len Try.sz23 (cBs_len ((List.getD (pathT (List.map leafS l) i) j zS)).2)) (((cBs_len (List.length_replicate ..))).trans ((cBs_len ((List.getD (pathT (List.map leafS l) i) j zS)).2)).symm) ((cBs_one _))) ?_
    clear hH
    rintro w9 ⟨hH, hx⟩
    replace hH : Heap _ _ _ [_, _, _, _, _] := hH
    clear hx
    refine lf_nil ?_
    refine then_n ?_
    refine wp_gen (fun F' => F' 0 = .pointer (some ⟨g, 0, none⟩) ∧ F' 1 = vt ∧ F' 4 = .slice none 0 0 ∧ F' 5 = .int .i64 0 ∧ F' 6 = .int .i64 ((i : Nat) : Int) ∧ F' 7 = y1 ∧ F' 9 = .pointer (some ⟨g1, 0, none⟩) ∧ F' 11 = .pointer (some ⟨g2, 0, none⟩) ∧ F' 14 = .bool false ∧ F' 45 = y1 ∧ F' 46 = .int .i64 (((pathT (List.map leafS l) i).length : Nat) : Int) ∧ F' 47 = .int .i64 ((j : Nat) : Int) ∧ F' 48 = .bool true) ⟨e0, e1, e4, e5, e6, e7, e9, rfl, e14, e45, e46, e47, (e48.trans (congrArg Value.bool (decide_eq_true hc1)))⟩ ?_
    clear e0 e1 e4 e5 e6 e7 e9 e14 e45 e46 e47 e48
    clear F
    rintro F ⟨e0, e1, e4, e5, e6, e7, e9, e11, e14, e45, e46, e47, e48⟩
    refine wp_regionF ?_
    refine lf_val (wantAll rfl) (rv_loadW rfl (hH.blk (i := 4) rfl) (fr_eval rfl e11) Try.underlying23 rfl (sz_len Try.sz23 (cBs_len ((List.getD (pathT (List.map leafS l) i) j zS)).2))) ?_
    refine lf_call (wantAll rfl) (rv_call (args := [.pointer (some ⟨g1, 0, none⟩), .agg (cBs (((List.getD (pathT (List.map leafS l) i) j zS)).1)).toArray]) rfl (evc (fr_eval rfl e9) (evc (fr_eval rfl rfl) evn)) Try.call42) (penSum_calls (((List.getD (pathT (List.map leafS l) i) j zS)).1) (((List.getD (pathT (List.map leafS l) i) j zS)).2) _ (hH.pen (i := 3) rfl) (by have q1 := puts_len [(i : Int), (l.length : Int), ((pathT (List.map leafS l) i).length : Int)]; have q2 := sumsB_len (List.take j (pathT (List.map leafS l) i)); have q3 := List.length_take_le j (pathT (List.map leafS l) i); simp only [List.length_append, List.length_cons, List.length_nil] at *; omega)) ?_
    rintro _ w10 ⟨rfl, hp⟩
    refine ⟨_, rfl, ?_⟩
    obtain ⟨y4, hH', hx, hxf, hgr⟩ := hH.penPost (i := 3) (l2 := puts [((i : Nat) : Int), ((l.length : Nat) : Int), (((pathT (List.map leafS l) i).length : Nat) : Int)] ++ sumsB (List.take j (pathT (List.map leafS l) i)) ++ (((List.getD (pathT (List.map leafS l) i) j zS)).1)) rfl (fun _ => rfl) hp
    clear hH hp
    have hH : Heap _ _ _ [_, _, _, _, _] := hH'
    clear hH'
    clear hxf hgr hx
    refine lf_nil ?_
    refine blk_n ?_
    refine then_n ?_
    refine wp_gen (fun F' => F' 0 = .pointer (some ⟨g, 0, none⟩) ∧ F' 1 = vt ∧ F' 4 = .slice none 0 0 ∧ F' 5 = .int .i64 0 ∧ F' 6 = .int .i64 ((i : Nat) : Int) ∧ F' 7 = y1 ∧ F' 9 = .pointer (some ⟨g1, 0, none⟩) ∧ F' 11 = .pointer (some ⟨g2, 0, none⟩) ∧ F' 14 = .bool false ∧ F' 45 = y1 ∧ F' 46 = .int .i64 (((pathT (List.map leafS l) i).length : Nat) : Int) ∧ F' 47 = .int .i64 ((j : Nat) : Int) ∧ F' 48 = .bool true) ⟨e0, e1, e4, e5, e6, e7, e9, e11, e14, e45, e46, e47, e48⟩ ?_
    clear e0 e1 e4 e5 e6 e7 e9 e11 e14 e45 e46 e47 e48
    clear F
    rintro F ⟨e0, e1, e4, e5, e6, e7, e9, e11, e14, e45, e46, e47, e48⟩
    refine wp_regionF ?_
    refine lf_val (v := .int .i64 ((j + 1 : Nat) : Int)) (wantAll rfl) (rv_add rfl (fr_eval rfl e47) rfl (wrap_i64 (by omega) (by omega) (by omega))) ?_
    refine lf_val (v := .int .i64 ((j + 1 : Nat) : Int)) (wantAll rfl) (rv_move rfl (fr_eval rfl rfl)) ?_
    refine lf_nil ?_
    refine then_n ?_
    rw [show puts [((i : Nat) : Int), ((l.length : Nat) : Int), (((pathT (List.map leafS l) i).length : Nat) : Int)] ++ sumsB (List.take j (pathT (List.map leafS l) i)) ++ (((List.getD (pathT (List.map leafS l) i) j zS)).1) = puts [((i : Nat) : Int), ((l.length : Nat) : Int), (((pathT (List.map leafS l) i).length : Nat) : Int)] ++ sumsB (List.take (j + 1) (pathT (List.map leafS l) i)) from (by rw [List.append_assoc, sumsB_next (by omega)])] at hH
    replace hH : Heap _ _ _ [_, _, _, _] := hH.drop (.cons_cons _ (.cons_cons _ (.cons_cons _ (.cons_cons _ (.cons _ .slnil)))))
    exact ⟨_, _, (by omega), rfl, j + 1, _, rfl, (by omega), e0, e1, e4, e5, e6, e7, e9, e14, e45, e46, rfl, hH⟩
  · refine wp_cond_false (fr_eval rfl (e48.trans (congrArg Value.bool (decide_eq_false hc1)))) ?_
    refine wp_exit ?_
    refine then_exit ?_
    refine then_exit ?_
    refine blk_exit ?_
    refine then_n ?_
    refine wp_seq ?_
    rw [show puts [((i : Nat) : Int), ((l.length : Nat) : Int), (((pathT (List.map leafS l) i).length : Nat) : Int)] ++ sumsB (List.take j (pathT (List.map leafS l) i)) = puts [((i : Nat) : Int), ((l.length : Nat) : Int), (((pathT (List.map leafS l) i).length : Nat) : Int)] ++ sumsB (pathT (List.map leafS l) i) from (by rw [List.take_of_length_le (by omega)])] at hH
    refine wp_regionF ?_
    refine lf_val (v := .pointer (some ⟨g, 0, none⟩)) (wantAll rfl) (rv_move rfl (fr_eval rfl e0)) ?_
    refine lf_val (v := .pointer (some ⟨g, 0, none⟩)) (wantAll rfl) (rv_nilCheck rfl (fr_eval rfl rfl)) ?_
    refine lf_val (v := .pointer (some ⟨g, 0, none⟩)) (wantAll rfl) (rv_fieldAddr (n := 31) rfl (fr_eval rfl rfl) Try.underlying108 rfl rfl (by kernel_rfl)) ?_
    refine lf_val (v := .agg (cBs s.1).toArray) (wantAll rfl) (rv_loadP rfl (hH.blk (i := 0) rfl) (zMz_p4 s.2) (cBs_len s.2) (fr_eval rfl rfl) Try.underlying23 rfl Try.sz23) ?_
    refine lf_val (v := .int .i64 ((i : Nat) : Int)) (wantAll rfl) (rv_move rfl (fr_eval rfl e6)) ?_
    refine lf_call (wantAll rfl) (rv_call (args := [.agg (cBs s.1).toArray, .int .i64 ((i : Nat) : Int)]) rfl (evc (fr_eval rfl rfl) (evc (fr_eval rfl rfl) evn)) Try.call50) (seed_calls s i (by omega) _) ?_
    rintro _ w11 ⟨rfl, hx⟩
    refine ⟨_, rfl, ?_⟩
    replace hH := hH.ext hx
    clear hx
    refine lf_val (v := vt) (wantAll rfl) (rv_move rfl (fr_eval rfl e1)) ?_
    refine lf_call (wantAll rfl) (rv_call (args := [.agg (cBs ((seedS s i).1)).toArray, vt]) rfl (evc (fr_eval rfl rfl) (evc (fr_eval rfl rfl) evn)) Try.call44) (sign_calls ((seedS s i).1) ((seedS s i).2) t (by omega) _ _ (ht.rd _ hH.chg)) ?_
    rintro _ w12 ⟨⟨y5, rfl, ho, hg⟩, hx⟩
    refine ⟨_, rfl, ?_⟩
    replace hH : Heap _ _ _ [_, _, _, _, _] := hH.addOwn hx hg ho
    clear ho hg
    clear hx
    refine lf_call (wantAll rfl) (rv_call (args := [.pointer (some ⟨g1, 0, none⟩), y5]) rfl (evc (fr_eval rfl e9) (evc (fr_eval rfl rfl) evn)) Try.call43) (penText_calls (by omega) _ (OwnB.rd (hH.own (i := 4) rfl)) (fun k hk h0 e => apart_at hH.apart (i := 4) (j := 3) rfl rfl (by decide) k hk (Or.inl e)) (fun k hk h0 h => apart_at hH.apart (i := 4) (j := 3) rfl rfl (by decide) k hk (Or.inr h)) (hH.pen (i := 3) rfl) (by have q1 := puts_len [(i : Int), (l.length : Int), ((pathT (List.map leafS l) i).length : Int)]; have q2 := sumsB_len (pathT (List.map leafS l) i); have q3 := put_len (((sigs (seedS s i).1 (join 14 [t]) 64).length : Nat) : Int); simp only [List.length_append, List.length_cons, List.length_nil] at *; omega)) ?_
    rintro _ w13 ⟨rfl, hp⟩
    refine ⟨_, rfl, ?_⟩
    obtain ⟨y6, hH', hx, hxf, hgr⟩ := hH.penPost (i := 3) (l2 := puts [((i : Nat) : Int), ((l.length : Nat) : Int), (((pathT (List.map leafS l) i).length : Nat) : Int)] ++ sumsB (pathT (List.map leafS l) i) ++ put (((sigs ((seedS s i).1) (join 14 [t]) 64).length : Nat) : Int) ++ (sigs ((seedS s i).1) (join 14 [t]) 64)) rfl (fun _ => rfl) hp
    clear hH hp
    have hH : Heap _ _ _ [_, _, _, _, _] := hH'
    clear hH'
    clear hxf hgr hx
    refine lf_nil ?_
    refine then_n ?_
    refine wp_seq ?_
    replace hH : Heap _ _ _ [_, _, _, _] := hH.drop (.cons_cons _ (.cons_cons _ (.cons_cons _ (.cons_cons _ (.cons _ .slnil)))))
    refine wp_gen (fun F' => F' 0 = .pointer (some ⟨g, 0, none⟩) ∧ F' 1 = vt ∧ F' 4 = .slice none 0 0 ∧ F' 5 = .int .i64 0 ∧ F' 6 = .int .i64 ((i : Nat) : Int) ∧ F' 7 = y1 ∧ F' 9 = .pointer (some ⟨g1, 0, none⟩) ∧ F' 14 = .bool false ∧ F' 45 = y1 ∧ F' 46 = .int .i64 (((pathT (List.map leafS l) i).length : Nat) : Int) ∧ F' 47 = .int .i64 ((j : Nat) : Int) ∧ F' 48 = .bool false) ⟨e0, e1, e4, e5, e6, e7, e9, e14, e45, e46, e47, (e48.trans (congrArg Value.bool (decide_eq_false hc1)))⟩ ?_
    clear e0 e1 e4 e5 e6 e7 e9 e14 e45 e46 e47 e48
    clear F
    rintro F ⟨e0, e1, e4, e5, e6, e7, e9, e14, e45, e46, e47, e48⟩
    refine wp_regionF ?_
    refine lf_call (wantAll rfl) (rv_call (args := [.pointer (some ⟨g1, 0, none⟩)]) rfl (evc (fr_eval rfl e9) evn) Try.call46) (penBytes_calls _ (hH.pen (i := 3) rfl) (by have q1 := puts_len [(i : Int), (l.length : Int), ((pathT (List.map leafS l) i).length : Int)]; have q2 := sumsB_len (pathT (List.map leafS l) i); have q3 := put_len (((sigs (seedS s i).1 (join 14 [t]) 64).length : Nat) : Int); simp only [List.length_append, List.length_cons, List.length_nil] at *; omega)) ?_
    rintro _ w14 ⟨⟨y7, rfl, ho, hg⟩, hx⟩
    refine ⟨_, rfl, ?_⟩
    replace hH : Heap _ _ _ [_, _, _, _, _] := hH.addOwn hx hg ho
    clear ho hg
    clear hx
    refine lf_val (v := y7) (wantAll rfl) (rv_assign rfl (fr_eval rfl rfl)) ?_
    refine lf_val (v := .int .i64 0) (wantAll rfl) (rv_assign rfl rfl) ?_
    refine lf_nil ?_
    refine then_n ?_
    refine wp_gen (fun F' => F' 0 = .pointer (some ⟨g, 0, none⟩) ∧ F' 1 = vt ∧ F' 4 = y7 ∧ F' 5 = .int .i64 0 ∧ F' 6 = .int .i64 ((i : Nat) : Int) ∧ F' 7 = y1 ∧ F' 9 = .pointer (some ⟨g1, 0, none⟩) ∧ F' 14 = .bool false ∧ F' 45 = y1 ∧ F' 46 = .int .i64 (((pathT (List.map leafS l) i).length : Nat) : Int) ∧ F' 47 = .int .i64 ((j : Nat) : Int) ∧ F' 48 = .bool false) ⟨e0, e1, rfl, rfl, e6, e7, e9, e14, e45, e46, e47, e48⟩ ?_
    clear e0 e1 e4 e5 e6 e7 e9 e14 e45 e46 e47 e48
    clear F
    rintro F ⟨e0, e1, e4, e5, e6, e7, e9, e14, e45, e46, e47, e48⟩
    refine wp_ret ?_
    have hF := hH
    replace hF : Heap _ _ _ [_, _, _] := hF.drop (.cons_cons _ (.cons_cons _ (.cons _ (.cons _ (.cons_cons _ .slnil)))))
    exact bodyPost_ret (v := .tuple #[y7, .int .i64 0]) (res2 rfl (ro_tmp rfl e4) (ro_tmp rfl e5)) rfl (⟨_, rfl, hF⟩)

theorem take_nextS {p : List S32} {j : Nat} (h : j < p.length) : List.take j p ++ [List.getD p j zS] = List.take (j + 1) p := by
  rw [List.take_succ_eq_append_getElem h]; simp [List.getD_eq_getElem?_getD, h]

set_option maxRecDepth 100000 in
set_option maxHeartbeats 4000000 in
theorem read_calls (a n : Nat) (p : List S32) (one : List UInt8) (ha : a ≤ 64) (hn : n ≤ 64) (hp : p.length ≤ 8) (ho : one.length = 4096) (v : Value) (w : World) (hr0 : RdB w v (sigM a n p one)) :
    Calls Try.prog 72 #[v] w fun e'' w' => ∃ vp vo, e'' = .returned (.tuple #[.int .i64 ((a : Nat) : Int), .int .i64 ((n : Nat) : Int), vp, vo, .int .i64 0]) ∧ Heap (newN w) w w' [oRow cS 23 32 vp p, oB vo one] := by
  refine calls_fr (args := [v]) (n := 35) Try.func72 rfl rfl (show 1 ≤ 35 by decide) ?_
  have hsl := sigM_len a n p one
  have hr := Rd.stab hr0
  have hH : Heap (newN w) w w [] := Heap.fresh
  refine wp_seq ?_
  refine wp_gen (fun F' => F' 0 = v) rfl ?_
  rintro F e0
  refine wp_regionF ?_
  refine lf_val (v := .int .i64 0) (wantAll rfl) (rv_assign rfl rfl) ?_
  refine lf_val (v := .int .i64 0) (wantAll rfl) (rv_assign rfl rfl) ?_
  refine lf_val (v := .slice none 0 0) (wantAll rfl) (rv_assign rfl rfl) ?_
  refine lf_val (v := .slice none 0 0) (wantAll rfl) (rv_assign rfl rfl) ?_
  refine lf_val (v := .int .i64 0) (wantAll rfl) (rv_assign rfl rfl) ?_
  refine lf_nil ?_
  refine then_n ?_
  refine wp_seq ?_
  refine wp_gen (fun F' => F' 0 = v ∧ F' 2 = .int .i64 0 ∧ F' 3 = .int .i64 0 ∧ F' 4 = .slice none 0 0 ∧ F' 5 = .slice none 0 0 ∧ F' 6 = .int .i64 0) ⟨e0, rfl, rfl, rfl, rfl, rfl⟩ ?_
  clear e0
  clear F
  rintro F ⟨e0, e2, e3, e4, e5, e6⟩
  refine wp_regionF ?_
  refine lf_val (v := v) (wantAll rfl) (rv_move rfl (fr_eval rfl e0)) ?_
  refine lf_call (wantAll rfl) (rv_call (args := [v]) rfl (evc (fr_eval rfl rfl) evn) Try.call83) (look_calls (show List.length (sigM a n p one) ≤ 100000000 from (by omega)) _ (hr.rd _ hH.chg)) ?_
  rintro _ w1 ⟨⟨g1, z1, rfl, hy, hge, hst⟩, hx⟩
  refine ⟨_, rfl, ?_⟩
  have hv_g1 : ∀ k, z1.ownBlock = some k → ¬ (newN w) k := fun k hk => hr.out _ (hst k hk).2.2 (by have := (hst k hk).2.1; simpa using this)
  replace hH : Heap _ _ _ [_] := hH.addEye hx hge hv_g1 hy
  clear hst hge hy
  clear hx
  refine lf_val (v := .pointer (some ⟨g1, 0, none⟩)) (wantAll rfl) (rv_assign rfl (fr_eval rfl rfl)) ?_
  refine lf_nil ?_
  refine then_n ?_
  refine wp_seq ?_
  refine wp_gen (fun F' => F' 0 = v ∧ F' 2 = .int .i64 0 ∧ F' 3 = .int .i64 0 ∧ F' 4 = .slice none 0 0 ∧ F' 5 = .slice none 0 0 ∧ F' 6 = .int .i64 0 ∧ F' 7 = .pointer (some ⟨g1, 0, none⟩)) ⟨e0, e2, e3, e4, e5, e6, rfl⟩ ?_
  clear e0 e2 e3 e4 e5 e6
  clear F
  rintro F ⟨e0, e2, e3, e4, e5, e6, e7⟩
  rw [sigM_split] at hH
  refine wp_regionF ?_
  refine lf_val (v := .pointer (some ⟨g1, 0, none⟩)) (wantAll rfl) (rv_move rfl (fr_eval rfl e7)) ?_
  refine lf_call (wantAll rfl) (rv_call (args := [.pointer (some ⟨g1, 0, none⟩), .int .i64 64]) rfl (evc (fr_eval rfl rfl) (evc rfl evn)) Try.call84) (uptoP_calls ((a : Nat) : Int) 64 (by omega) (by omega) (by omega) _ (hH.eye (i := 0) rfl) (eye_ne hH (i := 0) rfl hv_g1)) ?_
  rintro _ w2 ⟨rfl, hy, hxf⟩
  refine ⟨_, rfl, ?_⟩
  replace hH : Heap _ _ _ [_] := hH.setEye (i := 0) rfl rfl hv_g1 hy hxf
  clear hy
  clear hxf
  refine lf_val (v := .pointer (some ⟨g1, 0, none⟩)) (wantAll rfl) (rv_move rfl (fr_eval rfl e7)) ?_
  refine lf_call (wantAll rfl) (rv_call (args := [.pointer (some ⟨g1, 0, none⟩), .int .i64 64]) rfl (evc (fr_eval rfl rfl) (evc rfl evn)) Try.call84) (uptoP_calls ((n : Nat) : Int) 64 (by omega) (by omega) (by omega) _ (hH.eye (i := 0) rfl) (eye_ne hH (i := 0) rfl hv_g1)) ?_
  rintro _ w3 ⟨rfl, hy, hxf⟩
  refine ⟨_, rfl, ?_⟩
  replace hH : Heap _ _ _ [_] := hH.setEye (i := 0) rfl rfl hv_g1 hy hxf
  clear hy
  clear hxf
  refine lf_val (v := .int .i64 ((a : Nat) : Int)) (wantAll rfl) (rv_assign rfl (fr_eval rfl rfl)) ?_
  refine lf_val (v := .int .i64 ((n : Nat) : Int)) (wantAll rfl) (rv_assign rfl (fr_eval rfl rfl)) ?_
  refine lf_nil ?_
  refine then_n ?_
  refine wp_seq ?_
  refine wp_seq ?_
  refine wp_gen (fun F' => F' 0 = v ∧ F' 2 = .int .i64 ((a : Nat) : Int) ∧ F' 3 = .int .i64 ((n : Nat) : Int) ∧ F' 4 = .slice none 0 0 ∧ F' 5 = .slice none 0 0 ∧ F' 6 = .int .i64 0 ∧ F' 7 = .pointer (some ⟨g1, 0, none⟩)) ⟨e0, rfl, rfl, e4, e5, e6, e7⟩ ?_
  clear e0 e2 e3 e4 e5 e6 e7
  clear F
  rintro F ⟨e0, e2, e3, e4, e5, e6, e7⟩
  refine wp_regionF ?_
  refine lf_val (v := .pointer (some ⟨g1, 0, none⟩)) (wantAll rfl) (rv_move rfl (fr_eval rfl e7)) ?_
  refine lf_call (wantAll rfl) (rv_call (args := [.pointer (some ⟨g1, 0, none⟩), .int .i64 8]) rfl (evc (fr_eval rfl rfl) (evc rfl evn)) Try.call84) (uptoP_calls ((p.length : Nat) : Int) 8 (by omega) (by omega) (by omega) _ (hH.eye (i := 0) rfl) (eye_ne hH (i := 0) rfl hv_g1)) ?_
  rintro _ w4 ⟨rfl, hy, hxf⟩
  refine ⟨_, rfl, ?_⟩
  replace hH : Heap _ _ _ [_] := hH.setEye (i := 0) rfl rfl hv_g1 hy hxf
  clear hy
  clear hxf
  refine lf_val (v := .int .i64 0) (wantAll rfl) (rv_move rfl rfl) ?_
  refine lf_nil ?_
  refine then_n ?_
  refine wp_block ?_
  replace hH : Heap _ _ _ [_, _] := hH.addNil 23 32
  replace hH : Heap (newN w) w w4 [oEye g1 z1 (sumsB (List.drop 0 p) ++ (put ((one.length : Nat) : Int) ++ (one ++ []))) 0, oRow cS 23 32 (.slice none 0 0) (List.take 0 p)] := hH
  refine wp_gen (fun F' => F' 0 = v ∧ F' 2 = .int .i64 ((a : Nat) : Int) ∧ F' 3 = .int .i64 ((n : Nat) : Int) ∧ F' 4 = (.slice none 0 0) ∧ F' 5 = .slice none 0 0 ∧ F' 6 = .int .i64 0 ∧ F' 7 = .pointer (some ⟨g1, 0, none⟩) ∧ F' 15 = .int .i64 ((p.length : Nat) : Int) ∧ F' 16 = .int .i64 0) ⟨e0, e2, e3, e4, e5, e6, e7, rfl, rfl⟩ ?_
  clear e0 e2 e3 e4 e5 e6 e7
  clear F
  rintro F ⟨e0, e2, e3, e4, e5, e6, e7, e15, e16⟩
  refine wp_loopF (fun m F wr => ∃ j : Nat, ∃ yo : Value, m = p.length - j ∧ j ≤ p.length ∧ F 0 = v ∧ F 2 = .int .i64 ((a : Nat) : Int) ∧ F 3 = .int .i64 ((n : Nat) : Int) ∧ F 4 = yo ∧ F 5 = .slice none 0 0 ∧ F 6 = .int .i64 0 ∧ F 7 = .pointer (some ⟨g1, 0, none⟩) ∧ F 15 = .int .i64 ((p.length : Nat) : Int) ∧ F 16 = .int .i64 ((j : Nat) : Int) ∧ Heap (newN w) w wr [oEye g1 z1 (sumsB (List.drop j p) ++ (put ((one.length : Nat) : Int) ++ (one ++ []))) 0, oRow cS 23 32 yo (List.take j p)]) ⟨0, _, rfl, Nat.zero_le _, e0, e2, e3, e4, e5, e6, e7, e15, e16, hH⟩ ?_
  clear e0 e2 e3 e4 e5 e6 e7 e15 e16 hH
  clear F
  rintro m F w5 ⟨j, yo, rfl, pj0, e0, e2, e3, e4, e5, e6, e7, e15, e16, hH⟩
  refine wp_seq ?_
  refine wp_regionF ?_
  refine lf_val (v := .bool (decide (j < p.length))) (wantAll rfl) (rv_lssP (p := j < p.length) rfl (fr_eval rfl e16) (fr_eval rfl e15) (by omega)) ?_
  refine lf_nil ?_
  refine then_n ?_
  refine wp_seq ?_
  refine wp_gen (fun F' => F' 0 = v ∧ F' 2 = .int .i64 ((a : Nat) : Int) ∧ F' 3 = .int .i64 ((n : Nat) : Int) ∧ F' 4 = yo ∧ F' 5 = .slice none 0 0 ∧ F' 6 = .int .i64 0 ∧ F' 7 = .pointer (some ⟨g1, 0, none⟩) ∧ F' 15 = .int .i64 ((p.length : Nat) : Int) ∧ F' 16 = .int .i64 ((j : Nat) : Int) ∧ F' 17 = .bool (decide (j < p.length))) ⟨e0, e2, e3, e4, e5, e6, e7, e15, e16, rfl⟩ ?_
  clear e0 e2 e3 e4 e5 e6 e7 e15 e16
  clear F
  rintro F ⟨e0, e2, e3, e4, e5, e6, e7, e15, e16, e17⟩
  by_cases hc1 : j < p.length
  · refine wp_cond_true (fr_eval rfl (e17.trans (congrArg Value.bool (decide_eq_true hc1)))) ?_
    refine wp_skip ?_
    refine then_n ?_
    refine wp_seq ?_
    refine wp_block ?_
    refine wp_regionF ?_
    refine lf_val (v := yo) (wantAll rfl) (rv_move rfl (fr_eval rfl e4)) ?_
    refine lf_val (v := .pointer (some ⟨g1, 0, none⟩)) (wantAll rfl) (rv_move rfl (fr_eval rfl e7)) ?_
    rw [sumsB_drop (by omega : j < p.length), List.append_assoc (List.getD p j zS).1] at hH
    refine lf_call (wantAll rfl) (rv_call (args := [.pointer (some ⟨g1, 0, none⟩)]) rfl (evc (fr_eval rfl rfl) evn) Try.call85) (sumP_calls (List.getD p j zS) _ (hH.eye (i := 0) rfl) (eye_ne hH (i := 0) rfl hv_g1) (eye_lt hH.up hH.size hv_g1)) ?_
    rintro _ w6 ⟨rfl, hy, hxf⟩
    refine ⟨_, rfl, ?_⟩
    replace hH : Heap _ _ _ [_, _] := hH.setEye (i := 0) rfl rfl hv_g1 hy hxf
    clear hy
    clear hxf
    refine lf_ex (wantAll rfl) (hx_lit1 hH Try.stSum (cs := cS (List.getD p j zS)) (xs := List.flatMap cS [(List.getD p j zS)]) rfl (fr_eval rfl rfl) (cS_ln (List.getD p j zS)) (by decide) (List.flatMap_singleton ..).symm) ?_
    clear hH
    rintro y1 w7 ⟨hH, hx⟩
    replace hH : Heap _ _ _ [_, _, _] := hH
    clear hx
    refine lf_ex (wantAll rfl) (hx_append hH Try.stSum (i := 1) (xs' := ((List.take j p) ++ [(List.getD p j zS)]).flatMap cS) (nm := ((List.take j p) ++ [(List.getD p j zS)]).length) rfl rfl (fun _ => rfl) List.length_append.symm List.flatMap_append.symm (Own.rd (hH.own (i := 2) rfl) (row_one cS_one)) (fr_eval rfl rfl) (fr_eval rfl rfl) (by simp only [List.length_append, List.length_cons, List.length_nil, List.length_take]; omega)) ?_
    clear hH
    rintro y2 w8 ⟨hH, hx⟩
    replace hH : Heap _ _ _ [_, _, _] := hH
    rw [show (List.take j p) ++ [(List.getD p j zS)] = List.take (j + 1) p from take_nextS (by omega)] at hH
    clear hx
    refine lf_val (v := y2) (wantAll rfl) (rv_assign rfl (fr_eval rfl rfl)) ?_
    refine lf_nil ?_
    refine blk_n ?_
    refine then_n ?_
    replace hH : Heap _ _ _ [_, _] := hH.drop (.cons_cons _ (.cons_cons _ (.cons _ .slnil)))
    refine wp_gen (fun F' => F' 0 = v ∧ F' 2 = .int .i64 ((a : Nat) : Int) ∧ F' 3 = .int .i64 ((n : Nat) : Int) ∧ F' 4 = y2 ∧ F' 5 = .slice none 0 0 ∧ F' 6 = .int .i64 0 ∧ F' 7 = .pointer (some ⟨g1, 0, none⟩) ∧ F' 15 = .int .i64 ((p.length : Nat) : Int) ∧ F' 16 = .int .i64 ((j : Nat) : Int) ∧ F' 17 = .bool true) ⟨e0, e2, e3, rfl, e5, e6, e7, e15, e16, (e17.trans (congrArg Value.bool (decide_eq_true hc1)))⟩ ?_
    clear e0 e2 e3 e4 e5 e6 e7 e15 e16 e17
    clear F
    rintro F ⟨e0, e2, e3, e4, e5, e6, e7, e15, e16, e17⟩
    refine wp_regionF ?_
    refine lf_val (v := .int .i64 ((j + 1 : Nat) : Int)) (wantAll rfl) (rv_add rfl (fr_eval rfl e16) rfl (wrap_i64 (by omega) (by omega) (by omega))) ?_
    refine lf_val (v := .int .i64 ((j + 1 : Nat) : Int)) (wantAll rfl) (rv_move rfl (fr_eval rfl rfl)) ?_
    refine lf_nil ?_
    refine then_n ?_
    exact ⟨_, _, (by omega), rfl, j + 1, _, rfl, (by omega), e0, e2, e3, e4, e5, e6, e7, e15, rfl, hH⟩
  · refine wp_cond_false (fr_eval rfl (e17.trans (congrArg Value.bool (decide_eq_false hc1)))) ?_
    refine wp_exit ?_
    refine then_exit ?_
    refine then_exit ?_
    refine blk_exit ?_
    refine then_n ?_
    refine wp_seq ?_
    rw [show sumsB (List.drop j p) = [] from by rw [List.drop_eq_nil_of_le (by omega)]; rfl, List.nil_append] at hH
    rw [show List.take j p = p from List.take_of_length_le (by omega)] at hH
    refine wp_regionF ?_
    refine lf_val (v := .pointer (some ⟨g1, 0, none⟩)) (wantAll rfl) (rv_move rfl (fr_eval rfl e7)) ?_
    refine lf_call (wantAll rfl) (rv_call (args := [.pointer (some ⟨g1, 0, none⟩), .int .i64 4096]) rfl (evc (fr_eval rfl rfl) (evc rfl evn)) Try.call86) (textP_calls one 4096 (by omega) (by omega) _ (hH.eye (i := 0) rfl) (eye_ne hH (i := 0) rfl hv_g1)) ?_
    rintro _ w9 ⟨⟨y3, rfl, ho, hg⟩, hy, hxf⟩
    refine ⟨_, rfl, ?_⟩
    replace hH : Heap _ _ _ [_, _, _] := hH.setEyeRow (i := 0) rfl rfl hv_g1 hy hxf ho hg
    clear hy ho hg
    clear hxf
    refine lf_val (v := y3) (wantAll rfl) (rv_assign rfl (fr_eval rfl rfl)) ?_
    refine lf_nil ?_
    refine then_n ?_
    refine wp_seq ?_
    refine wp_seq ?_
    refine wp_gen (fun F' => F' 0 = v ∧ F' 2 = .int .i64 ((a : Nat) : Int) ∧ F' 3 = .int .i64 ((n : Nat) : Int) ∧ F' 4 = yo ∧ F' 5 = y3 ∧ F' 6 = .int .i64 0 ∧ F' 7 = .pointer (some ⟨g1, 0, none⟩) ∧ F' 15 = .int .i64 ((p.length : Nat) : Int) ∧ F' 16 = .int .i64 ((j : Nat) : Int) ∧ F' 17 = .bool false) ⟨e0, e2, e3, e4, rfl, e6, e7, e15, e16, (e17.trans (congrArg Value.bool (decide_eq_false hc1)))⟩ ?_
    clear e0 e2 e3 e4 e5 e6 e7 e15 e16 e17
    clear F
    rintro F ⟨e0, e2, e3, e4, e5, e6, e7, e15, e16, e17⟩
    refine wp_regionF ?_
    refine lf_val (v := .pointer (some ⟨g1, 0, none⟩)) (wantAll rfl) (rv_move rfl (fr_eval rfl e7)) ?_
    refine lf_call (wantAll rfl) (rv_call (args := [.pointer (some ⟨g1, 0, none⟩)]) rfl (evc (fr_eval rfl rfl) evn) Try.call87) (doneP_calls  _ (hH.eye (i := 0) rfl) (eye_ne hH (i := 0) rfl hv_g1)) ?_
    rintro _ w10 ⟨rfl, hy, hxf⟩
    refine ⟨_, rfl, ?_⟩
    replace hH : Heap _ _ _ [_, _, _] := hH.setEye (i := 0) rfl rfl hv_g1 hy hxf
    clear hy
    clear hxf
    refine lf_val (v := .int .i64 0) (wantAll rfl) (rv_assign rfl (fr_eval rfl rfl)) ?_
    refine lf_nil ?_
    refine then_n ?_
    refine wp_seq ?_
    refine wp_gen (fun F' => F' 0 = v ∧ F' 2 = .int .i64 ((a : Nat) : Int) ∧ F' 3 = .int .i64 ((n : Nat) : Int) ∧ F' 4 = yo ∧ F' 5 = y3 ∧ F' 6 = .int .i64 0 ∧ F' 7 = .pointer (some ⟨g1, 0, none⟩) ∧ F' 15 = .int .i64 ((p.length : Nat) : Int) ∧ F' 16 = .int .i64 ((j : Nat) : Int) ∧ F' 17 = .bool false) ⟨e0, e2, e3, e4, e5, rfl, e7, e15, e16, e17⟩ ?_
    clear e0 e2 e3 e4 e5 e6 e7 e15 e16 e17
    clear F
    rintro F ⟨e0, e2, e3, e4, e5, e6, e7, e15, e16, e17⟩
    refine wp_regionF ?_
    refine lf_val (v := .int .i64 0) (wantAll rfl) (rv_move rfl (fr_eval rfl e6)) ?_
    refine lf_val (v := .bool false) (wantAll rfl) (rv_neq rfl (fr_eval rfl rfl) rfl (show decide ((0 : Int) = 0) = true from by decide)) ?_
    refine lf_nil ?_
    refine then_n ?_
    refine wp_gen (fun F' => F' 0 = v ∧ F' 2 = .int .i64 ((a : Nat) : Int) ∧ F' 3 = .int .i64 ((n : Nat) : Int) ∧ F' 4 = yo ∧ F' 5 = y3 ∧ F' 6 = .int .i64 0 ∧ F' 7 = .pointer (some ⟨g1, 0, none⟩) ∧ F' 15 = .int .i64 ((p.length : Nat) : Int) ∧ F' 16 = .int .i64 ((j : Nat) : Int) ∧ F' 17 = .bool false ∧ F' 29 = .bool false) ⟨e0, e2, e3, e4, e5, e6, e7, e15, e16, e17, rfl⟩ ?_
    clear e0 e2 e3 e4 e5 e6 e7 e15 e16 e17
    clear F
    rintro F ⟨e0, e2, e3, e4, e5, e6, e7, e15, e16, e17, e29⟩
    refine wp_cond_false (fr_eval rfl e29) ?_
    refine wp_skip ?_
    refine then_n ?_
    refine wp_seq ?_
    refine wp_regionF ?_
    refine lf_val (v := .int .i64 ((a : Nat) : Int)) (wantAll rfl) (rv_move rfl (fr_eval rfl e2)) ?_
    refine lf_val (v := .int .i64 ((n : Nat) : Int)) (wantAll rfl) (rv_move rfl (fr_eval rfl e3)) ?_
    refine lf_val (v := yo) (wantAll rfl) (rv_move rfl (fr_eval rfl e4)) ?_
    refine lf_val (v := y3) (wantAll rfl) (rv_move rfl (fr_eval rfl e5)) ?_
    refine lf_val (v := .int .i64 ((a : Nat) : Int)) (wantAll rfl) (rv_assign rfl (fr_eval rfl rfl)) ?_
    refine lf_val (v := .int .i64 ((n : Nat) : Int)) (wantAll rfl) (rv_assign rfl (fr_eval rfl rfl)) ?_
    refine lf_val (v := yo) (wantAll rfl) (rv_assign rfl (fr_eval rfl rfl)) ?_
    refine lf_val (v := y3) (wantAll rfl) (rv_assign rfl (fr_eval rfl rfl)) ?_
    refine lf_val (v := .int .i64 0) (wantAll rfl) (rv_assign rfl rfl) ?_
    refine lf_nil ?_
    refine then_n ?_
    refine wp_gen (fun F' => F' 0 = v ∧ F' 2 = .int .i64 ((a : Nat) : Int) ∧ F' 3 = .int .i64 ((n : Nat) : Int) ∧ F' 4 = yo ∧ F' 5 = y3 ∧ F' 6 = .int .i64 0 ∧ F' 7 = .pointer (some ⟨g1, 0, none⟩) ∧ F' 15 = .int .i64 ((p.length : Nat) : Int) ∧ F' 16 = .int .i64 ((j : Nat) : Int) ∧ F' 17 = .bool false ∧ F' 29 = .bool false) ⟨e0, rfl, rfl, rfl, rfl, rfl, e7, e15, e16, e17, e29⟩ ?_
    clear e0 e2 e3 e4 e5 e6 e7 e15 e16 e17 e29
    clear F
    rintro F ⟨e0, e2, e3, e4, e5, e6, e7, e15, e16, e17, e29⟩
    refine wp_ret ?_
    have hF := hH
    replace hF : Heap _ _ _ [_, _] := hF.drop (.cons _ (.cons_cons _ (.cons_cons _ .slnil)))
    exact bodyPost_ret (res5 rfl (ro_tmp rfl e2) (ro_tmp rfl e3) (ro_tmp rfl e4) (ro_tmp rfl e5) (ro_tmp rfl e6)) rfl (⟨_, _, rfl, hF⟩)

set_option maxRecDepth 100000 in
set_option maxHeartbeats 4000000 in
theorem leafM_calls (a n : Nat) (p : List S32) (one : List UInt8) (ha : a ≤ 64) (hn : n ≤ 64) (hp : p.length ≤ 8) (ho : one.length = 4096) (v : Value) (w : World) (hr0 : RdB w v (sigM a n p one)) :
    Calls Try.prog 47 #[v] w fun e'' w' => e'' = .returned (.int .i64 ((a : Nat) : Int)) ∧ Ext w w' := by
  refine calls_fr (args := [v]) (n := 19) Try.func47 rfl rfl (show 1 ≤ 19 by decide) ?_
  have hr := Rd.stab hr0
  have hH : Heap (newN w) w w [] := Heap.fresh
  refine wp_seq ?_
  refine wp_gen (fun F' => F' 0 = v) rfl ?_
  rintro F e0
  refine wp_regionF ?_
  refine lf_val (v := .int .i64 0) (wantAll rfl) (rv_assign rfl rfl) ?_
  refine lf_nil ?_
  refine then_n ?_
  refine wp_seq ?_
  refine wp_gen (fun F' => F' 0 = v ∧ F' 2 = .int .i64 0) ⟨e0, rfl⟩ ?_
  clear e0
  clear F
  rintro F ⟨e0, e2⟩
  refine wp_regionF ?_
  refine lf_val (v := v) (wantAll rfl) (rv_move rfl (fr_eval rfl e0)) ?_
  refine lf_call (wantAll rfl) (rv_call (args := [v]) rfl (evc (fr_eval rfl rfl) evn) Try.call72) (read_calls a n p one (by omega) (by omega) (by omega) (by omega) _ _ (hr.rd _ hH.chg)) ?_
  rintro _ w1 ⟨y1, y2, rfl, hP⟩
  refine ⟨_, rfl, ?_⟩
  have hx := hP.done
  replace hH : Heap _ _ _ [_, _] := hH.joinN hP (Stays.own (hP.own (i := 0) rfl) (Stays.own (hP.own (i := 1) rfl) Stays.nil))
  clear hP
  clear hx
  refine lf_val (v := .tuple #[.int .i64 ((a : Nat) : Int), .int .i64 ((n : Nat) : Int), y1, y2, .int .i64 0]) (wantAll rfl) (rv_move rfl (fr_eval rfl rfl)) ?_
  refine lf_val (v := .int .i64 ((a : Nat) : Int)) (wantAll rfl) (rv_extract rfl (fr_eval rfl rfl) rfl) ?_
  refine lf_val (v := .int .i64 ((n : Nat) : Int)) (wantAll rfl) (rv_extract rfl (fr_eval rfl rfl) rfl) ?_
  refine lf_val (v := y1) (wantAll rfl) (rv_extract rfl (fr_eval rfl rfl) rfl) ?_
  refine lf_val (v := y2) (wantAll rfl) (rv_extract rfl (fr_eval rfl rfl) rfl) ?_
  refine lf_val (v := .int .i64 0) (wantAll rfl) (rv_extract rfl (fr_eval rfl rfl) rfl) ?_
  refine lf_val (v := .int .i64 ((a : Nat) : Int)) (wantAll rfl) (rv_assign rfl (fr_eval rfl rfl)) ?_
  refine lf_val (v := .int .i64 ((n : Nat) : Int)) (wantAll rfl) (rv_assign rfl (fr_eval rfl rfl)) ?_
  refine lf_val (v := y1) (wantAll rfl) (rv_assign rfl (fr_eval rfl rfl)) ?_
  refine lf_val (v := y2) (wantAll rfl) (rv_assign rfl (fr_eval rfl rfl)) ?_
  refine lf_val (v := .int .i64 0) (wantAll rfl) (rv_assign rfl (fr_eval rfl rfl)) ?_
  refine lf_nil ?_
  refine then_n ?_
  refine wp_seq ?_
  refine wp_seq ?_
  replace hH : Heap _ _ _ [] := hH.drop (.cons _ (.cons _ .slnil))
  refine wp_gen (fun F' => F' 0 = v ∧ F' 2 = .int .i64 0 ∧ F' 3 = .int .i64 ((a : Nat) : Int) ∧ F' 7 = .int .i64 0) ⟨e0, e2, rfl, rfl⟩ ?_
  clear e0 e2
  clear F
  rintro F ⟨e0, e2, e3, e7⟩
  refine wp_regionF ?_
  refine lf_val (v := .int .i64 0) (wantAll rfl) (rv_move rfl (fr_eval rfl e7)) ?_
  refine lf_val (v := .bool false) (wantAll rfl) (rv_neq rfl (fr_eval rfl rfl) rfl (show decide ((0 : Int) = 0) = true from by decide)) ?_
  refine lf_nil ?_
  refine then_n ?_
  refine wp_gen (fun F' => F' 0 = v ∧ F' 2 = .int .i64 0 ∧ F' 3 = .int .i64 ((a : Nat) : Int) ∧ F' 7 = .int .i64 0 ∧ F' 17 = .bool false) ⟨e0, e2, e3, e7, rfl⟩ ?_
  clear e0 e2 e3 e7
  clear F
  rintro F ⟨e0, e2, e3, e7, e17⟩
  refine wp_cond_false (fr_eval rfl e17) ?_
  refine wp_skip ?_
  refine then_n ?_
  refine wp_seq ?_
  refine wp_regionF ?_
  refine lf_val (v := .int .i64 ((a : Nat) : Int)) (wantAll rfl) (rv_move rfl (fr_eval rfl e3)) ?_
  refine lf_val (v := .int .i64 ((a : Nat) : Int)) (wantAll rfl) (rv_assign rfl (fr_eval rfl rfl)) ?_
  refine lf_nil ?_
  refine then_n ?_
  refine wp_gen (fun F' => F' 0 = v ∧ F' 2 = .int .i64 ((a : Nat) : Int) ∧ F' 3 = .int .i64 ((a : Nat) : Int) ∧ F' 7 = .int .i64 0 ∧ F' 17 = .bool false) ⟨e0, rfl, e3, e7, e17⟩ ?_
  clear e0 e2 e3 e7 e17
  clear F
  rintro F ⟨e0, e2, e3, e7, e17⟩
  refine wp_ret ?_
  exact bodyPost_ret (v := (.int .i64 ((a : Nat) : Int))) (res1 rfl (ro_tmp rfl e2)) rfl (⟨rfl, hH.done⟩)

set_option maxRecDepth 100000 in
set_option maxHeartbeats 4000000 in
theorem verify5_calls (a n : Nat) (p : List S32) (one : List UInt8) (ha : a ≤ 64) (hn : n ≤ 64) (hp : p.length ≤ 8) (ho : one.length = 4096) (root : S32) (t : List UInt8) (hts : t.length ≤ 1000000) (vt v : Value) (w : World) (ht0 : RdB w vt t) (hr0 : RdB w v (sigM a n p one)) :
    Calls Try.prog 48 #[.agg (cBs root.1).toArray, vt, v] w fun e'' w' => e'' = .returned (.bool (verM root t a n p one)) ∧ Ext w w' := by
  refine calls_fr (args := [.agg (cBs root.1).toArray, vt, v]) (n := 39) Try.func48 rfl rfl (show 3 ≤ 39 by decide) ?_
  have hbe : backE one = 0 := by unfold backE; rw [if_pos ho]
  have ht := Rd.stab ht0
  have hr := Rd.stab hr0
  have hH : Heap (newN w) w w [] := Heap.fresh
  refine wp_seq ?_
  refine wp_gen (fun F' => F' 0 = .agg (cBs root.1).toArray ∧ F' 1 = vt ∧ F' 2 = v) ⟨rfl, rfl, rfl⟩ ?_
  rintro F ⟨e0, e1, e2⟩
  refine wp_regionF ?_
  refine lf_ex (wantAll rfl) (hx_box hH 23 (cs := cBs root.1) rfl (fr_eval rfl e0) (by rfl)) ?_
  clear hH
  rintro _ w1 ⟨g1, rfl, hH, hx⟩
  replace hH : Heap _ _ _ [_] := hH
  clear hx
  refine lf_val (v := .bool false) (wantAll rfl) (rv_assign rfl rfl) ?_
  refine lf_nil ?_
  refine then_n ?_
  refine wp_seq ?_
  refine wp_gen (fun F' => F' 0 = .agg (cBs root.1).toArray ∧ F' 1 = vt ∧ F' 2 = v ∧ F' 3 = .pointer (some ⟨g1, 0, none⟩) ∧ F' 6 = .bool false) ⟨e0, e1, e2, rfl, rfl⟩ ?_
  clear e0 e1 e2
  clear F
  rintro F ⟨e0, e1, e2, e3, e6⟩
  refine wp_regionF ?_
  refine lf_val (v := v) (wantAll rfl) (rv_move rfl (fr_eval rfl e2)) ?_
  refine lf_call (wantAll rfl) (rv_call (args := [v]) rfl (evc (fr_eval rfl rfl) evn) Try.call72) (read_calls a n p one (by omega) (by omega) (by omega) (by omega) _ _ (hr.rd _ hH.chg)) ?_
  rintro _ w2 ⟨y1, y2, rfl, hP⟩
  refine ⟨_, rfl, ?_⟩
  have hx := hP.done
  replace hH : Heap _ _ _ [_, _, _] := hH.joinN hP (Stays.own (hP.own (i := 0) rfl) (Stays.own (hP.own (i := 1) rfl) Stays.nil))
  clear hP
  clear hx
  refine lf_val (v := .tuple #[.int .i64 ((a : Nat) : Int), .int .i64 ((n : Nat) : Int), y1, y2, .int .i64 0]) (wantAll rfl) (rv_move rfl (fr_eval rfl rfl)) ?_
  refine lf_val (v := .int .i64 ((a : Nat) : Int)) (wantAll rfl) (rv_extract rfl (fr_eval rfl rfl) rfl) ?_
  refine lf_val (v := .int .i64 ((n : Nat) : Int)) (wantAll rfl) (rv_extract rfl (fr_eval rfl rfl) rfl) ?_
  refine lf_val (v := y1) (wantAll rfl) (rv_extract rfl (fr_eval rfl rfl) rfl) ?_
  refine lf_val (v := y2) (wantAll rfl) (rv_extract rfl (fr_eval rfl rfl) rfl) ?_
  refine lf_val (v := .int .i64 0) (wantAll rfl) (rv_extract rfl (fr_eval rfl rfl) rfl) ?_
  refine lf_val (v := .int .i64 ((a : Nat) : Int)) (wantAll rfl) (rv_assign rfl (fr_eval rfl rfl)) ?_
  refine lf_val (v := .int .i64 ((n : Nat) : Int)) (wantAll rfl) (rv_assign rfl (fr_eval rfl rfl)) ?_
  refine lf_val (v := y1) (wantAll rfl) (rv_assign rfl (fr_eval rfl rfl)) ?_
  refine lf_val (v := y2) (wantAll rfl) (rv_assign rfl (fr_eval rfl rfl)) ?_
  refine lf_val (v := .int .i64 0) (wantAll rfl) (rv_assign rfl (fr_eval rfl rfl)) ?_
  refine lf_nil ?_
  refine then_n ?_
  refine wp_seq ?_
  refine wp_seq ?_
  refine wp_gen (fun F' => F' 0 = .agg (cBs root.1).toArray ∧ F' 1 = vt ∧ F' 2 = v ∧ F' 3 = .pointer (some ⟨g1, 0, none⟩) ∧ F' 6 = .bool false ∧ F' 7 = .int .i64 ((a : Nat) : Int) ∧ F' 8 = .int .i64 ((n : Nat) : Int) ∧ F' 9 = y1 ∧ F' 10 = y2 ∧ F' 11 = .int .i64 0) ⟨e0, e1, e2, e3, e6, rfl, rfl, rfl, rfl, rfl⟩ ?_
  clear e0 e1 e2 e3 e6
  clear F
  rintro F ⟨e0, e1, e2, e3, e6, e7, e8, e9, e10, e11⟩
  refine wp_regionF ?_
  refine lf_val (v := .int .i64 0) (wantAll rfl) (rv_move rfl (fr_eval rfl e11)) ?_
  refine lf_val (v := .bool false) (wantAll rfl) (rv_neq rfl (fr_eval rfl rfl) rfl (show decide ((0 : Int) = 0) = true from by decide)) ?_
  refine lf_nil ?_
  refine then_n ?_
  refine wp_gen (fun F' => F' 0 = .agg (cBs root.1).toArray ∧ F' 1 = vt ∧ F' 2 = v ∧ F' 3 = .pointer (some ⟨g1, 0, none⟩) ∧ F' 6 = .bool false ∧ F' 7 = .int .i64 ((a : Nat) : Int) ∧ F' 8 = .int .i64 ((n : Nat) : Int) ∧ F' 9 = y1 ∧ F' 10 = y2 ∧ F' 11 = .int .i64 0 ∧ F' 22 = .bool false) ⟨e0, e1, e2, e3, e6, e7, e8, e9, e10, e11, rfl⟩ ?_
  clear e0 e1 e2 e3 e6 e7 e8 e9 e10 e11
  clear F
  rintro F ⟨e0, e1, e2, e3, e6, e7, e8, e9, e10, e11, e22⟩
  refine wp_cond_false (fr_eval rfl e22) ?_
  refine wp_skip ?_
  refine then_n ?_
  refine wp_seq ?_
  refine wp_regionF ?_
  refine lf_val (v := vt) (wantAll rfl) (rv_move rfl (fr_eval rfl e1)) ?_
  refine lf_val (v := y2) (wantAll rfl) (rv_move rfl (fr_eval rfl e10)) ?_
  refine lf_call (wantAll rfl) (rv_call (args := [vt, y2]) rfl (evc (fr_eval rfl rfl) (evc (fr_eval rfl rfl) evn)) Try.call73) (back_calls t one (by omega) _ _ _ (ht.rd _ hH.chg) (OwnB.rd (hH.own (i := 2) rfl))) ?_
  rintro _ w3 ⟨rfl, hx⟩
  refine ⟨_, rfl, ?_⟩
  replace hH := hH.ext hx
  clear hx
  refine lf_val (v := .tuple #[.agg (cBs (backK (join 14 [t]) one)).toArray, .int .i64 (backE one)]) (wantAll rfl) (rv_move rfl (fr_eval rfl rfl)) ?_
  refine lf_val (v := .agg (cBs (backK (join 14 [t]) one)).toArray) (wantAll rfl) (rv_extract rfl (fr_eval rfl rfl) rfl) ?_
  refine lf_val (v := .int .i64 (backE one)) (wantAll rfl) (rv_extract rfl (fr_eval rfl rfl) rfl) ?_
  refine lf_ex (wantAll rfl) (hx_alloc hH 23 (z := .agg (cBs (List.replicate 32 0)).toArray) (n := 32) (cs := cBs (List.replicate 32 0)) rfl (by kernel_rfl) (by rfl)) ?_
  clear hH
  rintro _ w4 ⟨g2, rfl, hH, hx⟩
  replace hH : Heap _ _ _ [_, _, _, _] := hH
  clear hx
  refine lf_sk (wantAll rfl) (hx_storeW hH (i := 3) (cs := cBs (backK (join 14 [t]) one)) rfl rfl rfl (fr_eval rfl rfl) (fr_eval rfl rfl) (sz_len Try.sz23 (cBs_len backK_len)) (((cBs_len (List.length_replicate ..))).trans ((cBs_len backK_len)).symm) ((cBs_one _))) ?_
  clear hH
  rintro w5 ⟨hH, hx⟩
  replace hH : Heap _ _ _ [_, _, _, _] := hH
  clear hx
  refine lf_val (v := .int .i64 (backE one)) (wantAll rfl) (rv_assign rfl (fr_eval rfl rfl)) ?_
  refine lf_nil ?_
  refine then_n ?_
  refine wp_seq ?_
  refine wp_gen (fun F' => F' 0 = .agg (cBs root.1).toArray ∧ F' 1 = vt ∧ F' 2 = v ∧ F' 3 = .pointer (some ⟨g1, 0, none⟩) ∧ F' 6 = .bool false ∧ F' 7 = .int .i64 ((a : Nat) : Int) ∧ F' 8 = .int .i64 ((n : Nat) : Int) ∧ F' 9 = y1 ∧ F' 10 = y2 ∧ F' 11 = .int .i64 (backE one) ∧ F' 12 = .pointer (some ⟨g2, 0, none⟩) ∧ F' 22 = .bool false) ⟨e0, e1, e2, e3, e6, e7, e8, e9, e10, rfl, rfl, e22⟩ ?_
  clear e0 e1 e2 e3 e6 e7 e8 e9 e10 e11 e22
  clear F
  rintro F ⟨e0, e1, e2, e3, e6, e7, e8, e9, e10, e11, e12, e22⟩
  refine wp_regionF ?_
  refine lf_val (v := .int .i64 (backE one)) (wantAll rfl) (rv_move rfl (fr_eval rfl e11)) ?_
  refine lf_val (v := .bool true) (wantAll rfl) (rv_eql rfl (fr_eval rfl rfl) rfl (decide_eq_true (by omega))) ?_
  refine lf_val (v := .bool true) (wantAll rfl) (rv_move rfl (fr_eval rfl rfl)) ?_
  refine lf_val (v := .agg (cBs root.1).toArray) (wantF (d := 31) rfl (by kernel_rfl) rfl rfl) (rv_loadW rfl (hH.blk (i := 0) rfl) (fr_eval rfl e3) Try.underlying23 rfl (sz_len Try.sz23 (cBs_len root.2))) ?_
  refine lf_val (wantF (d := 31) rfl (by kernel_rfl) rfl rfl) (rv_loadW rfl (hH.blk (i := 3) rfl) (fr_eval rfl e12) Try.underlying23 rfl (sz_len Try.sz23 (cBs_len backK_len))) ?_
  refine lf_val (v := .int .i64 ((a : Nat) : Int)) (wantF (d := 31) rfl (by kernel_rfl) rfl rfl) (rv_move rfl (fr_eval rfl e7)) ?_
  refine lf_val (v := .int .i64 ((n : Nat) : Int)) (wantF (d := 31) rfl (by kernel_rfl) rfl rfl) (rv_move rfl (fr_eval rfl e8)) ?_
  refine lf_val (v := y1) (wantF (d := 31) rfl (by kernel_rfl) rfl rfl) (rv_move rfl (fr_eval rfl e9)) ?_
  refine lf_call (wantF (d := 31) rfl (by kernel_rfl) rfl rfl) (rv_call (args := [.agg (cBs root.1).toArray, .agg (cBs (backK (join 14 [t]) one)).toArray, .int .i64 ((a : Nat) : Int), .int .i64 ((n : Nat) : Int), y1]) rfl (evc (fr_eval rfl rfl) (evc (fr_eval rfl rfl) (evc (fr_eval rfl rfl) (evc (fr_eval rfl rfl) (evc (fr_eval rfl rfl) evn))))) Try.call15) (check_calls root (⟨(backK (join 14 [t]) one), backK_len⟩ : S32) ((a : Nat) : Int) ((n : Nat) : Int) (by omega) (by omega) p _ _ (Own.rd (hH.own (i := 1) rfl) (row_one cS_one))) ?_
  rintro _ w6 ⟨rfl, hx⟩
  refine ⟨_, rfl, ?_⟩
  replace hH := hH.ext hx
  clear hx
  refine lf_val (v := .bool (checkB root (⟨(backK (join 14 [t]) one), backK_len⟩ : S32) ((a : Nat) : Int) ((n : Nat) : Int) p)) (wantAll rfl) (rv_pickT rfl (fr_eval rfl rfl) (fr_eval rfl rfl)) ?_
  refine lf_val (v := .bool (checkB root (⟨(backK (join 14 [t]) one), backK_len⟩ : S32) ((a : Nat) : Int) ((n : Nat) : Int) p)) (wantAll rfl) (rv_assign rfl (fr_eval rfl rfl)) ?_
  refine lf_nil ?_
  refine then_n ?_
  refine wp_gen (fun F' => F' 0 = .agg (cBs root.1).toArray ∧ F' 1 = vt ∧ F' 2 = v ∧ F' 3 = .pointer (some ⟨g1, 0, none⟩) ∧ F' 6 = .bool (checkB root (⟨(backK (join 14 [t]) one), backK_len⟩ : S32) ((a : Nat) : Int) ((n : Nat) : Int) p) ∧ F' 7 = .int .i64 ((a : Nat) : Int) ∧ F' 8 = .int .i64 ((n : Nat) : Int) ∧ F' 9 = y1 ∧ F' 10 = y2 ∧ F' 11 = .int .i64 (backE one) ∧ F' 12 = .pointer (some ⟨g2, 0, none⟩) ∧ F' 22 = .bool false) ⟨e0, e1, e2, e3, rfl, e7, e8, e9, e10, e11, e12, e22⟩ ?_
  clear e0 e1 e2 e3 e6 e7 e8 e9 e10 e11 e12 e22
  clear F
  rintro F ⟨e0, e1, e2, e3, e6, e7, e8, e9, e10, e11, e12, e22⟩
  refine wp_ret ?_
  exact bodyPost_ret (res1 rfl (ro_tmp rfl e6)) rfl (⟨rfl, hH.done⟩)

end Go.Proofs.Ytokddhidcjkadaa
