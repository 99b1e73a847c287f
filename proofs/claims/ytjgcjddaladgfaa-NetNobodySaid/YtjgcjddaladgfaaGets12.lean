/- Chapter 12's laws: the walks of ReceiptTexts and ReceiptBytes. -/
import Derived.Test.YtjgcjddaladgfaaRcpts
import Derived.Stop.BytesEq
namespace Go.Proofs.Ytjgcjddaladgfaa
open Go.RowKit Go.Bz Go.Bz.Wire Go.Bz.Rcpt
attribute [local irreducible] wpList Code.wp wpAnyX
def rcBeq (r q : Rc) : Bool := (r.t == q.t) && ((r.c == q.c) && ((r.s == q.s) && ((r.h.1 == q.h.1) && ((r.b.1 == q.b.1) && true))))
theorem rcBeq_self (r : Rc) : rcBeq r r = true := by simp [rcBeq]
set_option maxRecDepth 100000 in
theorem eqRc_in (w : World) (r q : Rc) : (Op.equalIn 10000 54 (.agg (([.int .i64 r.t, .int .i64 r.c, .int .i64 r.s] : List Value) ++ (cBs r.h.1 ++ cBs r.b.1)).toArray) (.agg (([.int .i64 q.t, .int .i64 q.c, .int .i64 q.s] : List Value) ++ (cBs q.h.1 ++ cBs q.b.1)).toArray)).run Try.prog w = .ok (rcBeq r q) w := by
  have ht : Try.prog.underlying 54 = some (.struct (Try.prog.fieldsOf 54)) := by unfold Program.fieldsOf; rw [Try.underlying54]
  rw [run_equalIn_struct w 9999 _ _ _ ht (by kernel_rfl)]
  unfold Program.fieldsOf
  rw [Try.underlying54]
  exact (eqF_cons (by decide) (part_cell Try.underlying3 rfl Try.sz3 rfl) (part_cell Try.underlying3 rfl Try.sz3 rfl) (run_equalIn_int w 9998 3 .i64 .i64 _ _ Try.underlying3) (eqF_cons (by decide) (part_cell Try.underlying3 rfl Try.sz3 rfl) (part_cell Try.underlying3 rfl Try.sz3 rfl) (run_equalIn_int w 9998 3 .i64 .i64 _ _ Try.underlying3) (eqF_cons (by decide) (part_cell Try.underlying3 rfl Try.sz3 rfl) (part_cell Try.underlying3 rfl Try.sz3 rfl) (run_equalIn_int w 9998 3 .i64 .i64 _ _ Try.underlying3) (eqF_cons (by decide) (part_row Try.underlying45 rfl Try.sz45 (show List.take 32 (List.drop 3 ([.int .i64 r.t, .int .i64 r.c, .int .i64 r.s] ++ ((cBs r.h.1) ++ (cBs r.b.1)))) = cBs r.h.1 from part_app (show List.length [.int .i64 r.t, .int .i64 r.c, .int .i64 r.s] = 3 from rfl) (cBs_len r.h.2)) (cBs_len r.h.2) (le_of_len2 (len_app (m := 3) (n := 64) (k := 67) rfl (len_app (m := 32) (n := 32) (k := 64) (cBs_len r.h.2) (cBs_len r.b.2) rfl) rfl) (by decide))) (part_row Try.underlying45 rfl Try.sz45 (show List.take 32 (List.drop 3 ([.int .i64 q.t, .int .i64 q.c, .int .i64 q.s] ++ ((cBs q.h.1) ++ (cBs q.b.1)))) = cBs q.h.1 from part_app (show List.length [.int .i64 q.t, .int .i64 q.c, .int .i64 q.s] = 3 from rfl) (cBs_len q.h.2)) (cBs_len q.h.2) (le_of_len2 (len_app (m := 3) (n := 64) (k := 67) rfl (len_app (m := 32) (n := 32) (k := 64) (cBs_len q.h.2) (cBs_len q.b.2) rfl) rfl) (by decide))) (run_equalIn_bytes w 9997 45 5 32 Try.underlying45 Try.underlying5 Try.szB1 _ _ r.h.2 q.h.2) (eqF_cons (by decide) (part_row Try.underlying45 rfl Try.sz45 (part_of (cs := ([.int .i64 r.t, .int .i64 r.c, .int .i64 r.s] : List Value) ++ (cBs r.h.1 ++ cBs r.b.1)) (A := (([.int .i64 r.t, .int .i64 r.c, .int .i64 r.s] : List Value) ++ cBs r.h.1 : List Value)) (D := (cBs r.b.1 : List Value)) (C := ([] : List Value)) (by simp only [List.append_assoc, List.cons_append, List.nil_append, List.append_nil]) (len_app (m := 3) (n := 32) (k := 35) rfl (cBs_len r.h.2) rfl) (cBs_len r.b.2)) (cBs_len r.b.2) (le_of_len2 (len_app (m := 3) (n := 64) (k := 67) rfl (len_app (m := 32) (n := 32) (k := 64) (cBs_len r.h.2) (cBs_len r.b.2) rfl) rfl) (by decide))) (part_row Try.underlying45 rfl Try.sz45 (part_of (cs := ([.int .i64 q.t, .int .i64 q.c, .int .i64 q.s] : List Value) ++ (cBs q.h.1 ++ cBs q.b.1)) (A := (([.int .i64 q.t, .int .i64 q.c, .int .i64 q.s] : List Value) ++ cBs q.h.1 : List Value)) (D := (cBs q.b.1 : List Value)) (C := ([] : List Value)) (by simp only [List.append_assoc, List.cons_append, List.nil_append, List.append_nil]) (len_app (m := 3) (n := 32) (k := 35) rfl (cBs_len q.h.2) rfl) (cBs_len q.b.2)) (cBs_len q.b.2) (le_of_len2 (len_app (m := 3) (n := 64) (k := 67) rfl (len_app (m := 32) (n := 32) (k := 64) (cBs_len q.h.2) (cBs_len q.b.2) rfl) rfl) (by decide))) (run_equalIn_bytes w 9997 45 5 32 Try.underlying45 Try.underlying5 Try.szB1 _ _ r.b.2 q.b.2) eqF_nil)))))
section
variable {w : World} {a : Act} {o : Oper}
theorem rv_eqR {x y : Operand} {t2 : TypeId} {r q : Rc} {b : Bool} (ho : o.op = .binOp .eql 54 x y t2) (hx : a.eval x = .agg (([.int .i64 r.t, .int .i64 r.c, .int .i64 r.s] : List Value) ++ (cBs r.h.1 ++ cBs r.b.1)).toArray) (hy : a.eval y = .agg (([.int .i64 q.t, .int .i64 q.c, .int .i64 q.s] : List Value) ++ (cBs q.h.1 ++ cBs q.b.1)).toArray) (h : rcBeq r q = b) : (execOp a.eval o).run Try.prog w = .ok (.value (.bool b)) w := by
  unfold execOp
  subst h
  simp only [ho, hx, hy, Sem.run_bind, run_eqGuard_agg (hm := Try.eqGuardType54), Result.andThen_ok, run_eql_struct, eqRc_in, Sem.run_pure]
theorem rv_neR {x y : Operand} {t2 : TypeId} {r q : Rc} {b : Bool} (ho : o.op = .binOp .neq 54 x y t2) (hx : a.eval x = .agg (([.int .i64 r.t, .int .i64 r.c, .int .i64 r.s] : List Value) ++ (cBs r.h.1 ++ cBs r.b.1)).toArray) (hy : a.eval y = .agg (([.int .i64 q.t, .int .i64 q.c, .int .i64 q.s] : List Value) ++ (cBs q.h.1 ++ cBs q.b.1)).toArray) (h : rcBeq r q = b) : (execOp a.eval o).run Try.prog w = .ok (.value (.bool (!b))) w := by
  unfold execOp
  subst h
  simp only [ho, hx, hy, Sem.run_bind, run_eqGuard_agg (hm := Try.eqGuardType54), Result.andThen_ok, run_neq_struct, eqRc_in, Sem.run_pure]
end

/-- A signed one's bytes. -/
def textS (r : Rc) (sig : List UInt8) : List UInt8 := put ((textR r).length : Int) ++ textR r ++ put (sig.length : Int) ++ sig
theorem textS_len (r : Rc) (sig : List UInt8) : (textS r sig).length ≤ 120 + sig.length := by
  have h1 := put_len ((textR r).length : Int)
  have h2 := put_len (sig.length : Int)
  have h3 := textR_len r
  unfold textS
  simp only [List.length_append]; omega
structure GetOk (b : List UInt8) (r : Rc) (sig : List UInt8) (e : Int) : Prop where
  one : ∀ q s, inR q → s.length ≤ 65536 → b = textS q s → e = 0 ∧ r = q ∧ sig = s
  good : e = 0 → inR r ∧ b = textS r sig ∧ sig.length ≤ 65536
  bad : ¬ e = 0 → r = zR ∧ sig = []
abbrev gg1 (b : List UInt8) := rawR (numR b 0) (uptoE b 0 65536) ((uptoV b 0 65536 : Nat) : Int)
abbrev kk1 (b : List UInt8) := rawE (numR b 0) (uptoE b 0 65536) ((uptoV b 0 65536 : Nat) : Int)
abbrev tt1 (b : List UInt8) := rawV (numR b 0) (uptoE b 0 65536) ((uptoV b 0 65536 : Nat) : Int)
abbrev gg2 (b : List UInt8) := rawR (numR (gg1 b) (kk1 b)) (uptoE (gg1 b) (kk1 b) 65536) ((uptoV (gg1 b) (kk1 b) 65536 : Nat) : Int)
abbrev kk2 (b : List UInt8) := rawE (numR (gg1 b) (kk1 b)) (uptoE (gg1 b) (kk1 b) 65536) ((uptoV (gg1 b) (kk1 b) 65536 : Nat) : Int)
abbrev tt2 (b : List UInt8) := rawV (numR (gg1 b) (kk1 b)) (uptoE (gg1 b) (kk1 b) 65536) ((uptoV (gg1 b) (kk1 b) 65536 : Nat) : Int)
theorem get_one {b : List UInt8} {q : Rc} {s : List UInt8} (hs : s.length ≤ 65536) (hb : b = textS q s) : doneE (gg2 b) (kk2 b) = 0 ∧ tt1 b = textR q ∧ tt2 b = s := by
  have h3 := textR_len q
  have hb' : b = put ((textR q).length : Int) ++ (textR q ++ (put (s.length : Int) ++ (s ++ []))) := by rw [hb]; simp [textS]
  obtain ⟨a1, a2, a3⟩ := text_of (e := 0) (m := 65536) rfl hb' (by omega) (by omega)
  obtain ⟨b1, b2, b3⟩ := text_of (m := 65536) a3 a2 (by omega) (by omega)
  exact ⟨done_of b3 b2, a1, b1⟩
theorem get_good {b : List UInt8} (h : doneE (gg2 b) (kk2 b) = 0) {r : Rc} {e : Int} (hr : ReadOk (tt1 b) r e) (he : e = 0) : inR r ∧ b = textS r (tt2 b) ∧ (tt2 b).length ≤ 65536 := by
  obtain ⟨f1, f2⟩ := done_form h
  obtain ⟨d1, d2, d3⟩ := text_form f1
  obtain ⟨_, c2, _⟩ := text_form d1
  obtain ⟨i1, i2⟩ := hr.good he
  refine ⟨i1, ?_, by have : ((tt2 b).length : Int) ≤ 65536 := d3; omega⟩
  have e1 : b = put ((tt1 b).length : Int) ++ (tt1 b ++ gg1 b) := c2
  have e2 : gg1 b = put ((tt2 b).length : Int) ++ (tt2 b ++ gg2 b) := d2
  have e3 : gg2 b = [] := f2
  have e4 : b = put ((tt1 b).length : Int) ++ (tt1 b ++ (put ((tt2 b).length : Int) ++ (tt2 b ++ []))) := by rw [← e3, ← e2, ← e1]
  rw [i2] at e4
  rw [textS]; simpa using e4
theorem get_ok {b : List UInt8} (h : doneE (gg2 b) (kk2 b) = 0) {r : Rc} {e : Int} (hr : ReadOk (tt1 b) r e) (he : e = 0) : GetOk b r (tt2 b) 0 :=
  ⟨fun q s hq hs hb => by obtain ⟨_, a, c⟩ := get_one hs hb; exact ⟨rfl, (hr.one q hq a).2, c⟩, fun _ => get_good h hr he, fun h => absurd rfl h⟩
theorem get_no1 {b : List UInt8} (h : ¬ doneE (gg2 b) (kk2 b) = 0) : GetOk b zR [] (doneE (gg2 b) (kk2 b)) :=
  ⟨fun q s hq hs hb => absurd (get_one hs hb).1 h, fun h2 => absurd h2 h, fun _ => ⟨rfl, rfl⟩⟩
theorem get_no2 {b : List UInt8} {r : Rc} {e : Int} (hr : ReadOk (tt1 b) r e) (he : ¬ e = 0) : GetOk b zR [] e :=
  ⟨fun q s hq hs hb => absurd (hr.one q hq (get_one hs hb).2.1).1 he, fun h2 => absurd h2 he, fun _ => ⟨rfl, rfl⟩⟩

set_option maxRecDepth 100000 in
set_option maxHeartbeats 4000000 in
theorem put12_calls (r : Rc) (hin_r : inRc r) (sig : List UInt8) (hs : sig.length ≤ 10000000) (v : Value) (w : World) (hr0 : RdB w v sig) :
    Calls Try.prog 38 #[.agg (([.int .i64 r.t, .int .i64 r.c, .int .i64 r.s] : List Value) ++ (cBs r.h.1 ++ (cBs r.b.1 ++ ([v] : List Value)))).toArray] w fun e'' w' => (∃ v', e'' = .returned v' ∧ OwnB w' v' (textS r sig) ∧ ∀ k, v'.ownBlock = some k → w.heap.size ≤ k) ∧ Ext w w' := by
  refine calls_fr (args := [.agg (([.int .i64 r.t, .int .i64 r.c, .int .i64 r.s] : List Value) ++ (cBs r.h.1 ++ (cBs r.b.1 ++ ([v] : List Value)))).toArray]) (n := 12) Try.func38 rfl rfl (show 1 ≤ 12 by decide) ?_
  have l3 := textR_len r
  have l1 := put_len ((textR r).length : Int)
  have l2 := put_len (sig.length : Int)
  have hr := Rd.stab hr0
  have hH : Heap (newN w) w w [] := Heap.fresh
  refine wp_seq ?_
  refine wp_gen (fun F' => F' 0 = .agg (([.int .i64 r.t, .int .i64 r.c, .int .i64 r.s] : List Value) ++ (cBs r.h.1 ++ (cBs r.b.1 ++ ([v] : List Value)))).toArray) rfl ?_
  rintro F e0
  refine wp_regionF ?_
  refine lf_ex (wantAll rfl) (hx_box hH 61 (cs := ([.int .i64 r.t, .int .i64 r.c, .int .i64 r.s] : List Value) ++ (cBs r.h.1 ++ (cBs r.b.1 ++ ([v] : List Value)))) rfl (fr_eval rfl e0) (by rfl)) ?_
  clear hH
  rintro _ w1 ⟨g1, rfl, hH, hx⟩
  replace hH : Heap (newN w) w w1 [oBlk g1 (([.int .i64 r.t, .int .i64 r.c, .int .i64 r.s] : List Value) ++ (cBs r.h.1 ++ (cBs r.b.1 ++ ([v] : List Value)))) 61] := hH
  clear hx
  refine lf_val (v := .slice none 0 0) (wantAll rfl) (rv_assign rfl rfl) ?_
  refine lf_nil ?_
  refine then_n ?_
  refine wp_seq ?_
  refine wp_gen (fun F' => F' 0 = .agg (([.int .i64 r.t, .int .i64 r.c, .int .i64 r.s] : List Value) ++ (cBs r.h.1 ++ (cBs r.b.1 ++ ([v] : List Value)))).toArray ∧ F' 1 = .pointer (some ⟨g1, 0, none⟩) ∧ F' 2 = .slice none 0 0) ⟨e0, rfl, rfl⟩ ?_
  clear e0
  clear F
  rintro F ⟨e0, e1, e2⟩
  refine wp_regionF ?_
  refine lf_ex (wantAll rfl) (hx_alloc hH 50 (z := .agg ([.slice none 0 0]).toArray) (n := 1) (cs := [.slice none 0 0]) rfl (by kernel_rfl) (by rfl)) ?_
  clear hH
  rintro _ w2 ⟨g2, rfl, hH, hx⟩
  replace hH : Heap (newN w) w w2 [oBlk g1 (([.int .i64 r.t, .int .i64 r.c, .int .i64 r.s] : List Value) ++ (cBs r.h.1 ++ (cBs r.b.1 ++ ([v] : List Value)))) 61, oBlk g2 ([.slice none 0 0]) 50] := hH
  clear hx
  refine lf_nil ?_
  refine then_n ?_
  refine wp_seq ?_
  refine wp_gen (fun F' => F' 0 = .agg (([.int .i64 r.t, .int .i64 r.c, .int .i64 r.s] : List Value) ++ (cBs r.h.1 ++ (cBs r.b.1 ++ ([v] : List Value)))).toArray ∧ F' 1 = .pointer (some ⟨g1, 0, none⟩) ∧ F' 2 = .slice none 0 0 ∧ F' 3 = .pointer (some ⟨g2, 0, none⟩)) ⟨e0, e1, e2, rfl⟩ ?_
  clear e0 e1 e2
  clear F
  rintro F ⟨e0, e1, e2, e3⟩
  replace hH : Heap (newN w) w w2 [oBlk g1 (([.int .i64 r.t, .int .i64 r.c, .int .i64 r.s] : List Value) ++ (cBs r.h.1 ++ (cBs r.b.1 ++ ([v] : List Value)))) 61, oPen g2 (.slice none 0 0) []] := hH.toPen (i := 1) rfl rfl
  have hs_1 := hH.fixed1 (j := 0) (i := 1) rfl rfl (by decide)
  have hKN := hH.sub1 (i := 1) rfl
  have hcK : Chg (newK w2 (oPen g2 (.slice none 0 0) []).fp) w2 w2 := Chg.refl _ _
  have hfM : ∀ k, (oPen g2 (.slice none 0 0) []).fp k → (newK w2 (oPen g2 (.slice none 0 0) []).fp) k := fun k h => Or.inr h
  refine wp_regionX (newK w2 (oPen g2 (.slice none 0 0) []).fp) 6 (by kernel_rfl) (by kernel_rfl) ?_
  refine xl_take (i := 0) (v := .pointer (some ⟨g1, 0, none⟩)) rfl (by kernel_rfl) (by kernel_rfl) (by kernel_rfl) (by kernel_rfl) (yx_val (wantAll rfl) (fun w' hx' => rv_fieldAddr (n := 66) rfl (fr_eval rfl e1) Try.underlying61 rfl rfl (by kernel_rfl))) ?_
  refine xl_take (i := 1) (v := .agg (([.int .i64 r.t, .int .i64 r.c, .int .i64 r.s] : List Value) ++ (cBs r.h.1 ++ cBs r.b.1)).toArray) rfl (by kernel_rfl) (by kernel_rfl) (by kernel_rfl) (by kernel_rfl) (yx_val (wantAll rfl) (fun w' hx' => rv_loadP rfl (hs_1 _ (hcK.trans hx')) (part_of (cs := ([.int .i64 r.t, .int .i64 r.c, .int .i64 r.s] : List Value) ++ (cBs r.h.1 ++ (cBs r.b.1 ++ ([v] : List Value)))) (A := ([] : List Value)) (D := (([.int .i64 r.t, .int .i64 r.c, .int .i64 r.s] : List Value) ++ (cBs r.h.1 ++ cBs r.b.1) : List Value)) (C := ([v] : List Value)) (by simp only [List.append_assoc, List.cons_append, List.nil_append, List.append_nil]) (show List.length ([] : List Value) = 0 from rfl) (len_app (m := 3) (n := 64) (k := 67) rfl (len_app (m := 32) (n := 32) (k := 64) (cBs_len r.h.2) (cBs_len r.b.2) rfl) rfl)) (len_app (m := 3) (n := 64) (k := 67) rfl (len_app (m := 32) (n := 32) (k := 64) (cBs_len r.h.2) (cBs_len r.b.2) rfl) rfl) (fr_eval rfl rfl) Try.underlying54 rfl Try.sz54)) ?_
  refine xl_take (i := 4) (v := .pointer (some ⟨g1, 67, none⟩)) rfl (by kernel_rfl) (by kernel_rfl) (by kernel_rfl) (by kernel_rfl) (yx_val (wantAll rfl) (fun w' hx' => rv_fieldAddr (n := 0) rfl (fr_eval rfl e1) Try.underlying61 rfl rfl (by kernel_rfl))) ?_
  refine xl_take (i := 5) (v := v) rfl (by kernel_rfl) (by kernel_rfl) (by kernel_rfl) (by kernel_rfl) (yx_val (wantAll rfl) (fun w' hx' => rv_load1 rfl (hs_1 _ (hcK.trans hx')) (get_of (cs := ([.int .i64 r.t, .int .i64 r.c, .int .i64 r.s] : List Value) ++ (cBs r.h.1 ++ (cBs r.b.1 ++ ([v] : List Value)))) (A := (([.int .i64 r.t, .int .i64 r.c, .int .i64 r.s] : List Value) ++ (cBs r.h.1 ++ cBs r.b.1) : List Value)) (D := ([v] : List Value)) (C := ([] : List Value)) (o := 67) (j := 0) (by simp only [List.append_assoc, List.cons_append, List.nil_append, List.append_nil]) (len_app (m := 3) (n := 64) (k := 67) rfl (len_app (m := 32) (n := 32) (k := 64) (cBs_len r.h.2) (cBs_len r.b.2) rfl) rfl) rfl (show ([v] : List Value)[0]? = some (v) from rfl)) (fr_eval rfl rfl) Try.underlying22 rfl Try.sz22)) ?_
  refine anyX_ready (rs := [2]) (by kernel_rfl) ?_
  intro w3 hx
  replace hH := hH.ext hx
  replace hcK := hcK.trans (Ext.any hx)
  clear hx
  refine (anyX_cons ?_ anyX_nil)
  refine xl_step (i := 2) rfl (wantAll rfl) ?_
  refine of_call (rv_call (args := [.agg (([.int .i64 r.t, .int .i64 r.c, .int .i64 r.s] : List Value) ++ (cBs r.h.1 ++ cBs r.b.1)).toArray]) rfl (evc (fr_eval rfl rfl) evn) Try.call33) (rcText_calls r hin_r _) ?_
  rintro _ w4 ⟨⟨y1, rfl, ho, hg⟩, hx⟩
  refine ⟨_, rfl, ?_⟩
  replace hH : Heap (newN w) w w4 [oBlk g1 (([.int .i64 r.t, .int .i64 r.c, .int .i64 r.s] : List Value) ++ (cBs r.h.1 ++ (cBs r.b.1 ++ ([v] : List Value)))) 61, oPen g2 (.slice none 0 0) [], oB y1 (textR r)] := hH.addOwn hx hg ho
  clear ho hg
  replace hcK := hcK.trans (Ext.any hx)
  refine ⟨(Ext.any hx), ?_⟩
  clear hx
  refine anyX_ready (rs := [3]) (by kernel_rfl) ?_
  intro w5 hx
  replace hH := hH.ext hx
  replace hcK := hcK.trans (Ext.any hx)
  clear hx
  refine (anyX_cons ?_ anyX_nil)
  refine xl_step (i := 3) rfl (wantAll rfl) ?_
  refine of_call (rv_call (args := [.pointer (some ⟨g2, 0, none⟩), y1]) rfl (evc (fr_eval rfl e3) (evc (fr_eval rfl rfl) evn)) Try.call25) (penText_calls (Nat.le_trans (textR_len r) (by decide)) _ (OwnB.rd (hH.own (i := 2) rfl)) (fun k hk h0 e => apart_at hH.apart (i := 2) (j := 1) rfl rfl (by decide) k hk (Or.inl e)) (fun k hk h0 h => apart_at hH.apart (i := 2) (j := 1) rfl rfl (by decide) k hk (Or.inr h)) (hH.pen (i := 1) rfl) (by simp only [List.length_append, List.length_nil]; omega)) ?_
  rintro _ w6 ⟨rfl, hp⟩
  refine ⟨_, rfl, ?_⟩
  obtain ⟨y2, hH', hx, hxf, hgr⟩ := hH.penPost (i := 1) (l2 := put (((textR r).length : Nat) : Int) ++ (textR r)) rfl (fun _ => rfl) hp
  clear hH hp
  have hH : Heap (newN w) w w6 [oBlk g1 (([.int .i64 r.t, .int .i64 r.c, .int .i64 r.s] : List Value) ++ (cBs r.h.1 ++ (cBs r.b.1 ++ ([v] : List Value)))) 61, oPen g2 y2 (put (((textR r).length : Nat) : Int) ++ (textR r)), oB y1 (textR r)] := hH'
  clear hH'
  have hcx := hxf.mono (fun k _ hk => hfM k hk)
  replace hfM := grow1 (fun k h => Or.inl h) hcK.size hfM hgr
  replace hcK := hcK.trans hcx
  refine ⟨hcx, ?_⟩
  clear hcx hxf hgr hx
  refine xl_tail (s := 6) rfl ?_
  intro w7 hx
  replace hH := hH.ext hx
  clear hx
  clear hs_1 hKN hcK hfM
  refine lf_call (wantAll rfl) (rv_call (args := [.pointer (some ⟨g2, 0, none⟩), v]) rfl (evc (fr_eval rfl rfl) (evc (fr_eval rfl rfl) evn)) Try.call25) (penText_calls (by omega) _ (hr.rd _ hH.chg) (fun k hk h0 e => hr.out _ hk h0 ((hH.one (i := 1) rfl).sub k (Or.inl e))) (fun k hk h0 h => hr.out _ hk h0 ((hH.one (i := 1) rfl).sub k (Or.inr h))) (hH.pen (i := 1) rfl) (by simp only [List.length_append, List.length_nil]; omega)) ?_
  rintro _ w8 ⟨rfl, hp⟩
  refine ⟨_, rfl, ?_⟩
  obtain ⟨y3, hH', hx, hxf, hgr⟩ := hH.penPost (i := 1) (l2 := put (((textR r).length : Nat) : Int) ++ (textR r) ++ put ((sig.length : Nat) : Int) ++ sig) rfl (fun _ => rfl) hp
  clear hH hp
  have hH : Heap (newN w) w w8 [oBlk g1 (([.int .i64 r.t, .int .i64 r.c, .int .i64 r.s] : List Value) ++ (cBs r.h.1 ++ (cBs r.b.1 ++ ([v] : List Value)))) 61, oPen g2 y3 (put (((textR r).length : Nat) : Int) ++ (textR r) ++ put ((sig.length : Nat) : Int) ++ sig), oB y1 (textR r)] := hH'
  clear hH'
  clear hxf hgr hx
  refine lf_call (wantAll rfl) (rv_call (args := [.pointer (some ⟨g2, 0, none⟩)]) rfl (evc (fr_eval rfl rfl) evn) Try.call28) (penBytes_calls _ (hH.pen (i := 1) rfl) (by simp only [List.length_append, List.length_nil]; omega)) ?_
  rintro _ w9 ⟨⟨y4, rfl, ho, hg⟩, hx⟩
  refine ⟨_, rfl, ?_⟩
  replace hH : Heap (newN w) w w9 [oBlk g1 (([.int .i64 r.t, .int .i64 r.c, .int .i64 r.s] : List Value) ++ (cBs r.h.1 ++ (cBs r.b.1 ++ ([v] : List Value)))) 61, oPen g2 y3 (put (((textR r).length : Nat) : Int) ++ (textR r) ++ put ((sig.length : Nat) : Int) ++ sig), oB y1 (textR r), oB y4 (put (((textR r).length : Nat) : Int) ++ (textR r) ++ put ((sig.length : Nat) : Int) ++ sig)] := hH.addOwn hx hg ho
  clear ho hg
  clear hx
  refine lf_val (v := y4) (wantAll rfl) (rv_assign rfl (fr_eval rfl rfl)) ?_
  refine lf_nil ?_
  refine then_n ?_
  replace hH : Heap (newN w) w w9 [oBlk g1 (([.int .i64 r.t, .int .i64 r.c, .int .i64 r.s] : List Value) ++ (cBs r.h.1 ++ (cBs r.b.1 ++ ([v] : List Value)))) 61, oPen g2 y3 (put (((textR r).length : Nat) : Int) ++ (textR r) ++ put ((sig.length : Nat) : Int) ++ sig), oB y4 (put (((textR r).length : Nat) : Int) ++ (textR r) ++ put ((sig.length : Nat) : Int) ++ sig)] := hH.drop (.cons_cons _ (.cons_cons _ (.cons _ (.cons_cons _ .slnil))))
  refine wp_gen (fun F' => F' 0 = .agg (([.int .i64 r.t, .int .i64 r.c, .int .i64 r.s] : List Value) ++ (cBs r.h.1 ++ (cBs r.b.1 ++ ([v] : List Value)))).toArray ∧ F' 1 = .pointer (some ⟨g1, 0, none⟩) ∧ F' 2 = y4 ∧ F' 3 = .pointer (some ⟨g2, 0, none⟩)) ⟨e0, e1, rfl, e3⟩ ?_
  clear e0 e1 e2 e3
  clear F
  rintro F ⟨e0, e1, e2, e3⟩
  refine wp_ret ?_
  exact bodyPost_ret (v := y4) (res1 rfl (ro_tmp rfl e2)) rfl (⟨⟨_, rfl, hH.own (i := 2) rfl, hH.ge (i := 2) rfl⟩, hH.done⟩)

set_option maxRecDepth 100000 in
set_option maxHeartbeats 4000000 in
theorem rcGet_calls (b : List UInt8) (hb : b.length ≤ 100000000) (v : Value) (w : World) (hr0 : RdB w v b) :
    Calls Try.prog 37 #[v] w fun e'' w' => (∃ (r : Rc) (sig : List UInt8) (v' : Value) (e : Int), e'' = .returned (.tuple #[.agg (([.int .i64 r.t, .int .i64 r.c, .int .i64 r.s] : List Value) ++ (cBs r.h.1 ++ (cBs r.b.1 ++ ([v'] : List Value)))).toArray, .int .i64 e]) ∧ GetOk b r sig e ∧ OwnB w' v' sig ∧ ∀ k, v'.ownBlock = some k → w.heap.size ≤ k) ∧ Ext w w' := by
  refine calls_fr (args := [v]) (n := 34) Try.func37 rfl rfl (show 1 ≤ 34 by decide) ?_
  have hr := Rd.stab hr0
  have hH : Heap (newN w) w w [] := Heap.fresh
  refine wp_seq ?_
  refine wp_gen (fun F' => F' 0 = v) rfl ?_
  rintro F e0
  refine wp_regionF ?_
  refine lf_ex (wantAll rfl) (hx_alloc hH 61 (z := .agg (([.int .i64 0, .int .i64 0, .int .i64 0] : List Value) ++ (cBs (List.replicate 32 0) ++ (cBs (List.replicate 32 0) ++ ([.slice none 0 0] : List Value)))).toArray) (n := 68) (cs := ([.int .i64 0, .int .i64 0, .int .i64 0] : List Value) ++ (cBs (List.replicate 32 0) ++ (cBs (List.replicate 32 0) ++ ([.slice none 0 0] : List Value)))) rfl (by kernel_rfl) (by rfl)) ?_
  clear hH
  rintro _ w1 ⟨g1, rfl, hH, hx⟩
  replace hH : Heap (newN w) w w1 [oBlk g1 (([.int .i64 0, .int .i64 0, .int .i64 0] : List Value) ++ (cBs (List.replicate 32 0) ++ (cBs (List.replicate 32 0) ++ ([.slice none 0 0] : List Value)))) 61] := hH
  clear hx
  refine lf_val (v := .int .i64 0) (wantAll rfl) (rv_assign rfl rfl) ?_
  refine lf_nil ?_
  refine then_n ?_
  refine wp_seq ?_
  refine wp_gen (fun F' => F' 0 = v ∧ F' 2 = .pointer (some ⟨g1, 0, none⟩) ∧ F' 3 = .int .i64 0) ⟨e0, rfl, rfl⟩ ?_
  clear e0
  clear F
  rintro F ⟨e0, e2, e3⟩
  refine wp_regionF ?_
  refine lf_val (v := v) (wantAll rfl) (rv_move rfl (fr_eval rfl e0)) ?_
  refine lf_call (wantAll rfl) (rv_call (args := [v]) rfl (evc (fr_eval rfl rfl) evn) Try.call14) (look_calls (show List.length b ≤ 100000000 from (by omega)) _ (hr.rd _ hH.chg)) ?_
  rintro _ w2 ⟨⟨g2, z1, rfl, hy, hge, hst⟩, hx⟩
  refine ⟨_, rfl, ?_⟩
  have hv_g2 : ∀ k, z1.ownBlock = some k → ¬ (newN w) k := fun k hk => hr.out _ (hst k hk).2.2 (by have := (hst k hk).2.1; simpa using this)
  replace hH : Heap (newN w) w w2 [oBlk g1 (([.int .i64 0, .int .i64 0, .int .i64 0] : List Value) ++ (cBs (List.replicate 32 0) ++ (cBs (List.replicate 32 0) ++ ([.slice none 0 0] : List Value)))) 61, oEye g2 z1 b 0] := hH.addEye hx hge hv_g2 hy
  clear hst hge hy
  clear hx
  refine lf_val (v := .pointer (some ⟨g2, 0, none⟩)) (wantAll rfl) (rv_assign rfl (fr_eval rfl rfl)) ?_
  refine lf_nil ?_
  refine then_n ?_
  refine wp_seq ?_
  refine wp_gen (fun F' => F' 0 = v ∧ F' 2 = .pointer (some ⟨g1, 0, none⟩) ∧ F' 3 = .int .i64 0 ∧ F' 4 = .pointer (some ⟨g2, 0, none⟩)) ⟨e0, e2, e3, rfl⟩ ?_
  clear e0 e2 e3
  clear F
  rintro F ⟨e0, e2, e3, e4⟩
  refine wp_regionF ?_
  refine lf_val (v := .pointer (some ⟨g2, 0, none⟩)) (wantAll rfl) (rv_move rfl (fr_eval rfl e4)) ?_
  refine lf_call (wantAll rfl) (rv_call (args := [.pointer (some ⟨g2, 0, none⟩), .int .i64 65536]) rfl (evc (fr_eval rfl rfl) (evc rfl evn)) Try.call29) (textE_calls 65536 _ (hH.eye (i := 1) rfl) (eye_ne hH (i := 1) rfl hv_g2)) ?_
  rintro _ w3 ⟨⟨y1, rfl, ho, hg⟩, hy, hxf⟩
  refine ⟨_, rfl, ?_⟩
  replace hH : Heap (newN w) w w3 [oBlk g1 (([.int .i64 0, .int .i64 0, .int .i64 0] : List Value) ++ (cBs (List.replicate 32 0) ++ (cBs (List.replicate 32 0) ++ ([.slice none 0 0] : List Value)))) 61, oEye g2 z1 (rawR (numR b 0) (uptoE b 0 65536) ((uptoV b 0 65536 : Nat) : Int)) (rawE (numR b 0) (uptoE b 0 65536) ((uptoV b 0 65536 : Nat) : Int)), oB y1 (rawV (numR b 0) (uptoE b 0 65536) ((uptoV b 0 65536 : Nat) : Int))] := hH.setEyeRow (i := 1) rfl rfl hv_g2 hy hxf ho hg
  clear hy ho hg
  clear hxf
  refine lf_val (v := .pointer (some ⟨g2, 0, none⟩)) (wantAll rfl) (rv_move rfl (fr_eval rfl e4)) ?_
  refine lf_call (wantAll rfl) (rv_call (args := [.pointer (some ⟨g2, 0, none⟩), .int .i64 65536]) rfl (evc (fr_eval rfl rfl) (evc rfl evn)) Try.call29) (textE_calls 65536 _ (hH.eye (i := 1) rfl) (eye_ne hH (i := 1) rfl hv_g2)) ?_
  rintro _ w4 ⟨⟨y2, rfl, ho, hg⟩, hy, hxf⟩
  refine ⟨_, rfl, ?_⟩
  replace hH : Heap (newN w) w w4 [oBlk g1 (([.int .i64 0, .int .i64 0, .int .i64 0] : List Value) ++ (cBs (List.replicate 32 0) ++ (cBs (List.replicate 32 0) ++ ([.slice none 0 0] : List Value)))) 61, oEye g2 z1 (rawR (numR (rawR (numR b 0) (uptoE b 0 65536) ((uptoV b 0 65536 : Nat) : Int)) (rawE (numR b 0) (uptoE b 0 65536) ((uptoV b 0 65536 : Nat) : Int))) (uptoE (rawR (numR b 0) (uptoE b 0 65536) ((uptoV b 0 65536 : Nat) : Int)) (rawE (numR b 0) (uptoE b 0 65536) ((uptoV b 0 65536 : Nat) : Int)) 65536) ((uptoV (rawR (numR b 0) (uptoE b 0 65536) ((uptoV b 0 65536 : Nat) : Int)) (rawE (numR b 0) (uptoE b 0 65536) ((uptoV b 0 65536 : Nat) : Int)) 65536 : Nat) : Int)) (rawE (numR (rawR (numR b 0) (uptoE b 0 65536) ((uptoV b 0 65536 : Nat) : Int)) (rawE (numR b 0) (uptoE b 0 65536) ((uptoV b 0 65536 : Nat) : Int))) (uptoE (rawR (numR b 0) (uptoE b 0 65536) ((uptoV b 0 65536 : Nat) : Int)) (rawE (numR b 0) (uptoE b 0 65536) ((uptoV b 0 65536 : Nat) : Int)) 65536) ((uptoV (rawR (numR b 0) (uptoE b 0 65536) ((uptoV b 0 65536 : Nat) : Int)) (rawE (numR b 0) (uptoE b 0 65536) ((uptoV b 0 65536 : Nat) : Int)) 65536 : Nat) : Int)), oB y1 (rawV (numR b 0) (uptoE b 0 65536) ((uptoV b 0 65536 : Nat) : Int)), oB y2 (rawV (numR (rawR (numR b 0) (uptoE b 0 65536) ((uptoV b 0 65536 : Nat) : Int)) (rawE (numR b 0) (uptoE b 0 65536) ((uptoV b 0 65536 : Nat) : Int))) (uptoE (rawR (numR b 0) (uptoE b 0 65536) ((uptoV b 0 65536 : Nat) : Int)) (rawE (numR b 0) (uptoE b 0 65536) ((uptoV b 0 65536 : Nat) : Int)) 65536) ((uptoV (rawR (numR b 0) (uptoE b 0 65536) ((uptoV b 0 65536 : Nat) : Int)) (rawE (numR b 0) (uptoE b 0 65536) ((uptoV b 0 65536 : Nat) : Int)) 65536 : Nat) : Int))] := hH.setEyeRow (i := 1) rfl rfl hv_g2 hy hxf ho hg
  clear hy ho hg
  clear hxf
  refine lf_val (v := y1) (wantAll rfl) (rv_assign rfl (fr_eval rfl rfl)) ?_
  refine lf_val (v := y2) (wantAll rfl) (rv_assign rfl (fr_eval rfl rfl)) ?_
  refine lf_nil ?_
  refine then_n ?_
  refine wp_seq ?_
  refine wp_seq ?_
  refine wp_gen (fun F' => F' 0 = v ∧ F' 2 = .pointer (some ⟨g1, 0, none⟩) ∧ F' 3 = .int .i64 0 ∧ F' 4 = .pointer (some ⟨g2, 0, none⟩) ∧ F' 5 = y1 ∧ F' 6 = y2) ⟨e0, e2, e3, e4, rfl, rfl⟩ ?_
  clear e0 e2 e3 e4
  clear F
  rintro F ⟨e0, e2, e3, e4, e5, e6⟩
  refine wp_regionF ?_
  refine lf_val (v := .pointer (some ⟨g2, 0, none⟩)) (wantAll rfl) (rv_move rfl (fr_eval rfl e4)) ?_
  refine lf_call (wantAll rfl) (rv_call (args := [.pointer (some ⟨g2, 0, none⟩)]) rfl (evc (fr_eval rfl rfl) evn) Try.call22) (done_calls  _ (hH.eye (i := 1) rfl) (eye_ne hH (i := 1) rfl hv_g2)) ?_
  rintro _ w5 ⟨rfl, hy, hxf⟩
  refine ⟨_, rfl, ?_⟩
  replace hH : Heap (newN w) w w5 [oBlk g1 (([.int .i64 0, .int .i64 0, .int .i64 0] : List Value) ++ (cBs (List.replicate 32 0) ++ (cBs (List.replicate 32 0) ++ ([.slice none 0 0] : List Value)))) 61, oEye g2 z1 (rawR (numR (rawR (numR b 0) (uptoE b 0 65536) ((uptoV b 0 65536 : Nat) : Int)) (rawE (numR b 0) (uptoE b 0 65536) ((uptoV b 0 65536 : Nat) : Int))) (uptoE (rawR (numR b 0) (uptoE b 0 65536) ((uptoV b 0 65536 : Nat) : Int)) (rawE (numR b 0) (uptoE b 0 65536) ((uptoV b 0 65536 : Nat) : Int)) 65536) ((uptoV (rawR (numR b 0) (uptoE b 0 65536) ((uptoV b 0 65536 : Nat) : Int)) (rawE (numR b 0) (uptoE b 0 65536) ((uptoV b 0 65536 : Nat) : Int)) 65536 : Nat) : Int)) (doneE (rawR (numR (rawR (numR b 0) (uptoE b 0 65536) ((uptoV b 0 65536 : Nat) : Int)) (rawE (numR b 0) (uptoE b 0 65536) ((uptoV b 0 65536 : Nat) : Int))) (uptoE (rawR (numR b 0) (uptoE b 0 65536) ((uptoV b 0 65536 : Nat) : Int)) (rawE (numR b 0) (uptoE b 0 65536) ((uptoV b 0 65536 : Nat) : Int)) 65536) ((uptoV (rawR (numR b 0) (uptoE b 0 65536) ((uptoV b 0 65536 : Nat) : Int)) (rawE (numR b 0) (uptoE b 0 65536) ((uptoV b 0 65536 : Nat) : Int)) 65536 : Nat) : Int)) (rawE (numR (rawR (numR b 0) (uptoE b 0 65536) ((uptoV b 0 65536 : Nat) : Int)) (rawE (numR b 0) (uptoE b 0 65536) ((uptoV b 0 65536 : Nat) : Int))) (uptoE (rawR (numR b 0) (uptoE b 0 65536) ((uptoV b 0 65536 : Nat) : Int)) (rawE (numR b 0) (uptoE b 0 65536) ((uptoV b 0 65536 : Nat) : Int)) 65536) ((uptoV (rawR (numR b 0) (uptoE b 0 65536) ((uptoV b 0 65536 : Nat) : Int)) (rawE (numR b 0) (uptoE b 0 65536) ((uptoV b 0 65536 : Nat) : Int)) 65536 : Nat) : Int))), oB y1 (rawV (numR b 0) (uptoE b 0 65536) ((uptoV b 0 65536 : Nat) : Int)), oB y2 (rawV (numR (rawR (numR b 0) (uptoE b 0 65536) ((uptoV b 0 65536 : Nat) : Int)) (rawE (numR b 0) (uptoE b 0 65536) ((uptoV b 0 65536 : Nat) : Int))) (uptoE (rawR (numR b 0) (uptoE b 0 65536) ((uptoV b 0 65536 : Nat) : Int)) (rawE (numR b 0) (uptoE b 0 65536) ((uptoV b 0 65536 : Nat) : Int)) 65536) ((uptoV (rawR (numR b 0) (uptoE b 0 65536) ((uptoV b 0 65536 : Nat) : Int)) (rawE (numR b 0) (uptoE b 0 65536) ((uptoV b 0 65536 : Nat) : Int)) 65536 : Nat) : Int))] := hH.setEye (i := 1) rfl rfl hv_g2 hy hxf
  clear hy
  clear hxf
  refine lf_val (v := .int .i64 (doneE (rawR (numR (rawR (numR b 0) (uptoE b 0 65536) ((uptoV b 0 65536 : Nat) : Int)) (rawE (numR b 0) (uptoE b 0 65536) ((uptoV b 0 65536 : Nat) : Int))) (uptoE (rawR (numR b 0) (uptoE b 0 65536) ((uptoV b 0 65536 : Nat) : Int)) (rawE (numR b 0) (uptoE b 0 65536) ((uptoV b 0 65536 : Nat) : Int)) 65536) ((uptoV (rawR (numR b 0) (uptoE b 0 65536) ((uptoV b 0 65536 : Nat) : Int)) (rawE (numR b 0) (uptoE b 0 65536) ((uptoV b 0 65536 : Nat) : Int)) 65536 : Nat) : Int)) (rawE (numR (rawR (numR b 0) (uptoE b 0 65536) ((uptoV b 0 65536 : Nat) : Int)) (rawE (numR b 0) (uptoE b 0 65536) ((uptoV b 0 65536 : Nat) : Int))) (uptoE (rawR (numR b 0) (uptoE b 0 65536) ((uptoV b 0 65536 : Nat) : Int)) (rawE (numR b 0) (uptoE b 0 65536) ((uptoV b 0 65536 : Nat) : Int)) 65536) ((uptoV (rawR (numR b 0) (uptoE b 0 65536) ((uptoV b 0 65536 : Nat) : Int)) (rawE (numR b 0) (uptoE b 0 65536) ((uptoV b 0 65536 : Nat) : Int)) 65536 : Nat) : Int)))) (wantAll rfl) (rv_assign rfl (fr_eval rfl rfl)) ?_
  refine lf_nil ?_
  refine then_n ?_
  refine wp_seq ?_
  refine wp_gen (fun F' => F' 0 = v ∧ F' 2 = .pointer (some ⟨g1, 0, none⟩) ∧ F' 3 = .int .i64 0 ∧ F' 4 = .pointer (some ⟨g2, 0, none⟩) ∧ F' 5 = y1 ∧ F' 6 = y2 ∧ F' 7 = .int .i64 (doneE (rawR (numR (rawR (numR b 0) (uptoE b 0 65536) ((uptoV b 0 65536 : Nat) : Int)) (rawE (numR b 0) (uptoE b 0 65536) ((uptoV b 0 65536 : Nat) : Int))) (uptoE (rawR (numR b 0) (uptoE b 0 65536) ((uptoV b 0 65536 : Nat) : Int)) (rawE (numR b 0) (uptoE b 0 65536) ((uptoV b 0 65536 : Nat) : Int)) 65536) ((uptoV (rawR (numR b 0) (uptoE b 0 65536) ((uptoV b 0 65536 : Nat) : Int)) (rawE (numR b 0) (uptoE b 0 65536) ((uptoV b 0 65536 : Nat) : Int)) 65536 : Nat) : Int)) (rawE (numR (rawR (numR b 0) (uptoE b 0 65536) ((uptoV b 0 65536 : Nat) : Int)) (rawE (numR b 0) (uptoE b 0 65536) ((uptoV b 0 65536 : Nat) : Int))) (uptoE (rawR (numR b 0) (uptoE b 0 65536) ((uptoV b 0 65536 : Nat) : Int)) (rawE (numR b 0) (uptoE b 0 65536) ((uptoV b 0 65536 : Nat) : Int)) 65536) ((uptoV (rawR (numR b 0) (uptoE b 0 65536) ((uptoV b 0 65536 : Nat) : Int)) (rawE (numR b 0) (uptoE b 0 65536) ((uptoV b 0 65536 : Nat) : Int)) 65536 : Nat) : Int)))) ⟨e0, e2, e3, e4, e5, e6, rfl⟩ ?_
  clear e0 e2 e3 e4 e5 e6
  clear F
  rintro F ⟨e0, e2, e3, e4, e5, e6, e7⟩
  refine wp_regionF ?_
  refine lf_val (v := .int .i64 (doneE (rawR (numR (rawR (numR b 0) (uptoE b 0 65536) ((uptoV b 0 65536 : Nat) : Int)) (rawE (numR b 0) (uptoE b 0 65536) ((uptoV b 0 65536 : Nat) : Int))) (uptoE (rawR (numR b 0) (uptoE b 0 65536) ((uptoV b 0 65536 : Nat) : Int)) (rawE (numR b 0) (uptoE b 0 65536) ((uptoV b 0 65536 : Nat) : Int)) 65536) ((uptoV (rawR (numR b 0) (uptoE b 0 65536) ((uptoV b 0 65536 : Nat) : Int)) (rawE (numR b 0) (uptoE b 0 65536) ((uptoV b 0 65536 : Nat) : Int)) 65536 : Nat) : Int)) (rawE (numR (rawR (numR b 0) (uptoE b 0 65536) ((uptoV b 0 65536 : Nat) : Int)) (rawE (numR b 0) (uptoE b 0 65536) ((uptoV b 0 65536 : Nat) : Int))) (uptoE (rawR (numR b 0) (uptoE b 0 65536) ((uptoV b 0 65536 : Nat) : Int)) (rawE (numR b 0) (uptoE b 0 65536) ((uptoV b 0 65536 : Nat) : Int)) 65536) ((uptoV (rawR (numR b 0) (uptoE b 0 65536) ((uptoV b 0 65536 : Nat) : Int)) (rawE (numR b 0) (uptoE b 0 65536) ((uptoV b 0 65536 : Nat) : Int)) 65536 : Nat) : Int)))) (wantAll rfl) (rv_move rfl (fr_eval rfl e7)) ?_
  by_cases hc1 : doneE (rawR (numR (rawR (numR b 0) (uptoE b 0 65536) ((uptoV b 0 65536 : Nat) : Int)) (rawE (numR b 0) (uptoE b 0 65536) ((uptoV b 0 65536 : Nat) : Int))) (uptoE (rawR (numR b 0) (uptoE b 0 65536) ((uptoV b 0 65536 : Nat) : Int)) (rawE (numR b 0) (uptoE b 0 65536) ((uptoV b 0 65536 : Nat) : Int)) 65536) ((uptoV (rawR (numR b 0) (uptoE b 0 65536) ((uptoV b 0 65536 : Nat) : Int)) (rawE (numR b 0) (uptoE b 0 65536) ((uptoV b 0 65536 : Nat) : Int)) 65536 : Nat) : Int)) (rawE (numR (rawR (numR b 0) (uptoE b 0 65536) ((uptoV b 0 65536 : Nat) : Int)) (rawE (numR b 0) (uptoE b 0 65536) ((uptoV b 0 65536 : Nat) : Int))) (uptoE (rawR (numR b 0) (uptoE b 0 65536) ((uptoV b 0 65536 : Nat) : Int)) (rawE (numR b 0) (uptoE b 0 65536) ((uptoV b 0 65536 : Nat) : Int)) 65536) ((uptoV (rawR (numR b 0) (uptoE b 0 65536) ((uptoV b 0 65536 : Nat) : Int)) (rawE (numR b 0) (uptoE b 0 65536) ((uptoV b 0 65536 : Nat) : Int)) 65536 : Nat) : Int)) = 0
  · refine lf_val (v := .bool false) (wantAll rfl) (rv_neq rfl (fr_eval rfl rfl) rfl (decide_eq_true (by omega))) ?_
    refine lf_nil ?_
    refine then_n ?_
    refine wp_gen (fun F' => F' 0 = v ∧ F' 2 = .pointer (some ⟨g1, 0, none⟩) ∧ F' 3 = .int .i64 0 ∧ F' 4 = .pointer (some ⟨g2, 0, none⟩) ∧ F' 5 = y1 ∧ F' 6 = y2 ∧ F' 7 = .int .i64 (doneE (rawR (numR (rawR (numR b 0) (uptoE b 0 65536) ((uptoV b 0 65536 : Nat) : Int)) (rawE (numR b 0) (uptoE b 0 65536) ((uptoV b 0 65536 : Nat) : Int))) (uptoE (rawR (numR b 0) (uptoE b 0 65536) ((uptoV b 0 65536 : Nat) : Int)) (rawE (numR b 0) (uptoE b 0 65536) ((uptoV b 0 65536 : Nat) : Int)) 65536) ((uptoV (rawR (numR b 0) (uptoE b 0 65536) ((uptoV b 0 65536 : Nat) : Int)) (rawE (numR b 0) (uptoE b 0 65536) ((uptoV b 0 65536 : Nat) : Int)) 65536 : Nat) : Int)) (rawE (numR (rawR (numR b 0) (uptoE b 0 65536) ((uptoV b 0 65536 : Nat) : Int)) (rawE (numR b 0) (uptoE b 0 65536) ((uptoV b 0 65536 : Nat) : Int))) (uptoE (rawR (numR b 0) (uptoE b 0 65536) ((uptoV b 0 65536 : Nat) : Int)) (rawE (numR b 0) (uptoE b 0 65536) ((uptoV b 0 65536 : Nat) : Int)) 65536) ((uptoV (rawR (numR b 0) (uptoE b 0 65536) ((uptoV b 0 65536 : Nat) : Int)) (rawE (numR b 0) (uptoE b 0 65536) ((uptoV b 0 65536 : Nat) : Int)) 65536 : Nat) : Int))) ∧ F' 19 = .bool false) ⟨e0, e2, e3, e4, e5, e6, e7, rfl⟩ ?_
    clear e0 e2 e3 e4 e5 e6 e7
    clear F
    rintro F ⟨e0, e2, e3, e4, e5, e6, e7, e19⟩
    refine wp_cond_false (fr_eval rfl e19) ?_
    refine wp_skip ?_
    refine then_n ?_
    refine wp_seq ?_
    refine wp_regionF ?_
    refine lf_val (v := y1) (wantAll rfl) (rv_move rfl (fr_eval rfl e5)) ?_
    refine lf_call (wantAll rfl) (rv_call (args := [y1]) rfl (evc (fr_eval rfl rfl) evn) Try.call31) (rcRead_calls (rawV (numR b 0) (uptoE b 0 65536) ((uptoV b 0 65536 : Nat) : Int)) (by have h0 := (show doneE (gg2 b) (kk2 b) = 0 by assumption); have := (text_form (text_form (done_form h0).1).1).2.2; have : ((tt1 b).length : Int) ≤ 65536 := this; show (tt1 b).length ≤ _; omega) _ _ (OwnB.rd (hH.own (i := 2) rfl))) ?_
    rintro _ w6 ⟨⟨rr_t24, re_t24, rfl, hR_rr_t24⟩, hx⟩
    refine ⟨_, rfl, ?_⟩
    replace hH := hH.ext hx
    clear hx
    refine lf_val (v := .tuple #[.agg (([.int .i64 rr_t24.t, .int .i64 rr_t24.c, .int .i64 rr_t24.s] : List Value) ++ (cBs rr_t24.h.1 ++ cBs rr_t24.b.1)).toArray, .int .i64 re_t24]) (wantAll rfl) (rv_move rfl (fr_eval rfl rfl)) ?_
    refine lf_val (v := .agg (([.int .i64 rr_t24.t, .int .i64 rr_t24.c, .int .i64 rr_t24.s] : List Value) ++ (cBs rr_t24.h.1 ++ cBs rr_t24.b.1)).toArray) (wantAll rfl) (rv_extract rfl (fr_eval rfl rfl) rfl) ?_
    refine lf_val (v := .int .i64 re_t24) (wantAll rfl) (rv_extract rfl (fr_eval rfl rfl) rfl) ?_
    refine lf_ex (wantAll rfl) (hx_alloc hH 54 (z := .agg (([.int .i64 0, .int .i64 0, .int .i64 0] : List Value) ++ (cBs (List.replicate 32 0) ++ cBs (List.replicate 32 0))).toArray) (n := 67) (cs := ([.int .i64 0, .int .i64 0, .int .i64 0] : List Value) ++ (cBs (List.replicate 32 0) ++ cBs (List.replicate 32 0))) rfl (by kernel_rfl) (by rfl)) ?_
    clear hH
    rintro _ w7 ⟨g3, rfl, hH, hx⟩
    replace hH : Heap (newN w) w w7 [oBlk g1 (([.int .i64 0, .int .i64 0, .int .i64 0] : List Value) ++ (cBs (List.replicate 32 0) ++ (cBs (List.replicate 32 0) ++ ([.slice none 0 0] : List Value)))) 61, oEye g2 z1 (rawR (numR (rawR (numR b 0) (uptoE b 0 65536) ((uptoV b 0 65536 : Nat) : Int)) (rawE (numR b 0) (uptoE b 0 65536) ((uptoV b 0 65536 : Nat) : Int))) (uptoE (rawR (numR b 0) (uptoE b 0 65536) ((uptoV b 0 65536 : Nat) : Int)) (rawE (numR b 0) (uptoE b 0 65536) ((uptoV b 0 65536 : Nat) : Int)) 65536) ((uptoV (rawR (numR b 0) (uptoE b 0 65536) ((uptoV b 0 65536 : Nat) : Int)) (rawE (numR b 0) (uptoE b 0 65536) ((uptoV b 0 65536 : Nat) : Int)) 65536 : Nat) : Int)) (doneE (rawR (numR (rawR (numR b 0) (uptoE b 0 65536) ((uptoV b 0 65536 : Nat) : Int)) (rawE (numR b 0) (uptoE b 0 65536) ((uptoV b 0 65536 : Nat) : Int))) (uptoE (rawR (numR b 0) (uptoE b 0 65536) ((uptoV b 0 65536 : Nat) : Int)) (rawE (numR b 0) (uptoE b 0 65536) ((uptoV b 0 65536 : Nat) : Int)) 65536) ((uptoV (rawR (numR b 0) (uptoE b 0 65536) ((uptoV b 0 65536 : Nat) : Int)) (rawE (numR b 0) (uptoE b 0 65536) ((uptoV b 0 65536 : Nat) : Int)) 65536 : Nat) : Int)) (rawE (numR (rawR (numR b 0) (uptoE b 0 65536) ((uptoV b 0 65536 : Nat) : Int)) (rawE (numR b 0) (uptoE b 0 65536) ((uptoV b 0 65536 : Nat) : Int))) (uptoE (rawR (numR b 0) (uptoE b 0 65536) ((uptoV b 0 65536 : Nat) : Int)) (rawE (numR b 0) (uptoE b 0 65536) ((uptoV b 0 65536 : Nat) : Int)) 65536) ((uptoV (rawR (numR b 0) (uptoE b 0 65536) ((uptoV b 0 65536 : Nat) : Int)) (rawE (numR b 0) (uptoE b 0 65536) ((uptoV b 0 65536 : Nat) : Int)) 65536 : Nat) : Int))), oB y1 (rawV (numR b 0) (uptoE b 0 65536) ((uptoV b 0 65536 : Nat) : Int)), oB y2 (rawV (numR (rawR (numR b 0) (uptoE b 0 65536) ((uptoV b 0 65536 : Nat) : Int)) (rawE (numR b 0) (uptoE b 0 65536) ((uptoV b 0 65536 : Nat) : Int))) (uptoE (rawR (numR b 0) (uptoE b 0 65536) ((uptoV b 0 65536 : Nat) : Int)) (rawE (numR b 0) (uptoE b 0 65536) ((uptoV b 0 65536 : Nat) : Int)) 65536) ((uptoV (rawR (numR b 0) (uptoE b 0 65536) ((uptoV b 0 65536 : Nat) : Int)) (rawE (numR b 0) (uptoE b 0 65536) ((uptoV b 0 65536 : Nat) : Int)) 65536 : Nat) : Int)), oBlk g3 (([.int .i64 0, .int .i64 0, .int .i64 0] : List Value) ++ (cBs (List.replicate 32 0) ++ cBs (List.replicate 32 0))) 54] := hH
    clear hx
    refine lf_sk (wantAll rfl) (hx_storeW hH (i := 4) (cs := ([.int .i64 rr_t24.t, .int .i64 rr_t24.c, .int .i64 rr_t24.s] : List Value) ++ (cBs rr_t24.h.1 ++ cBs rr_t24.b.1)) rfl rfl rfl (fr_eval rfl rfl) (fr_eval rfl rfl) (sz_len Try.sz54 (len_app (m := 3) (n := 64) (k := 67) rfl (len_app (m := 32) (n := 32) (k := 64) (cBs_len rr_t24.h.2) (cBs_len rr_t24.b.2) rfl) rfl)) (((len_app (m := 3) (n := 64) (k := 67) rfl (len_app (m := 32) (n := 32) (k := 64) (cBs_len (List.length_replicate ..)) (cBs_len (List.length_replicate ..)) rfl) rfl)).trans ((len_app (m := 3) (n := 64) (k := 67) rfl (len_app (m := 32) (n := 32) (k := 64) (cBs_len rr_t24.h.2) (cBs_len rr_t24.b.2) rfl) rfl)).symm) ((ones_app (ones_cons rfl (ones_cons rfl (ones_cons rfl ones_nil))) (ones_app (cBs_one _) (cBs_one _))))) ?_
    clear hH
    rintro w8 ⟨hH, hx⟩
    replace hH : Heap (newN w) w w8 [oBlk g1 (([.int .i64 0, .int .i64 0, .int .i64 0] : List Value) ++ (cBs (List.replicate 32 0) ++ (cBs (List.replicate 32 0) ++ ([.slice none 0 0] : List Value)))) 61, oEye g2 z1 (rawR (numR (rawR (numR b 0) (uptoE b 0 65536) ((uptoV b 0 65536 : Nat) : Int)) (rawE (numR b 0) (uptoE b 0 65536) ((uptoV b 0 65536 : Nat) : Int))) (uptoE (rawR (numR b 0) (uptoE b 0 65536) ((uptoV b 0 65536 : Nat) : Int)) (rawE (numR b 0) (uptoE b 0 65536) ((uptoV b 0 65536 : Nat) : Int)) 65536) ((uptoV (rawR (numR b 0) (uptoE b 0 65536) ((uptoV b 0 65536 : Nat) : Int)) (rawE (numR b 0) (uptoE b 0 65536) ((uptoV b 0 65536 : Nat) : Int)) 65536 : Nat) : Int)) (doneE (rawR (numR (rawR (numR b 0) (uptoE b 0 65536) ((uptoV b 0 65536 : Nat) : Int)) (rawE (numR b 0) (uptoE b 0 65536) ((uptoV b 0 65536 : Nat) : Int))) (uptoE (rawR (numR b 0) (uptoE b 0 65536) ((uptoV b 0 65536 : Nat) : Int)) (rawE (numR b 0) (uptoE b 0 65536) ((uptoV b 0 65536 : Nat) : Int)) 65536) ((uptoV (rawR (numR b 0) (uptoE b 0 65536) ((uptoV b 0 65536 : Nat) : Int)) (rawE (numR b 0) (uptoE b 0 65536) ((uptoV b 0 65536 : Nat) : Int)) 65536 : Nat) : Int)) (rawE (numR (rawR (numR b 0) (uptoE b 0 65536) ((uptoV b 0 65536 : Nat) : Int)) (rawE (numR b 0) (uptoE b 0 65536) ((uptoV b 0 65536 : Nat) : Int))) (uptoE (rawR (numR b 0) (uptoE b 0 65536) ((uptoV b 0 65536 : Nat) : Int)) (rawE (numR b 0) (uptoE b 0 65536) ((uptoV b 0 65536 : Nat) : Int)) 65536) ((uptoV (rawR (numR b 0) (uptoE b 0 65536) ((uptoV b 0 65536 : Nat) : Int)) (rawE (numR b 0) (uptoE b 0 65536) ((uptoV b 0 65536 : Nat) : Int)) 65536 : Nat) : Int))), oB y1 (rawV (numR b 0) (uptoE b 0 65536) ((uptoV b 0 65536 : Nat) : Int)), oB y2 (rawV (numR (rawR (numR b 0) (uptoE b 0 65536) ((uptoV b 0 65536 : Nat) : Int)) (rawE (numR b 0) (uptoE b 0 65536) ((uptoV b 0 65536 : Nat) : Int))) (uptoE (rawR (numR b 0) (uptoE b 0 65536) ((uptoV b 0 65536 : Nat) : Int)) (rawE (numR b 0) (uptoE b 0 65536) ((uptoV b 0 65536 : Nat) : Int)) 65536) ((uptoV (rawR (numR b 0) (uptoE b 0 65536) ((uptoV b 0 65536 : Nat) : Int)) (rawE (numR b 0) (uptoE b 0 65536) ((uptoV b 0 65536 : Nat) : Int)) 65536 : Nat) : Int)), oBlk g3 (([.int .i64 rr_t24.t, .int .i64 rr_t24.c, .int .i64 rr_t24.s] : List Value) ++ (cBs rr_t24.h.1 ++ cBs rr_t24.b.1)) 54] := hH
    clear hx
    refine lf_val (v := .int .i64 re_t24) (wantAll rfl) (rv_assign rfl (fr_eval rfl rfl)) ?_
    refine lf_nil ?_
    refine then_n ?_
    refine wp_seq ?_
    refine wp_seq ?_
    refine wp_gen (fun F' => F' 0 = v ∧ F' 2 = .pointer (some ⟨g1, 0, none⟩) ∧ F' 3 = .int .i64 0 ∧ F' 4 = .pointer (some ⟨g2, 0, none⟩) ∧ F' 5 = y1 ∧ F' 6 = y2 ∧ F' 7 = .int .i64 (doneE (rawR (numR (rawR (numR b 0) (uptoE b 0 65536) ((uptoV b 0 65536 : Nat) : Int)) (rawE (numR b 0) (uptoE b 0 65536) ((uptoV b 0 65536 : Nat) : Int))) (uptoE (rawR (numR b 0) (uptoE b 0 65536) ((uptoV b 0 65536 : Nat) : Int)) (rawE (numR b 0) (uptoE b 0 65536) ((uptoV b 0 65536 : Nat) : Int)) 65536) ((uptoV (rawR (numR b 0) (uptoE b 0 65536) ((uptoV b 0 65536 : Nat) : Int)) (rawE (numR b 0) (uptoE b 0 65536) ((uptoV b 0 65536 : Nat) : Int)) 65536 : Nat) : Int)) (rawE (numR (rawR (numR b 0) (uptoE b 0 65536) ((uptoV b 0 65536 : Nat) : Int)) (rawE (numR b 0) (uptoE b 0 65536) ((uptoV b 0 65536 : Nat) : Int))) (uptoE (rawR (numR b 0) (uptoE b 0 65536) ((uptoV b 0 65536 : Nat) : Int)) (rawE (numR b 0) (uptoE b 0 65536) ((uptoV b 0 65536 : Nat) : Int)) 65536) ((uptoV (rawR (numR b 0) (uptoE b 0 65536) ((uptoV b 0 65536 : Nat) : Int)) (rawE (numR b 0) (uptoE b 0 65536) ((uptoV b 0 65536 : Nat) : Int)) 65536 : Nat) : Int))) ∧ F' 8 = .pointer (some ⟨g3, 0, none⟩) ∧ F' 9 = .int .i64 re_t24 ∧ F' 19 = .bool false) ⟨e0, e2, e3, e4, e5, e6, e7, rfl, rfl, e19⟩ ?_
    clear e0 e2 e3 e4 e5 e6 e7 e19
    clear F
    rintro F ⟨e0, e2, e3, e4, e5, e6, e7, e8, e9, e19⟩
    refine wp_regionF ?_
    refine lf_val (v := .int .i64 re_t24) (wantAll rfl) (rv_move rfl (fr_eval rfl e9)) ?_
    by_cases hc2 : re_t24 = 0
    · refine lf_val (v := .bool false) (wantAll rfl) (rv_neq rfl (fr_eval rfl rfl) rfl (decide_eq_true (by omega))) ?_
      refine lf_nil ?_
      refine then_n ?_
      refine wp_gen (fun F' => F' 0 = v ∧ F' 2 = .pointer (some ⟨g1, 0, none⟩) ∧ F' 3 = .int .i64 0 ∧ F' 4 = .pointer (some ⟨g2, 0, none⟩) ∧ F' 5 = y1 ∧ F' 6 = y2 ∧ F' 7 = .int .i64 (doneE (rawR (numR (rawR (numR b 0) (uptoE b 0 65536) ((uptoV b 0 65536 : Nat) : Int)) (rawE (numR b 0) (uptoE b 0 65536) ((uptoV b 0 65536 : Nat) : Int))) (uptoE (rawR (numR b 0) (uptoE b 0 65536) ((uptoV b 0 65536 : Nat) : Int)) (rawE (numR b 0) (uptoE b 0 65536) ((uptoV b 0 65536 : Nat) : Int)) 65536) ((uptoV (rawR (numR b 0) (uptoE b 0 65536) ((uptoV b 0 65536 : Nat) : Int)) (rawE (numR b 0) (uptoE b 0 65536) ((uptoV b 0 65536 : Nat) : Int)) 65536 : Nat) : Int)) (rawE (numR (rawR (numR b 0) (uptoE b 0 65536) ((uptoV b 0 65536 : Nat) : Int)) (rawE (numR b 0) (uptoE b 0 65536) ((uptoV b 0 65536 : Nat) : Int))) (uptoE (rawR (numR b 0) (uptoE b 0 65536) ((uptoV b 0 65536 : Nat) : Int)) (rawE (numR b 0) (uptoE b 0 65536) ((uptoV b 0 65536 : Nat) : Int)) 65536) ((uptoV (rawR (numR b 0) (uptoE b 0 65536) ((uptoV b 0 65536 : Nat) : Int)) (rawE (numR b 0) (uptoE b 0 65536) ((uptoV b 0 65536 : Nat) : Int)) 65536 : Nat) : Int))) ∧ F' 8 = .pointer (some ⟨g3, 0, none⟩) ∧ F' 9 = .int .i64 re_t24 ∧ F' 19 = .bool false ∧ F' 28 = .bool false) ⟨e0, e2, e3, e4, e5, e6, e7, e8, e9, e19, rfl⟩ ?_
      clear e0 e2 e3 e4 e5 e6 e7 e8 e9 e19
      clear F
      rintro F ⟨e0, e2, e3, e4, e5, e6, e7, e8, e9, e19, e28⟩
      refine wp_cond_false (fr_eval rfl e28) ?_
      refine wp_skip ?_
      refine then_n ?_
      refine wp_seq ?_
      refine wp_regionF ?_
      refine lf_val (v := .agg (([.int .i64 rr_t24.t, .int .i64 rr_t24.c, .int .i64 rr_t24.s] : List Value) ++ (cBs rr_t24.h.1 ++ cBs rr_t24.b.1)).toArray) (wantAll rfl) (rv_loadW rfl (hH.blk (i := 4) rfl) (fr_eval rfl e8) Try.underlying54 rfl (sz_len Try.sz54 (len_app (m := 3) (n := 64) (k := 67) rfl (len_app (m := 32) (n := 32) (k := 64) (cBs_len rr_t24.h.2) (cBs_len rr_t24.b.2) rfl) rfl))) ?_
      refine lf_val (v := y2) (wantAll rfl) (rv_move rfl (fr_eval rfl e6)) ?_
      refine lf_val (v := .agg (([.int .i64 rr_t24.t, .int .i64 rr_t24.c, .int .i64 rr_t24.s] : List Value) ++ (cBs rr_t24.h.1 ++ (cBs rr_t24.b.1 ++ ([y2] : List Value)))).toArray) (wantAll rfl) (rv_buildS (ps := [(0, (.tmp 31)), (1, (.tmp 32))]) (places := #[(0, 67), (67, 1)]) (z := .agg (([.int .i64 0, .int .i64 0, .int .i64 0] : List Value) ++ (cBs (List.replicate 32 0) ++ (cBs (List.replicate 32 0) ++ ([.slice none 0 0] : List Value)))).toArray) (zc := ([.int .i64 0, .int .i64 0, .int .i64 0] : List Value) ++ (cBs (List.replicate 32 0) ++ (cBs (List.replicate 32 0) ++ ([.slice none 0 0] : List Value)))) (cs := ([.int .i64 rr_t24.t, .int .i64 rr_t24.c, .int .i64 rr_t24.s] : List Value) ++ (cBs rr_t24.h.1 ++ (cBs rr_t24.b.1 ++ ([y2] : List Value)))) rfl (evpc (fr_eval rfl rfl) (evpc (fr_eval rfl rfl) evpn)) (by kernel_rfl) rfl Try.underlying61 (fun _ => by kernel_rfl) (fillM (cells' := ([.int .i64 rr_t24.t, .int .i64 rr_t24.c, .int .i64 rr_t24.s] : List Value) ++ (cBs rr_t24.h.1 ++ (cBs rr_t24.b.1 ++ ([.slice none 0 0] : List Value)))) (cs := ([.int .i64 rr_t24.t, .int .i64 rr_t24.c, .int .i64 rr_t24.s] : List Value) ++ (cBs rr_t24.h.1 ++ cBs rr_t24.b.1)) (off := 0) (n := 67) rfl (cells_agg _) (len_app (m := 3) (n := 64) (k := 67) rfl (len_app (m := 32) (n := 32) (k := 64) (cBs_len rr_t24.h.2) (cBs_len rr_t24.b.2) rfl) rfl) (le_of_len2 (len_app (m := 3) (n := 65) (k := 68) rfl (len_app (m := 32) (n := 33) (k := 65) (cBs_len (List.length_replicate ..)) (len_app (m := 32) (n := 1) (k := 33) (cBs_len (List.length_replicate ..)) rfl rfl) rfl) rfl) (by decide)) (lay_of (cur := ([.int .i64 0, .int .i64 0, .int .i64 0] : List Value) ++ (cBs (List.replicate 32 0) ++ (cBs (List.replicate 32 0) ++ ([.slice none 0 0] : List Value)))) (cs := ([.int .i64 rr_t24.t, .int .i64 rr_t24.c, .int .i64 rr_t24.s] : List Value) ++ (cBs rr_t24.h.1 ++ cBs rr_t24.b.1)) (cur' := ([.int .i64 rr_t24.t, .int .i64 rr_t24.c, .int .i64 rr_t24.s] : List Value) ++ (cBs rr_t24.h.1 ++ (cBs rr_t24.b.1 ++ ([.slice none 0 0] : List Value)))) (A := ([] : List Value)) (D := (([.int .i64 0, .int .i64 0, .int .i64 0] : List Value) ++ (cBs (List.replicate 32 0) ++ cBs (List.replicate 32 0)) : List Value)) (C := ([.slice none 0 0] : List Value)) (by simp only [List.append_assoc, List.cons_append, List.nil_append, List.append_nil]) (by simp only [List.append_assoc, List.cons_append, List.nil_append, List.append_nil]) (show List.length ([] : List Value) = 0 from rfl) ((len_app (m := 3) (n := 64) (k := 67) rfl (len_app (m := 32) (n := 32) (k := 64) (cBs_len (List.length_replicate ..)) (cBs_len (List.length_replicate ..)) rfl) rfl).trans (len_app (m := 3) (n := 64) (k := 67) rfl (len_app (m := 32) (n := 32) (k := 64) (cBs_len rr_t24.h.2) (cBs_len rr_t24.b.2) rfl) rfl).symm)) (fillM (cells' := ([.int .i64 rr_t24.t, .int .i64 rr_t24.c, .int .i64 rr_t24.s] : List Value) ++ (cBs rr_t24.h.1 ++ (cBs rr_t24.b.1 ++ ([y2] : List Value)))) (cs := [y2]) (off := 67) (n := 1) rfl (cells_one (Rd.oneV (OwnB.rd (hH.own (i := 3) rfl)))) (show List.length [y2] = 1 from rfl) (le_of_len2 (len_app (m := 3) (n := 65) (k := 68) rfl (len_app (m := 32) (n := 33) (k := 65) (cBs_len rr_t24.h.2) (len_app (m := 32) (n := 1) (k := 33) (cBs_len rr_t24.b.2) rfl rfl) rfl) rfl) (by decide)) (lay_of (cur := ([.int .i64 rr_t24.t, .int .i64 rr_t24.c, .int .i64 rr_t24.s] : List Value) ++ (cBs rr_t24.h.1 ++ (cBs rr_t24.b.1 ++ ([.slice none 0 0] : List Value)))) (cs := [y2]) (cur' := ([.int .i64 rr_t24.t, .int .i64 rr_t24.c, .int .i64 rr_t24.s] : List Value) ++ (cBs rr_t24.h.1 ++ (cBs rr_t24.b.1 ++ ([y2] : List Value)))) (A := (([.int .i64 rr_t24.t, .int .i64 rr_t24.c, .int .i64 rr_t24.s] : List Value) ++ (cBs rr_t24.h.1 ++ cBs rr_t24.b.1) : List Value)) (D := ([.slice none 0 0] : List Value)) (C := ([] : List Value)) (by simp only [List.append_assoc, List.cons_append, List.nil_append, List.append_nil]) (by simp only [List.append_assoc, List.cons_append, List.nil_append, List.append_nil]) (len_app (m := 3) (n := 64) (k := 67) rfl (len_app (m := 32) (n := 32) (k := 64) (cBs_len rr_t24.h.2) (cBs_len rr_t24.b.2) rfl) rfl) ((show List.length [.slice none 0 0] = 1 from rfl).trans (show List.length [y2] = 1 from rfl).symm)) fill0))) ?_
      refine lf_sk (wantAll rfl) (hx_storeW hH (i := 0) (cs := ([.int .i64 rr_t24.t, .int .i64 rr_t24.c, .int .i64 rr_t24.s] : List Value) ++ (cBs rr_t24.h.1 ++ (cBs rr_t24.b.1 ++ ([y2] : List Value)))) rfl rfl rfl (fr_eval rfl e2) (fr_eval rfl rfl) (sz_len Try.sz61 (len_app (m := 3) (n := 65) (k := 68) rfl (len_app (m := 32) (n := 33) (k := 65) (cBs_len rr_t24.h.2) (len_app (m := 32) (n := 1) (k := 33) (cBs_len rr_t24.b.2) rfl rfl) rfl) rfl)) (((len_app (m := 3) (n := 65) (k := 68) rfl (len_app (m := 32) (n := 33) (k := 65) (cBs_len (List.length_replicate ..)) (len_app (m := 32) (n := 1) (k := 33) (cBs_len (List.length_replicate ..)) rfl rfl) rfl) rfl)).trans ((len_app (m := 3) (n := 65) (k := 68) rfl (len_app (m := 32) (n := 33) (k := 65) (cBs_len rr_t24.h.2) (len_app (m := 32) (n := 1) (k := 33) (cBs_len rr_t24.b.2) rfl rfl) rfl) rfl)).symm) ((ones_app (ones_cons rfl (ones_cons rfl (ones_cons rfl ones_nil))) (ones_app (cBs_one _) (ones_app (cBs_one _) (ones_cons (Rd.oneV (OwnB.rd (hH.own (i := 3) rfl))) ones_nil)))))) ?_
      clear hH
      rintro w9 ⟨hH, hx⟩
      replace hH : Heap (newN w) w w9 [oBlk g1 (([.int .i64 rr_t24.t, .int .i64 rr_t24.c, .int .i64 rr_t24.s] : List Value) ++ (cBs rr_t24.h.1 ++ (cBs rr_t24.b.1 ++ ([y2] : List Value)))) 61, oEye g2 z1 (rawR (numR (rawR (numR b 0) (uptoE b 0 65536) ((uptoV b 0 65536 : Nat) : Int)) (rawE (numR b 0) (uptoE b 0 65536) ((uptoV b 0 65536 : Nat) : Int))) (uptoE (rawR (numR b 0) (uptoE b 0 65536) ((uptoV b 0 65536 : Nat) : Int)) (rawE (numR b 0) (uptoE b 0 65536) ((uptoV b 0 65536 : Nat) : Int)) 65536) ((uptoV (rawR (numR b 0) (uptoE b 0 65536) ((uptoV b 0 65536 : Nat) : Int)) (rawE (numR b 0) (uptoE b 0 65536) ((uptoV b 0 65536 : Nat) : Int)) 65536 : Nat) : Int)) (doneE (rawR (numR (rawR (numR b 0) (uptoE b 0 65536) ((uptoV b 0 65536 : Nat) : Int)) (rawE (numR b 0) (uptoE b 0 65536) ((uptoV b 0 65536 : Nat) : Int))) (uptoE (rawR (numR b 0) (uptoE b 0 65536) ((uptoV b 0 65536 : Nat) : Int)) (rawE (numR b 0) (uptoE b 0 65536) ((uptoV b 0 65536 : Nat) : Int)) 65536) ((uptoV (rawR (numR b 0) (uptoE b 0 65536) ((uptoV b 0 65536 : Nat) : Int)) (rawE (numR b 0) (uptoE b 0 65536) ((uptoV b 0 65536 : Nat) : Int)) 65536 : Nat) : Int)) (rawE (numR (rawR (numR b 0) (uptoE b 0 65536) ((uptoV b 0 65536 : Nat) : Int)) (rawE (numR b 0) (uptoE b 0 65536) ((uptoV b 0 65536 : Nat) : Int))) (uptoE (rawR (numR b 0) (uptoE b 0 65536) ((uptoV b 0 65536 : Nat) : Int)) (rawE (numR b 0) (uptoE b 0 65536) ((uptoV b 0 65536 : Nat) : Int)) 65536) ((uptoV (rawR (numR b 0) (uptoE b 0 65536) ((uptoV b 0 65536 : Nat) : Int)) (rawE (numR b 0) (uptoE b 0 65536) ((uptoV b 0 65536 : Nat) : Int)) 65536 : Nat) : Int))), oB y1 (rawV (numR b 0) (uptoE b 0 65536) ((uptoV b 0 65536 : Nat) : Int)), oB y2 (rawV (numR (rawR (numR b 0) (uptoE b 0 65536) ((uptoV b 0 65536 : Nat) : Int)) (rawE (numR b 0) (uptoE b 0 65536) ((uptoV b 0 65536 : Nat) : Int))) (uptoE (rawR (numR b 0) (uptoE b 0 65536) ((uptoV b 0 65536 : Nat) : Int)) (rawE (numR b 0) (uptoE b 0 65536) ((uptoV b 0 65536 : Nat) : Int)) 65536) ((uptoV (rawR (numR b 0) (uptoE b 0 65536) ((uptoV b 0 65536 : Nat) : Int)) (rawE (numR b 0) (uptoE b 0 65536) ((uptoV b 0 65536 : Nat) : Int)) 65536 : Nat) : Int)), oBlk g3 (([.int .i64 rr_t24.t, .int .i64 rr_t24.c, .int .i64 rr_t24.s] : List Value) ++ (cBs rr_t24.h.1 ++ cBs rr_t24.b.1)) 54] := hH
      clear hx
      refine lf_val (v := .int .i64 0) (wantAll rfl) (rv_assign rfl rfl) ?_
      refine lf_nil ?_
      refine then_n ?_
      refine wp_gen (fun F' => F' 0 = v ∧ F' 2 = .pointer (some ⟨g1, 0, none⟩) ∧ F' 3 = .int .i64 0 ∧ F' 4 = .pointer (some ⟨g2, 0, none⟩) ∧ F' 5 = y1 ∧ F' 6 = y2 ∧ F' 7 = .int .i64 (doneE (rawR (numR (rawR (numR b 0) (uptoE b 0 65536) ((uptoV b 0 65536 : Nat) : Int)) (rawE (numR b 0) (uptoE b 0 65536) ((uptoV b 0 65536 : Nat) : Int))) (uptoE (rawR (numR b 0) (uptoE b 0 65536) ((uptoV b 0 65536 : Nat) : Int)) (rawE (numR b 0) (uptoE b 0 65536) ((uptoV b 0 65536 : Nat) : Int)) 65536) ((uptoV (rawR (numR b 0) (uptoE b 0 65536) ((uptoV b 0 65536 : Nat) : Int)) (rawE (numR b 0) (uptoE b 0 65536) ((uptoV b 0 65536 : Nat) : Int)) 65536 : Nat) : Int)) (rawE (numR (rawR (numR b 0) (uptoE b 0 65536) ((uptoV b 0 65536 : Nat) : Int)) (rawE (numR b 0) (uptoE b 0 65536) ((uptoV b 0 65536 : Nat) : Int))) (uptoE (rawR (numR b 0) (uptoE b 0 65536) ((uptoV b 0 65536 : Nat) : Int)) (rawE (numR b 0) (uptoE b 0 65536) ((uptoV b 0 65536 : Nat) : Int)) 65536) ((uptoV (rawR (numR b 0) (uptoE b 0 65536) ((uptoV b 0 65536 : Nat) : Int)) (rawE (numR b 0) (uptoE b 0 65536) ((uptoV b 0 65536 : Nat) : Int)) 65536 : Nat) : Int))) ∧ F' 8 = .pointer (some ⟨g3, 0, none⟩) ∧ F' 9 = .int .i64 re_t24 ∧ F' 19 = .bool false ∧ F' 28 = .bool false) ⟨e0, e2, rfl, e4, e5, e6, e7, e8, e9, e19, e28⟩ ?_
      clear e0 e2 e3 e4 e5 e6 e7 e8 e9 e19 e28
      clear F
      rintro F ⟨e0, e2, e3, e4, e5, e6, e7, e8, e9, e19, e28⟩
      refine wp_ret ?_
      exact bodyPost_ret (v := .tuple #[.agg (([.int .i64 rr_t24.t, .int .i64 rr_t24.c, .int .i64 rr_t24.s] : List Value) ++ (cBs rr_t24.h.1 ++ (cBs rr_t24.b.1 ++ ([y2] : List Value)))).toArray, .int .i64 0]) (res2 rfl (ro_cell rfl e2 (hH.blk (i := 0) rfl) Try.underlying61 rfl (sz_len Try.sz61 (len_app (m := 3) (n := 65) (k := 68) rfl (len_app (m := 32) (n := 33) (k := 65) (cBs_len rr_t24.h.2) (len_app (m := 32) (n := 1) (k := 33) (cBs_len rr_t24.b.2) rfl rfl) rfl) rfl))) (ro_tmp rfl e3)) rfl (⟨⟨rr_t24, _, _, 0, rfl, get_ok (by assumption) hR_rr_t24 (by assumption), hH.own (i := 3) rfl, hH.ge (i := 3) rfl⟩, hH.done⟩)
    · refine lf_val (v := .bool true) (wantAll rfl) (rv_neq rfl (fr_eval rfl rfl) rfl (decide_eq_false (by omega))) ?_
      refine lf_nil ?_
      refine then_n ?_
      refine wp_gen (fun F' => F' 0 = v ∧ F' 2 = .pointer (some ⟨g1, 0, none⟩) ∧ F' 3 = .int .i64 0 ∧ F' 4 = .pointer (some ⟨g2, 0, none⟩) ∧ F' 5 = y1 ∧ F' 6 = y2 ∧ F' 7 = .int .i64 (doneE (rawR (numR (rawR (numR b 0) (uptoE b 0 65536) ((uptoV b 0 65536 : Nat) : Int)) (rawE (numR b 0) (uptoE b 0 65536) ((uptoV b 0 65536 : Nat) : Int))) (uptoE (rawR (numR b 0) (uptoE b 0 65536) ((uptoV b 0 65536 : Nat) : Int)) (rawE (numR b 0) (uptoE b 0 65536) ((uptoV b 0 65536 : Nat) : Int)) 65536) ((uptoV (rawR (numR b 0) (uptoE b 0 65536) ((uptoV b 0 65536 : Nat) : Int)) (rawE (numR b 0) (uptoE b 0 65536) ((uptoV b 0 65536 : Nat) : Int)) 65536 : Nat) : Int)) (rawE (numR (rawR (numR b 0) (uptoE b 0 65536) ((uptoV b 0 65536 : Nat) : Int)) (rawE (numR b 0) (uptoE b 0 65536) ((uptoV b 0 65536 : Nat) : Int))) (uptoE (rawR (numR b 0) (uptoE b 0 65536) ((uptoV b 0 65536 : Nat) : Int)) (rawE (numR b 0) (uptoE b 0 65536) ((uptoV b 0 65536 : Nat) : Int)) 65536) ((uptoV (rawR (numR b 0) (uptoE b 0 65536) ((uptoV b 0 65536 : Nat) : Int)) (rawE (numR b 0) (uptoE b 0 65536) ((uptoV b 0 65536 : Nat) : Int)) 65536 : Nat) : Int))) ∧ F' 8 = .pointer (some ⟨g3, 0, none⟩) ∧ F' 9 = .int .i64 re_t24 ∧ F' 19 = .bool false ∧ F' 28 = .bool true) ⟨e0, e2, e3, e4, e5, e6, e7, e8, e9, e19, rfl⟩ ?_
      clear e0 e2 e3 e4 e5 e6 e7 e8 e9 e19
      clear F
      rintro F ⟨e0, e2, e3, e4, e5, e6, e7, e8, e9, e19, e28⟩
      refine wp_cond_true (fr_eval rfl e28) ?_
      refine wp_seq ?_
      refine wp_regionF ?_
      refine lf_val (v := .agg (([.int .i64 0, .int .i64 0, .int .i64 0] : List Value) ++ (cBs (List.replicate 32 0) ++ (cBs (List.replicate 32 0) ++ ([.slice none 0 0] : List Value)))).toArray) (wantAll rfl) (rv_buildS (ps := []) (places := #[(0, 67), (67, 1)]) (z := .agg (([.int .i64 0, .int .i64 0, .int .i64 0] : List Value) ++ (cBs (List.replicate 32 0) ++ (cBs (List.replicate 32 0) ++ ([.slice none 0 0] : List Value)))).toArray) (zc := ([.int .i64 0, .int .i64 0, .int .i64 0] : List Value) ++ (cBs (List.replicate 32 0) ++ (cBs (List.replicate 32 0) ++ ([.slice none 0 0] : List Value)))) (cs := ([.int .i64 0, .int .i64 0, .int .i64 0] : List Value) ++ (cBs (List.replicate 32 0) ++ (cBs (List.replicate 32 0) ++ ([.slice none 0 0] : List Value)))) rfl evpn (by kernel_rfl) rfl Try.underlying61 (fun _ => by kernel_rfl) fill0) ?_
      refine lf_val (v := .int .i64 re_t24) (wantAll rfl) (rv_move rfl (fr_eval rfl e9)) ?_
      refine lf_sk (wantAll rfl) (hx_storeW hH (i := 0) (cs := ([.int .i64 0, .int .i64 0, .int .i64 0] : List Value) ++ (cBs (List.replicate 32 0) ++ (cBs (List.replicate 32 0) ++ ([.slice none 0 0] : List Value)))) rfl rfl rfl (fr_eval rfl e2) (fr_eval rfl rfl) (sz_len Try.sz61 (len_app (m := 3) (n := 65) (k := 68) rfl (len_app (m := 32) (n := 33) (k := 65) (cBs_len (List.length_replicate ..)) (len_app (m := 32) (n := 1) (k := 33) (cBs_len (List.length_replicate ..)) rfl rfl) rfl) rfl)) (((len_app (m := 3) (n := 65) (k := 68) rfl (len_app (m := 32) (n := 33) (k := 65) (cBs_len (List.length_replicate ..)) (len_app (m := 32) (n := 1) (k := 33) (cBs_len (List.length_replicate ..)) rfl rfl) rfl) rfl)).trans ((len_app (m := 3) (n := 65) (k := 68) rfl (len_app (m := 32) (n := 33) (k := 65) (cBs_len (List.length_replicate ..)) (len_app (m := 32) (n := 1) (k := 33) (cBs_len (List.length_replicate ..)) rfl rfl) rfl) rfl)).symm) ((ones_app (ones_cons rfl (ones_cons rfl (ones_cons rfl ones_nil))) (ones_app (cBs_one _) (ones_app (cBs_one _) (ones_cons rfl ones_nil)))))) ?_
      clear hH
      rintro w10 ⟨hH, hx⟩
      replace hH : Heap (newN w) w w10 [oBlk g1 (([.int .i64 0, .int .i64 0, .int .i64 0] : List Value) ++ (cBs (List.replicate 32 0) ++ (cBs (List.replicate 32 0) ++ ([.slice none 0 0] : List Value)))) 61, oEye g2 z1 (rawR (numR (rawR (numR b 0) (uptoE b 0 65536) ((uptoV b 0 65536 : Nat) : Int)) (rawE (numR b 0) (uptoE b 0 65536) ((uptoV b 0 65536 : Nat) : Int))) (uptoE (rawR (numR b 0) (uptoE b 0 65536) ((uptoV b 0 65536 : Nat) : Int)) (rawE (numR b 0) (uptoE b 0 65536) ((uptoV b 0 65536 : Nat) : Int)) 65536) ((uptoV (rawR (numR b 0) (uptoE b 0 65536) ((uptoV b 0 65536 : Nat) : Int)) (rawE (numR b 0) (uptoE b 0 65536) ((uptoV b 0 65536 : Nat) : Int)) 65536 : Nat) : Int)) (doneE (rawR (numR (rawR (numR b 0) (uptoE b 0 65536) ((uptoV b 0 65536 : Nat) : Int)) (rawE (numR b 0) (uptoE b 0 65536) ((uptoV b 0 65536 : Nat) : Int))) (uptoE (rawR (numR b 0) (uptoE b 0 65536) ((uptoV b 0 65536 : Nat) : Int)) (rawE (numR b 0) (uptoE b 0 65536) ((uptoV b 0 65536 : Nat) : Int)) 65536) ((uptoV (rawR (numR b 0) (uptoE b 0 65536) ((uptoV b 0 65536 : Nat) : Int)) (rawE (numR b 0) (uptoE b 0 65536) ((uptoV b 0 65536 : Nat) : Int)) 65536 : Nat) : Int)) (rawE (numR (rawR (numR b 0) (uptoE b 0 65536) ((uptoV b 0 65536 : Nat) : Int)) (rawE (numR b 0) (uptoE b 0 65536) ((uptoV b 0 65536 : Nat) : Int))) (uptoE (rawR (numR b 0) (uptoE b 0 65536) ((uptoV b 0 65536 : Nat) : Int)) (rawE (numR b 0) (uptoE b 0 65536) ((uptoV b 0 65536 : Nat) : Int)) 65536) ((uptoV (rawR (numR b 0) (uptoE b 0 65536) ((uptoV b 0 65536 : Nat) : Int)) (rawE (numR b 0) (uptoE b 0 65536) ((uptoV b 0 65536 : Nat) : Int)) 65536 : Nat) : Int))), oB y1 (rawV (numR b 0) (uptoE b 0 65536) ((uptoV b 0 65536 : Nat) : Int)), oB y2 (rawV (numR (rawR (numR b 0) (uptoE b 0 65536) ((uptoV b 0 65536 : Nat) : Int)) (rawE (numR b 0) (uptoE b 0 65536) ((uptoV b 0 65536 : Nat) : Int))) (uptoE (rawR (numR b 0) (uptoE b 0 65536) ((uptoV b 0 65536 : Nat) : Int)) (rawE (numR b 0) (uptoE b 0 65536) ((uptoV b 0 65536 : Nat) : Int)) 65536) ((uptoV (rawR (numR b 0) (uptoE b 0 65536) ((uptoV b 0 65536 : Nat) : Int)) (rawE (numR b 0) (uptoE b 0 65536) ((uptoV b 0 65536 : Nat) : Int)) 65536 : Nat) : Int)), oBlk g3 (([.int .i64 rr_t24.t, .int .i64 rr_t24.c, .int .i64 rr_t24.s] : List Value) ++ (cBs rr_t24.h.1 ++ cBs rr_t24.b.1)) 54] := hH
      clear hx
      refine lf_val (v := .int .i64 re_t24) (wantAll rfl) (rv_assign rfl (fr_eval rfl rfl)) ?_
      refine lf_nil ?_
      refine then_n ?_
      refine wp_gen (fun F' => F' 0 = v ∧ F' 2 = .pointer (some ⟨g1, 0, none⟩) ∧ F' 3 = .int .i64 re_t24 ∧ F' 4 = .pointer (some ⟨g2, 0, none⟩) ∧ F' 5 = y1 ∧ F' 6 = y2 ∧ F' 7 = .int .i64 (doneE (rawR (numR (rawR (numR b 0) (uptoE b 0 65536) ((uptoV b 0 65536 : Nat) : Int)) (rawE (numR b 0) (uptoE b 0 65536) ((uptoV b 0 65536 : Nat) : Int))) (uptoE (rawR (numR b 0) (uptoE b 0 65536) ((uptoV b 0 65536 : Nat) : Int)) (rawE (numR b 0) (uptoE b 0 65536) ((uptoV b 0 65536 : Nat) : Int)) 65536) ((uptoV (rawR (numR b 0) (uptoE b 0 65536) ((uptoV b 0 65536 : Nat) : Int)) (rawE (numR b 0) (uptoE b 0 65536) ((uptoV b 0 65536 : Nat) : Int)) 65536 : Nat) : Int)) (rawE (numR (rawR (numR b 0) (uptoE b 0 65536) ((uptoV b 0 65536 : Nat) : Int)) (rawE (numR b 0) (uptoE b 0 65536) ((uptoV b 0 65536 : Nat) : Int))) (uptoE (rawR (numR b 0) (uptoE b 0 65536) ((uptoV b 0 65536 : Nat) : Int)) (rawE (numR b 0) (uptoE b 0 65536) ((uptoV b 0 65536 : Nat) : Int)) 65536) ((uptoV (rawR (numR b 0) (uptoE b 0 65536) ((uptoV b 0 65536 : Nat) : Int)) (rawE (numR b 0) (uptoE b 0 65536) ((uptoV b 0 65536 : Nat) : Int)) 65536 : Nat) : Int))) ∧ F' 8 = .pointer (some ⟨g3, 0, none⟩) ∧ F' 9 = .int .i64 re_t24 ∧ F' 19 = .bool false ∧ F' 28 = .bool true) ⟨e0, e2, rfl, e4, e5, e6, e7, e8, e9, e19, e28⟩ ?_
      clear e0 e2 e3 e4 e5 e6 e7 e8 e9 e19 e28
      clear F
      rintro F ⟨e0, e2, e3, e4, e5, e6, e7, e8, e9, e19, e28⟩
      refine wp_ret ?_
      refine then_ret ?_
      exact bodyPost_ret (v := .tuple #[.agg (([.int .i64 0, .int .i64 0, .int .i64 0] : List Value) ++ (cBs (List.replicate 32 0) ++ (cBs (List.replicate 32 0) ++ ([.slice none 0 0] : List Value)))).toArray, .int .i64 re_t24]) (res2 rfl (ro_cell rfl e2 (hH.blk (i := 0) rfl) Try.underlying61 rfl (sz_len Try.sz61 (len_app (m := 3) (n := 65) (k := 68) rfl (len_app (m := 32) (n := 33) (k := 65) (cBs_len (List.length_replicate ..)) (len_app (m := 32) (n := 1) (k := 33) (cBs_len (List.length_replicate ..)) rfl rfl) rfl) rfl))) (ro_tmp rfl e3)) rfl (⟨⟨zR, [], _, _, rfl, get_no2 hR_rr_t24 (by assumption), OwnB.nil, ownBlock_nil⟩, hH.done⟩)
  · refine lf_val (v := .bool true) (wantAll rfl) (rv_neq rfl (fr_eval rfl rfl) rfl (decide_eq_false (by omega))) ?_
    refine lf_nil ?_
    refine then_n ?_
    refine wp_gen (fun F' => F' 0 = v ∧ F' 2 = .pointer (some ⟨g1, 0, none⟩) ∧ F' 3 = .int .i64 0 ∧ F' 4 = .pointer (some ⟨g2, 0, none⟩) ∧ F' 5 = y1 ∧ F' 6 = y2 ∧ F' 7 = .int .i64 (doneE (rawR (numR (rawR (numR b 0) (uptoE b 0 65536) ((uptoV b 0 65536 : Nat) : Int)) (rawE (numR b 0) (uptoE b 0 65536) ((uptoV b 0 65536 : Nat) : Int))) (uptoE (rawR (numR b 0) (uptoE b 0 65536) ((uptoV b 0 65536 : Nat) : Int)) (rawE (numR b 0) (uptoE b 0 65536) ((uptoV b 0 65536 : Nat) : Int)) 65536) ((uptoV (rawR (numR b 0) (uptoE b 0 65536) ((uptoV b 0 65536 : Nat) : Int)) (rawE (numR b 0) (uptoE b 0 65536) ((uptoV b 0 65536 : Nat) : Int)) 65536 : Nat) : Int)) (rawE (numR (rawR (numR b 0) (uptoE b 0 65536) ((uptoV b 0 65536 : Nat) : Int)) (rawE (numR b 0) (uptoE b 0 65536) ((uptoV b 0 65536 : Nat) : Int))) (uptoE (rawR (numR b 0) (uptoE b 0 65536) ((uptoV b 0 65536 : Nat) : Int)) (rawE (numR b 0) (uptoE b 0 65536) ((uptoV b 0 65536 : Nat) : Int)) 65536) ((uptoV (rawR (numR b 0) (uptoE b 0 65536) ((uptoV b 0 65536 : Nat) : Int)) (rawE (numR b 0) (uptoE b 0 65536) ((uptoV b 0 65536 : Nat) : Int)) 65536 : Nat) : Int))) ∧ F' 19 = .bool true) ⟨e0, e2, e3, e4, e5, e6, e7, rfl⟩ ?_
    clear e0 e2 e3 e4 e5 e6 e7
    clear F
    rintro F ⟨e0, e2, e3, e4, e5, e6, e7, e19⟩
    refine wp_cond_true (fr_eval rfl e19) ?_
    refine wp_seq ?_
    refine wp_regionF ?_
    refine lf_val (v := .agg (([.int .i64 0, .int .i64 0, .int .i64 0] : List Value) ++ (cBs (List.replicate 32 0) ++ (cBs (List.replicate 32 0) ++ ([.slice none 0 0] : List Value)))).toArray) (wantAll rfl) (rv_buildS (ps := []) (places := #[(0, 67), (67, 1)]) (z := .agg (([.int .i64 0, .int .i64 0, .int .i64 0] : List Value) ++ (cBs (List.replicate 32 0) ++ (cBs (List.replicate 32 0) ++ ([.slice none 0 0] : List Value)))).toArray) (zc := ([.int .i64 0, .int .i64 0, .int .i64 0] : List Value) ++ (cBs (List.replicate 32 0) ++ (cBs (List.replicate 32 0) ++ ([.slice none 0 0] : List Value)))) (cs := ([.int .i64 0, .int .i64 0, .int .i64 0] : List Value) ++ (cBs (List.replicate 32 0) ++ (cBs (List.replicate 32 0) ++ ([.slice none 0 0] : List Value)))) rfl evpn (by kernel_rfl) rfl Try.underlying61 (fun _ => by kernel_rfl) fill0) ?_
    refine lf_val (v := .int .i64 (doneE (rawR (numR (rawR (numR b 0) (uptoE b 0 65536) ((uptoV b 0 65536 : Nat) : Int)) (rawE (numR b 0) (uptoE b 0 65536) ((uptoV b 0 65536 : Nat) : Int))) (uptoE (rawR (numR b 0) (uptoE b 0 65536) ((uptoV b 0 65536 : Nat) : Int)) (rawE (numR b 0) (uptoE b 0 65536) ((uptoV b 0 65536 : Nat) : Int)) 65536) ((uptoV (rawR (numR b 0) (uptoE b 0 65536) ((uptoV b 0 65536 : Nat) : Int)) (rawE (numR b 0) (uptoE b 0 65536) ((uptoV b 0 65536 : Nat) : Int)) 65536 : Nat) : Int)) (rawE (numR (rawR (numR b 0) (uptoE b 0 65536) ((uptoV b 0 65536 : Nat) : Int)) (rawE (numR b 0) (uptoE b 0 65536) ((uptoV b 0 65536 : Nat) : Int))) (uptoE (rawR (numR b 0) (uptoE b 0 65536) ((uptoV b 0 65536 : Nat) : Int)) (rawE (numR b 0) (uptoE b 0 65536) ((uptoV b 0 65536 : Nat) : Int)) 65536) ((uptoV (rawR (numR b 0) (uptoE b 0 65536) ((uptoV b 0 65536 : Nat) : Int)) (rawE (numR b 0) (uptoE b 0 65536) ((uptoV b 0 65536 : Nat) : Int)) 65536 : Nat) : Int)))) (wantAll rfl) (rv_move rfl (fr_eval rfl e7)) ?_
    refine lf_sk (wantAll rfl) (hx_storeW hH (i := 0) (cs := ([.int .i64 0, .int .i64 0, .int .i64 0] : List Value) ++ (cBs (List.replicate 32 0) ++ (cBs (List.replicate 32 0) ++ ([.slice none 0 0] : List Value)))) rfl rfl rfl (fr_eval rfl e2) (fr_eval rfl rfl) (sz_len Try.sz61 (len_app (m := 3) (n := 65) (k := 68) rfl (len_app (m := 32) (n := 33) (k := 65) (cBs_len (List.length_replicate ..)) (len_app (m := 32) (n := 1) (k := 33) (cBs_len (List.length_replicate ..)) rfl rfl) rfl) rfl)) (((len_app (m := 3) (n := 65) (k := 68) rfl (len_app (m := 32) (n := 33) (k := 65) (cBs_len (List.length_replicate ..)) (len_app (m := 32) (n := 1) (k := 33) (cBs_len (List.length_replicate ..)) rfl rfl) rfl) rfl)).trans ((len_app (m := 3) (n := 65) (k := 68) rfl (len_app (m := 32) (n := 33) (k := 65) (cBs_len (List.length_replicate ..)) (len_app (m := 32) (n := 1) (k := 33) (cBs_len (List.length_replicate ..)) rfl rfl) rfl) rfl)).symm) ((ones_app (ones_cons rfl (ones_cons rfl (ones_cons rfl ones_nil))) (ones_app (cBs_one _) (ones_app (cBs_one _) (ones_cons rfl ones_nil)))))) ?_
    clear hH
    rintro w11 ⟨hH, hx⟩
    replace hH : Heap (newN w) w w11 [oBlk g1 (([.int .i64 0, .int .i64 0, .int .i64 0] : List Value) ++ (cBs (List.replicate 32 0) ++ (cBs (List.replicate 32 0) ++ ([.slice none 0 0] : List Value)))) 61, oEye g2 z1 (rawR (numR (rawR (numR b 0) (uptoE b 0 65536) ((uptoV b 0 65536 : Nat) : Int)) (rawE (numR b 0) (uptoE b 0 65536) ((uptoV b 0 65536 : Nat) : Int))) (uptoE (rawR (numR b 0) (uptoE b 0 65536) ((uptoV b 0 65536 : Nat) : Int)) (rawE (numR b 0) (uptoE b 0 65536) ((uptoV b 0 65536 : Nat) : Int)) 65536) ((uptoV (rawR (numR b 0) (uptoE b 0 65536) ((uptoV b 0 65536 : Nat) : Int)) (rawE (numR b 0) (uptoE b 0 65536) ((uptoV b 0 65536 : Nat) : Int)) 65536 : Nat) : Int)) (doneE (rawR (numR (rawR (numR b 0) (uptoE b 0 65536) ((uptoV b 0 65536 : Nat) : Int)) (rawE (numR b 0) (uptoE b 0 65536) ((uptoV b 0 65536 : Nat) : Int))) (uptoE (rawR (numR b 0) (uptoE b 0 65536) ((uptoV b 0 65536 : Nat) : Int)) (rawE (numR b 0) (uptoE b 0 65536) ((uptoV b 0 65536 : Nat) : Int)) 65536) ((uptoV (rawR (numR b 0) (uptoE b 0 65536) ((uptoV b 0 65536 : Nat) : Int)) (rawE (numR b 0) (uptoE b 0 65536) ((uptoV b 0 65536 : Nat) : Int)) 65536 : Nat) : Int)) (rawE (numR (rawR (numR b 0) (uptoE b 0 65536) ((uptoV b 0 65536 : Nat) : Int)) (rawE (numR b 0) (uptoE b 0 65536) ((uptoV b 0 65536 : Nat) : Int))) (uptoE (rawR (numR b 0) (uptoE b 0 65536) ((uptoV b 0 65536 : Nat) : Int)) (rawE (numR b 0) (uptoE b 0 65536) ((uptoV b 0 65536 : Nat) : Int)) 65536) ((uptoV (rawR (numR b 0) (uptoE b 0 65536) ((uptoV b 0 65536 : Nat) : Int)) (rawE (numR b 0) (uptoE b 0 65536) ((uptoV b 0 65536 : Nat) : Int)) 65536 : Nat) : Int))), oB y1 (rawV (numR b 0) (uptoE b 0 65536) ((uptoV b 0 65536 : Nat) : Int)), oB y2 (rawV (numR (rawR (numR b 0) (uptoE b 0 65536) ((uptoV b 0 65536 : Nat) : Int)) (rawE (numR b 0) (uptoE b 0 65536) ((uptoV b 0 65536 : Nat) : Int))) (uptoE (rawR (numR b 0) (uptoE b 0 65536) ((uptoV b 0 65536 : Nat) : Int)) (rawE (numR b 0) (uptoE b 0 65536) ((uptoV b 0 65536 : Nat) : Int)) 65536) ((uptoV (rawR (numR b 0) (uptoE b 0 65536) ((uptoV b 0 65536 : Nat) : Int)) (rawE (numR b 0) (uptoE b 0 65536) ((uptoV b 0 65536 : Nat) : Int)) 65536 : Nat) : Int))] := hH
    clear hx
    refine lf_val (v := .int .i64 (doneE (rawR (numR (rawR (numR b 0) (uptoE b 0 65536) ((uptoV b 0 65536 : Nat) : Int)) (rawE (numR b 0) (uptoE b 0 65536) ((uptoV b 0 65536 : Nat) : Int))) (uptoE (rawR (numR b 0) (uptoE b 0 65536) ((uptoV b 0 65536 : Nat) : Int)) (rawE (numR b 0) (uptoE b 0 65536) ((uptoV b 0 65536 : Nat) : Int)) 65536) ((uptoV (rawR (numR b 0) (uptoE b 0 65536) ((uptoV b 0 65536 : Nat) : Int)) (rawE (numR b 0) (uptoE b 0 65536) ((uptoV b 0 65536 : Nat) : Int)) 65536 : Nat) : Int)) (rawE (numR (rawR (numR b 0) (uptoE b 0 65536) ((uptoV b 0 65536 : Nat) : Int)) (rawE (numR b 0) (uptoE b 0 65536) ((uptoV b 0 65536 : Nat) : Int))) (uptoE (rawR (numR b 0) (uptoE b 0 65536) ((uptoV b 0 65536 : Nat) : Int)) (rawE (numR b 0) (uptoE b 0 65536) ((uptoV b 0 65536 : Nat) : Int)) 65536) ((uptoV (rawR (numR b 0) (uptoE b 0 65536) ((uptoV b 0 65536 : Nat) : Int)) (rawE (numR b 0) (uptoE b 0 65536) ((uptoV b 0 65536 : Nat) : Int)) 65536 : Nat) : Int)))) (wantAll rfl) (rv_assign rfl (fr_eval rfl rfl)) ?_
    refine lf_nil ?_
    refine then_n ?_
    refine wp_gen (fun F' => F' 0 = v ∧ F' 2 = .pointer (some ⟨g1, 0, none⟩) ∧ F' 3 = .int .i64 (doneE (rawR (numR (rawR (numR b 0) (uptoE b 0 65536) ((uptoV b 0 65536 : Nat) : Int)) (rawE (numR b 0) (uptoE b 0 65536) ((uptoV b 0 65536 : Nat) : Int))) (uptoE (rawR (numR b 0) (uptoE b 0 65536) ((uptoV b 0 65536 : Nat) : Int)) (rawE (numR b 0) (uptoE b 0 65536) ((uptoV b 0 65536 : Nat) : Int)) 65536) ((uptoV (rawR (numR b 0) (uptoE b 0 65536) ((uptoV b 0 65536 : Nat) : Int)) (rawE (numR b 0) (uptoE b 0 65536) ((uptoV b 0 65536 : Nat) : Int)) 65536 : Nat) : Int)) (rawE (numR (rawR (numR b 0) (uptoE b 0 65536) ((uptoV b 0 65536 : Nat) : Int)) (rawE (numR b 0) (uptoE b 0 65536) ((uptoV b 0 65536 : Nat) : Int))) (uptoE (rawR (numR b 0) (uptoE b 0 65536) ((uptoV b 0 65536 : Nat) : Int)) (rawE (numR b 0) (uptoE b 0 65536) ((uptoV b 0 65536 : Nat) : Int)) 65536) ((uptoV (rawR (numR b 0) (uptoE b 0 65536) ((uptoV b 0 65536 : Nat) : Int)) (rawE (numR b 0) (uptoE b 0 65536) ((uptoV b 0 65536 : Nat) : Int)) 65536 : Nat) : Int))) ∧ F' 4 = .pointer (some ⟨g2, 0, none⟩) ∧ F' 5 = y1 ∧ F' 6 = y2 ∧ F' 7 = .int .i64 (doneE (rawR (numR (rawR (numR b 0) (uptoE b 0 65536) ((uptoV b 0 65536 : Nat) : Int)) (rawE (numR b 0) (uptoE b 0 65536) ((uptoV b 0 65536 : Nat) : Int))) (uptoE (rawR (numR b 0) (uptoE b 0 65536) ((uptoV b 0 65536 : Nat) : Int)) (rawE (numR b 0) (uptoE b 0 65536) ((uptoV b 0 65536 : Nat) : Int)) 65536) ((uptoV (rawR (numR b 0) (uptoE b 0 65536) ((uptoV b 0 65536 : Nat) : Int)) (rawE (numR b 0) (uptoE b 0 65536) ((uptoV b 0 65536 : Nat) : Int)) 65536 : Nat) : Int)) (rawE (numR (rawR (numR b 0) (uptoE b 0 65536) ((uptoV b 0 65536 : Nat) : Int)) (rawE (numR b 0) (uptoE b 0 65536) ((uptoV b 0 65536 : Nat) : Int))) (uptoE (rawR (numR b 0) (uptoE b 0 65536) ((uptoV b 0 65536 : Nat) : Int)) (rawE (numR b 0) (uptoE b 0 65536) ((uptoV b 0 65536 : Nat) : Int)) 65536) ((uptoV (rawR (numR b 0) (uptoE b 0 65536) ((uptoV b 0 65536 : Nat) : Int)) (rawE (numR b 0) (uptoE b 0 65536) ((uptoV b 0 65536 : Nat) : Int)) 65536 : Nat) : Int))) ∧ F' 19 = .bool true) ⟨e0, e2, rfl, e4, e5, e6, e7, e19⟩ ?_
    clear e0 e2 e3 e4 e5 e6 e7 e19
    clear F
    rintro F ⟨e0, e2, e3, e4, e5, e6, e7, e19⟩
    refine wp_ret ?_
    refine then_ret ?_
    exact bodyPost_ret (v := .tuple #[.agg (([.int .i64 0, .int .i64 0, .int .i64 0] : List Value) ++ (cBs (List.replicate 32 0) ++ (cBs (List.replicate 32 0) ++ ([.slice none 0 0] : List Value)))).toArray, .int .i64 (doneE (rawR (numR (rawR (numR b 0) (uptoE b 0 65536) ((uptoV b 0 65536 : Nat) : Int)) (rawE (numR b 0) (uptoE b 0 65536) ((uptoV b 0 65536 : Nat) : Int))) (uptoE (rawR (numR b 0) (uptoE b 0 65536) ((uptoV b 0 65536 : Nat) : Int)) (rawE (numR b 0) (uptoE b 0 65536) ((uptoV b 0 65536 : Nat) : Int)) 65536) ((uptoV (rawR (numR b 0) (uptoE b 0 65536) ((uptoV b 0 65536 : Nat) : Int)) (rawE (numR b 0) (uptoE b 0 65536) ((uptoV b 0 65536 : Nat) : Int)) 65536 : Nat) : Int)) (rawE (numR (rawR (numR b 0) (uptoE b 0 65536) ((uptoV b 0 65536 : Nat) : Int)) (rawE (numR b 0) (uptoE b 0 65536) ((uptoV b 0 65536 : Nat) : Int))) (uptoE (rawR (numR b 0) (uptoE b 0 65536) ((uptoV b 0 65536 : Nat) : Int)) (rawE (numR b 0) (uptoE b 0 65536) ((uptoV b 0 65536 : Nat) : Int)) 65536) ((uptoV (rawR (numR b 0) (uptoE b 0 65536) ((uptoV b 0 65536 : Nat) : Int)) (rawE (numR b 0) (uptoE b 0 65536) ((uptoV b 0 65536 : Nat) : Int)) 65536 : Nat) : Int)))]) (res2 rfl (ro_cell rfl e2 (hH.blk (i := 0) rfl) Try.underlying61 rfl (sz_len Try.sz61 (len_app (m := 3) (n := 65) (k := 68) rfl (len_app (m := 32) (n := 33) (k := 65) (cBs_len (List.length_replicate ..)) (len_app (m := 32) (n := 1) (k := 33) (cBs_len (List.length_replicate ..)) rfl rfl) rfl) rfl))) (ro_tmp rfl e3)) rfl (⟨⟨zR, [], _, _, rfl, get_no1 (by assumption), OwnB.nil, ownBlock_nil⟩, hH.done⟩)

set_option maxRecDepth 100000 in
set_option maxHeartbeats 4000000 in
theorem awake12_calls (w : World) :
    Calls Try.prog 36 #[] w fun e'' w' => e'' = .returned (.bool true) ∧ Ext w w' := by
  refine calls_fr (args := []) (n := 20) Try.func36 rfl rfl (show 0 ≤ 20 by decide) ?_
  have hH : Heap (newN w) w w [] := Heap.fresh
  refine wp_seq ?_
  refine wp_gen (fun F' => True) trivial ?_
  rintro F _
  refine wp_regionF ?_
  refine lf_val (v := .bool false) (wantAll rfl) (rv_assign rfl rfl) ?_
  refine lf_nil ?_
  refine then_n ?_
  refine wp_seq ?_
  refine wp_gen (fun F' => F' 0 = .bool false) rfl ?_
  clear F
  rintro F e0
  refine wp_regionF ?_
  refine lf_val (v := .agg (([.int .i64 0, .int .i64 0, .int .i64 0] : List Value) ++ (cBs (List.replicate 32 0) ++ (cBs (List.replicate 32 0) ++ ([.slice none 0 0] : List Value)))).toArray) (wantAll rfl) (rv_buildS (ps := []) (places := #[(0, 67), (67, 1)]) (z := .agg (([.int .i64 0, .int .i64 0, .int .i64 0] : List Value) ++ (cBs (List.replicate 32 0) ++ (cBs (List.replicate 32 0) ++ ([.slice none 0 0] : List Value)))).toArray) (zc := ([.int .i64 0, .int .i64 0, .int .i64 0] : List Value) ++ (cBs (List.replicate 32 0) ++ (cBs (List.replicate 32 0) ++ ([.slice none 0 0] : List Value)))) (cs := ([.int .i64 0, .int .i64 0, .int .i64 0] : List Value) ++ (cBs (List.replicate 32 0) ++ (cBs (List.replicate 32 0) ++ ([.slice none 0 0] : List Value)))) rfl evpn (by kernel_rfl) rfl Try.underlying61 (fun _ => by kernel_rfl) fill0) ?_
  refine lf_call (wantAll rfl) (rv_call (args := [.agg (([.int .i64 0, .int .i64 0, .int .i64 0] : List Value) ++ (cBs (List.replicate 32 0) ++ (cBs (List.replicate 32 0) ++ ([.slice none 0 0] : List Value)))).toArray]) rfl (evc (fr_eval rfl rfl) evn) Try.call38) (put12_calls (⟨0, 0, 0, ⟨List.replicate 32 0, (List.length_replicate ..)⟩, ⟨List.replicate 32 0, (List.length_replicate ..)⟩⟩ : Rc) (by unfold inRc inI; refine ⟨⟨?_, ?_⟩, ⟨?_, ?_⟩, ⟨?_, ?_⟩⟩ <;> decide) [] (Nat.le_trans (Nat.le_of_eq rfl) (by decide)) _ _ RdB.nil) ?_
  rintro _ w1 ⟨⟨y1, rfl, ho, hg⟩, hx⟩
  refine ⟨_, rfl, ?_⟩
  replace hH : Heap (newN w) w w1 [oB y1 (textS (⟨0, 0, 0, ⟨List.replicate 32 0, (List.length_replicate ..)⟩, ⟨List.replicate 32 0, (List.length_replicate ..)⟩⟩ : Rc) [])] := hH.addOwn hx hg ho
  clear ho hg
  clear hx
  refine lf_call (wantAll rfl) (rv_call (args := [y1]) rfl (evc (fr_eval rfl rfl) evn) Try.call37) (rcGet_calls (textS (⟨0, 0, 0, ⟨List.replicate 32 0, (List.length_replicate ..)⟩, ⟨List.replicate 32 0, (List.length_replicate ..)⟩⟩ : Rc) []) (by have := textS_len (⟨0, 0, 0, ⟨List.replicate 32 0, (List.length_replicate ..)⟩, ⟨List.replicate 32 0, (List.length_replicate ..)⟩⟩ : Rc) []; simp only [List.length_nil] at this; omega) _ _ (OwnB.rd (hH.own (i := 0) rfl))) ?_
  rintro _ w2 ⟨⟨gr_t6, gs_t6, y2, ge_t6, rfl, hG_gr_t6, ho, hg⟩, hx⟩
  refine ⟨_, rfl, ?_⟩
  replace hH : Heap (newN w) w w2 [oB y1 (textS (⟨0, 0, 0, ⟨List.replicate 32 0, (List.length_replicate ..)⟩, ⟨List.replicate 32 0, (List.length_replicate ..)⟩⟩ : Rc) []), oB y2 gs_t6] := hH.addOwn hx hg ho
  clear ho hg
  clear hx
  refine lf_val (v := .tuple #[.agg (([.int .i64 gr_t6.t, .int .i64 gr_t6.c, .int .i64 gr_t6.s] : List Value) ++ (cBs gr_t6.h.1 ++ (cBs gr_t6.b.1 ++ ([y2] : List Value)))).toArray, .int .i64 ge_t6]) (wantAll rfl) (rv_move rfl (fr_eval rfl rfl)) ?_
  refine lf_val (v := .agg (([.int .i64 gr_t6.t, .int .i64 gr_t6.c, .int .i64 gr_t6.s] : List Value) ++ (cBs gr_t6.h.1 ++ (cBs gr_t6.b.1 ++ ([y2] : List Value)))).toArray) (wantAll rfl) (rv_extract rfl (fr_eval rfl rfl) rfl) ?_
  refine lf_val (v := .int .i64 ge_t6) (wantAll rfl) (rv_extract rfl (fr_eval rfl rfl) rfl) ?_
  refine lf_ex (wantAll rfl) (hx_alloc hH 61 (z := .agg (([.int .i64 0, .int .i64 0, .int .i64 0] : List Value) ++ (cBs (List.replicate 32 0) ++ (cBs (List.replicate 32 0) ++ ([.slice none 0 0] : List Value)))).toArray) (n := 68) (cs := ([.int .i64 0, .int .i64 0, .int .i64 0] : List Value) ++ (cBs (List.replicate 32 0) ++ (cBs (List.replicate 32 0) ++ ([.slice none 0 0] : List Value)))) rfl (by kernel_rfl) (by rfl)) ?_
  clear hH
  rintro _ w3 ⟨g1, rfl, hH, hx⟩
  replace hH : Heap (newN w) w w3 [oB y1 (textS (⟨0, 0, 0, ⟨List.replicate 32 0, (List.length_replicate ..)⟩, ⟨List.replicate 32 0, (List.length_replicate ..)⟩⟩ : Rc) []), oB y2 gs_t6, oBlk g1 (([.int .i64 0, .int .i64 0, .int .i64 0] : List Value) ++ (cBs (List.replicate 32 0) ++ (cBs (List.replicate 32 0) ++ ([.slice none 0 0] : List Value)))) 61] := hH
  clear hx
  refine lf_sk (wantAll rfl) (hx_storeW hH (i := 2) (cs := ([.int .i64 gr_t6.t, .int .i64 gr_t6.c, .int .i64 gr_t6.s] : List Value) ++ (cBs gr_t6.h.1 ++ (cBs gr_t6.b.1 ++ ([y2] : List Value)))) rfl rfl rfl (fr_eval rfl rfl) (fr_eval rfl rfl) (sz_len Try.sz61 (len_app (m := 3) (n := 65) (k := 68) rfl (len_app (m := 32) (n := 33) (k := 65) (cBs_len gr_t6.h.2) (len_app (m := 32) (n := 1) (k := 33) (cBs_len gr_t6.b.2) rfl rfl) rfl) rfl)) (((len_app (m := 3) (n := 65) (k := 68) rfl (len_app (m := 32) (n := 33) (k := 65) (cBs_len (List.length_replicate ..)) (len_app (m := 32) (n := 1) (k := 33) (cBs_len (List.length_replicate ..)) rfl rfl) rfl) rfl)).trans ((len_app (m := 3) (n := 65) (k := 68) rfl (len_app (m := 32) (n := 33) (k := 65) (cBs_len gr_t6.h.2) (len_app (m := 32) (n := 1) (k := 33) (cBs_len gr_t6.b.2) rfl rfl) rfl) rfl)).symm) ((ones_app (ones_cons rfl (ones_cons rfl (ones_cons rfl ones_nil))) (ones_app (cBs_one _) (ones_app (cBs_one _) (ones_cons (Rd.oneV (OwnB.rd (hH.own (i := 1) rfl))) ones_nil)))))) ?_
  clear hH
  rintro w4 ⟨hH, hx⟩
  replace hH : Heap (newN w) w w4 [oB y1 (textS (⟨0, 0, 0, ⟨List.replicate 32 0, (List.length_replicate ..)⟩, ⟨List.replicate 32 0, (List.length_replicate ..)⟩⟩ : Rc) []), oB y2 gs_t6, oBlk g1 (([.int .i64 gr_t6.t, .int .i64 gr_t6.c, .int .i64 gr_t6.s] : List Value) ++ (cBs gr_t6.h.1 ++ (cBs gr_t6.b.1 ++ ([y2] : List Value)))) 61] := hH
  clear hx
  refine lf_val (v := .int .i64 ge_t6) (wantAll rfl) (rv_assign rfl (fr_eval rfl rfl)) ?_
  refine lf_nil ?_
  refine then_n ?_
  refine wp_seq ?_
  replace hH : Heap (newN w) w w4 [] := hH.drop (.cons _ (.cons _ (.cons _ .slnil)))
  refine wp_gen (fun F' => F' 0 = .bool false ∧ F' 2 = .int .i64 ge_t6) ⟨e0, rfl⟩ ?_
  clear e0
  clear F
  rintro F ⟨e0, e2⟩
  obtain ⟨rfl, _, _⟩ := hG_gr_t6.one (⟨0, 0, 0, ⟨List.replicate 32 0, (List.length_replicate ..)⟩, ⟨List.replicate 32 0, (List.length_replicate ..)⟩⟩ : Rc) [] (by unfold inR; decide) (by decide) rfl
  refine wp_regionF ?_
  refine lf_val (v := .agg (([.int .i64 16, .int .i64 0, .int .i64 0] : List Value) ++ (cBs (List.replicate 32 0) ++ cBs (List.replicate 32 0))).toArray) (wantAll rfl) (rv_buildS (ps := [(0, (.const (.int .i64 16)))]) (places := #[(0, 1), (1, 1), (2, 1), (3, 32), (35, 32)]) (z := .agg (([.int .i64 0, .int .i64 0, .int .i64 0] : List Value) ++ (cBs (List.replicate 32 0) ++ cBs (List.replicate 32 0))).toArray) (zc := ([.int .i64 0, .int .i64 0, .int .i64 0] : List Value) ++ (cBs (List.replicate 32 0) ++ cBs (List.replicate 32 0))) (cs := ([.int .i64 16, .int .i64 0, .int .i64 0] : List Value) ++ (cBs (List.replicate 32 0) ++ cBs (List.replicate 32 0))) rfl (evpc rfl evpn) (by kernel_rfl) rfl Try.underlying54 (fun _ => by kernel_rfl) (fillM (cells' := ([.int .i64 16, .int .i64 0, .int .i64 0] : List Value) ++ (cBs (List.replicate 32 0) ++ cBs (List.replicate 32 0))) (cs := [.int .i64 16]) (off := 0) (n := 1) rfl (cells_one rfl) (show List.length [.int .i64 16] = 1 from rfl) (le_of_len2 (len_app (m := 3) (n := 64) (k := 67) rfl (len_app (m := 32) (n := 32) (k := 64) (cBs_len (List.length_replicate ..)) (cBs_len (List.length_replicate ..)) rfl) rfl) (by decide)) (show lay ([] ++ (([.int .i64 0]) ++ (([.int .i64 0, .int .i64 0] : List Value) ++ (cBs (List.replicate 32 0) ++ cBs (List.replicate 32 0))))) 0 ([.int .i64 16]) = [] ++ (([.int .i64 16]) ++ (([.int .i64 0, .int .i64 0] : List Value) ++ (cBs (List.replicate 32 0) ++ cBs (List.replicate 32 0)))) from lay_app (show List.length ([] : List Value) = 0 from rfl) ((show List.length [.int .i64 0] = 1 from rfl).trans (show List.length [.int .i64 16] = 1 from rfl).symm)) fill0)) ?_
  refine lf_call (wantAll rfl) (rv_call (args := [.agg (([.int .i64 16, .int .i64 0, .int .i64 0] : List Value) ++ (cBs (List.replicate 32 0) ++ cBs (List.replicate 32 0))).toArray]) rfl (evc (fr_eval rfl rfl) evn) Try.call34) (calls_known (b' := false) (rcRight_calls (⟨16, 0, 0, ⟨List.replicate 32 0, (List.length_replicate ..)⟩, ⟨List.replicate 32 0, (List.length_replicate ..)⟩⟩ : Rc) _) (show decide (inR _) = false from by decide)) ?_
  rintro _ w5 ⟨rfl, hx⟩
  refine ⟨_, rfl, ?_⟩
  replace hH := hH.ext hx
  clear hx
  refine lf_val (v := .bool true) (wantAll rfl) (rv_not (b := false) rfl (fr_eval rfl rfl)) ?_
  refine lf_val (v := .bool true) (wantAll rfl) (rv_move rfl (fr_eval rfl rfl)) ?_
  refine lf_val (v := .agg (([.int .i64 15, .int .i64 0, .int .i64 0] : List Value) ++ (cBs (List.replicate 32 0) ++ cBs (List.replicate 32 0))).toArray) (wantF (d := 12) rfl (by kernel_rfl) rfl rfl) (rv_buildS (ps := [(0, (.const (.int .i64 15)))]) (places := #[(0, 1), (1, 1), (2, 1), (3, 32), (35, 32)]) (z := .agg (([.int .i64 0, .int .i64 0, .int .i64 0] : List Value) ++ (cBs (List.replicate 32 0) ++ cBs (List.replicate 32 0))).toArray) (zc := ([.int .i64 0, .int .i64 0, .int .i64 0] : List Value) ++ (cBs (List.replicate 32 0) ++ cBs (List.replicate 32 0))) (cs := ([.int .i64 15, .int .i64 0, .int .i64 0] : List Value) ++ (cBs (List.replicate 32 0) ++ cBs (List.replicate 32 0))) rfl (evpc rfl evpn) (by kernel_rfl) rfl Try.underlying54 (fun _ => by kernel_rfl) (fillM (cells' := ([.int .i64 15, .int .i64 0, .int .i64 0] : List Value) ++ (cBs (List.replicate 32 0) ++ cBs (List.replicate 32 0))) (cs := [.int .i64 15]) (off := 0) (n := 1) rfl (cells_one rfl) (show List.length [.int .i64 15] = 1 from rfl) (le_of_len2 (len_app (m := 3) (n := 64) (k := 67) rfl (len_app (m := 32) (n := 32) (k := 64) (cBs_len (List.length_replicate ..)) (cBs_len (List.length_replicate ..)) rfl) rfl) (by decide)) (show lay ([] ++ (([.int .i64 0]) ++ (([.int .i64 0, .int .i64 0] : List Value) ++ (cBs (List.replicate 32 0) ++ cBs (List.replicate 32 0))))) 0 ([.int .i64 15]) = [] ++ (([.int .i64 15]) ++ (([.int .i64 0, .int .i64 0] : List Value) ++ (cBs (List.replicate 32 0) ++ cBs (List.replicate 32 0)))) from lay_app (show List.length ([] : List Value) = 0 from rfl) ((show List.length [.int .i64 0] = 1 from rfl).trans (show List.length [.int .i64 15] = 1 from rfl).symm)) fill0)) ?_
  refine lf_call (wantF (d := 12) rfl (by kernel_rfl) rfl rfl) (rv_call (args := [.agg (([.int .i64 15, .int .i64 0, .int .i64 0] : List Value) ++ (cBs (List.replicate 32 0) ++ cBs (List.replicate 32 0))).toArray]) rfl (evc (fr_eval rfl rfl) evn) Try.call34) (calls_known (b' := true) (rcRight_calls (⟨15, 0, 0, ⟨List.replicate 32 0, (List.length_replicate ..)⟩, ⟨List.replicate 32 0, (List.length_replicate ..)⟩⟩ : Rc) _) (show decide (inR _) = true from by decide)) ?_
  rintro _ w6 ⟨rfl, hx⟩
  refine ⟨_, rfl, ?_⟩
  replace hH := hH.ext hx
  clear hx
  refine lf_val (v := .bool true) (wantAll rfl) (rv_pickT rfl (fr_eval rfl rfl) (fr_eval rfl rfl)) ?_
  refine lf_val (v := .bool true) (wantAll rfl) (rv_move rfl (fr_eval rfl rfl)) ?_
  refine lf_val (v := .int .i64 0) (wantF (d := 16) rfl (by kernel_rfl) rfl rfl) (rv_move rfl (fr_eval rfl e2)) ?_
  refine lf_val (v := .bool true) (wantF (d := 16) rfl (by kernel_rfl) rfl rfl) (rv_eql rfl (fr_eval rfl rfl) rfl (by decide)) ?_
  refine lf_val (v := .bool true) (wantAll rfl) (rv_pickT rfl (fr_eval rfl rfl) (fr_eval rfl rfl)) ?_
  refine lf_val (v := .bool true) (wantAll rfl) (rv_assign rfl (fr_eval rfl rfl)) ?_
  refine lf_nil ?_
  refine then_n ?_
  refine wp_gen (fun F' => F' 0 = .bool true ∧ F' 2 = .int .i64 0) ⟨rfl, e2⟩ ?_
  clear e0 e2
  clear F
  rintro F ⟨e0, e2⟩
  refine wp_ret ?_
  exact bodyPost_ret (v := (.bool true)) (res1 rfl (ro_tmp rfl e0)) rfl (⟨rfl, hH.done⟩)

end Go.Proofs.Ytjgcjddaladgfaa
