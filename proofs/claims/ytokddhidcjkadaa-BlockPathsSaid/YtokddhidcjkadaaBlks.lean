/- Blocks: the walks. -/
import Derived.Test.YtokddhidcjkadaaBlk
import Derived.Test.YtokddhidcjkadaaPath
import Derived.Test.YtokddhidcjkadaaAppN
import Derived.Stop.BytesEq
namespace Go.Proofs.Ytokddhidcjkadaa
open Go.RowKit Go.Bz Go.Bz.Sha Go.Bz.Wire Go.Bz.Merkle Go.Bz.Txs
attribute [local irreducible] wpList Code.wp wpAnyX
def hdBeq (r q : Hd) : Bool := (r.a.1 == q.a.1) && ((r.h == q.h) && ((r.r.1 == q.r.1) && ((r.m == q.m) && true)))
theorem hdBeq_self (r : Hd) : hdBeq r r = true := by simp [hdBeq]
set_option maxRecDepth 100000 in
theorem eqHd_in (w : World) (r q : Hd) : (Op.equalIn 10000 40 (.agg (cBs r.a.1 ++ (([.int .i64 r.h] : List Value) ++ (cBs r.r.1 ++ ([.int .i64 r.m] : List Value)))).toArray) (.agg (cBs q.a.1 ++ (([.int .i64 q.h] : List Value) ++ (cBs q.r.1 ++ ([.int .i64 q.m] : List Value)))).toArray)).run Try.prog w = .ok (hdBeq r q) w := by
  have ht : Try.prog.underlying 40 = some (.struct (Try.prog.fieldsOf 40)) := by unfold Program.fieldsOf; rw [Try.underlying40]
  rw [run_equalIn_struct w 9999 _ _ _ ht (by kernel_rfl)]
  unfold Program.fieldsOf
  rw [Try.underlying40]
  exact (eqF_cons (by decide) (part_row Try.underlying23 rfl Try.sz23 (show List.take 32 (List.drop 0 ([] ++ ((cBs r.a.1) ++ (([.int .i64 r.h] : List Value) ++ (cBs r.r.1 ++ ([.int .i64 r.m] : List Value)))))) = cBs r.a.1 from part_app (show List.length ([] : List Value) = 0 from rfl) (cBs_len r.a.2)) (cBs_len r.a.2) (le_of_len2 (len_app (m := 32) (n := 34) (k := 66) (cBs_len r.a.2) (len_app (m := 1) (n := 33) (k := 34) rfl (len_app (m := 32) (n := 1) (k := 33) (cBs_len r.r.2) rfl rfl) rfl) rfl) (by decide))) (part_row Try.underlying23 rfl Try.sz23 (show List.take 32 (List.drop 0 ([] ++ ((cBs q.a.1) ++ (([.int .i64 q.h] : List Value) ++ (cBs q.r.1 ++ ([.int .i64 q.m] : List Value)))))) = cBs q.a.1 from part_app (show List.length ([] : List Value) = 0 from rfl) (cBs_len q.a.2)) (cBs_len q.a.2) (le_of_len2 (len_app (m := 32) (n := 34) (k := 66) (cBs_len q.a.2) (len_app (m := 1) (n := 33) (k := 34) rfl (len_app (m := 32) (n := 1) (k := 33) (cBs_len q.r.2) rfl rfl) rfl) rfl) (by decide))) (run_equalIn_bytes w 9997 23 5 32 Try.underlying23 Try.underlying5 Try.szB1 _ _ r.a.2 q.a.2) (eqF_cons (by decide) (part_cell Try.underlying3 rfl Try.sz3 (show (cBs r.a.1 ++ (([.int .i64 r.h] : List Value) ++ (cBs r.r.1 ++ ([.int .i64 r.m] : List Value))))[32]? = some (.int .i64 r.h) from get_r (n := 32) (j := 0) rfl (cBs_len r.a.2) (get_l (C := cBs r.r.1 ++ ([.int .i64 r.m] : List Value)) (show ([.int .i64 r.h] : List Value)[0]? = some (.int .i64 r.h) from rfl)))) (part_cell Try.underlying3 rfl Try.sz3 (show (cBs q.a.1 ++ (([.int .i64 q.h] : List Value) ++ (cBs q.r.1 ++ ([.int .i64 q.m] : List Value))))[32]? = some (.int .i64 q.h) from get_r (n := 32) (j := 0) rfl (cBs_len q.a.2) (get_l (C := cBs q.r.1 ++ ([.int .i64 q.m] : List Value)) (show ([.int .i64 q.h] : List Value)[0]? = some (.int .i64 q.h) from rfl)))) (run_equalIn_int w 9998 3 .i64 .i64 _ _ Try.underlying3) (eqF_cons (by decide) (part_row Try.underlying23 rfl Try.sz23 (part_of (cs := cBs r.a.1 ++ (([.int .i64 r.h] : List Value) ++ (cBs r.r.1 ++ ([.int .i64 r.m] : List Value)))) (A := (cBs r.a.1 ++ ([.int .i64 r.h] : List Value) : List Value)) (D := (cBs r.r.1 : List Value)) (C := ([.int .i64 r.m] : List Value)) (by simp only [List.append_assoc, List.cons_append, List.nil_append, List.append_nil]) (len_app (m := 32) (n := 1) (k := 33) (cBs_len r.a.2) rfl rfl) (cBs_len r.r.2)) (cBs_len r.r.2) (le_of_len2 (len_app (m := 32) (n := 34) (k := 66) (cBs_len r.a.2) (len_app (m := 1) (n := 33) (k := 34) rfl (len_app (m := 32) (n := 1) (k := 33) (cBs_len r.r.2) rfl rfl) rfl) rfl) (by decide))) (part_row Try.underlying23 rfl Try.sz23 (part_of (cs := cBs q.a.1 ++ (([.int .i64 q.h] : List Value) ++ (cBs q.r.1 ++ ([.int .i64 q.m] : List Value)))) (A := (cBs q.a.1 ++ ([.int .i64 q.h] : List Value) : List Value)) (D := (cBs q.r.1 : List Value)) (C := ([.int .i64 q.m] : List Value)) (by simp only [List.append_assoc, List.cons_append, List.nil_append, List.append_nil]) (len_app (m := 32) (n := 1) (k := 33) (cBs_len q.a.2) rfl rfl) (cBs_len q.r.2)) (cBs_len q.r.2) (le_of_len2 (len_app (m := 32) (n := 34) (k := 66) (cBs_len q.a.2) (len_app (m := 1) (n := 33) (k := 34) rfl (len_app (m := 32) (n := 1) (k := 33) (cBs_len q.r.2) rfl rfl) rfl) rfl) (by decide))) (run_equalIn_bytes w 9997 23 5 32 Try.underlying23 Try.underlying5 Try.szB1 _ _ r.r.2 q.r.2) (eqF_cons (by decide) (part_cell Try.underlying3 rfl Try.sz3 (get_of (cs := cBs r.a.1 ++ (([.int .i64 r.h] : List Value) ++ (cBs r.r.1 ++ ([.int .i64 r.m] : List Value)))) (A := (cBs r.a.1 ++ (([.int .i64 r.h] : List Value) ++ cBs r.r.1) : List Value)) (D := ([.int .i64 r.m] : List Value)) (C := ([] : List Value)) (o := 65) (j := 0) (by simp only [List.append_assoc, List.cons_append, List.nil_append, List.append_nil]) (len_app (m := 32) (n := 33) (k := 65) (cBs_len r.a.2) (len_app (m := 1) (n := 32) (k := 33) rfl (cBs_len r.r.2) rfl) rfl) rfl (show ([.int .i64 r.m] : List Value)[0]? = some (.int .i64 r.m) from rfl))) (part_cell Try.underlying3 rfl Try.sz3 (get_of (cs := cBs q.a.1 ++ (([.int .i64 q.h] : List Value) ++ (cBs q.r.1 ++ ([.int .i64 q.m] : List Value)))) (A := (cBs q.a.1 ++ (([.int .i64 q.h] : List Value) ++ cBs q.r.1) : List Value)) (D := ([.int .i64 q.m] : List Value)) (C := ([] : List Value)) (o := 65) (j := 0) (by simp only [List.append_assoc, List.cons_append, List.nil_append, List.append_nil]) (len_app (m := 32) (n := 33) (k := 65) (cBs_len q.a.2) (len_app (m := 1) (n := 32) (k := 33) rfl (cBs_len q.r.2) rfl) rfl) rfl (show ([.int .i64 q.m] : List Value)[0]? = some (.int .i64 q.m) from rfl))) (run_equalIn_int w 9998 3 .i64 .i64 _ _ Try.underlying3) eqF_nil))))
section
variable {w : World} {a : Act} {o : Oper}
theorem rv_eqHd {x y : Operand} {t2 : TypeId} {r : Hd} (ho : o.op = .binOp .eql 40 x y t2) (hx : a.eval x = .agg (cBs r.a.1 ++ (([.int .i64 r.h] : List Value) ++ (cBs r.r.1 ++ ([.int .i64 r.m] : List Value)))).toArray) (hy : a.eval y = .agg (cBs r.a.1 ++ (([.int .i64 r.h] : List Value) ++ (cBs r.r.1 ++ ([.int .i64 r.m] : List Value)))).toArray) : (execOp a.eval o).run Try.prog w = .ok (.value (.bool true)) w := by
  unfold execOp
  simp only [ho, hx, hy, Sem.run_bind, run_eqGuard_agg (hm := Try.eqGuardType40), Result.andThen_ok, run_eql_struct, eqHd_in, hdBeq_self, Sem.run_pure]
theorem rv_neHd {x y : Operand} {t2 : TypeId} {r : Hd} (ho : o.op = .binOp .neq 40 x y t2) (hx : a.eval x = .agg (cBs r.a.1 ++ (([.int .i64 r.h] : List Value) ++ (cBs r.r.1 ++ ([.int .i64 r.m] : List Value)))).toArray) (hy : a.eval y = .agg (cBs r.a.1 ++ (([.int .i64 r.h] : List Value) ++ (cBs r.r.1 ++ ([.int .i64 r.m] : List Value)))).toArray) : (execOp a.eval o).run Try.prog w = .ok (.value (.bool false)) w := by
  unfold execOp
  simp only [ho, hx, hy, Sem.run_bind, run_eqGuard_agg (hm := Try.eqGuardType40), Result.andThen_ok, run_neq_struct, eqHd_in, hdBeq_self, Sem.run_pure, Bool.not_true]
end

theorem zBk_p0 {a0 : List UInt8} (ha0 : a0.length = 32) {a1 : Value} {a2 : List UInt8} (_ : a2.length = 32) {a3 : Value} : List.take 32 (List.drop 0 (cBs a0 ++ (([a1] : List Value) ++ (cBs a2 ++ ([a3] : List Value))))) = cBs a0 := (show List.take 32 (List.drop 0 ([] ++ ((cBs a0) ++ (([a1] : List Value) ++ (cBs a2 ++ ([a3] : List Value)))))) = cBs a0 from part_app (show List.length ([] : List Value) = 0 from rfl) (cBs_len ha0))
theorem zBk_g1 {a0 : List UInt8} (ha0 : a0.length = 32) {a1 : Value} {a2 : List UInt8} (_ : a2.length = 32) {a3 : Value} : (cBs a0 ++ (([a1] : List Value) ++ (cBs a2 ++ ([a3] : List Value))))[32]? = some a1 := (show (cBs a0 ++ (([a1] : List Value) ++ (cBs a2 ++ ([a3] : List Value))))[32]? = some (a1) from get_r (n := 32) (j := 0) rfl (cBs_len ha0) (get_l (C := cBs a2 ++ ([a3] : List Value)) (show ([a1] : List Value)[0]? = some (a1) from rfl)))
theorem zBk_p2 {a0 : List UInt8} (ha0 : a0.length = 32) {a1 : Value} {a2 : List UInt8} (ha2 : a2.length = 32) {a3 : Value} : List.take 32 (List.drop 33 (cBs a0 ++ (([a1] : List Value) ++ (cBs a2 ++ ([a3] : List Value))))) = cBs a2 := (part_of (cs := cBs a0 ++ (([a1] : List Value) ++ (cBs a2 ++ ([a3] : List Value)))) (A := (cBs a0 ++ ([a1] : List Value) : List Value)) (D := (cBs a2 : List Value)) (C := ([a3] : List Value)) (by simp) (len_app (m := 32) (n := 1) (k := 33) (cBs_len ha0) rfl rfl) (cBs_len ha2))
theorem zBk_g3 {a0 : List UInt8} (ha0 : a0.length = 32) {a1 : Value} {a2 : List UInt8} (ha2 : a2.length = 32) {a3 : Value} : (cBs a0 ++ (([a1] : List Value) ++ (cBs a2 ++ ([a3] : List Value))))[65]? = some a3 := (get_of (cs := cBs a0 ++ (([a1] : List Value) ++ (cBs a2 ++ ([a3] : List Value)))) (A := (cBs a0 ++ (([a1] : List Value) ++ cBs a2) : List Value)) (D := ([a3] : List Value)) (C := ([] : List Value)) (o := 65) (j := 0) (by simp) (len_app (m := 32) (n := 33) (k := 65) (cBs_len ha0) (len_app (m := 1) (n := 32) (k := 33) rfl (cBs_len ha2) rfl) rfl) rfl (show ([a3] : List Value)[0]? = some (a3) from rfl))
theorem zBk_l4 {a0 : Value} {a1 : Value} {a2 : Value} {a3 : Value} {a4 : Value} {a5 : Value} {a6 : List UInt8} (ha6 : a6.length = 32) {a7 : Value} {a8 : Value} : List.length (([a0, a1, a2, a3, a4, a5] : List Value) ++ (cBs a6 ++ ([a7, a8] : List Value))) = 40 := (len_app (m := 6) (n := 34) (k := 40) rfl (len_app (m := 32) (n := 2) (k := 34) (cBs_len ha6) rfl rfl) rfl)
theorem zBk_o5 {a0 : Value} {a1 : Value} {a2 : Value} {a3 : Value} {a4 : Value} {a5 : Value} {a6 : List UInt8} {a7 : Value} {a8 : Value} (qa0 : a0.oneCell' = true) (qa1 : a1.oneCell' = true) (qa2 : a2.oneCell' = true) (qa3 : a3.oneCell' = true) (qa4 : a4.oneCell' = true) (qa5 : a5.oneCell' = true) (qa7 : a7.oneCell' = true) (qa8 : a8.oneCell' = true) : ∀ u ∈ (([a0, a1, a2, a3, a4, a5] : List Value) ++ (cBs a6 ++ ([a7, a8] : List Value))), u.oneCell' = true := (ones_app (ones_cons qa0 (ones_cons qa1 (ones_cons qa2 (ones_cons qa3 (ones_cons qa4 (ones_cons qa5 ones_nil)))))) (ones_app (cBs_one _) (ones_cons qa7 (ones_cons qa8 ones_nil))))
theorem zBk_g6 {a0 : List UInt8} (ha0 : a0.length = 32) {a1 : Value} {a2 : List UInt8} (ha2 : a2.length = 32) {a3 : Value} {a4 : Value} : (cBs a0 ++ (([a1] : List Value) ++ (cBs a2 ++ ([a3, a4] : List Value))))[65]? = some a3 := (get_of (cs := cBs a0 ++ (([a1] : List Value) ++ (cBs a2 ++ ([a3, a4] : List Value)))) (A := (cBs a0 ++ (([a1] : List Value) ++ cBs a2) : List Value)) (D := ([a3, a4] : List Value)) (C := ([] : List Value)) (o := 65) (j := 0) (by simp) (len_app (m := 32) (n := 33) (k := 65) (cBs_len ha0) (len_app (m := 1) (n := 32) (k := 33) rfl (cBs_len ha2) rfl) rfl) rfl (show ([a3, a4] : List Value)[0]? = some (a3) from rfl))
theorem zBk_g7 {a0 : List UInt8} (ha0 : a0.length = 32) {a1 : Value} {a2 : List UInt8} (ha2 : a2.length = 32) {a3 : Value} {a4 : Value} : (cBs a0 ++ (([a1] : List Value) ++ (cBs a2 ++ ([a3, a4] : List Value))))[66]? = some a4 := (get_of (cs := cBs a0 ++ (([a1] : List Value) ++ (cBs a2 ++ ([a3, a4] : List Value)))) (A := (cBs a0 ++ (([a1] : List Value) ++ cBs a2) : List Value)) (D := ([a3, a4] : List Value)) (C := ([] : List Value)) (o := 65) (j := 1) (by simp) (len_app (m := 32) (n := 33) (k := 65) (cBs_len ha0) (len_app (m := 1) (n := 32) (k := 33) rfl (cBs_len ha2) rfl) rfl) rfl (show ([a3, a4] : List Value)[1]? = some (a4) from rfl))
theorem zBk_g8 {a0 : List UInt8} (ha0 : a0.length = 32) {a1 : Value} {a2 : List UInt8} (_ : a2.length = 32) {a3 : Value} {a4 : Value} : (cBs a0 ++ (([a1] : List Value) ++ (cBs a2 ++ ([a3, a4] : List Value))))[32]? = some a1 := (show (cBs a0 ++ (([a1] : List Value) ++ (cBs a2 ++ ([a3, a4] : List Value))))[32]? = some (a1) from get_r (n := 32) (j := 0) rfl (cBs_len ha0) (get_l (C := cBs a2 ++ ([a3, a4] : List Value)) (show ([a1] : List Value)[0]? = some (a1) from rfl)))
theorem zBk_p9 {a0 : List UInt8} (ha0 : a0.length = 32) {a1 : Value} {a2 : List UInt8} (ha2 : a2.length = 32) {a3 : Value} {a4 : Value} : List.take 32 (List.drop 33 (cBs a0 ++ (([a1] : List Value) ++ (cBs a2 ++ ([a3, a4] : List Value))))) = cBs a2 := (part_of (cs := cBs a0 ++ (([a1] : List Value) ++ (cBs a2 ++ ([a3, a4] : List Value)))) (A := (cBs a0 ++ ([a1] : List Value) : List Value)) (D := (cBs a2 : List Value)) (C := ([a3, a4] : List Value)) (by simp) (len_app (m := 32) (n := 1) (k := 33) (cBs_len ha0) rfl rfl) (cBs_len ha2))
theorem zBk_l10 {a0 : List UInt8} (ha0 : a0.length = 32) {a1 : Value} {a2 : List UInt8} (ha2 : a2.length = 32) {a3 : Value} {a4 : Value} : List.length (cBs a0 ++ (([a1] : List Value) ++ (cBs a2 ++ ([a3, a4] : List Value)))) = 67 := (len_app (m := 32) (n := 35) (k := 67) (cBs_len ha0) (len_app (m := 1) (n := 34) (k := 35) rfl (len_app (m := 32) (n := 2) (k := 34) (cBs_len ha2) rfl rfl) rfl) rfl)
theorem zBk_o11 {a0 : List UInt8} {a1 : Value} {a2 : List UInt8} {a3 : Value} {a4 : Value} (qa1 : a1.oneCell' = true) (qa3 : a3.oneCell' = true) (qa4 : a4.oneCell' = true) : ∀ u ∈ (cBs a0 ++ (([a1] : List Value) ++ (cBs a2 ++ ([a3, a4] : List Value)))), u.oneCell' = true := (ones_app (cBs_one _) (ones_app (ones_cons qa1 ones_nil) (ones_app (cBs_one _) (ones_cons qa3 (ones_cons qa4 ones_nil)))))
theorem zBk_l12 {a0 : List UInt8} (ha0 : a0.length = 32) {a1 : Value} {a2 : List UInt8} (ha2 : a2.length = 32) {a3 : Value} : List.length (cBs a0 ++ (([a1] : List Value) ++ (cBs a2 ++ ([a3] : List Value)))) = 66 := (len_app (m := 32) (n := 34) (k := 66) (cBs_len ha0) (len_app (m := 1) (n := 33) (k := 34) rfl (len_app (m := 32) (n := 1) (k := 33) (cBs_len ha2) rfl rfl) rfl) rfl)
theorem zBk_y13 {a0 : List UInt8} (ha0 : a0.length = 32) {a1 : Value} {a2 : List UInt8} (_ : a2.length = 32) {a3 : Value} {n0 : List UInt8} (hn0 : n0.length = 32) : lay (cBs a0 ++ (([a1] : List Value) ++ (cBs a2 ++ ([a3] : List Value)))) 0 (cBs n0) = cBs n0 ++ (([a1] : List Value) ++ (cBs a2 ++ ([a3] : List Value))) := (show lay ([] ++ ((cBs a0) ++ (([a1] : List Value) ++ (cBs a2 ++ ([a3] : List Value))))) 0 (cBs n0) = [] ++ ((cBs n0) ++ (([a1] : List Value) ++ (cBs a2 ++ ([a3] : List Value)))) from lay_app (show List.length ([] : List Value) = 0 from rfl) ((cBs_len ha0).trans (cBs_len hn0).symm))
theorem zBk_y14 {a0 : List UInt8} (ha0 : a0.length = 32) {a1 : Value} {a2 : List UInt8} (_ : a2.length = 32) {a3 : Value} {n0 : Value} : lay (cBs a0 ++ (([a1] : List Value) ++ (cBs a2 ++ ([a3] : List Value)))) 32 ([n0]) = cBs a0 ++ (([n0] : List Value) ++ (cBs a2 ++ ([a3] : List Value))) := (show lay (cBs a0 ++ (([a1]) ++ (cBs a2 ++ ([a3] : List Value)))) 32 ([n0]) = cBs a0 ++ (([n0]) ++ (cBs a2 ++ ([a3] : List Value))) from lay_app (cBs_len ha0) ((show List.length [a1] = 1 from rfl).trans (show List.length [n0] = 1 from rfl).symm))
theorem zBk_y15 {a0 : List UInt8} (ha0 : a0.length = 32) {a1 : Value} {a2 : List UInt8} (ha2 : a2.length = 32) {a3 : Value} {n0 : List UInt8} (hn0 : n0.length = 32) : lay (cBs a0 ++ (([a1] : List Value) ++ (cBs a2 ++ ([a3] : List Value)))) 33 (cBs n0) = cBs a0 ++ (([a1] : List Value) ++ (cBs n0 ++ ([a3] : List Value))) := (lay_of (cur := cBs a0 ++ (([a1] : List Value) ++ (cBs a2 ++ ([a3] : List Value)))) (cs := cBs n0) (cur' := cBs a0 ++ (([a1] : List Value) ++ (cBs n0 ++ ([a3] : List Value)))) (A := (cBs a0 ++ ([a1] : List Value) : List Value)) (D := (cBs a2 : List Value)) (C := ([a3] : List Value)) (by simp) (by simp) (len_app (m := 32) (n := 1) (k := 33) (cBs_len ha0) rfl rfl) ((cBs_len ha2).trans (cBs_len hn0).symm))
theorem zBk_y16 {a0 : List UInt8} (ha0 : a0.length = 32) {a1 : Value} {a2 : List UInt8} (ha2 : a2.length = 32) {a3 : Value} {n0 : Value} : lay (cBs a0 ++ (([a1] : List Value) ++ (cBs a2 ++ ([a3] : List Value)))) 65 ([n0]) = cBs a0 ++ (([a1] : List Value) ++ (cBs a2 ++ ([n0] : List Value))) := (lay_of (cur := cBs a0 ++ (([a1] : List Value) ++ (cBs a2 ++ ([a3] : List Value)))) (cs := [n0]) (cur' := cBs a0 ++ (([a1] : List Value) ++ (cBs a2 ++ ([n0] : List Value)))) (A := (cBs a0 ++ (([a1] : List Value) ++ cBs a2) : List Value)) (D := ([a3] : List Value)) (C := ([] : List Value)) (by simp) (by simp) (len_app (m := 32) (n := 33) (k := 65) (cBs_len ha0) (len_app (m := 1) (n := 32) (k := 33) rfl (cBs_len ha2) rfl) rfl) ((show List.length [a3] = 1 from rfl).trans (show List.length [n0] = 1 from rfl).symm))
theorem zBk_o17 {a0 : List UInt8} {a1 : Value} {a2 : List UInt8} {a3 : Value} (qa1 : a1.oneCell' = true) (qa3 : a3.oneCell' = true) : ∀ u ∈ (cBs a0 ++ (([a1] : List Value) ++ (cBs a2 ++ ([a3] : List Value)))), u.oneCell' = true := (ones_app (cBs_one _) (ones_app (ones_cons qa1 ones_nil) (ones_app (cBs_one _) (ones_cons qa3 ones_nil))))
theorem zBk_y18 {a0 : List UInt8} (ha0 : a0.length = 32) {a1 : Value} {a2 : List UInt8} (ha2 : a2.length = 32) {a3 : Value} {a4 : Value} {n0 : List UInt8} (hn0 : n0.length = 32) {n1 : Value} {n2 : List UInt8} (hn2 : n2.length = 32) {n3 : Value} : lay (cBs a0 ++ (([a1] : List Value) ++ (cBs a2 ++ ([a3, a4] : List Value)))) 0 (cBs n0 ++ (([n1] : List Value) ++ (cBs n2 ++ ([n3] : List Value)))) = cBs n0 ++ (([n1] : List Value) ++ (cBs n2 ++ ([n3, a4] : List Value))) := (lay_of (cur := cBs a0 ++ (([a1] : List Value) ++ (cBs a2 ++ ([a3, a4] : List Value)))) (cs := cBs n0 ++ (([n1] : List Value) ++ (cBs n2 ++ ([n3] : List Value)))) (cur' := cBs n0 ++ (([n1] : List Value) ++ (cBs n2 ++ ([n3, a4] : List Value)))) (A := ([] : List Value)) (D := (cBs a0 ++ (([a1] : List Value) ++ (cBs a2 ++ ([a3] : List Value))) : List Value)) (C := ([a4] : List Value)) (by simp) (by simp) (show List.length ([] : List Value) = 0 from rfl) ((len_app (m := 32) (n := 34) (k := 66) (cBs_len ha0) (len_app (m := 1) (n := 33) (k := 34) rfl (len_app (m := 32) (n := 1) (k := 33) (cBs_len ha2) rfl rfl) rfl) rfl).trans (len_app (m := 32) (n := 34) (k := 66) (cBs_len hn0) (len_app (m := 1) (n := 33) (k := 34) rfl (len_app (m := 32) (n := 1) (k := 33) (cBs_len hn2) rfl rfl) rfl) rfl).symm))
theorem zBk_y19 {a0 : List UInt8} (ha0 : a0.length = 32) {a1 : Value} {a2 : List UInt8} (ha2 : a2.length = 32) {a3 : Value} {a4 : Value} {n0 : Value} : lay (cBs a0 ++ (([a1] : List Value) ++ (cBs a2 ++ ([a3, a4] : List Value)))) 66 ([n0]) = cBs a0 ++ (([a1] : List Value) ++ (cBs a2 ++ ([a3, n0] : List Value))) := (lay_of (cur := cBs a0 ++ (([a1] : List Value) ++ (cBs a2 ++ ([a3, a4] : List Value)))) (cs := [n0]) (cur' := cBs a0 ++ (([a1] : List Value) ++ (cBs a2 ++ ([a3, n0] : List Value)))) (A := (cBs a0 ++ (([a1] : List Value) ++ (cBs a2 ++ ([a3] : List Value))) : List Value)) (D := ([a4] : List Value)) (C := ([] : List Value)) (by simp) (by simp) (len_app (m := 32) (n := 34) (k := 66) (cBs_len ha0) (len_app (m := 1) (n := 33) (k := 34) rfl (len_app (m := 32) (n := 1) (k := 33) (cBs_len ha2) rfl rfl) rfl) rfl) ((show List.length [a4] = 1 from rfl).trans (show List.length [n0] = 1 from rfl).symm))
set_option maxRecDepth 100000 in
set_option maxHeartbeats 4000000 in
theorem headSum_calls (x : Hd) (hin : inHd x) (w : World) :
    Calls Try.prog 30 #[.agg (cBs x.a.1 ++ (([.int .i64 x.h] : List Value) ++ (cBs x.r.1 ++ ([.int .i64 x.m] : List Value)))).toArray] w fun e'' w' => e'' = .returned (.agg (cBs (headS x).1).toArray) ∧ Ext w w' := by
  refine calls_fr (args := [.agg (cBs x.a.1 ++ (([.int .i64 x.h] : List Value) ++ (cBs x.r.1 ++ ([.int .i64 x.m] : List Value)))).toArray]) (n := 21) Try.func30 rfl rfl (show 1 ≤ 21 by decide) ?_
  obtain ⟨⟨hi1, hi2⟩, hi3, hi4⟩ := hin
  have qh := put_len x.h
  have qm := put_len x.m
  have qa := x.a.2
  have qr := x.r.2
  have hH : Heap (newN w) w w [] := Heap.fresh
  refine wp_seq ?_
  refine wp_gen (fun F' => F' 0 = .agg (cBs x.a.1 ++ (([.int .i64 x.h] : List Value) ++ (cBs x.r.1 ++ ([.int .i64 x.m] : List Value)))).toArray) rfl ?_
  rintro F e0
  refine wp_regionF ?_
  refine lf_ex (wantAll rfl) (hx_box hH 40 (cs := cBs x.a.1 ++ (([.int .i64 x.h] : List Value) ++ (cBs x.r.1 ++ ([.int .i64 x.m] : List Value)))) rfl (fr_eval rfl e0) (by rfl)) ?_
  clear hH
  rintro _ w1 ⟨g1, rfl, hH, hx⟩
  replace hH : Heap _ _ _ [_] := hH
  clear hx
  refine lf_ex (wantAll rfl) (hx_alloc hH 23 (z := .agg (cBs (List.replicate 32 0)).toArray) (n := 32) (cs := cBs (List.replicate 32 0)) rfl (by kernel_rfl) (by rfl)) ?_
  clear hH
  rintro _ w2 ⟨g2, rfl, hH, hx⟩
  replace hH : Heap _ _ _ [_, _] := hH
  clear hx
  refine lf_nil ?_
  refine then_n ?_
  refine wp_seq ?_
  refine wp_gen (fun F' => F' 0 = .agg (cBs x.a.1 ++ (([.int .i64 x.h] : List Value) ++ (cBs x.r.1 ++ ([.int .i64 x.m] : List Value)))).toArray ∧ F' 1 = .pointer (some ⟨g1, 0, none⟩) ∧ F' 2 = .pointer (some ⟨g2, 0, none⟩)) ⟨e0, rfl, rfl⟩ ?_
  clear e0
  clear F
  rintro F ⟨e0, e1, e2⟩
  refine wp_regionF ?_
  refine lf_ex (wantAll rfl) (hx_alloc hH 76 (z := .agg ([.slice none 0 0]).toArray) (n := 1) (cs := [.slice none 0 0]) rfl (by kernel_rfl) (by rfl)) ?_
  clear hH
  rintro _ w3 ⟨g3, rfl, hH, hx⟩
  replace hH : Heap _ _ _ [_, _, _] := hH
  clear hx
  refine lf_nil ?_
  refine then_n ?_
  refine wp_seq ?_
  refine wp_gen (fun F' => F' 0 = .agg (cBs x.a.1 ++ (([.int .i64 x.h] : List Value) ++ (cBs x.r.1 ++ ([.int .i64 x.m] : List Value)))).toArray ∧ F' 1 = .pointer (some ⟨g1, 0, none⟩) ∧ F' 2 = .pointer (some ⟨g2, 0, none⟩) ∧ F' 3 = .pointer (some ⟨g3, 0, none⟩)) ⟨e0, e1, e2, rfl⟩ ?_
  clear e0 e1 e2
  clear F
  rintro F ⟨e0, e1, e2, e3⟩
  replace hH : Heap _ _ _ [_, _, _] := hH.toPen (i := 2) rfl rfl
  have hs_1 := hH.fixed1 (j := 0) (i := 2) rfl rfl (by decide)
  have hs_2 := hH.fixed1 (j := 1) (i := 2) rfl rfl (by decide)
  have hKN := hH.sub1 (i := 2) rfl
  have hcK : Chg (newK w3 (oPen g3 (.slice none 0 0) []).fp) w3 w3 := Chg.refl _ _
  have hfM : ∀ k, (oPen g3 (.slice none 0 0) []).fp k → (newK w3 (oPen g3 (.slice none 0 0) []).fp) k := fun k h => Or.inr h
  refine wp_regionX (newK w3 (oPen g3 (.slice none 0 0) []).fp) 11 (by kernel_rfl) (by kernel_rfl) ?_
  refine xl_take (i := 0) (v := .pointer (some ⟨g1, 0, none⟩)) rfl (by kernel_rfl) (by kernel_rfl) (by kernel_rfl) (by kernel_rfl) (yx_val (wantAll rfl) (fun w' hx' => rv_fieldAddr (n := 31) rfl (fr_eval rfl e1) Try.underlying40 rfl rfl (by kernel_rfl))) ?_
  refine xl_take (i := 1) (v := .agg (cBs x.a.1).toArray) rfl (by kernel_rfl) (by kernel_rfl) (by kernel_rfl) (by kernel_rfl) (yx_val (wantAll rfl) (fun w' hx' => rv_loadP rfl (hs_1 _ (hcK.trans hx')) (zBk_p0 x.a.2 x.r.2) (cBs_len x.a.2) (fr_eval rfl rfl) Try.underlying23 rfl Try.sz23)) ?_
  refine xl_take (i := 3) (v := .pointer (some ⟨g1, 32, none⟩)) rfl (by kernel_rfl) (by kernel_rfl) (by kernel_rfl) (by kernel_rfl) (yx_val (wantAll rfl) (fun w' hx' => rv_fieldAddr (n := 0) rfl (fr_eval rfl e1) Try.underlying40 rfl rfl (by kernel_rfl))) ?_
  refine xl_take (i := 4) (v := .int .i64 x.h) rfl (by kernel_rfl) (by kernel_rfl) (by kernel_rfl) (by kernel_rfl) (yx_val (wantAll rfl) (fun w' hx' => rv_load1 rfl (hs_1 _ (hcK.trans hx')) (zBk_g1 x.a.2 x.r.2) (fr_eval rfl rfl) Try.underlying3 rfl Try.sz3)) ?_
  refine xl_take (i := 6) (v := .pointer (some ⟨g1, 33, none⟩)) rfl (by kernel_rfl) (by kernel_rfl) (by kernel_rfl) (by kernel_rfl) (yx_val (wantAll rfl) (fun w' hx' => rv_fieldAddr (n := 31) rfl (fr_eval rfl e1) Try.underlying40 rfl rfl (by kernel_rfl))) ?_
  refine xl_take (i := 7) (v := .agg (cBs x.r.1).toArray) rfl (by kernel_rfl) (by kernel_rfl) (by kernel_rfl) (by kernel_rfl) (yx_val (wantAll rfl) (fun w' hx' => rv_loadP rfl (hs_1 _ (hcK.trans hx')) (zBk_p2 x.a.2 x.r.2) (cBs_len x.r.2) (fr_eval rfl rfl) Try.underlying23 rfl Try.sz23)) ?_
  refine xl_take (i := 9) (v := .pointer (some ⟨g1, 65, none⟩)) rfl (by kernel_rfl) (by kernel_rfl) (by kernel_rfl) (by kernel_rfl) (yx_val (wantAll rfl) (fun w' hx' => rv_fieldAddr (n := 0) rfl (fr_eval rfl e1) Try.underlying40 rfl rfl (by kernel_rfl))) ?_
  refine xl_take (i := 10) (v := .int .i64 x.m) rfl (by kernel_rfl) (by kernel_rfl) (by kernel_rfl) (by kernel_rfl) (yx_val (wantAll rfl) (fun w' hx' => rv_load1 rfl (hs_1 _ (hcK.trans hx')) (zBk_g3 x.a.2 x.r.2) (fr_eval rfl rfl) Try.underlying3 rfl Try.sz3)) ?_
  refine anyX_ready (rs := [2]) (by kernel_rfl) ?_
  intro w4 hx
  replace hH := hH.ext hx
  replace hcK := hcK.trans (Ext.any hx)
  clear hx
  refine (anyX_cons ?_ anyX_nil)
  refine xl_step (i := 2) rfl (wantAll rfl) ?_
  refine of_call (rv_call (args := [.pointer (some ⟨g3, 0, none⟩), .agg (cBs x.a.1).toArray]) rfl (evc (fr_eval rfl e3) (evc (fr_eval rfl rfl) evn)) Try.call42) (penSum_calls x.a.1 x.a.2 _ (hH.pen (i := 2) rfl) (by first | omega | (simp only [List.length_append]; omega) | (simp only [List.length_append, List.length_cons, List.length_nil]; omega))) ?_
  rintro _ w5 ⟨rfl, hp⟩
  refine ⟨_, rfl, ?_⟩
  obtain ⟨y1, hH', hx, hxf, hgr⟩ := hH.penPost (i := 2) (l2 := x.a.1) rfl (fun _ => rfl) hp
  clear hH hp
  have hH : Heap _ _ _ [_, _, _] := hH'
  clear hH'
  have hcx := hxf.mono (fun k _ hk => hfM k hk)
  replace hfM := grow1 (fun k h => Or.inl h) hcK.size hfM hgr
  replace hcK := hcK.trans hcx
  refine ⟨hcx, ?_⟩
  clear hcx hxf hgr hx
  refine anyX_ready (rs := [5]) (by kernel_rfl) ?_
  intro w6 hx
  replace hH := hH.ext hx
  replace hcK := hcK.trans (Ext.any hx)
  clear hx
  refine (anyX_cons ?_ anyX_nil)
  refine xl_step (i := 5) rfl (wantAll rfl) ?_
  refine of_call (rv_call (args := [.pointer (some ⟨g3, 0, none⟩), .int .i64 x.h]) rfl (evc (fr_eval rfl rfl) (evc (fr_eval rfl rfl) evn)) Try.call65) (penNum_calls x.h (by omega) _ (hH.pen (i := 2) rfl) (by first | omega | (simp only [List.length_append]; omega) | (simp only [List.length_append, List.length_cons, List.length_nil]; omega))) ?_
  rintro _ w7 ⟨rfl, hp⟩
  refine ⟨_, rfl, ?_⟩
  obtain ⟨y2, hH', hx, hxf, hgr⟩ := hH.penPost (i := 2) (l2 := x.a.1 ++ put x.h) rfl (fun _ => rfl) hp
  clear hH hp
  have hH : Heap _ _ _ [_, _, _] := hH'
  clear hH'
  have hcx := hxf.mono (fun k _ hk => hfM k hk)
  replace hfM := grow1 (fun k h => Or.inl h) hcK.size hfM hgr
  replace hcK := hcK.trans hcx
  refine ⟨hcx, ?_⟩
  clear hcx hxf hgr hx
  refine anyX_ready (rs := [8]) (by kernel_rfl) ?_
  intro w8 hx
  replace hH := hH.ext hx
  replace hcK := hcK.trans (Ext.any hx)
  clear hx
  refine (anyX_cons ?_ anyX_nil)
  refine xl_step (i := 8) rfl (wantAll rfl) ?_
  refine of_call (rv_call (args := [.pointer (some ⟨g3, 0, none⟩), .agg (cBs x.r.1).toArray]) rfl (evc (fr_eval rfl rfl) (evc (fr_eval rfl rfl) evn)) Try.call42) (penSum_calls x.r.1 x.r.2 _ (hH.pen (i := 2) rfl) (by first | omega | (simp only [List.length_append]; omega) | (simp only [List.length_append, List.length_cons, List.length_nil]; omega))) ?_
  rintro _ w9 ⟨rfl, hp⟩
  refine ⟨_, rfl, ?_⟩
  obtain ⟨y3, hH', hx, hxf, hgr⟩ := hH.penPost (i := 2) (l2 := x.a.1 ++ put x.h ++ x.r.1) rfl (fun _ => rfl) hp
  clear hH hp
  have hH : Heap _ _ _ [_, _, _] := hH'
  clear hH'
  have hcx := hxf.mono (fun k _ hk => hfM k hk)
  replace hfM := grow1 (fun k h => Or.inl h) hcK.size hfM hgr
  replace hcK := hcK.trans hcx
  refine ⟨hcx, ?_⟩
  clear hcx hxf hgr hx
  refine xl_tail (s := 11) rfl ?_
  intro w10 hx
  replace hH := hH.ext hx
  clear hx
  clear hs_1 hs_2 hKN hcK hfM
  refine lf_call (wantAll rfl) (rv_call (args := [.pointer (some ⟨g3, 0, none⟩), .int .i64 x.m]) rfl (evc (fr_eval rfl rfl) (evc (fr_eval rfl rfl) evn)) Try.call65) (penNum_calls x.m (by omega) _ (hH.pen (i := 2) rfl) (by first | omega | (simp only [List.length_append]; omega) | (simp only [List.length_append, List.length_cons, List.length_nil]; omega))) ?_
  rintro _ w11 ⟨rfl, hp⟩
  refine ⟨_, rfl, ?_⟩
  obtain ⟨y4, hH', hx, hxf, hgr⟩ := hH.penPost (i := 2) (l2 := x.a.1 ++ put x.h ++ x.r.1 ++ put x.m) rfl (fun _ => rfl) hp
  clear hH hp
  have hH : Heap _ _ _ [_, _, _] := hH'
  clear hH'
  clear hxf hgr hx
  refine lf_call (wantAll rfl) (rv_call (args := [.pointer (some ⟨g3, 0, none⟩)]) rfl (evc (fr_eval rfl rfl) evn) Try.call46) (penBytes_calls _ (hH.pen (i := 2) rfl) (by first | omega | (simp only [List.length_append]; omega) | (simp only [List.length_append, List.length_cons, List.length_nil]; omega))) ?_
  rintro _ w12 ⟨⟨y5, rfl, ho, hg⟩, hx⟩
  refine ⟨_, rfl, ?_⟩
  replace hH : Heap _ _ _ [_, _, _, _] := hH.addOwn hx hg ho
  clear ho hg
  clear hx
  refine lf_val (v := y5) (wantAll rfl) (rv_assign rfl (fr_eval rfl rfl)) ?_
  refine lf_nil ?_
  refine then_n ?_
  refine wp_seq ?_
  refine wp_gen (fun F' => F' 0 = .agg (cBs x.a.1 ++ (([.int .i64 x.h] : List Value) ++ (cBs x.r.1 ++ ([.int .i64 x.m] : List Value)))).toArray ∧ F' 1 = .pointer (some ⟨g1, 0, none⟩) ∧ F' 2 = .pointer (some ⟨g2, 0, none⟩) ∧ F' 3 = .pointer (some ⟨g3, 0, none⟩) ∧ F' 4 = y5) ⟨e0, e1, e2, e3, rfl⟩ ?_
  clear e0 e1 e2 e3
  clear F
  rintro F ⟨e0, e1, e2, e3, e4⟩
  refine wp_regionF ?_
  refine lf_val (v := y5) (wantAll rfl) (rv_move rfl (fr_eval rfl e4)) ?_
  refine lf_ex (wantAll rfl) (hx_lits hH Try.stBB (n := 1) (nm := 1) [(.tmp 18)] (vs := [y5]) rfl (evc (fr_eval rfl rfl) evn) (ones_cons (Rd.oneV (OwnB.rd (hH.own (i := 3) rfl))) ones_nil) rfl (by decide) rfl rfl) ?_
  clear hH
  rintro y6 w13 ⟨hH, hx⟩
  replace hH : Heap _ _ _ [_, _, _, _, _] := hH
  clear hx
  refine lf_call (wantAll rfl) (rv_call (args := [cB 81, y6]) rfl (evc rfl (evc (fr_eval rfl rfl) evn)) Try.call45) (join_calls 81 [x.a.1 ++ put x.h ++ x.r.1 ++ put x.m] (flat_le1 (by simp only [List.length_append]; omega)) _ _ (rdP_own (hH.own (i := 4) rfl) (.cons (OwnB.rd (hH.own (i := 3) rfl)) .nil) rfl)) ?_
  rintro _ w14 ⟨rfl, hx⟩
  refine ⟨_, rfl, ?_⟩
  replace hH := hH.ext hx
  clear hx
  refine lf_sk (wantAll rfl) (hx_storeW hH (i := 1) (cs := cBs (join 81 [x.a.1 ++ put x.h ++ x.r.1 ++ put x.m])) rfl rfl rfl (fr_eval rfl e2) (fr_eval rfl rfl) (sz_len Try.sz23 (cBs_len (join_length _ _))) (((cBs_len (List.length_replicate ..))).trans ((cBs_len (join_length _ _))).symm) ((cBs_one _))) ?_
  clear hH
  rintro w15 ⟨hH, hx⟩
  replace hH : Heap _ _ _ [_, _, _, _, _] := hH
  clear hx
  refine lf_nil ?_
  refine then_n ?_
  replace hH : Heap _ _ _ [_, _, _, _] := hH.drop (.cons_cons _ (.cons_cons _ (.cons_cons _ (.cons_cons _ (.cons _ .slnil)))))
  refine wp_gen (fun F' => F' 0 = .agg (cBs x.a.1 ++ (([.int .i64 x.h] : List Value) ++ (cBs x.r.1 ++ ([.int .i64 x.m] : List Value)))).toArray ∧ F' 1 = .pointer (some ⟨g1, 0, none⟩) ∧ F' 2 = .pointer (some ⟨g2, 0, none⟩) ∧ F' 3 = .pointer (some ⟨g3, 0, none⟩) ∧ F' 4 = y5) ⟨e0, e1, e2, e3, e4⟩ ?_
  clear e0 e1 e2 e3 e4
  clear F
  rintro F ⟨e0, e1, e2, e3, e4⟩
  refine wp_ret ?_
  exact bodyPost_ret (res1 rfl (ro_cell rfl e2 (hH.blk (i := 1) rfl) Try.underlying23 rfl (sz_len Try.sz23 (cBs_len (join_length _ _))))) rfl (⟨rfl, hH.done⟩)

set_option maxRecDepth 100000 in
set_option maxHeartbeats 4000000 in
theorem head19_calls (x : Hd) (hin : inHd x) (w : World) :
    Calls Try.prog 31 #[.agg (cBs x.a.1 ++ (([.int .i64 x.h] : List Value) ++ (cBs x.r.1 ++ ([.int .i64 x.m] : List Value)))).toArray] w fun e'' w' => e'' = .returned (.agg (cBs (headS x).1).toArray) ∧ Ext w w' := by
  refine calls_fr (args := [.agg (cBs x.a.1 ++ (([.int .i64 x.h] : List Value) ++ (cBs x.r.1 ++ ([.int .i64 x.m] : List Value)))).toArray]) (n := 19) Try.func31 rfl rfl (show 1 ≤ 19 by decide) ?_
  obtain ⟨⟨hi1, hi2⟩, hi3, hi4⟩ := hin
  have qh := put_len x.h
  have qm := put_len x.m
  have qa := x.a.2
  have qr := x.r.2
  have hH : Heap (newN w) w w [] := Heap.fresh
  refine wp_seq ?_
  refine wp_gen (fun F' => F' 0 = .agg (cBs x.a.1 ++ (([.int .i64 x.h] : List Value) ++ (cBs x.r.1 ++ ([.int .i64 x.m] : List Value)))).toArray) rfl ?_
  rintro F e0
  refine wp_regionF ?_
  refine lf_ex (wantAll rfl) (hx_box hH 40 (cs := cBs x.a.1 ++ (([.int .i64 x.h] : List Value) ++ (cBs x.r.1 ++ ([.int .i64 x.m] : List Value)))) rfl (fr_eval rfl e0) (by rfl)) ?_
  clear hH
  rintro _ w1 ⟨g1, rfl, hH, hx⟩
  replace hH : Heap _ _ _ [_] := hH
  clear hx
  refine lf_ex (wantAll rfl) (hx_alloc hH 23 (z := .agg (cBs (List.replicate 32 0)).toArray) (n := 32) (cs := cBs (List.replicate 32 0)) rfl (by kernel_rfl) (by rfl)) ?_
  clear hH
  rintro _ w2 ⟨g2, rfl, hH, hx⟩
  replace hH : Heap _ _ _ [_, _] := hH
  clear hx
  refine lf_nil ?_
  refine then_n ?_
  refine wp_seq ?_
  refine wp_gen (fun F' => F' 0 = .agg (cBs x.a.1 ++ (([.int .i64 x.h] : List Value) ++ (cBs x.r.1 ++ ([.int .i64 x.m] : List Value)))).toArray ∧ F' 1 = .pointer (some ⟨g1, 0, none⟩) ∧ F' 2 = .pointer (some ⟨g2, 0, none⟩)) ⟨e0, rfl, rfl⟩ ?_
  clear e0
  clear F
  rintro F ⟨e0, e1, e2⟩
  refine wp_regionF ?_
  refine lf_ex (wantAll rfl) (hx_alloc hH 76 (z := .agg ([.slice none 0 0]).toArray) (n := 1) (cs := [.slice none 0 0]) rfl (by kernel_rfl) (by rfl)) ?_
  clear hH
  rintro _ w3 ⟨g3, rfl, hH, hx⟩
  replace hH : Heap _ _ _ [_, _, _] := hH
  clear hx
  refine lf_nil ?_
  refine then_n ?_
  refine wp_seq ?_
  refine wp_gen (fun F' => F' 0 = .agg (cBs x.a.1 ++ (([.int .i64 x.h] : List Value) ++ (cBs x.r.1 ++ ([.int .i64 x.m] : List Value)))).toArray ∧ F' 1 = .pointer (some ⟨g1, 0, none⟩) ∧ F' 2 = .pointer (some ⟨g2, 0, none⟩) ∧ F' 3 = .pointer (some ⟨g3, 0, none⟩)) ⟨e0, e1, e2, rfl⟩ ?_
  clear e0 e1 e2
  clear F
  rintro F ⟨e0, e1, e2, e3⟩
  replace hH : Heap _ _ _ [_, _, _] := hH.toPen (i := 2) rfl rfl
  have hs_1 := hH.fixed1 (j := 0) (i := 2) rfl rfl (by decide)
  have hs_2 := hH.fixed1 (j := 1) (i := 2) rfl rfl (by decide)
  have hKN := hH.sub1 (i := 2) rfl
  have hcK : Chg (newK w3 (oPen g3 (.slice none 0 0) []).fp) w3 w3 := Chg.refl _ _
  have hfM : ∀ k, (oPen g3 (.slice none 0 0) []).fp k → (newK w3 (oPen g3 (.slice none 0 0) []).fp) k := fun k h => Or.inr h
  refine wp_regionX (newK w3 (oPen g3 (.slice none 0 0) []).fp) 11 (by kernel_rfl) (by kernel_rfl) ?_
  refine xl_take (i := 0) (v := .pointer (some ⟨g1, 0, none⟩)) rfl (by kernel_rfl) (by kernel_rfl) (by kernel_rfl) (by kernel_rfl) (yx_val (wantAll rfl) (fun w' hx' => rv_fieldAddr (n := 31) rfl (fr_eval rfl e1) Try.underlying40 rfl rfl (by kernel_rfl))) ?_
  refine xl_take (i := 1) (v := .agg (cBs x.a.1).toArray) rfl (by kernel_rfl) (by kernel_rfl) (by kernel_rfl) (by kernel_rfl) (yx_val (wantAll rfl) (fun w' hx' => rv_loadP rfl (hs_1 _ (hcK.trans hx')) (zBk_p0 x.a.2 x.r.2) (cBs_len x.a.2) (fr_eval rfl rfl) Try.underlying23 rfl Try.sz23)) ?_
  refine xl_take (i := 3) (v := .pointer (some ⟨g1, 32, none⟩)) rfl (by kernel_rfl) (by kernel_rfl) (by kernel_rfl) (by kernel_rfl) (yx_val (wantAll rfl) (fun w' hx' => rv_fieldAddr (n := 0) rfl (fr_eval rfl e1) Try.underlying40 rfl rfl (by kernel_rfl))) ?_
  refine xl_take (i := 4) (v := .int .i64 x.h) rfl (by kernel_rfl) (by kernel_rfl) (by kernel_rfl) (by kernel_rfl) (yx_val (wantAll rfl) (fun w' hx' => rv_load1 rfl (hs_1 _ (hcK.trans hx')) (zBk_g1 x.a.2 x.r.2) (fr_eval rfl rfl) Try.underlying3 rfl Try.sz3)) ?_
  refine xl_take (i := 6) (v := .pointer (some ⟨g1, 33, none⟩)) rfl (by kernel_rfl) (by kernel_rfl) (by kernel_rfl) (by kernel_rfl) (yx_val (wantAll rfl) (fun w' hx' => rv_fieldAddr (n := 31) rfl (fr_eval rfl e1) Try.underlying40 rfl rfl (by kernel_rfl))) ?_
  refine xl_take (i := 7) (v := .agg (cBs x.r.1).toArray) rfl (by kernel_rfl) (by kernel_rfl) (by kernel_rfl) (by kernel_rfl) (yx_val (wantAll rfl) (fun w' hx' => rv_loadP rfl (hs_1 _ (hcK.trans hx')) (zBk_p2 x.a.2 x.r.2) (cBs_len x.r.2) (fr_eval rfl rfl) Try.underlying23 rfl Try.sz23)) ?_
  refine xl_take (i := 9) (v := .pointer (some ⟨g1, 65, none⟩)) rfl (by kernel_rfl) (by kernel_rfl) (by kernel_rfl) (by kernel_rfl) (yx_val (wantAll rfl) (fun w' hx' => rv_fieldAddr (n := 0) rfl (fr_eval rfl e1) Try.underlying40 rfl rfl (by kernel_rfl))) ?_
  refine xl_take (i := 10) (v := .int .i64 x.m) rfl (by kernel_rfl) (by kernel_rfl) (by kernel_rfl) (by kernel_rfl) (yx_val (wantAll rfl) (fun w' hx' => rv_load1 rfl (hs_1 _ (hcK.trans hx')) (zBk_g3 x.a.2 x.r.2) (fr_eval rfl rfl) Try.underlying3 rfl Try.sz3)) ?_
  refine anyX_ready (rs := [2]) (by kernel_rfl) ?_
  intro w4 hx
  replace hH := hH.ext hx
  replace hcK := hcK.trans (Ext.any hx)
  clear hx
  refine (anyX_cons ?_ anyX_nil)
  refine xl_step (i := 2) rfl (wantAll rfl) ?_
  refine of_call (rv_call (args := [.pointer (some ⟨g3, 0, none⟩), .agg (cBs x.a.1).toArray]) rfl (evc (fr_eval rfl e3) (evc (fr_eval rfl rfl) evn)) Try.call42) (penSum_calls x.a.1 x.a.2 _ (hH.pen (i := 2) rfl) (by first | omega | (simp only [List.length_append]; omega) | (simp only [List.length_append, List.length_cons, List.length_nil]; omega))) ?_
  rintro _ w5 ⟨rfl, hp⟩
  refine ⟨_, rfl, ?_⟩
  obtain ⟨y1, hH', hx, hxf, hgr⟩ := hH.penPost (i := 2) (l2 := x.a.1) rfl (fun _ => rfl) hp
  clear hH hp
  have hH : Heap _ _ _ [_, _, _] := hH'
  clear hH'
  have hcx := hxf.mono (fun k _ hk => hfM k hk)
  replace hfM := grow1 (fun k h => Or.inl h) hcK.size hfM hgr
  replace hcK := hcK.trans hcx
  refine ⟨hcx, ?_⟩
  clear hcx hxf hgr hx
  refine anyX_ready (rs := [5]) (by kernel_rfl) ?_
  intro w6 hx
  replace hH := hH.ext hx
  replace hcK := hcK.trans (Ext.any hx)
  clear hx
  refine (anyX_cons ?_ anyX_nil)
  refine xl_step (i := 5) rfl (wantAll rfl) ?_
  refine of_call (rv_call (args := [.pointer (some ⟨g3, 0, none⟩), .int .i64 x.h]) rfl (evc (fr_eval rfl rfl) (evc (fr_eval rfl rfl) evn)) Try.call65) (penNum_calls x.h (by omega) _ (hH.pen (i := 2) rfl) (by first | omega | (simp only [List.length_append]; omega) | (simp only [List.length_append, List.length_cons, List.length_nil]; omega))) ?_
  rintro _ w7 ⟨rfl, hp⟩
  refine ⟨_, rfl, ?_⟩
  obtain ⟨y2, hH', hx, hxf, hgr⟩ := hH.penPost (i := 2) (l2 := x.a.1 ++ put x.h) rfl (fun _ => rfl) hp
  clear hH hp
  have hH : Heap _ _ _ [_, _, _] := hH'
  clear hH'
  have hcx := hxf.mono (fun k _ hk => hfM k hk)
  replace hfM := grow1 (fun k h => Or.inl h) hcK.size hfM hgr
  replace hcK := hcK.trans hcx
  refine ⟨hcx, ?_⟩
  clear hcx hxf hgr hx
  refine anyX_ready (rs := [8]) (by kernel_rfl) ?_
  intro w8 hx
  replace hH := hH.ext hx
  replace hcK := hcK.trans (Ext.any hx)
  clear hx
  refine (anyX_cons ?_ anyX_nil)
  refine xl_step (i := 8) rfl (wantAll rfl) ?_
  refine of_call (rv_call (args := [.pointer (some ⟨g3, 0, none⟩), .agg (cBs x.r.1).toArray]) rfl (evc (fr_eval rfl rfl) (evc (fr_eval rfl rfl) evn)) Try.call42) (penSum_calls x.r.1 x.r.2 _ (hH.pen (i := 2) rfl) (by first | omega | (simp only [List.length_append]; omega) | (simp only [List.length_append, List.length_cons, List.length_nil]; omega))) ?_
  rintro _ w9 ⟨rfl, hp⟩
  refine ⟨_, rfl, ?_⟩
  obtain ⟨y3, hH', hx, hxf, hgr⟩ := hH.penPost (i := 2) (l2 := x.a.1 ++ put x.h ++ x.r.1) rfl (fun _ => rfl) hp
  clear hH hp
  have hH : Heap _ _ _ [_, _, _] := hH'
  clear hH'
  have hcx := hxf.mono (fun k _ hk => hfM k hk)
  replace hfM := grow1 (fun k h => Or.inl h) hcK.size hfM hgr
  replace hcK := hcK.trans hcx
  refine ⟨hcx, ?_⟩
  clear hcx hxf hgr hx
  refine xl_tail (s := 11) rfl ?_
  intro w10 hx
  replace hH := hH.ext hx
  clear hx
  clear hs_1 hs_2 hKN hcK hfM
  refine lf_call (wantAll rfl) (rv_call (args := [.pointer (some ⟨g3, 0, none⟩), .int .i64 x.m]) rfl (evc (fr_eval rfl rfl) (evc (fr_eval rfl rfl) evn)) Try.call65) (penNum_calls x.m (by omega) _ (hH.pen (i := 2) rfl) (by first | omega | (simp only [List.length_append]; omega) | (simp only [List.length_append, List.length_cons, List.length_nil]; omega))) ?_
  rintro _ w11 ⟨rfl, hp⟩
  refine ⟨_, rfl, ?_⟩
  obtain ⟨y4, hH', hx, hxf, hgr⟩ := hH.penPost (i := 2) (l2 := x.a.1 ++ put x.h ++ x.r.1 ++ put x.m) rfl (fun _ => rfl) hp
  clear hH hp
  have hH : Heap _ _ _ [_, _, _] := hH'
  clear hH'
  clear hxf hgr hx
  refine lf_call (wantAll rfl) (rv_call (args := [.pointer (some ⟨g3, 0, none⟩)]) rfl (evc (fr_eval rfl rfl) evn) Try.call46) (penBytes_calls _ (hH.pen (i := 2) rfl) (by first | omega | (simp only [List.length_append]; omega) | (simp only [List.length_append, List.length_cons, List.length_nil]; omega))) ?_
  rintro _ w12 ⟨⟨y5, rfl, ho, hg⟩, hx⟩
  refine ⟨_, rfl, ?_⟩
  replace hH : Heap _ _ _ [_, _, _, _] := hH.addOwn hx hg ho
  clear ho hg
  clear hx
  refine lf_ex (wantAll rfl) (hx_lits hH Try.stBB (n := 1) (nm := 1) [(.tmp 16)] (vs := [y5]) rfl (evc (fr_eval rfl rfl) evn) (ones_cons (Rd.oneV (OwnB.rd (hH.own (i := 3) rfl))) ones_nil) rfl (by decide) rfl rfl) ?_
  clear hH
  rintro y6 w13 ⟨hH, hx⟩
  replace hH : Heap _ _ _ [_, _, _, _, _] := hH
  clear hx
  refine lf_call (wantAll rfl) (rv_call (args := [cB 81, y6]) rfl (evc rfl (evc (fr_eval rfl rfl) evn)) Try.call45) (join_calls 81 [x.a.1 ++ put x.h ++ x.r.1 ++ put x.m] (flat_le1 (by simp only [List.length_append]; omega)) _ _ (rdP_own (hH.own (i := 4) rfl) (.cons (OwnB.rd (hH.own (i := 3) rfl)) .nil) rfl)) ?_
  rintro _ w14 ⟨rfl, hx⟩
  refine ⟨_, rfl, ?_⟩
  replace hH := hH.ext hx
  clear hx
  refine lf_sk (wantAll rfl) (hx_storeW hH (i := 1) (cs := cBs (join 81 [x.a.1 ++ put x.h ++ x.r.1 ++ put x.m])) rfl rfl rfl (fr_eval rfl e2) (fr_eval rfl rfl) (sz_len Try.sz23 (cBs_len (join_length _ _))) (((cBs_len (List.length_replicate ..))).trans ((cBs_len (join_length _ _))).symm) ((cBs_one _))) ?_
  clear hH
  rintro w15 ⟨hH, hx⟩
  replace hH : Heap _ _ _ [_, _, _, _, _] := hH
  clear hx
  refine lf_nil ?_
  refine then_n ?_
  replace hH : Heap _ _ _ [_, _, _] := hH.drop (.cons_cons _ (.cons_cons _ (.cons_cons _ (.cons _ (.cons _ .slnil)))))
  refine wp_gen (fun F' => F' 0 = .agg (cBs x.a.1 ++ (([.int .i64 x.h] : List Value) ++ (cBs x.r.1 ++ ([.int .i64 x.m] : List Value)))).toArray ∧ F' 1 = .pointer (some ⟨g1, 0, none⟩) ∧ F' 2 = .pointer (some ⟨g2, 0, none⟩) ∧ F' 3 = .pointer (some ⟨g3, 0, none⟩)) ⟨e0, e1, e2, e3⟩ ?_
  clear e0 e1 e2 e3
  clear F
  rintro F ⟨e0, e1, e2, e3⟩
  refine wp_ret ?_
  exact bodyPost_ret (res1 rfl (ro_cell rfl e2 (hH.blk (i := 1) rfl) Try.underlying23 rfl (sz_len Try.sz23 (cBs_len (join_length _ _))))) rfl (⟨rfl, hH.done⟩)

theorem sums_len {l : List TxG} {i : Nat} (h : i ≤ l.length) : ((l.map sumT).take i ++ List.replicate (l.length - i) zS).length = l.length := by simp; omega
theorem sums_set {l : List TxG} {i : Nat} (h : i < l.length) : ((l.map sumT).take i ++ List.replicate (l.length - i) zS).set i (sumT (l.getD i zTx)) = (l.map sumT).take (i + 1) ++ List.replicate (l.length - (i + 1)) zS := by
  rw [show l.length - i = (l.length - (i + 1)) + 1 by omega, List.replicate_succ, List.set_append_right _ _ (by simp; omega)]
  have e : i - (List.take i (l.map sumT)).length = 0 := by simp; omega
  rw [e, List.set_cons_zero, List.take_succ_eq_append_getElem (by simpa using h), List.append_assoc]
  simp [List.getD_eq_getElem?_getD, h]
theorem sums_end (l : List TxG) : (l.map sumT).take l.length ++ List.replicate (l.length - l.length) zS = l.map sumT := by
  rw [List.take_of_length_le (by simp)]; simp
theorem sums_next {l : List TxG} {i : Nat} (h : i < l.length) : (l.map sumT).take i ++ [sumT (l.getD i zTx)] = (l.map sumT).take (i + 1) := by
  rw [List.take_succ_eq_append_getElem (by simpa using h)]
  simp [List.getD_eq_getElem?_getD, h]
theorem sums_get {l : List TxG} {i : Nat} (h : i < l.length) : (l.map sumT).getD i zS = sumT (l.getD i zTx) := by simp [List.getD_eq_getElem?_getD, h]

set_option maxRecDepth 100000 in
set_option maxHeartbeats 4000000 in
theorem bsums_calls (l : List TxG) (hl : l.length ≤ 1000) (hs : ∀ t ∈ l, smT t) (v : Value) (w : World) (hts : ∀ t ∈ l, StTx (newN w) w t) (hr0 : Rd w 40 v l.length (l.flatMap cTx)) :
    Calls Try.prog 64 #[v] w fun e'' w' => (∃ v', e'' = .returned v' ∧ Own w' 23 32 v' (l.map sumT).length ((l.map sumT).flatMap cS) ∧ ∀ k, v'.ownBlock = some k → w.heap.size ≤ k) ∧ Ext w w' := by
  refine calls_fr (args := [v]) (n := 23) Try.func64 rfl rfl (show 1 ≤ 23 by decide) ?_
  have hr := Rd.stab hr0
  have hH : Heap (newN w) w w [] := Heap.fresh
  refine wp_seq ?_
  refine wp_gen (fun F' => F' 0 = v) rfl ?_
  rintro F e0
  refine wp_regionF ?_
  refine lf_val (v := .slice none 0 0) (wantAll rfl) (rv_assign rfl rfl) ?_
  refine lf_nil ?_
  refine then_n ?_
  refine wp_seq ?_
  refine wp_gen (fun F' => F' 0 = v ∧ F' 2 = .slice none 0 0) ⟨e0, rfl⟩ ?_
  clear e0
  clear F
  rintro F ⟨e0, e2⟩
  refine wp_regionF ?_
  refine lf_val (v := v) (wantAll rfl) (rv_move rfl (fr_eval rfl e0)) ?_
  refine lf_val (v := .int .i64 ((l.length : Nat) : Int)) (wantAll rfl) (rv_len rfl (fr_eval rfl rfl) (hr.rd _ hH.chg) Try.underlying41) ?_
  refine lf_ex (wantAll rfl) (hx_make hH Try.stSum (n := l.length) (nm := List.length (List.replicate l.length zS)) (z1 := .int .u8 0) (xs := (List.replicate l.length zS).flatMap cS) rfl (fr_eval rfl rfl) (fr_eval rfl rfl) (by omega) rfl (zeros_f (f := cS) (d := zS) (sz := 32) rfl _) (List.length_replicate ..).symm) ?_
  clear hH
  rintro y1 w1 ⟨hH, hx⟩
  replace hH : Heap _ _ _ [_] := hH
  clear hx
  refine lf_val (v := y1) (wantAll rfl) (rv_assign rfl (fr_eval rfl rfl)) ?_
  refine lf_nil ?_
  refine then_n ?_
  refine wp_seq ?_
  refine wp_seq ?_
  refine wp_gen (fun F' => F' 0 = v ∧ F' 2 = .slice none 0 0 ∧ F' 3 = y1) ⟨e0, e2, rfl⟩ ?_
  clear e0 e2
  clear F
  rintro F ⟨e0, e2, e3⟩
  refine wp_regionF ?_
  refine lf_val (v := v) (wantAll rfl) (rv_move rfl (fr_eval rfl e0)) ?_
  refine lf_val (v := .int .i64 ((l.length : Nat) : Int)) (wantAll rfl) (rv_len rfl (fr_eval rfl rfl) (hr.rd _ hH.chg) Try.underlying41) ?_
  refine lf_val (v := .int .i64 0) (wantAll rfl) (rv_move rfl rfl) ?_
  refine lf_nil ?_
  refine then_n ?_
  refine wp_block ?_
  rw [show List.replicate l.length zS = (l.map sumT).take 0 ++ List.replicate (l.length - 0) zS from rfl] at hH
  refine wp_gen (fun F' => F' 0 = v ∧ F' 2 = .slice none 0 0 ∧ F' 3 = y1 ∧ F' 9 = v ∧ F' 10 = .int .i64 ((l.length : Nat) : Int) ∧ F' 11 = .int .i64 0) ⟨e0, e2, e3, rfl, rfl, rfl⟩ ?_
  clear e0 e2 e3
  clear F
  rintro F ⟨e0, e2, e3, e9, e10, e11⟩
  refine wp_loopF (fun m F wr => ∃ i : Nat, m = l.length - i ∧ i ≤ l.length ∧ F 0 = v ∧ F 2 = .slice none 0 0 ∧ F 3 = y1 ∧ F 9 = v ∧ F 10 = .int .i64 ((l.length : Nat) : Int) ∧ F 11 = .int .i64 ((i : Nat) : Int) ∧ Heap (newN w) w wr [oRow cS 23 32 y1 ((l.map sumT).take i ++ List.replicate (l.length - i) zS)]) ⟨0, rfl, Nat.zero_le _, e0, e2, e3, e9, e10, e11, hH⟩ ?_
  clear e0 e2 e3 e9 e10 e11 hH
  clear F
  rintro m F w2 ⟨i, rfl, pi0, e0, e2, e3, e9, e10, e11, hH⟩
  refine wp_seq ?_
  refine wp_regionF ?_
  refine lf_val (v := .bool (decide (i < l.length))) (wantAll rfl) (rv_lssP (p := i < l.length) rfl (fr_eval rfl e11) (fr_eval rfl e10) (by omega)) ?_
  refine lf_nil ?_
  refine then_n ?_
  refine wp_seq ?_
  refine wp_gen (fun F' => F' 0 = v ∧ F' 2 = .slice none 0 0 ∧ F' 3 = y1 ∧ F' 9 = v ∧ F' 10 = .int .i64 ((l.length : Nat) : Int) ∧ F' 11 = .int .i64 ((i : Nat) : Int) ∧ F' 12 = .bool (decide (i < l.length))) ⟨e0, e2, e3, e9, e10, e11, rfl⟩ ?_
  clear e0 e2 e3 e9 e10 e11
  clear F
  rintro F ⟨e0, e2, e3, e9, e10, e11, e12⟩
  by_cases hc1 : i < l.length
  · refine wp_cond_true (fr_eval rfl (e12.trans (congrArg Value.bool (decide_eq_true hc1)))) ?_
    refine wp_skip ?_
    refine then_n ?_
    refine wp_seq ?_
    refine wp_block ?_
    refine wp_seq ?_
    refine wp_regionF ?_
    refine lf_val (v := .int .i64 ((i : Nat) : Int)) (wantAll rfl) (rv_move rfl (fr_eval rfl e11)) ?_
    refine lf_val (v := .pointer (some (elemA v (i * 40)))) (wantAll rfl) (rv_index rfl (fr_eval rfl e9) (fr_eval rfl e11) (rdN (hr.rd _ hH.chg) rfl) (show i < l.length from (by omega)) Try.underlying41 Try.sz63 (by decide)) ?_
    refine lf_val (wantAll rfl) (rv_loadElem rfl (fr_eval rfl rfl) (rdN (hr.rd _ hH.chg) rfl) (show i < l.length from (by omega)) (by decide) (flat_part zTx cTx_len (show i < l.length from (by omega))) Try.underlying63 rfl Try.sz63) ?_
    refine lf_ex (wantAll rfl) (hx_alloc hH 63 (z := .agg (([.slice none 0 0, .slice none 0 0, .int .i64 0, .int .i64 0, .int .i64 0, .int .i64 0] : List Value) ++ (cBs (List.replicate 32 0) ++ ([.slice none 0 0, .slice none 0 0] : List Value))).toArray) (n := 40) (cs := ([.slice none 0 0, .slice none 0 0, .int .i64 0, .int .i64 0, .int .i64 0, .int .i64 0] : List Value) ++ (cBs (List.replicate 32 0) ++ ([.slice none 0 0, .slice none 0 0] : List Value))) rfl (by kernel_rfl) (by rfl)) ?_
    clear hH
    rintro _ w3 ⟨g1, rfl, hH, hx⟩
    replace hH : Heap _ _ _ [_, _] := hH
    clear hx
    refine lf_val (v := .int .i64 ((i : Nat) : Int)) (wantAll rfl) (rv_assign rfl (fr_eval rfl rfl)) ?_
    refine lf_sk (wantAll rfl) (hx_storeW hH (i := 1) (cs := ([(List.getD l i zTx).vi.1, (List.getD l i zTx).vo.1, .int .i64 ((List.getD l i zTx).kd), .int .i64 ((List.getD l i zTx).tw), .int .i64 ((List.getD l i zTx).ch), .int .i64 ((List.getD l i zTx).am)] : List Value) ++ (cBs ((List.getD l i zTx).root.1) ++ ([(List.getD l i zTx).vd.1, (List.getD l i zTx).vs.1] : List Value))) rfl rfl rfl (fr_eval rfl rfl) (fr_eval rfl rfl) (sz_len Try.sz63 (zBk_l4 ((List.getD l i zTx).root.2))) (((zBk_l4 (List.length_replicate ..))).trans ((zBk_l4 ((List.getD l i zTx).root.2))).symm) (zBk_o5 (Rd.oneV (((hts _ (getD_memX (by omega))).ins).rd _ hH.chg)) (Rd.oneV (((hts _ (getD_memX (by omega))).outs).rd _ hH.chg)) rfl rfl rfl rfl (Rd.oneV (((hts _ (getD_memX (by omega))).data).rd _ hH.chg)) (Rd.oneV (((hts _ (getD_memX (by omega))).sgs).rd _ hH.chg)))) ?_
    clear hH
    rintro w4 ⟨hH, hx⟩
    replace hH : Heap _ _ _ [_, _] := hH
    clear hx
    refine lf_nil ?_
    refine then_n ?_
    refine wp_gen (fun F' => F' 0 = v ∧ F' 2 = .slice none 0 0 ∧ F' 3 = y1 ∧ F' 4 = .int .i64 ((i : Nat) : Int) ∧ F' 5 = .pointer (some ⟨g1, 0, none⟩) ∧ F' 9 = v ∧ F' 10 = .int .i64 ((l.length : Nat) : Int) ∧ F' 11 = .int .i64 ((i : Nat) : Int) ∧ F' 12 = .bool true) ⟨e0, e2, e3, rfl, rfl, e9, e10, e11, (e12.trans (congrArg Value.bool (decide_eq_true hc1)))⟩ ?_
    clear e0 e2 e3 e9 e10 e11 e12
    clear F
    rintro F ⟨e0, e2, e3, e4, e5, e9, e10, e11, e12⟩
    refine wp_regionF ?_
    refine lf_val (v := y1) (wantAll rfl) (rv_move rfl (fr_eval rfl e3)) ?_
    refine lf_val (v := .int .i64 ((i : Nat) : Int)) (wantAll rfl) (rv_move rfl (fr_eval rfl e4)) ?_
    refine lf_val (wantAll rfl) (rv_loadW rfl (hH.blk (i := 1) rfl) (fr_eval rfl e5) Try.underlying63 rfl (sz_len Try.sz63 (zBk_l4 ((List.getD l i zTx).root.2)))) ?_
    refine lf_call (wantAll rfl) (rv_call (args := [.agg (([(List.getD l i zTx).vi.1, (List.getD l i zTx).vo.1, .int .i64 ((List.getD l i zTx).kd), .int .i64 ((List.getD l i zTx).tw), .int .i64 ((List.getD l i zTx).ch), .int .i64 ((List.getD l i zTx).am)] : List Value) ++ (cBs ((List.getD l i zTx).root.1) ++ ([(List.getD l i zTx).vd.1, (List.getD l i zTx).vs.1] : List Value))).toArray]) rfl (evc (fr_eval rfl rfl) evn) Try.call34) (txSum_calls (List.getD l i zTx) (hs _ (getD_memX (by omega))) _ ((hts _ (getD_memX (by omega))).later hH.chg (newN_up hH.chg hH.up))) ?_
    rintro _ w5 ⟨rfl, hx⟩
    refine ⟨_, rfl, ?_⟩
    replace hH := hH.ext hx
    clear hx
    refine lf_val (v := .pointer (some (elemA y1 (i * 32)))) (wantAll rfl) (rv_index rfl (fr_eval rfl rfl) (fr_eval rfl rfl) (rdN (Own.rd (hH.own (i := 0) rfl) (row_one cS_one)) (sums_len pi0)) (show i < l.length from (by omega)) Try.underlying24 Try.sz23 (by decide)) ?_
    refine lf_sk (wantAll rfl) (hx_setM hH (i := 0) (nm := List.length (List.set ((l.map sumT).take i ++ List.replicate (l.length - i) zS) i (sumT (List.getD l i zTx)))) (j := i) (cs := cS (sumT (List.getD l i zTx))) (xs' := (List.set ((l.map sumT).take i ++ List.replicate (l.length - i) zS) i (sumT (List.getD l i zTx))).flatMap cS) rfl rfl rfl (List.length_set ..).symm (Nat.lt_of_lt_of_eq (by omega) ((sums_len pi0)).symm) (cS_ln (sumT (List.getD l i zTx))) (flat_set cS_len (cS_ln (sumT (List.getD l i zTx))) (Nat.lt_of_lt_of_eq (by omega) ((sums_len pi0)).symm)) (fr_eval rfl rfl) (fr_eval rfl rfl) Try.sz23 (cS_one (sumT (List.getD l i zTx)))) ?_
    clear hH
    rintro w7 ⟨hH, hx⟩
    replace hH : Heap _ _ _ [_, _] := hH
    rw [show List.set ((l.map sumT).take i ++ List.replicate (l.length - i) zS) i (sumT (List.getD l i zTx)) = (l.map sumT).take (i + 1) ++ List.replicate (l.length - (i + 1)) zS from sums_set (by omega)] at hH
    clear hx
    refine lf_nil ?_
    refine blk_n ?_
    refine then_n ?_
    refine wp_gen (fun F' => F' 0 = v ∧ F' 2 = .slice none 0 0 ∧ F' 3 = y1 ∧ F' 4 = .int .i64 ((i : Nat) : Int) ∧ F' 5 = .pointer (some ⟨g1, 0, none⟩) ∧ F' 9 = v ∧ F' 10 = .int .i64 ((l.length : Nat) : Int) ∧ F' 11 = .int .i64 ((i : Nat) : Int) ∧ F' 12 = .bool true) ⟨e0, e2, e3, e4, e5, e9, e10, e11, e12⟩ ?_
    clear e0 e2 e3 e4 e5 e9 e10 e11 e12
    clear F
    rintro F ⟨e0, e2, e3, e4, e5, e9, e10, e11, e12⟩
    refine wp_regionF ?_
    refine lf_val (v := .int .i64 ((i + 1 : Nat) : Int)) (wantAll rfl) (rv_add rfl (fr_eval rfl e11) rfl (wrap_i64 (by omega) (by omega) (by omega))) ?_
    refine lf_val (v := .int .i64 ((i + 1 : Nat) : Int)) (wantAll rfl) (rv_move rfl (fr_eval rfl rfl)) ?_
    refine lf_nil ?_
    refine then_n ?_
    replace hH : Heap _ _ _ [_] := hH.drop (.cons_cons _ (.cons _ .slnil))
    exact ⟨_, _, (by omega), rfl, i + 1, rfl, (by omega), e0, e2, e3, e9, e10, rfl, hH⟩
  · refine wp_cond_false (fr_eval rfl (e12.trans (congrArg Value.bool (decide_eq_false hc1)))) ?_
    refine wp_exit ?_
    refine then_exit ?_
    refine then_exit ?_
    refine blk_exit ?_
    refine then_n ?_
    refine wp_seq ?_
    obtain rfl : i = l.length := by omega
    rw [show (l.map sumT).take l.length ++ List.replicate (l.length - l.length) zS = l.map sumT from sums_end l] at hH
    refine wp_regionF ?_
    refine lf_val (v := y1) (wantAll rfl) (rv_move rfl (fr_eval rfl e3)) ?_
    refine lf_val (v := y1) (wantAll rfl) (rv_assign rfl (fr_eval rfl rfl)) ?_
    refine lf_nil ?_
    refine then_n ?_
    refine wp_gen (fun F' => F' 0 = v ∧ F' 2 = y1 ∧ F' 3 = y1 ∧ F' 9 = v ∧ F' 10 = .int .i64 ((l.length : Nat) : Int) ∧ F' 11 = .int .i64 ((l.length : Nat) : Int) ∧ F' 12 = .bool false) ⟨e0, rfl, e3, e9, e10, e11, (e12.trans (congrArg Value.bool (decide_eq_false hc1)))⟩ ?_
    clear e0 e2 e3 e9 e10 e11 e12
    clear F
    rintro F ⟨e0, e2, e3, e9, e10, e11, e12⟩
    refine wp_ret ?_
    exact bodyPost_ret (v := y1) (res1 rfl (ro_tmp rfl e2)) rfl (⟨⟨_, rfl, hH.own (i := 0) rfl, hH.ge (i := 0) rfl⟩, hH.done⟩)

set_option maxRecDepth 100000 in
set_option maxHeartbeats 4000000 in
theorem sums19_calls (l : List TxG) (hl : l.length ≤ 1000) (hs : ∀ t ∈ l, smT t) (v : Value) (w : World) (hts : ∀ t ∈ l, StTx (newN w) w t) (hr0 : Rd w 40 v l.length (l.flatMap cTx)) :
    Calls Try.prog 27 #[v] w fun e'' w' => (∃ v', e'' = .returned v' ∧ Own w' 23 32 v' (l.map sumT).length ((l.map sumT).flatMap cS) ∧ ∀ k, v'.ownBlock = some k → w.heap.size ≤ k) ∧ Ext w w' := by
  refine calls_fr (args := [v]) (n := 20) Try.func27 rfl rfl (show 1 ≤ 20 by decide) ?_
  have hr := Rd.stab hr0
  have hH : Heap (newN w) w w [] := Heap.fresh
  refine wp_seq ?_
  refine wp_gen (fun F' => F' 0 = v) rfl ?_
  rintro F e0
  refine wp_regionF ?_
  refine lf_val (v := .slice none 0 0) (wantAll rfl) (rv_assign rfl rfl) ?_
  refine lf_nil ?_
  refine then_n ?_
  refine wp_seq ?_
  refine wp_gen (fun F' => F' 0 = v ∧ F' 2 = .slice none 0 0) ⟨e0, rfl⟩ ?_
  clear e0
  clear F
  rintro F ⟨e0, e2⟩
  refine wp_regionF ?_
  refine lf_val (v := .slice none 0 0) (wantAll rfl) (rv_assign rfl rfl) ?_
  refine lf_nil ?_
  refine then_n ?_
  refine wp_seq ?_
  refine wp_seq ?_
  refine wp_gen (fun F' => F' 0 = v ∧ F' 2 = .slice none 0 0 ∧ F' 3 = .slice none 0 0) ⟨e0, e2, rfl⟩ ?_
  clear e0 e2
  clear F
  rintro F ⟨e0, e2, e3⟩
  refine wp_regionF ?_
  refine lf_val (v := .int .i64 0) (wantAll rfl) (rv_assign rfl rfl) ?_
  refine lf_nil ?_
  refine then_n ?_
  refine wp_block ?_
  replace hH : Heap _ _ _ [_] := hH.addNil 23 32
  replace hH : Heap (newN w) w w [oRow cS 23 32 (.slice none 0 0) ((l.map sumT).take 0)] := hH
  refine wp_gen (fun F' => F' 0 = v ∧ F' 2 = .slice none 0 0 ∧ F' 3 = (.slice none 0 0) ∧ F' 4 = .int .i64 0) ⟨e0, e2, e3, rfl⟩ ?_
  clear e0 e2 e3
  clear F
  rintro F ⟨e0, e2, e3, e4⟩
  refine wp_loopF (fun m F wr => ∃ i : Nat, ∃ yo : Value, m = l.length - i ∧ i ≤ l.length ∧ F 0 = v ∧ F 2 = .slice none 0 0 ∧ F 3 = yo ∧ F 4 = .int .i64 ((i : Nat) : Int) ∧ Heap (newN w) w wr [oRow cS 23 32 yo ((l.map sumT).take i)]) ⟨0, _, rfl, Nat.zero_le _, e0, e2, e3, e4, hH⟩ ?_
  clear e0 e2 e3 e4 hH
  clear F
  rintro m F w1 ⟨i, yo, rfl, pi0, e0, e2, e3, e4, hH⟩
  refine wp_seq ?_
  refine wp_seq ?_
  refine wp_regionF ?_
  refine lf_val (v := .int .i64 ((i : Nat) : Int)) (wantAll rfl) (rv_move rfl (fr_eval rfl e4)) ?_
  refine lf_val (v := v) (wantAll rfl) (rv_move rfl (fr_eval rfl e0)) ?_
  refine lf_val (v := .int .i64 ((l.length : Nat) : Int)) (wantAll rfl) (rv_len rfl (fr_eval rfl rfl) (hr.rd _ hH.chg) Try.underlying41) ?_
  refine lf_val (v := .bool (decide (i < l.length))) (wantAll rfl) (rv_lssP (p := i < l.length) rfl (fr_eval rfl rfl) (fr_eval rfl rfl) (by omega)) ?_
  refine lf_nil ?_
  refine then_n ?_
  refine wp_gen (fun F' => F' 0 = v ∧ F' 2 = .slice none 0 0 ∧ F' 3 = yo ∧ F' 4 = .int .i64 ((i : Nat) : Int) ∧ F' 8 = .bool (decide (i < l.length))) ⟨e0, e2, e3, e4, rfl⟩ ?_
  clear e0 e2 e3 e4
  clear F
  rintro F ⟨e0, e2, e3, e4, e8⟩
  by_cases hc1 : i < l.length
  · refine wp_cond_true (fr_eval rfl (e8.trans (congrArg Value.bool (decide_eq_true hc1)))) ?_
    refine wp_skip ?_
    refine then_n ?_
    refine wp_seq ?_
    refine wp_block ?_
    refine wp_regionF ?_
    refine lf_val (v := yo) (wantAll rfl) (rv_move rfl (fr_eval rfl e3)) ?_
    refine lf_val (v := v) (wantAll rfl) (rv_move rfl (fr_eval rfl e0)) ?_
    refine lf_val (v := .int .i64 ((i : Nat) : Int)) (wantAll rfl) (rv_move rfl (fr_eval rfl e4)) ?_
    refine lf_val (v := .pointer (some (elemA v (i * 40)))) (wantAll rfl) (rv_index rfl (fr_eval rfl rfl) (fr_eval rfl rfl) (rdN (hr.rd _ hH.chg) rfl) (show i < l.length from (by omega)) Try.underlying41 Try.sz63 (by decide)) ?_
    refine lf_val (wantAll rfl) (rv_loadElem rfl (fr_eval rfl rfl) (rdN (hr.rd _ hH.chg) rfl) (show i < l.length from (by omega)) (by decide) (flat_part zTx cTx_len (show i < l.length from (by omega))) Try.underlying63 rfl Try.sz63) ?_
    refine lf_call (wantAll rfl) (rv_call (args := [.agg (([(List.getD l i zTx).vi.1, (List.getD l i zTx).vo.1, .int .i64 ((List.getD l i zTx).kd), .int .i64 ((List.getD l i zTx).tw), .int .i64 ((List.getD l i zTx).ch), .int .i64 ((List.getD l i zTx).am)] : List Value) ++ (cBs ((List.getD l i zTx).root.1) ++ ([(List.getD l i zTx).vd.1, (List.getD l i zTx).vs.1] : List Value))).toArray]) rfl (evc (fr_eval rfl rfl) evn) Try.call34) (txSum_calls (List.getD l i zTx) (hs _ (getD_memX (by omega))) _ ((hts _ (getD_memX (by omega))).later hH.chg (newN_up hH.chg hH.up))) ?_
    rintro _ w2 ⟨rfl, hx⟩
    refine ⟨_, rfl, ?_⟩
    replace hH := hH.ext hx
    clear hx
    refine lf_ex (wantAll rfl) (hx_lit1 hH Try.stSum (cs := cS (sumT (List.getD l i zTx))) (xs := List.flatMap cS [(sumT (List.getD l i zTx))]) rfl (fr_eval rfl rfl) (cS_ln (sumT (List.getD l i zTx))) (by decide) (List.flatMap_singleton ..).symm) ?_
    clear hH
    rintro y1 w3 ⟨hH, hx⟩
    replace hH : Heap _ _ _ [_, _] := hH
    clear hx
    refine lf_ex (wantAll rfl) (hx_append hH Try.stSum (i := 0) (xs' := (((l.map sumT).take i) ++ [(sumT (List.getD l i zTx))]).flatMap cS) (nm := (((l.map sumT).take i) ++ [(sumT (List.getD l i zTx))]).length) rfl rfl (fun _ => rfl) List.length_append.symm List.flatMap_append.symm (Own.rd (hH.own (i := 1) rfl) (row_one cS_one)) (fr_eval rfl rfl) (fr_eval rfl rfl) (by simp only [List.length_append, List.length_cons, List.length_nil, List.length_take, List.length_map]; omega)) ?_
    clear hH
    rintro y2 w4 ⟨hH, hx⟩
    replace hH : Heap _ _ _ [_, _] := hH
    rw [show ((l.map sumT).take i) ++ [(sumT (List.getD l i zTx))] = (l.map sumT).take (i + 1) from sums_next (by omega)] at hH
    clear hx
    refine lf_val (v := y2) (wantAll rfl) (rv_assign rfl (fr_eval rfl rfl)) ?_
    refine lf_nil ?_
    refine blk_n ?_
    refine then_n ?_
    replace hH : Heap _ _ _ [_] := hH.drop (.cons_cons _ (.cons _ .slnil))
    refine wp_gen (fun F' => F' 0 = v ∧ F' 2 = .slice none 0 0 ∧ F' 3 = y2 ∧ F' 4 = .int .i64 ((i : Nat) : Int) ∧ F' 8 = .bool true) ⟨e0, e2, rfl, e4, (e8.trans (congrArg Value.bool (decide_eq_true hc1)))⟩ ?_
    clear e0 e2 e3 e4 e8
    clear F
    rintro F ⟨e0, e2, e3, e4, e8⟩
    refine wp_regionF ?_
    refine lf_val (v := .int .i64 ((i : Nat) : Int)) (wantAll rfl) (rv_move rfl (fr_eval rfl e4)) ?_
    refine lf_val (v := .int .i64 ((i + 1 : Nat) : Int)) (wantAll rfl) (rv_add rfl (fr_eval rfl rfl) rfl (wrap_i64 (by omega) (by omega) (by omega))) ?_
    refine lf_val (v := .int .i64 ((i + 1 : Nat) : Int)) (wantAll rfl) (rv_assign rfl (fr_eval rfl rfl)) ?_
    refine lf_nil ?_
    refine then_n ?_
    exact ⟨_, _, (by omega), rfl, i + 1, _, rfl, (by omega), e0, e2, e3, rfl, hH⟩
  · refine wp_cond_false (fr_eval rfl (e8.trans (congrArg Value.bool (decide_eq_false hc1)))) ?_
    refine wp_exit ?_
    refine then_exit ?_
    refine then_exit ?_
    refine blk_exit ?_
    refine then_n ?_
    refine wp_seq ?_
    rw [show (l.map sumT).take i = l.map sumT from (List.take_of_length_le (by rw [List.length_map]; omega))] at hH
    refine wp_regionF ?_
    refine lf_val (v := yo) (wantAll rfl) (rv_move rfl (fr_eval rfl e3)) ?_
    refine lf_val (v := yo) (wantAll rfl) (rv_assign rfl (fr_eval rfl rfl)) ?_
    refine lf_nil ?_
    refine then_n ?_
    refine wp_gen (fun F' => F' 0 = v ∧ F' 2 = yo ∧ F' 3 = yo ∧ F' 4 = .int .i64 ((i : Nat) : Int) ∧ F' 8 = .bool false) ⟨e0, rfl, e3, e4, (e8.trans (congrArg Value.bool (decide_eq_false hc1)))⟩ ?_
    clear e0 e2 e3 e4 e8
    clear F
    rintro F ⟨e0, e2, e3, e4, e8⟩
    refine wp_ret ?_
    exact bodyPost_ret (v := yo) (res1 rfl (ro_tmp rfl e2)) rfl (⟨⟨_, rfl, hH.own (i := 0) rfl, hH.ge (i := 0) rfl⟩, hH.done⟩)

set_option maxRecDepth 100000 in
set_option maxHeartbeats 4000000 in
theorem bRight_calls (x : Hd) (hin : inHd x) (l : List TxG) (hl : l.length ≤ 1000) (hs : ∀ t ∈ l, smT t) (v : Value) (w : World) (hts : ∀ t ∈ l, StTx (newN w) w t) (hr0 : Rd w 40 v l.length (l.flatMap cTx)) :
    Calls Try.prog 28 #[.agg (cBs x.a.1 ++ (([.int .i64 x.h] : List Value) ++ (cBs x.r.1 ++ ([.int .i64 x.m, v] : List Value)))).toArray] w fun e'' w' => e'' = .returned (.bool (decide (RightP x l.length (rootS (l.map sumT))))) ∧ Ext w w' := by
  refine calls_fr (args := [.agg (cBs x.a.1 ++ (([.int .i64 x.h] : List Value) ++ (cBs x.r.1 ++ ([.int .i64 x.m, v] : List Value)))).toArray]) (n := 38) Try.func28 rfl rfl (show 1 ≤ 38 by decide) ?_
  obtain ⟨⟨hi1, hi2⟩, hi3, hi4⟩ := hin
  have hr := Rd.stab hr0
  have hH : Heap (newN w) w w [] := Heap.fresh
  refine wp_seq ?_
  refine wp_gen (fun F' => F' 0 = .agg (cBs x.a.1 ++ (([.int .i64 x.h] : List Value) ++ (cBs x.r.1 ++ ([.int .i64 x.m, v] : List Value)))).toArray) rfl ?_
  rintro F e0
  refine wp_regionF ?_
  refine lf_ex (wantAll rfl) (hx_box hH 43 (cs := cBs x.a.1 ++ (([.int .i64 x.h] : List Value) ++ (cBs x.r.1 ++ ([.int .i64 x.m, v] : List Value)))) rfl (fr_eval rfl e0) (by rfl)) ?_
  clear hH
  rintro _ w1 ⟨g1, rfl, hH, hx⟩
  replace hH : Heap _ _ _ [_] := hH
  clear hx
  refine lf_val (v := .bool false) (wantAll rfl) (rv_assign rfl rfl) ?_
  refine lf_nil ?_
  refine then_n ?_
  refine wp_seq ?_
  refine wp_gen (fun F' => F' 0 = .agg (cBs x.a.1 ++ (([.int .i64 x.h] : List Value) ++ (cBs x.r.1 ++ ([.int .i64 x.m, v] : List Value)))).toArray ∧ F' 1 = .pointer (some ⟨g1, 0, none⟩) ∧ F' 2 = .bool false) ⟨e0, rfl, rfl⟩ ?_
  clear e0
  clear F
  rintro F ⟨e0, e1, e2⟩
  refine wp_regionX (fun _ => False) 33 (by kernel_rfl) (by kernel_rfl) ?_
  refine xl_take (i := 0) (v := .pointer (some ⟨g1, 0, none⟩)) rfl (by kernel_rfl) (by kernel_rfl) (by kernel_rfl) (by kernel_rfl) (yx_val (wantAll rfl) (fun w' hx' => rv_fieldAddr (n := 65) rfl (fr_eval rfl e1) Try.underlying43 rfl rfl (by kernel_rfl))) ?_
  refine xl_take (i := 1) (v := .pointer (some ⟨g1, 65, none⟩)) rfl (by kernel_rfl) (by kernel_rfl) (by kernel_rfl) (by kernel_rfl) (yx_val (wantAll rfl) (fun w' hx' => rv_fieldAddr (n := 0) rfl (fr_eval rfl rfl) Try.underlying40 rfl rfl (by kernel_rfl))) ?_
  refine xl_take (i := 2) (v := .int .i64 x.m) rfl (by kernel_rfl) (by kernel_rfl) (by kernel_rfl) (by kernel_rfl) (yx_val (wantAll rfl) (fun w' hx' => rv_load1 rfl ((hH.ext hx').blk (i := 0) rfl) (zBk_g6 x.a.2 x.r.2) (fr_eval rfl rfl) Try.underlying3 rfl Try.sz3)) ?_
  refine xl_take (i := 3) (v := .pointer (some ⟨g1, 66, none⟩)) rfl (by kernel_rfl) (by kernel_rfl) (by kernel_rfl) (by kernel_rfl) (yx_val (wantAll rfl) (fun w' hx' => rv_fieldAddr (n := 0) rfl (fr_eval rfl e1) Try.underlying43 rfl rfl (by kernel_rfl))) ?_
  refine xl_take (i := 4) (v := v) rfl (by kernel_rfl) (by kernel_rfl) (by kernel_rfl) (by kernel_rfl) (yx_val (wantAll rfl) (fun w' hx' => rv_load1 rfl ((hH.ext hx').blk (i := 0) rfl) (zBk_g7 x.a.2 x.r.2) (fr_eval rfl rfl) Try.underlying41 rfl Try.sz41)) ?_
  refine xl_take (i := 5) (v := .int .i64 ((l.length : Nat) : Int)) rfl (by kernel_rfl) (by kernel_rfl) (by kernel_rfl) (by kernel_rfl) (yx_val (wantAll rfl) (fun w' hx' => rv_len rfl (fr_eval rfl rfl) (hr.rd _ (hH.chg.trans (Ext.any hx'))) Try.underlying41)) ?_
  refine xl_take (i := 6) (v := .bool (decide (x.m = ((l.length : Nat) : Int)))) rfl (by kernel_rfl) (by kernel_rfl) (by kernel_rfl) (by kernel_rfl) (yx_val (wantAll rfl) (fun w' hx' => rv_eqlP (p := x.m = ((l.length : Nat) : Int)) rfl (fr_eval rfl rfl) (fr_eval rfl rfl) Iff.rfl)) ?_
  refine xl_take (i := 7) (v := .bool (decide (x.m = ((l.length : Nat) : Int)))) rfl (by kernel_rfl) (by kernel_rfl) (by kernel_rfl) (by kernel_rfl) (yx_val (wantAll rfl) (fun w' hx' => rv_move rfl (fr_eval rfl rfl))) ?_
  by_cases hc1 : x.m = ((l.length : Nat) : Int)
  · refine xl_take (i := 8) (v := .pointer (some ⟨g1, 0, none⟩)) rfl (by kernel_rfl) (by kernel_rfl) (by kernel_rfl) (by kernel_rfl) (yx_val (wantF (d := 10) rfl (by kernel_rfl) rfl (congrArg Value.bool (decide_eq_true hc1))) (fun w' hx' => rv_fieldAddr (n := 65) rfl (fr_eval rfl e1) Try.underlying43 rfl rfl (by kernel_rfl))) ?_
    refine xl_take (i := 9) (v := .pointer (some ⟨g1, 65, none⟩)) rfl (by kernel_rfl) (by kernel_rfl) (by kernel_rfl) (by kernel_rfl) (yx_val (wantF (d := 10) rfl (by kernel_rfl) rfl (congrArg Value.bool (decide_eq_true hc1))) (fun w' hx' => rv_fieldAddr (n := 0) rfl (fr_eval rfl rfl) Try.underlying40 rfl rfl (by kernel_rfl))) ?_
    refine xl_take (i := 10) (v := .int .i64 x.m) rfl (by kernel_rfl) (by kernel_rfl) (by kernel_rfl) (by kernel_rfl) (yx_val (wantF (d := 10) rfl (by kernel_rfl) rfl (congrArg Value.bool (decide_eq_true hc1))) (fun w' hx' => rv_load1 rfl ((hH.ext hx').blk (i := 0) rfl) (zBk_g6 x.a.2 x.r.2) (fr_eval rfl rfl) Try.underlying3 rfl Try.sz3)) ?_
    refine xl_take (i := 11) (v := .bool (decide (x.m ≤ 64))) rfl (by kernel_rfl) (by kernel_rfl) (by kernel_rfl) (by kernel_rfl) (yx_val (wantF (d := 10) rfl (by kernel_rfl) rfl (congrArg Value.bool (decide_eq_true hc1))) (fun w' hx' => rv_leqP (p := x.m ≤ 64) rfl (fr_eval rfl rfl) rfl Iff.rfl)) ?_
    refine xl_take (i := 12) (v := .bool (decide (x.m ≤ 64))) rfl (by kernel_rfl) (by kernel_rfl) (by kernel_rfl) (by kernel_rfl) (yx_val (wantAll rfl) (fun w' hx' => rv_pickT rfl (fr_eval rfl (congrArg Value.bool (decide_eq_true hc1))) (fr_eval rfl rfl))) ?_
    refine xl_take (i := 13) (v := .bool (decide (x.m ≤ 64))) rfl (by kernel_rfl) (by kernel_rfl) (by kernel_rfl) (by kernel_rfl) (yx_val (wantAll rfl) (fun w' hx' => rv_move rfl (fr_eval rfl rfl))) ?_
    by_cases hc2 : x.m ≤ 64
    · refine xl_take (i := 14) (v := .pointer (some ⟨g1, 0, none⟩)) rfl (by kernel_rfl) (by kernel_rfl) (by kernel_rfl) (by kernel_rfl) (yx_val (wantF (d := 16) rfl (by kernel_rfl) rfl (congrArg Value.bool (decide_eq_true hc2))) (fun w' hx' => rv_fieldAddr (n := 65) rfl (fr_eval rfl e1) Try.underlying43 rfl rfl (by kernel_rfl))) ?_
      refine xl_take (i := 15) (v := .pointer (some ⟨g1, 32, none⟩)) rfl (by kernel_rfl) (by kernel_rfl) (by kernel_rfl) (by kernel_rfl) (yx_val (wantF (d := 16) rfl (by kernel_rfl) rfl (congrArg Value.bool (decide_eq_true hc2))) (fun w' hx' => rv_fieldAddr (n := 0) rfl (fr_eval rfl rfl) Try.underlying40 rfl rfl (by kernel_rfl))) ?_
      refine xl_take (i := 16) (v := .int .i64 x.h) rfl (by kernel_rfl) (by kernel_rfl) (by kernel_rfl) (by kernel_rfl) (yx_val (wantF (d := 16) rfl (by kernel_rfl) rfl (congrArg Value.bool (decide_eq_true hc2))) (fun w' hx' => rv_load1 rfl ((hH.ext hx').blk (i := 0) rfl) (zBk_g8 x.a.2 x.r.2) (fr_eval rfl rfl) Try.underlying3 rfl Try.sz3)) ?_
      refine xl_take (i := 17) (v := .bool (decide (x.h ≥ 0))) rfl (by kernel_rfl) (by kernel_rfl) (by kernel_rfl) (by kernel_rfl) (yx_val (wantF (d := 16) rfl (by kernel_rfl) rfl (congrArg Value.bool (decide_eq_true hc2))) (fun w' hx' => rv_geqP (p := x.h ≥ 0) rfl (fr_eval rfl rfl) rfl Iff.rfl)) ?_
      refine xl_take (i := 18) (v := .bool (decide (x.h ≥ 0))) rfl (by kernel_rfl) (by kernel_rfl) (by kernel_rfl) (by kernel_rfl) (yx_val (wantAll rfl) (fun w' hx' => rv_pickT rfl (fr_eval rfl (congrArg Value.bool (decide_eq_true hc2))) (fr_eval rfl rfl))) ?_
      refine xl_take (i := 19) (v := .bool (decide (x.h ≥ 0))) rfl (by kernel_rfl) (by kernel_rfl) (by kernel_rfl) (by kernel_rfl) (yx_val (wantAll rfl) (fun w' hx' => rv_move rfl (fr_eval rfl rfl))) ?_
      by_cases hc3 : x.h ≥ 0
      · refine xl_take (i := 20) (v := .pointer (some ⟨g1, 0, none⟩)) rfl (by kernel_rfl) (by kernel_rfl) (by kernel_rfl) (by kernel_rfl) (yx_val (wantF (d := 22) rfl (by kernel_rfl) rfl (congrArg Value.bool (decide_eq_true hc3))) (fun w' hx' => rv_fieldAddr (n := 65) rfl (fr_eval rfl e1) Try.underlying43 rfl rfl (by kernel_rfl))) ?_
        refine xl_take (i := 21) (v := .pointer (some ⟨g1, 32, none⟩)) rfl (by kernel_rfl) (by kernel_rfl) (by kernel_rfl) (by kernel_rfl) (yx_val (wantF (d := 22) rfl (by kernel_rfl) rfl (congrArg Value.bool (decide_eq_true hc3))) (fun w' hx' => rv_fieldAddr (n := 0) rfl (fr_eval rfl rfl) Try.underlying40 rfl rfl (by kernel_rfl))) ?_
        refine xl_take (i := 22) (v := .int .i64 x.h) rfl (by kernel_rfl) (by kernel_rfl) (by kernel_rfl) (by kernel_rfl) (yx_val (wantF (d := 22) rfl (by kernel_rfl) rfl (congrArg Value.bool (decide_eq_true hc3))) (fun w' hx' => rv_load1 rfl ((hH.ext hx').blk (i := 0) rfl) (zBk_g8 x.a.2 x.r.2) (fr_eval rfl rfl) Try.underlying3 rfl Try.sz3)) ?_
        refine xl_take (i := 23) (v := .bool (decide (x.h ≤ 1073741824))) rfl (by kernel_rfl) (by kernel_rfl) (by kernel_rfl) (by kernel_rfl) (yx_val (wantF (d := 22) rfl (by kernel_rfl) rfl (congrArg Value.bool (decide_eq_true hc3))) (fun w' hx' => rv_leqP (p := x.h ≤ 1073741824) rfl (fr_eval rfl rfl) rfl Iff.rfl)) ?_
        refine xl_take (i := 24) (v := .bool (decide (x.h ≤ 1073741824))) rfl (by kernel_rfl) (by kernel_rfl) (by kernel_rfl) (by kernel_rfl) (yx_val (wantAll rfl) (fun w' hx' => rv_pickT rfl (fr_eval rfl (congrArg Value.bool (decide_eq_true hc3))) (fr_eval rfl rfl))) ?_
        refine xl_take (i := 25) (v := .bool (decide (x.h ≤ 1073741824))) rfl (by kernel_rfl) (by kernel_rfl) (by kernel_rfl) (by kernel_rfl) (yx_val (wantAll rfl) (fun w' hx' => rv_move rfl (fr_eval rfl rfl))) ?_
        by_cases hc4 : x.h ≤ 1073741824
        · refine xl_take (i := 26) (v := .pointer (some ⟨g1, 0, none⟩)) rfl (by kernel_rfl) (by kernel_rfl) (by kernel_rfl) (by kernel_rfl) (yx_val (wantF (d := 28) rfl (by kernel_rfl) rfl (congrArg Value.bool (decide_eq_true hc4))) (fun w' hx' => rv_fieldAddr (n := 65) rfl (fr_eval rfl e1) Try.underlying43 rfl rfl (by kernel_rfl))) ?_
          refine xl_take (i := 27) (v := .pointer (some ⟨g1, 33, none⟩)) rfl (by kernel_rfl) (by kernel_rfl) (by kernel_rfl) (by kernel_rfl) (yx_val (wantF (d := 28) rfl (by kernel_rfl) rfl (congrArg Value.bool (decide_eq_true hc4))) (fun w' hx' => rv_fieldAddr (n := 31) rfl (fr_eval rfl rfl) Try.underlying40 rfl rfl (by kernel_rfl))) ?_
          refine xl_take (i := 28) (v := .agg (cBs x.r.1).toArray) rfl (by kernel_rfl) (by kernel_rfl) (by kernel_rfl) (by kernel_rfl) (yx_val (wantF (d := 28) rfl (by kernel_rfl) rfl (congrArg Value.bool (decide_eq_true hc4))) (fun w' hx' => rv_loadP rfl ((hH.ext hx').blk (i := 0) rfl) (zBk_p9 x.a.2 x.r.2) (cBs_len x.r.2) (fr_eval rfl rfl) Try.underlying23 rfl Try.sz23)) ?_
          refine xl_take (i := 29) (v := .pointer (some ⟨g1, 66, none⟩)) rfl (by kernel_rfl) (by kernel_rfl) (by kernel_rfl) (by kernel_rfl) (yx_val (wantF (d := 28) rfl (by kernel_rfl) rfl (congrArg Value.bool (decide_eq_true hc4))) (fun w' hx' => rv_fieldAddr (n := 0) rfl (fr_eval rfl e1) Try.underlying43 rfl rfl (by kernel_rfl))) ?_
          refine xl_take (i := 30) (v := v) rfl (by kernel_rfl) (by kernel_rfl) (by kernel_rfl) (by kernel_rfl) (yx_val (wantF (d := 28) rfl (by kernel_rfl) rfl (congrArg Value.bool (decide_eq_true hc4))) (fun w' hx' => rv_load1 rfl ((hH.ext hx').blk (i := 0) rfl) (zBk_g7 x.a.2 x.r.2) (fr_eval rfl rfl) Try.underlying41 rfl Try.sz41)) ?_
          refine anyX_ready (rs := [31]) (by kernel_rfl) ?_
          intro w2 hx
          replace hH := hH.ext hx
          clear hx
          refine (anyX_cons ?_ anyX_nil)
          refine xl_step (i := 31) rfl (wantF (d := 28) rfl (by kernel_rfl) rfl (congrArg Value.bool (decide_eq_true hc4))) ?_
          refine of_call (rv_call (args := [v]) rfl (evc (fr_eval rfl rfl) evn) Try.call64) (bsums_calls l (by omega) hs _ _ (fun t ht => (hts t ht).later hH.chg (newN_up hH.chg hH.up)) (hr.rd _ hH.chg)) ?_
          rintro _ w3 ⟨⟨y1, rfl, ho, hg⟩, hx⟩
          refine ⟨_, rfl, ?_⟩
          replace hH : Heap _ _ _ [_, _] := hH.addOwn hx hg ho
          clear ho hg
          refine ⟨hx, ?_⟩
          clear hx
          refine xl_take (i := 32) (v := .agg (cBs ((rootS (List.map sumT l)).1)).toArray) rfl (by kernel_rfl) (by kernel_rfl) (by kernel_rfl) (by kernel_rfl) (yx_call (wantF (d := 28) rfl (by kernel_rfl) rfl (congrArg Value.bool (decide_eq_true hc4))) (fun w' => rv_call (args := [y1]) rfl (evc (fr_eval rfl rfl) evn) Try.call19) (fun w' hx' => root_calls (List.map sumT l) (by first | omega | (simp only [List.length_map]; omega) | decide | (simp only [List.length_map, List.length_replicate]; omega)) _ _ (Own.rd ((hH.ext hx').own (i := 1) rfl) (row_one cS_one)))) ?_
          refine xl_tail (s := 33) rfl ?_
          intro w4 hx
          replace hH := hH.ext hx
          clear hx
          refine lf_val (v := .bool (decide (x.r.1 = (rootS (List.map sumT l)).1))) (wantF (d := 28) rfl (by kernel_rfl) rfl (congrArg Value.bool (decide_eq_true hc4))) (eqT rfl (fr_eval rfl rfl) (fr_eval rfl rfl) x.r.2 (rootS (List.map sumT l)).2 (beq_dec _ _)) ?_
          refine lf_val (v := .bool (decide (x.r.1 = (rootS (List.map sumT l)).1))) (wantAll rfl) (rv_pickT rfl (fr_eval rfl (congrArg Value.bool (decide_eq_true hc4))) (fr_eval rfl rfl)) ?_
          refine lf_val (v := .bool (decide (x.r.1 = (rootS (List.map sumT l)).1))) (wantAll rfl) (rv_assign rfl (fr_eval rfl rfl)) ?_
          refine lf_nil ?_
          refine then_n ?_
          replace hH : Heap _ _ _ [_] := hH.drop (.cons_cons _ (.cons _ .slnil))
          refine wp_gen (fun F' => F' 0 = .agg (cBs x.a.1 ++ (([.int .i64 x.h] : List Value) ++ (cBs x.r.1 ++ ([.int .i64 x.m, v] : List Value)))).toArray ∧ F' 1 = .pointer (some ⟨g1, 0, none⟩) ∧ F' 2 = .bool (decide (x.r.1 = (rootS (List.map sumT l)).1))) ⟨e0, e1, rfl⟩ ?_
          clear e0 e1 e2
          clear F
          rintro F ⟨e0, e1, e2⟩
          refine wp_ret ?_
          exact bodyPost_ret (v := (.bool (decide (x.r.1 = (rootS (List.map sumT l)).1)))) (res1 rfl (ro_tmp rfl e2)) rfl (⟨congrArg (fun b => Ending.returned (.bool b)) (decide_eq_decide.2 ⟨fun h => ⟨by omega, h⟩, fun h => h.2⟩), hH.done⟩)
        · refine xl_take (i := 26) (v := undef) rfl (by kernel_rfl) (by kernel_rfl) (by kernel_rfl) (by kernel_rfl) (yx_not (wantNot (d := 28) rfl (by kernel_rfl) rfl (congrArg Value.bool (decide_eq_false hc4)))) ?_
          refine xl_take (i := 27) (v := undef) rfl (by kernel_rfl) (by kernel_rfl) (by kernel_rfl) (by kernel_rfl) (yx_not (wantNot (d := 28) rfl (by kernel_rfl) rfl (congrArg Value.bool (decide_eq_false hc4)))) ?_
          refine xl_take (i := 28) (v := undef) rfl (by kernel_rfl) (by kernel_rfl) (by kernel_rfl) (by kernel_rfl) (yx_not (wantNot (d := 28) rfl (by kernel_rfl) rfl (congrArg Value.bool (decide_eq_false hc4)))) ?_
          refine xl_take (i := 29) (v := undef) rfl (by kernel_rfl) (by kernel_rfl) (by kernel_rfl) (by kernel_rfl) (yx_not (wantNot (d := 28) rfl (by kernel_rfl) rfl (congrArg Value.bool (decide_eq_false hc4)))) ?_
          refine xl_take (i := 30) (v := undef) rfl (by kernel_rfl) (by kernel_rfl) (by kernel_rfl) (by kernel_rfl) (yx_not (wantNot (d := 28) rfl (by kernel_rfl) rfl (congrArg Value.bool (decide_eq_false hc4)))) ?_
          refine xl_take (i := 31) (v := undef) rfl (by kernel_rfl) (by kernel_rfl) (by kernel_rfl) (by kernel_rfl) (yx_not (wantNot (d := 28) rfl (by kernel_rfl) rfl (congrArg Value.bool (decide_eq_false hc4)))) ?_
          refine xl_take (i := 32) (v := undef) rfl (by kernel_rfl) (by kernel_rfl) (by kernel_rfl) (by kernel_rfl) (yx_not (wantNot (d := 28) rfl (by kernel_rfl) rfl (congrArg Value.bool (decide_eq_false hc4)))) ?_
          refine xl_tail (s := 33) rfl ?_
          intro w5 hx
          replace hH := hH.ext hx
          clear hx
          refine lf_not (wantNot (d := 28) rfl (by kernel_rfl) rfl (congrArg Value.bool (decide_eq_false hc4))) ?_
          refine lf_val (v := .bool false) (wantAll rfl) (rv_pickF rfl (fr_eval rfl (congrArg Value.bool (decide_eq_false hc4))) rfl) ?_
          refine lf_val (v := .bool false) (wantAll rfl) (rv_assign rfl (fr_eval rfl rfl)) ?_
          refine lf_nil ?_
          refine then_n ?_
          refine wp_gen (fun F' => F' 0 = .agg (cBs x.a.1 ++ (([.int .i64 x.h] : List Value) ++ (cBs x.r.1 ++ ([.int .i64 x.m, v] : List Value)))).toArray ∧ F' 1 = .pointer (some ⟨g1, 0, none⟩) ∧ F' 2 = .bool false) ⟨e0, e1, rfl⟩ ?_
          clear e0 e1 e2
          clear F
          rintro F ⟨e0, e1, e2⟩
          refine wp_ret ?_
          exact bodyPost_ret (v := (.bool false)) (res1 rfl (ro_tmp rfl e2)) rfl (⟨congrArg (fun b => Ending.returned (.bool b)) (decide_eq_false (fun h => by unfold RightP at h; omega)).symm, hH.done⟩)
      · refine xl_take (i := 20) (v := undef) rfl (by kernel_rfl) (by kernel_rfl) (by kernel_rfl) (by kernel_rfl) (yx_not (wantNot (d := 22) rfl (by kernel_rfl) rfl (congrArg Value.bool (decide_eq_false hc3)))) ?_
        refine xl_take (i := 21) (v := undef) rfl (by kernel_rfl) (by kernel_rfl) (by kernel_rfl) (by kernel_rfl) (yx_not (wantNot (d := 22) rfl (by kernel_rfl) rfl (congrArg Value.bool (decide_eq_false hc3)))) ?_
        refine xl_take (i := 22) (v := undef) rfl (by kernel_rfl) (by kernel_rfl) (by kernel_rfl) (by kernel_rfl) (yx_not (wantNot (d := 22) rfl (by kernel_rfl) rfl (congrArg Value.bool (decide_eq_false hc3)))) ?_
        refine xl_take (i := 23) (v := undef) rfl (by kernel_rfl) (by kernel_rfl) (by kernel_rfl) (by kernel_rfl) (yx_not (wantNot (d := 22) rfl (by kernel_rfl) rfl (congrArg Value.bool (decide_eq_false hc3)))) ?_
        refine xl_take (i := 24) (v := .bool false) rfl (by kernel_rfl) (by kernel_rfl) (by kernel_rfl) (by kernel_rfl) (yx_val (wantAll rfl) (fun w' hx' => rv_pickF rfl (fr_eval rfl (congrArg Value.bool (decide_eq_false hc3))) rfl)) ?_
        refine xl_take (i := 25) (v := .bool false) rfl (by kernel_rfl) (by kernel_rfl) (by kernel_rfl) (by kernel_rfl) (yx_val (wantAll rfl) (fun w' hx' => rv_move rfl (fr_eval rfl rfl))) ?_
        refine xl_take (i := 26) (v := undef) rfl (by kernel_rfl) (by kernel_rfl) (by kernel_rfl) (by kernel_rfl) (yx_not (wantNot (d := 28) rfl (by kernel_rfl) rfl rfl)) ?_
        refine xl_take (i := 27) (v := undef) rfl (by kernel_rfl) (by kernel_rfl) (by kernel_rfl) (by kernel_rfl) (yx_not (wantNot (d := 28) rfl (by kernel_rfl) rfl rfl)) ?_
        refine xl_take (i := 28) (v := undef) rfl (by kernel_rfl) (by kernel_rfl) (by kernel_rfl) (by kernel_rfl) (yx_not (wantNot (d := 28) rfl (by kernel_rfl) rfl rfl)) ?_
        refine xl_take (i := 29) (v := undef) rfl (by kernel_rfl) (by kernel_rfl) (by kernel_rfl) (by kernel_rfl) (yx_not (wantNot (d := 28) rfl (by kernel_rfl) rfl rfl)) ?_
        refine xl_take (i := 30) (v := undef) rfl (by kernel_rfl) (by kernel_rfl) (by kernel_rfl) (by kernel_rfl) (yx_not (wantNot (d := 28) rfl (by kernel_rfl) rfl rfl)) ?_
        refine xl_take (i := 31) (v := undef) rfl (by kernel_rfl) (by kernel_rfl) (by kernel_rfl) (by kernel_rfl) (yx_not (wantNot (d := 28) rfl (by kernel_rfl) rfl rfl)) ?_
        refine xl_take (i := 32) (v := undef) rfl (by kernel_rfl) (by kernel_rfl) (by kernel_rfl) (by kernel_rfl) (yx_not (wantNot (d := 28) rfl (by kernel_rfl) rfl rfl)) ?_
        refine xl_tail (s := 33) rfl ?_
        intro w6 hx
        replace hH := hH.ext hx
        clear hx
        refine lf_not (wantNot (d := 28) rfl (by kernel_rfl) rfl rfl) ?_
        refine lf_val (v := .bool false) (wantAll rfl) (rv_pickF rfl (fr_eval rfl rfl) rfl) ?_
        refine lf_val (v := .bool false) (wantAll rfl) (rv_assign rfl (fr_eval rfl rfl)) ?_
        refine lf_nil ?_
        refine then_n ?_
        refine wp_gen (fun F' => F' 0 = .agg (cBs x.a.1 ++ (([.int .i64 x.h] : List Value) ++ (cBs x.r.1 ++ ([.int .i64 x.m, v] : List Value)))).toArray ∧ F' 1 = .pointer (some ⟨g1, 0, none⟩) ∧ F' 2 = .bool false) ⟨e0, e1, rfl⟩ ?_
        clear e0 e1 e2
        clear F
        rintro F ⟨e0, e1, e2⟩
        refine wp_ret ?_
        exact bodyPost_ret (v := (.bool false)) (res1 rfl (ro_tmp rfl e2)) rfl (⟨congrArg (fun b => Ending.returned (.bool b)) (decide_eq_false (fun h => by unfold RightP at h; omega)).symm, hH.done⟩)
    · refine xl_take (i := 14) (v := undef) rfl (by kernel_rfl) (by kernel_rfl) (by kernel_rfl) (by kernel_rfl) (yx_not (wantNot (d := 16) rfl (by kernel_rfl) rfl (congrArg Value.bool (decide_eq_false hc2)))) ?_
      refine xl_take (i := 15) (v := undef) rfl (by kernel_rfl) (by kernel_rfl) (by kernel_rfl) (by kernel_rfl) (yx_not (wantNot (d := 16) rfl (by kernel_rfl) rfl (congrArg Value.bool (decide_eq_false hc2)))) ?_
      refine xl_take (i := 16) (v := undef) rfl (by kernel_rfl) (by kernel_rfl) (by kernel_rfl) (by kernel_rfl) (yx_not (wantNot (d := 16) rfl (by kernel_rfl) rfl (congrArg Value.bool (decide_eq_false hc2)))) ?_
      refine xl_take (i := 17) (v := undef) rfl (by kernel_rfl) (by kernel_rfl) (by kernel_rfl) (by kernel_rfl) (yx_not (wantNot (d := 16) rfl (by kernel_rfl) rfl (congrArg Value.bool (decide_eq_false hc2)))) ?_
      refine xl_take (i := 18) (v := .bool false) rfl (by kernel_rfl) (by kernel_rfl) (by kernel_rfl) (by kernel_rfl) (yx_val (wantAll rfl) (fun w' hx' => rv_pickF rfl (fr_eval rfl (congrArg Value.bool (decide_eq_false hc2))) rfl)) ?_
      refine xl_take (i := 19) (v := .bool false) rfl (by kernel_rfl) (by kernel_rfl) (by kernel_rfl) (by kernel_rfl) (yx_val (wantAll rfl) (fun w' hx' => rv_move rfl (fr_eval rfl rfl))) ?_
      refine xl_take (i := 20) (v := undef) rfl (by kernel_rfl) (by kernel_rfl) (by kernel_rfl) (by kernel_rfl) (yx_not (wantNot (d := 22) rfl (by kernel_rfl) rfl rfl)) ?_
      refine xl_take (i := 21) (v := undef) rfl (by kernel_rfl) (by kernel_rfl) (by kernel_rfl) (by kernel_rfl) (yx_not (wantNot (d := 22) rfl (by kernel_rfl) rfl rfl)) ?_
      refine xl_take (i := 22) (v := undef) rfl (by kernel_rfl) (by kernel_rfl) (by kernel_rfl) (by kernel_rfl) (yx_not (wantNot (d := 22) rfl (by kernel_rfl) rfl rfl)) ?_
      refine xl_take (i := 23) (v := undef) rfl (by kernel_rfl) (by kernel_rfl) (by kernel_rfl) (by kernel_rfl) (yx_not (wantNot (d := 22) rfl (by kernel_rfl) rfl rfl)) ?_
      refine xl_take (i := 24) (v := .bool false) rfl (by kernel_rfl) (by kernel_rfl) (by kernel_rfl) (by kernel_rfl) (yx_val (wantAll rfl) (fun w' hx' => rv_pickF rfl (fr_eval rfl rfl) rfl)) ?_
      refine xl_take (i := 25) (v := .bool false) rfl (by kernel_rfl) (by kernel_rfl) (by kernel_rfl) (by kernel_rfl) (yx_val (wantAll rfl) (fun w' hx' => rv_move rfl (fr_eval rfl rfl))) ?_
      refine xl_take (i := 26) (v := undef) rfl (by kernel_rfl) (by kernel_rfl) (by kernel_rfl) (by kernel_rfl) (yx_not (wantNot (d := 28) rfl (by kernel_rfl) rfl rfl)) ?_
      refine xl_take (i := 27) (v := undef) rfl (by kernel_rfl) (by kernel_rfl) (by kernel_rfl) (by kernel_rfl) (yx_not (wantNot (d := 28) rfl (by kernel_rfl) rfl rfl)) ?_
      refine xl_take (i := 28) (v := undef) rfl (by kernel_rfl) (by kernel_rfl) (by kernel_rfl) (by kernel_rfl) (yx_not (wantNot (d := 28) rfl (by kernel_rfl) rfl rfl)) ?_
      refine xl_take (i := 29) (v := undef) rfl (by kernel_rfl) (by kernel_rfl) (by kernel_rfl) (by kernel_rfl) (yx_not (wantNot (d := 28) rfl (by kernel_rfl) rfl rfl)) ?_
      refine xl_take (i := 30) (v := undef) rfl (by kernel_rfl) (by kernel_rfl) (by kernel_rfl) (by kernel_rfl) (yx_not (wantNot (d := 28) rfl (by kernel_rfl) rfl rfl)) ?_
      refine xl_take (i := 31) (v := undef) rfl (by kernel_rfl) (by kernel_rfl) (by kernel_rfl) (by kernel_rfl) (yx_not (wantNot (d := 28) rfl (by kernel_rfl) rfl rfl)) ?_
      refine xl_take (i := 32) (v := undef) rfl (by kernel_rfl) (by kernel_rfl) (by kernel_rfl) (by kernel_rfl) (yx_not (wantNot (d := 28) rfl (by kernel_rfl) rfl rfl)) ?_
      refine xl_tail (s := 33) rfl ?_
      intro w7 hx
      replace hH := hH.ext hx
      clear hx
      refine lf_not (wantNot (d := 28) rfl (by kernel_rfl) rfl rfl) ?_
      refine lf_val (v := .bool false) (wantAll rfl) (rv_pickF rfl (fr_eval rfl rfl) rfl) ?_
      refine lf_val (v := .bool false) (wantAll rfl) (rv_assign rfl (fr_eval rfl rfl)) ?_
      refine lf_nil ?_
      refine then_n ?_
      refine wp_gen (fun F' => F' 0 = .agg (cBs x.a.1 ++ (([.int .i64 x.h] : List Value) ++ (cBs x.r.1 ++ ([.int .i64 x.m, v] : List Value)))).toArray ∧ F' 1 = .pointer (some ⟨g1, 0, none⟩) ∧ F' 2 = .bool false) ⟨e0, e1, rfl⟩ ?_
      clear e0 e1 e2
      clear F
      rintro F ⟨e0, e1, e2⟩
      refine wp_ret ?_
      exact bodyPost_ret (v := (.bool false)) (res1 rfl (ro_tmp rfl e2)) rfl (⟨congrArg (fun b => Ending.returned (.bool b)) (decide_eq_false (fun h => by unfold RightP at h; omega)).symm, hH.done⟩)
  · refine xl_take (i := 8) (v := undef) rfl (by kernel_rfl) (by kernel_rfl) (by kernel_rfl) (by kernel_rfl) (yx_not (wantNot (d := 10) rfl (by kernel_rfl) rfl (congrArg Value.bool (decide_eq_false hc1)))) ?_
    refine xl_take (i := 9) (v := undef) rfl (by kernel_rfl) (by kernel_rfl) (by kernel_rfl) (by kernel_rfl) (yx_not (wantNot (d := 10) rfl (by kernel_rfl) rfl (congrArg Value.bool (decide_eq_false hc1)))) ?_
    refine xl_take (i := 10) (v := undef) rfl (by kernel_rfl) (by kernel_rfl) (by kernel_rfl) (by kernel_rfl) (yx_not (wantNot (d := 10) rfl (by kernel_rfl) rfl (congrArg Value.bool (decide_eq_false hc1)))) ?_
    refine xl_take (i := 11) (v := undef) rfl (by kernel_rfl) (by kernel_rfl) (by kernel_rfl) (by kernel_rfl) (yx_not (wantNot (d := 10) rfl (by kernel_rfl) rfl (congrArg Value.bool (decide_eq_false hc1)))) ?_
    refine xl_take (i := 12) (v := .bool false) rfl (by kernel_rfl) (by kernel_rfl) (by kernel_rfl) (by kernel_rfl) (yx_val (wantAll rfl) (fun w' hx' => rv_pickF rfl (fr_eval rfl (congrArg Value.bool (decide_eq_false hc1))) rfl)) ?_
    refine xl_take (i := 13) (v := .bool false) rfl (by kernel_rfl) (by kernel_rfl) (by kernel_rfl) (by kernel_rfl) (yx_val (wantAll rfl) (fun w' hx' => rv_move rfl (fr_eval rfl rfl))) ?_
    refine xl_take (i := 14) (v := undef) rfl (by kernel_rfl) (by kernel_rfl) (by kernel_rfl) (by kernel_rfl) (yx_not (wantNot (d := 16) rfl (by kernel_rfl) rfl rfl)) ?_
    refine xl_take (i := 15) (v := undef) rfl (by kernel_rfl) (by kernel_rfl) (by kernel_rfl) (by kernel_rfl) (yx_not (wantNot (d := 16) rfl (by kernel_rfl) rfl rfl)) ?_
    refine xl_take (i := 16) (v := undef) rfl (by kernel_rfl) (by kernel_rfl) (by kernel_rfl) (by kernel_rfl) (yx_not (wantNot (d := 16) rfl (by kernel_rfl) rfl rfl)) ?_
    refine xl_take (i := 17) (v := undef) rfl (by kernel_rfl) (by kernel_rfl) (by kernel_rfl) (by kernel_rfl) (yx_not (wantNot (d := 16) rfl (by kernel_rfl) rfl rfl)) ?_
    refine xl_take (i := 18) (v := .bool false) rfl (by kernel_rfl) (by kernel_rfl) (by kernel_rfl) (by kernel_rfl) (yx_val (wantAll rfl) (fun w' hx' => rv_pickF rfl (fr_eval rfl rfl) rfl)) ?_
    refine xl_take (i := 19) (v := .bool false) rfl (by kernel_rfl) (by kernel_rfl) (by kernel_rfl) (by kernel_rfl) (yx_val (wantAll rfl) (fun w' hx' => rv_move rfl (fr_eval rfl rfl))) ?_
    refine xl_take (i := 20) (v := undef) rfl (by kernel_rfl) (by kernel_rfl) (by kernel_rfl) (by kernel_rfl) (yx_not (wantNot (d := 22) rfl (by kernel_rfl) rfl rfl)) ?_
    refine xl_take (i := 21) (v := undef) rfl (by kernel_rfl) (by kernel_rfl) (by kernel_rfl) (by kernel_rfl) (yx_not (wantNot (d := 22) rfl (by kernel_rfl) rfl rfl)) ?_
    refine xl_take (i := 22) (v := undef) rfl (by kernel_rfl) (by kernel_rfl) (by kernel_rfl) (by kernel_rfl) (yx_not (wantNot (d := 22) rfl (by kernel_rfl) rfl rfl)) ?_
    refine xl_take (i := 23) (v := undef) rfl (by kernel_rfl) (by kernel_rfl) (by kernel_rfl) (by kernel_rfl) (yx_not (wantNot (d := 22) rfl (by kernel_rfl) rfl rfl)) ?_
    refine xl_take (i := 24) (v := .bool false) rfl (by kernel_rfl) (by kernel_rfl) (by kernel_rfl) (by kernel_rfl) (yx_val (wantAll rfl) (fun w' hx' => rv_pickF rfl (fr_eval rfl rfl) rfl)) ?_
    refine xl_take (i := 25) (v := .bool false) rfl (by kernel_rfl) (by kernel_rfl) (by kernel_rfl) (by kernel_rfl) (yx_val (wantAll rfl) (fun w' hx' => rv_move rfl (fr_eval rfl rfl))) ?_
    refine xl_take (i := 26) (v := undef) rfl (by kernel_rfl) (by kernel_rfl) (by kernel_rfl) (by kernel_rfl) (yx_not (wantNot (d := 28) rfl (by kernel_rfl) rfl rfl)) ?_
    refine xl_take (i := 27) (v := undef) rfl (by kernel_rfl) (by kernel_rfl) (by kernel_rfl) (by kernel_rfl) (yx_not (wantNot (d := 28) rfl (by kernel_rfl) rfl rfl)) ?_
    refine xl_take (i := 28) (v := undef) rfl (by kernel_rfl) (by kernel_rfl) (by kernel_rfl) (by kernel_rfl) (yx_not (wantNot (d := 28) rfl (by kernel_rfl) rfl rfl)) ?_
    refine xl_take (i := 29) (v := undef) rfl (by kernel_rfl) (by kernel_rfl) (by kernel_rfl) (by kernel_rfl) (yx_not (wantNot (d := 28) rfl (by kernel_rfl) rfl rfl)) ?_
    refine xl_take (i := 30) (v := undef) rfl (by kernel_rfl) (by kernel_rfl) (by kernel_rfl) (by kernel_rfl) (yx_not (wantNot (d := 28) rfl (by kernel_rfl) rfl rfl)) ?_
    refine xl_take (i := 31) (v := undef) rfl (by kernel_rfl) (by kernel_rfl) (by kernel_rfl) (by kernel_rfl) (yx_not (wantNot (d := 28) rfl (by kernel_rfl) rfl rfl)) ?_
    refine xl_take (i := 32) (v := undef) rfl (by kernel_rfl) (by kernel_rfl) (by kernel_rfl) (by kernel_rfl) (yx_not (wantNot (d := 28) rfl (by kernel_rfl) rfl rfl)) ?_
    refine xl_tail (s := 33) rfl ?_
    intro w8 hx
    replace hH := hH.ext hx
    clear hx
    refine lf_not (wantNot (d := 28) rfl (by kernel_rfl) rfl rfl) ?_
    refine lf_val (v := .bool false) (wantAll rfl) (rv_pickF rfl (fr_eval rfl rfl) rfl) ?_
    refine lf_val (v := .bool false) (wantAll rfl) (rv_assign rfl (fr_eval rfl rfl)) ?_
    refine lf_nil ?_
    refine then_n ?_
    refine wp_gen (fun F' => F' 0 = .agg (cBs x.a.1 ++ (([.int .i64 x.h] : List Value) ++ (cBs x.r.1 ++ ([.int .i64 x.m, v] : List Value)))).toArray ∧ F' 1 = .pointer (some ⟨g1, 0, none⟩) ∧ F' 2 = .bool false) ⟨e0, e1, rfl⟩ ?_
    clear e0 e1 e2
    clear F
    rintro F ⟨e0, e1, e2⟩
    refine wp_ret ?_
    exact bodyPost_ret (v := (.bool false)) (res1 rfl (ro_tmp rfl e2)) rfl (⟨congrArg (fun b => Ending.returned (.bool b)) (decide_eq_false (fun h => by unfold RightP at h; omega)).symm, hH.done⟩)

set_option maxRecDepth 100000 in
set_option maxHeartbeats 4000000 in
theorem bMake_range (x : Hd) (hin : inHd x) (l : List TxG) (hl : l.length ≤ 1000) (hs : ∀ t ∈ l, smT t) (ho : (¬ (0 ≤ x.h ∧ x.h < 1073741824))) (v : Value) (w : World) (hts : ∀ t ∈ l, StTx (newN w) w t) (hr0 : Rd w 40 v l.length (l.flatMap cTx)) :
    Calls Try.prog 29 #[.agg (cBs x.a.1 ++ (([.int .i64 x.h] : List Value) ++ (cBs x.r.1 ++ ([.int .i64 x.m] : List Value)))).toArray, v] w fun e'' w' => e'' = .returned (.tuple #[.agg (cBs (List.replicate 32 0) ++ (([.int .i64 0] : List Value) ++ (cBs (List.replicate 32 0) ++ ([.int .i64 0, .slice none 0 0] : List Value)))).toArray, .int .i64 5]) ∧ Ext w w' := by
  refine calls_fr (args := [.agg (cBs x.a.1 ++ (([.int .i64 x.h] : List Value) ++ (cBs x.r.1 ++ ([.int .i64 x.m] : List Value)))).toArray, v]) (n := 35) Try.func29 rfl rfl (show 2 ≤ 35 by decide) ?_
  obtain ⟨⟨hi1, hi2⟩, hi3, hi4⟩ := hin
  have hr := Rd.stab hr0
  have hH : Heap (newN w) w w [] := Heap.fresh
  refine wp_seq ?_
  refine wp_gen (fun F' => F' 0 = .agg (cBs x.a.1 ++ (([.int .i64 x.h] : List Value) ++ (cBs x.r.1 ++ ([.int .i64 x.m] : List Value)))).toArray ∧ F' 1 = v) ⟨rfl, rfl⟩ ?_
  rintro F ⟨e0, e1⟩
  refine wp_regionF ?_
  refine lf_ex (wantAll rfl) (hx_box hH 40 (cs := cBs x.a.1 ++ (([.int .i64 x.h] : List Value) ++ (cBs x.r.1 ++ ([.int .i64 x.m] : List Value)))) rfl (fr_eval rfl e0) (by rfl)) ?_
  clear hH
  rintro _ w1 ⟨g1, rfl, hH, hx⟩
  replace hH : Heap _ _ _ [_] := hH
  clear hx
  refine lf_ex (wantAll rfl) (hx_alloc hH 43 (z := .agg (cBs (List.replicate 32 0) ++ (([.int .i64 0] : List Value) ++ (cBs (List.replicate 32 0) ++ ([.int .i64 0, .slice none 0 0] : List Value)))).toArray) (n := 67) (cs := cBs (List.replicate 32 0) ++ (([.int .i64 0] : List Value) ++ (cBs (List.replicate 32 0) ++ ([.int .i64 0, .slice none 0 0] : List Value)))) rfl (by kernel_rfl) (by rfl)) ?_
  clear hH
  rintro _ w2 ⟨g2, rfl, hH, hx⟩
  replace hH : Heap _ _ _ [_, _] := hH
  clear hx
  refine lf_val (v := .int .i64 0) (wantAll rfl) (rv_assign rfl rfl) ?_
  refine lf_nil ?_
  refine then_n ?_
  refine wp_seq ?_
  refine wp_seq ?_
  refine wp_gen (fun F' => F' 0 = .agg (cBs x.a.1 ++ (([.int .i64 x.h] : List Value) ++ (cBs x.r.1 ++ ([.int .i64 x.m] : List Value)))).toArray ∧ F' 1 = v ∧ F' 2 = .pointer (some ⟨g1, 0, none⟩) ∧ F' 4 = .pointer (some ⟨g2, 0, none⟩) ∧ F' 5 = .int .i64 0) ⟨e0, e1, rfl, rfl, rfl⟩ ?_
  clear e0 e1
  clear F
  rintro F ⟨e0, e1, e2, e4, e5⟩
  refine wp_regionF ?_
  refine lf_val (v := .pointer (some ⟨g1, 32, none⟩)) (wantAll rfl) (rv_fieldAddr (n := 0) rfl (fr_eval rfl e2) Try.underlying40 rfl rfl (by kernel_rfl)) ?_
  refine lf_val (v := .int .i64 x.h) (wantAll rfl) (rv_load1 rfl (hH.blk (i := 0) rfl) (zBk_g1 x.a.2 x.r.2) (fr_eval rfl rfl) Try.underlying3 rfl Try.sz3) ?_
  by_cases hc1 : x.h < 0
  · refine lf_val (v := .bool true) (wantAll rfl) (rv_lss rfl (fr_eval rfl rfl) rfl (decide_eq_true (by omega))) ?_
    refine lf_val (v := .bool true) (wantAll rfl) (rv_move rfl (fr_eval rfl rfl)) ?_
    refine lf_not (wantNot (d := 10) rfl (by kernel_rfl) rfl rfl) ?_
    refine lf_not (wantNot (d := 10) rfl (by kernel_rfl) rfl rfl) ?_
    refine lf_not (wantNot (d := 10) rfl (by kernel_rfl) rfl rfl) ?_
    refine lf_val (v := .bool true) (wantAll rfl) (rv_pickT rfl (fr_eval rfl rfl) rfl) ?_
    refine lf_nil ?_
    refine then_n ?_
    refine wp_gen (fun F' => F' 0 = .agg (cBs x.a.1 ++ (([.int .i64 x.h] : List Value) ++ (cBs x.r.1 ++ ([.int .i64 x.m] : List Value)))).toArray ∧ F' 1 = v ∧ F' 2 = .pointer (some ⟨g1, 0, none⟩) ∧ F' 4 = .pointer (some ⟨g2, 0, none⟩) ∧ F' 5 = .int .i64 0 ∧ F' 14 = .bool true) ⟨e0, e1, e2, e4, e5, rfl⟩ ?_
    clear e0 e1 e2 e4 e5
    clear F
    rintro F ⟨e0, e1, e2, e4, e5, e14⟩
    refine wp_cond_true (fr_eval rfl e14) ?_
    refine wp_seq ?_
    refine wp_regionF ?_
    refine lf_val (wantAll rfl) (rv_buildS (ps := []) (places := #[(0, 66), (66, 1)]) (z := .agg (cBs (List.replicate 32 0) ++ (([.int .i64 0] : List Value) ++ (cBs (List.replicate 32 0) ++ ([.int .i64 0, .slice none 0 0] : List Value)))).toArray) (zc := cBs (List.replicate 32 0) ++ (([.int .i64 0] : List Value) ++ (cBs (List.replicate 32 0) ++ ([.int .i64 0, .slice none 0 0] : List Value)))) (cs := cBs (List.replicate 32 0) ++ (([.int .i64 0] : List Value) ++ (cBs (List.replicate 32 0) ++ ([.int .i64 0, .slice none 0 0] : List Value)))) rfl evpn (by kernel_rfl) rfl Try.underlying43 (fun _ => by kernel_rfl) fill0) ?_
    refine lf_sk (wantAll rfl) (hx_storeW hH (i := 1) (cs := cBs (List.replicate 32 0) ++ (([.int .i64 0] : List Value) ++ (cBs (List.replicate 32 0) ++ ([.int .i64 0, .slice none 0 0] : List Value)))) rfl rfl rfl (fr_eval rfl e4) (fr_eval rfl rfl) (sz_len Try.sz43 (zBk_l10 (List.length_replicate ..) (List.length_replicate ..))) (((zBk_l10 (List.length_replicate ..) (List.length_replicate ..))).trans ((zBk_l10 (List.length_replicate ..) (List.length_replicate ..))).symm) (zBk_o11 rfl rfl rfl)) ?_
    clear hH
    rintro w3 ⟨hH, hx⟩
    replace hH : Heap _ _ _ [_, _] := hH
    clear hx
    refine lf_val (v := .int .i64 5) (wantAll rfl) (rv_assign rfl rfl) ?_
    refine lf_nil ?_
    refine then_n ?_
    refine wp_gen (fun F' => F' 0 = .agg (cBs x.a.1 ++ (([.int .i64 x.h] : List Value) ++ (cBs x.r.1 ++ ([.int .i64 x.m] : List Value)))).toArray ∧ F' 1 = v ∧ F' 2 = .pointer (some ⟨g1, 0, none⟩) ∧ F' 4 = .pointer (some ⟨g2, 0, none⟩) ∧ F' 5 = .int .i64 5 ∧ F' 14 = .bool true) ⟨e0, e1, e2, e4, rfl, e14⟩ ?_
    clear e0 e1 e2 e4 e5 e14
    clear F
    rintro F ⟨e0, e1, e2, e4, e5, e14⟩
    refine wp_ret ?_
    refine then_ret ?_
    exact bodyPost_ret (res2 rfl (ro_cell rfl e4 (hH.blk (i := 1) rfl) Try.underlying43 rfl (sz_len Try.sz43 (zBk_l10 (List.length_replicate ..) (List.length_replicate ..)))) (ro_tmp rfl e5)) rfl (⟨rfl, hH.done⟩)
  · refine lf_val (v := .bool false) (wantAll rfl) (rv_lss rfl (fr_eval rfl rfl) rfl (decide_eq_false (by omega))) ?_
    refine lf_val (v := .bool false) (wantAll rfl) (rv_move rfl (fr_eval rfl rfl)) ?_
    refine lf_val (v := .pointer (some ⟨g1, 32, none⟩)) (wantF (d := 10) rfl (by kernel_rfl) rfl rfl) (rv_fieldAddr (n := 0) rfl (fr_eval rfl e2) Try.underlying40 rfl rfl (by kernel_rfl)) ?_
    refine lf_val (v := .int .i64 x.h) (wantF (d := 10) rfl (by kernel_rfl) rfl rfl) (rv_load1 rfl (hH.blk (i := 0) rfl) (zBk_g1 x.a.2 x.r.2) (fr_eval rfl rfl) Try.underlying3 rfl Try.sz3) ?_
    refine lf_val (v := .bool true) (wantF (d := 10) rfl (by kernel_rfl) rfl rfl) (rv_geq rfl (fr_eval rfl rfl) rfl (decide_eq_true (by omega))) ?_
    refine lf_val (v := .bool true) (wantAll rfl) (rv_pickF rfl (fr_eval rfl rfl) (fr_eval rfl rfl)) ?_
    refine lf_nil ?_
    refine then_n ?_
    refine wp_gen (fun F' => F' 0 = .agg (cBs x.a.1 ++ (([.int .i64 x.h] : List Value) ++ (cBs x.r.1 ++ ([.int .i64 x.m] : List Value)))).toArray ∧ F' 1 = v ∧ F' 2 = .pointer (some ⟨g1, 0, none⟩) ∧ F' 4 = .pointer (some ⟨g2, 0, none⟩) ∧ F' 5 = .int .i64 0 ∧ F' 14 = .bool true) ⟨e0, e1, e2, e4, e5, rfl⟩ ?_
    clear e0 e1 e2 e4 e5
    clear F
    rintro F ⟨e0, e1, e2, e4, e5, e14⟩
    refine wp_cond_true (fr_eval rfl e14) ?_
    refine wp_seq ?_
    refine wp_regionF ?_
    refine lf_val (wantAll rfl) (rv_buildS (ps := []) (places := #[(0, 66), (66, 1)]) (z := .agg (cBs (List.replicate 32 0) ++ (([.int .i64 0] : List Value) ++ (cBs (List.replicate 32 0) ++ ([.int .i64 0, .slice none 0 0] : List Value)))).toArray) (zc := cBs (List.replicate 32 0) ++ (([.int .i64 0] : List Value) ++ (cBs (List.replicate 32 0) ++ ([.int .i64 0, .slice none 0 0] : List Value)))) (cs := cBs (List.replicate 32 0) ++ (([.int .i64 0] : List Value) ++ (cBs (List.replicate 32 0) ++ ([.int .i64 0, .slice none 0 0] : List Value)))) rfl evpn (by kernel_rfl) rfl Try.underlying43 (fun _ => by kernel_rfl) fill0) ?_
    refine lf_sk (wantAll rfl) (hx_storeW hH (i := 1) (cs := cBs (List.replicate 32 0) ++ (([.int .i64 0] : List Value) ++ (cBs (List.replicate 32 0) ++ ([.int .i64 0, .slice none 0 0] : List Value)))) rfl rfl rfl (fr_eval rfl e4) (fr_eval rfl rfl) (sz_len Try.sz43 (zBk_l10 (List.length_replicate ..) (List.length_replicate ..))) (((zBk_l10 (List.length_replicate ..) (List.length_replicate ..))).trans ((zBk_l10 (List.length_replicate ..) (List.length_replicate ..))).symm) (zBk_o11 rfl rfl rfl)) ?_
    clear hH
    rintro w4 ⟨hH, hx⟩
    replace hH : Heap _ _ _ [_, _] := hH
    clear hx
    refine lf_val (v := .int .i64 5) (wantAll rfl) (rv_assign rfl rfl) ?_
    refine lf_nil ?_
    refine then_n ?_
    refine wp_gen (fun F' => F' 0 = .agg (cBs x.a.1 ++ (([.int .i64 x.h] : List Value) ++ (cBs x.r.1 ++ ([.int .i64 x.m] : List Value)))).toArray ∧ F' 1 = v ∧ F' 2 = .pointer (some ⟨g1, 0, none⟩) ∧ F' 4 = .pointer (some ⟨g2, 0, none⟩) ∧ F' 5 = .int .i64 5 ∧ F' 14 = .bool true) ⟨e0, e1, e2, e4, rfl, e14⟩ ?_
    clear e0 e1 e2 e4 e5 e14
    clear F
    rintro F ⟨e0, e1, e2, e4, e5, e14⟩
    refine wp_ret ?_
    refine then_ret ?_
    exact bodyPost_ret (res2 rfl (ro_cell rfl e4 (hH.blk (i := 1) rfl) Try.underlying43 rfl (sz_len Try.sz43 (zBk_l10 (List.length_replicate ..) (List.length_replicate ..)))) (ro_tmp rfl e5)) rfl (⟨rfl, hH.done⟩)

set_option maxRecDepth 100000 in
set_option maxHeartbeats 4000000 in
theorem bMake_full (x : Hd) (hin : inHd x) (l : List TxG) (hl : l.length ≤ 1000) (hs : ∀ t ∈ l, smT t) (hy : 0 ≤ x.h ∧ x.h < 1073741824) (hf : 64 < l.length) (v : Value) (w : World) (hts : ∀ t ∈ l, StTx (newN w) w t) (hr0 : Rd w 40 v l.length (l.flatMap cTx)) :
    Calls Try.prog 29 #[.agg (cBs x.a.1 ++ (([.int .i64 x.h] : List Value) ++ (cBs x.r.1 ++ ([.int .i64 x.m] : List Value)))).toArray, v] w fun e'' w' => e'' = .returned (.tuple #[.agg (cBs (List.replicate 32 0) ++ (([.int .i64 0] : List Value) ++ (cBs (List.replicate 32 0) ++ ([.int .i64 0, .slice none 0 0] : List Value)))).toArray, .int .i64 6]) ∧ Ext w w' := by
  refine calls_fr (args := [.agg (cBs x.a.1 ++ (([.int .i64 x.h] : List Value) ++ (cBs x.r.1 ++ ([.int .i64 x.m] : List Value)))).toArray, v]) (n := 35) Try.func29 rfl rfl (show 2 ≤ 35 by decide) ?_
  obtain ⟨⟨hi1, hi2⟩, hi3, hi4⟩ := hin
  have hr := Rd.stab hr0
  have hH : Heap (newN w) w w [] := Heap.fresh
  refine wp_seq ?_
  refine wp_gen (fun F' => F' 0 = .agg (cBs x.a.1 ++ (([.int .i64 x.h] : List Value) ++ (cBs x.r.1 ++ ([.int .i64 x.m] : List Value)))).toArray ∧ F' 1 = v) ⟨rfl, rfl⟩ ?_
  rintro F ⟨e0, e1⟩
  refine wp_regionF ?_
  refine lf_ex (wantAll rfl) (hx_box hH 40 (cs := cBs x.a.1 ++ (([.int .i64 x.h] : List Value) ++ (cBs x.r.1 ++ ([.int .i64 x.m] : List Value)))) rfl (fr_eval rfl e0) (by rfl)) ?_
  clear hH
  rintro _ w1 ⟨g1, rfl, hH, hx⟩
  replace hH : Heap _ _ _ [_] := hH
  clear hx
  refine lf_ex (wantAll rfl) (hx_alloc hH 43 (z := .agg (cBs (List.replicate 32 0) ++ (([.int .i64 0] : List Value) ++ (cBs (List.replicate 32 0) ++ ([.int .i64 0, .slice none 0 0] : List Value)))).toArray) (n := 67) (cs := cBs (List.replicate 32 0) ++ (([.int .i64 0] : List Value) ++ (cBs (List.replicate 32 0) ++ ([.int .i64 0, .slice none 0 0] : List Value)))) rfl (by kernel_rfl) (by rfl)) ?_
  clear hH
  rintro _ w2 ⟨g2, rfl, hH, hx⟩
  replace hH : Heap _ _ _ [_, _] := hH
  clear hx
  refine lf_val (v := .int .i64 0) (wantAll rfl) (rv_assign rfl rfl) ?_
  refine lf_nil ?_
  refine then_n ?_
  refine wp_seq ?_
  refine wp_seq ?_
  refine wp_gen (fun F' => F' 0 = .agg (cBs x.a.1 ++ (([.int .i64 x.h] : List Value) ++ (cBs x.r.1 ++ ([.int .i64 x.m] : List Value)))).toArray ∧ F' 1 = v ∧ F' 2 = .pointer (some ⟨g1, 0, none⟩) ∧ F' 4 = .pointer (some ⟨g2, 0, none⟩) ∧ F' 5 = .int .i64 0) ⟨e0, e1, rfl, rfl, rfl⟩ ?_
  clear e0 e1
  clear F
  rintro F ⟨e0, e1, e2, e4, e5⟩
  refine wp_regionF ?_
  refine lf_val (v := .pointer (some ⟨g1, 32, none⟩)) (wantAll rfl) (rv_fieldAddr (n := 0) rfl (fr_eval rfl e2) Try.underlying40 rfl rfl (by kernel_rfl)) ?_
  refine lf_val (v := .int .i64 x.h) (wantAll rfl) (rv_load1 rfl (hH.blk (i := 0) rfl) (zBk_g1 x.a.2 x.r.2) (fr_eval rfl rfl) Try.underlying3 rfl Try.sz3) ?_
  refine lf_val (v := .bool false) (wantAll rfl) (rv_lss rfl (fr_eval rfl rfl) rfl (decide_eq_false (by omega))) ?_
  refine lf_val (v := .bool false) (wantAll rfl) (rv_move rfl (fr_eval rfl rfl)) ?_
  refine lf_val (v := .pointer (some ⟨g1, 32, none⟩)) (wantF (d := 10) rfl (by kernel_rfl) rfl rfl) (rv_fieldAddr (n := 0) rfl (fr_eval rfl e2) Try.underlying40 rfl rfl (by kernel_rfl)) ?_
  refine lf_val (v := .int .i64 x.h) (wantF (d := 10) rfl (by kernel_rfl) rfl rfl) (rv_load1 rfl (hH.blk (i := 0) rfl) (zBk_g1 x.a.2 x.r.2) (fr_eval rfl rfl) Try.underlying3 rfl Try.sz3) ?_
  refine lf_val (v := .bool false) (wantF (d := 10) rfl (by kernel_rfl) rfl rfl) (rv_geq rfl (fr_eval rfl rfl) rfl (decide_eq_false (by omega))) ?_
  refine lf_val (v := .bool false) (wantAll rfl) (rv_pickF rfl (fr_eval rfl rfl) (fr_eval rfl rfl)) ?_
  refine lf_nil ?_
  refine then_n ?_
  refine wp_gen (fun F' => F' 0 = .agg (cBs x.a.1 ++ (([.int .i64 x.h] : List Value) ++ (cBs x.r.1 ++ ([.int .i64 x.m] : List Value)))).toArray ∧ F' 1 = v ∧ F' 2 = .pointer (some ⟨g1, 0, none⟩) ∧ F' 4 = .pointer (some ⟨g2, 0, none⟩) ∧ F' 5 = .int .i64 0 ∧ F' 14 = .bool false) ⟨e0, e1, e2, e4, e5, rfl⟩ ?_
  clear e0 e1 e2 e4 e5
  clear F
  rintro F ⟨e0, e1, e2, e4, e5, e14⟩
  refine wp_cond_false (fr_eval rfl e14) ?_
  refine wp_skip ?_
  refine then_n ?_
  refine wp_seq ?_
  refine wp_seq ?_
  refine wp_regionF ?_
  refine lf_val (v := v) (wantAll rfl) (rv_move rfl (fr_eval rfl e1)) ?_
  refine lf_val (v := .int .i64 ((l.length : Nat) : Int)) (wantAll rfl) (rv_len rfl (fr_eval rfl rfl) (hr.rd _ hH.chg) Try.underlying41) ?_
  refine lf_val (v := .bool true) (wantAll rfl) (rv_gtr rfl (fr_eval rfl rfl) rfl (decide_eq_true (by omega))) ?_
  refine lf_nil ?_
  refine then_n ?_
  refine wp_gen (fun F' => F' 0 = .agg (cBs x.a.1 ++ (([.int .i64 x.h] : List Value) ++ (cBs x.r.1 ++ ([.int .i64 x.m] : List Value)))).toArray ∧ F' 1 = v ∧ F' 2 = .pointer (some ⟨g1, 0, none⟩) ∧ F' 4 = .pointer (some ⟨g2, 0, none⟩) ∧ F' 5 = .int .i64 0 ∧ F' 14 = .bool false ∧ F' 18 = .bool true) ⟨e0, e1, e2, e4, e5, e14, rfl⟩ ?_
  clear e0 e1 e2 e4 e5 e14
  clear F
  rintro F ⟨e0, e1, e2, e4, e5, e14, e18⟩
  refine wp_cond_true (fr_eval rfl e18) ?_
  refine wp_seq ?_
  refine wp_regionF ?_
  refine lf_val (wantAll rfl) (rv_buildS (ps := []) (places := #[(0, 66), (66, 1)]) (z := .agg (cBs (List.replicate 32 0) ++ (([.int .i64 0] : List Value) ++ (cBs (List.replicate 32 0) ++ ([.int .i64 0, .slice none 0 0] : List Value)))).toArray) (zc := cBs (List.replicate 32 0) ++ (([.int .i64 0] : List Value) ++ (cBs (List.replicate 32 0) ++ ([.int .i64 0, .slice none 0 0] : List Value)))) (cs := cBs (List.replicate 32 0) ++ (([.int .i64 0] : List Value) ++ (cBs (List.replicate 32 0) ++ ([.int .i64 0, .slice none 0 0] : List Value)))) rfl evpn (by kernel_rfl) rfl Try.underlying43 (fun _ => by kernel_rfl) fill0) ?_
  refine lf_sk (wantAll rfl) (hx_storeW hH (i := 1) (cs := cBs (List.replicate 32 0) ++ (([.int .i64 0] : List Value) ++ (cBs (List.replicate 32 0) ++ ([.int .i64 0, .slice none 0 0] : List Value)))) rfl rfl rfl (fr_eval rfl e4) (fr_eval rfl rfl) (sz_len Try.sz43 (zBk_l10 (List.length_replicate ..) (List.length_replicate ..))) (((zBk_l10 (List.length_replicate ..) (List.length_replicate ..))).trans ((zBk_l10 (List.length_replicate ..) (List.length_replicate ..))).symm) (zBk_o11 rfl rfl rfl)) ?_
  clear hH
  rintro w3 ⟨hH, hx⟩
  replace hH : Heap _ _ _ [_, _] := hH
  clear hx
  refine lf_val (v := .int .i64 6) (wantAll rfl) (rv_assign rfl rfl) ?_
  refine lf_nil ?_
  refine then_n ?_
  refine wp_gen (fun F' => F' 0 = .agg (cBs x.a.1 ++ (([.int .i64 x.h] : List Value) ++ (cBs x.r.1 ++ ([.int .i64 x.m] : List Value)))).toArray ∧ F' 1 = v ∧ F' 2 = .pointer (some ⟨g1, 0, none⟩) ∧ F' 4 = .pointer (some ⟨g2, 0, none⟩) ∧ F' 5 = .int .i64 6 ∧ F' 14 = .bool false ∧ F' 18 = .bool true) ⟨e0, e1, e2, e4, rfl, e14, e18⟩ ?_
  clear e0 e1 e2 e4 e5 e14 e18
  clear F
  rintro F ⟨e0, e1, e2, e4, e5, e14, e18⟩
  refine wp_ret ?_
  refine then_ret ?_
  exact bodyPost_ret (res2 rfl (ro_cell rfl e4 (hH.blk (i := 1) rfl) Try.underlying43 rfl (sz_len Try.sz43 (zBk_l10 (List.length_replicate ..) (List.length_replicate ..)))) (ro_tmp rfl e5)) rfl (⟨rfl, hH.done⟩)

set_option maxRecDepth 100000 in
set_option maxHeartbeats 4000000 in
theorem bMake_yes (x : Hd) (hin : inHd x) (hy : 0 ≤ x.h ∧ x.h < 1073741824) (l : List TxG) (hl : l.length ≤ 1000) (hs : ∀ t ∈ l, smT t) (hf : l.length ≤ 64) (v : Value) (w : World) (hts : ∀ t ∈ l, StTx (newN w) w t) (hr0 : Rd w 40 v l.length (l.flatMap cTx)) :
    Calls Try.prog 29 #[.agg (cBs x.a.1 ++ (([.int .i64 x.h] : List Value) ++ (cBs x.r.1 ++ ([.int .i64 x.m] : List Value)))).toArray, v] w fun e'' w' => ∃ y, e'' = .returned (.tuple #[.agg (cBs ((headS x).1) ++ (([.int .i64 (x.h + 1)] : List Value) ++ (cBs ((rootS (List.map sumT l)).1) ++ ([.int .i64 ((l.length : Nat) : Int), y] : List Value)))).toArray, .int .i64 0]) ∧ Heap (newN w) w w' [oRow cTx 63 40 y l] := by
  refine calls_fr (args := [.agg (cBs x.a.1 ++ (([.int .i64 x.h] : List Value) ++ (cBs x.r.1 ++ ([.int .i64 x.m] : List Value)))).toArray, v]) (n := 35) Try.func29 rfl rfl (show 2 ≤ 35 by decide) ?_
  obtain ⟨⟨hi1, hi2⟩, hi3, hi4⟩ := id hin
  have hr := Rd.stab hr0
  have hH : Heap (newN w) w w [] := Heap.fresh
  refine wp_seq ?_
  refine wp_gen (fun F' => F' 0 = .agg (cBs x.a.1 ++ (([.int .i64 x.h] : List Value) ++ (cBs x.r.1 ++ ([.int .i64 x.m] : List Value)))).toArray ∧ F' 1 = v) ⟨rfl, rfl⟩ ?_
  rintro F ⟨e0, e1⟩
  refine wp_regionF ?_
  refine lf_ex (wantAll rfl) (hx_box hH 40 (cs := cBs x.a.1 ++ (([.int .i64 x.h] : List Value) ++ (cBs x.r.1 ++ ([.int .i64 x.m] : List Value)))) rfl (fr_eval rfl e0) (by rfl)) ?_
  clear hH
  rintro _ w1 ⟨g1, rfl, hH, hx⟩
  replace hH : Heap _ _ _ [_] := hH
  clear hx
  refine lf_ex (wantAll rfl) (hx_alloc hH 43 (z := .agg (cBs (List.replicate 32 0) ++ (([.int .i64 0] : List Value) ++ (cBs (List.replicate 32 0) ++ ([.int .i64 0, .slice none 0 0] : List Value)))).toArray) (n := 67) (cs := cBs (List.replicate 32 0) ++ (([.int .i64 0] : List Value) ++ (cBs (List.replicate 32 0) ++ ([.int .i64 0, .slice none 0 0] : List Value)))) rfl (by kernel_rfl) (by rfl)) ?_
  clear hH
  rintro _ w2 ⟨g2, rfl, hH, hx⟩
  replace hH : Heap _ _ _ [_, _] := hH
  clear hx
  refine lf_val (v := .int .i64 0) (wantAll rfl) (rv_assign rfl rfl) ?_
  refine lf_nil ?_
  refine then_n ?_
  refine wp_seq ?_
  refine wp_seq ?_
  refine wp_gen (fun F' => F' 0 = .agg (cBs x.a.1 ++ (([.int .i64 x.h] : List Value) ++ (cBs x.r.1 ++ ([.int .i64 x.m] : List Value)))).toArray ∧ F' 1 = v ∧ F' 2 = .pointer (some ⟨g1, 0, none⟩) ∧ F' 4 = .pointer (some ⟨g2, 0, none⟩) ∧ F' 5 = .int .i64 0) ⟨e0, e1, rfl, rfl, rfl⟩ ?_
  clear e0 e1
  clear F
  rintro F ⟨e0, e1, e2, e4, e5⟩
  refine wp_regionF ?_
  refine lf_val (v := .pointer (some ⟨g1, 32, none⟩)) (wantAll rfl) (rv_fieldAddr (n := 0) rfl (fr_eval rfl e2) Try.underlying40 rfl rfl (by kernel_rfl)) ?_
  refine lf_val (v := .int .i64 x.h) (wantAll rfl) (rv_load1 rfl (hH.blk (i := 0) rfl) (zBk_g1 x.a.2 x.r.2) (fr_eval rfl rfl) Try.underlying3 rfl Try.sz3) ?_
  refine lf_val (v := .bool false) (wantAll rfl) (rv_lss rfl (fr_eval rfl rfl) rfl (decide_eq_false (by omega))) ?_
  refine lf_val (v := .bool false) (wantAll rfl) (rv_move rfl (fr_eval rfl rfl)) ?_
  refine lf_val (v := .pointer (some ⟨g1, 32, none⟩)) (wantF (d := 10) rfl (by kernel_rfl) rfl rfl) (rv_fieldAddr (n := 0) rfl (fr_eval rfl e2) Try.underlying40 rfl rfl (by kernel_rfl)) ?_
  refine lf_val (v := .int .i64 x.h) (wantF (d := 10) rfl (by kernel_rfl) rfl rfl) (rv_load1 rfl (hH.blk (i := 0) rfl) (zBk_g1 x.a.2 x.r.2) (fr_eval rfl rfl) Try.underlying3 rfl Try.sz3) ?_
  refine lf_val (v := .bool false) (wantF (d := 10) rfl (by kernel_rfl) rfl rfl) (rv_geq rfl (fr_eval rfl rfl) rfl (decide_eq_false (by omega))) ?_
  refine lf_val (v := .bool false) (wantAll rfl) (rv_pickF rfl (fr_eval rfl rfl) (fr_eval rfl rfl)) ?_
  refine lf_nil ?_
  refine then_n ?_
  refine wp_gen (fun F' => F' 0 = .agg (cBs x.a.1 ++ (([.int .i64 x.h] : List Value) ++ (cBs x.r.1 ++ ([.int .i64 x.m] : List Value)))).toArray ∧ F' 1 = v ∧ F' 2 = .pointer (some ⟨g1, 0, none⟩) ∧ F' 4 = .pointer (some ⟨g2, 0, none⟩) ∧ F' 5 = .int .i64 0 ∧ F' 14 = .bool false) ⟨e0, e1, e2, e4, e5, rfl⟩ ?_
  clear e0 e1 e2 e4 e5
  clear F
  rintro F ⟨e0, e1, e2, e4, e5, e14⟩
  refine wp_cond_false (fr_eval rfl e14) ?_
  refine wp_skip ?_
  refine then_n ?_
  refine wp_seq ?_
  refine wp_seq ?_
  refine wp_regionF ?_
  refine lf_val (v := v) (wantAll rfl) (rv_move rfl (fr_eval rfl e1)) ?_
  refine lf_val (v := .int .i64 ((l.length : Nat) : Int)) (wantAll rfl) (rv_len rfl (fr_eval rfl rfl) (hr.rd _ hH.chg) Try.underlying41) ?_
  refine lf_val (v := .bool false) (wantAll rfl) (rv_gtr rfl (fr_eval rfl rfl) rfl (decide_eq_false (by omega))) ?_
  refine lf_nil ?_
  refine then_n ?_
  refine wp_gen (fun F' => F' 0 = .agg (cBs x.a.1 ++ (([.int .i64 x.h] : List Value) ++ (cBs x.r.1 ++ ([.int .i64 x.m] : List Value)))).toArray ∧ F' 1 = v ∧ F' 2 = .pointer (some ⟨g1, 0, none⟩) ∧ F' 4 = .pointer (some ⟨g2, 0, none⟩) ∧ F' 5 = .int .i64 0 ∧ F' 14 = .bool false ∧ F' 18 = .bool false) ⟨e0, e1, e2, e4, e5, e14, rfl⟩ ?_
  clear e0 e1 e2 e4 e5 e14
  clear F
  rintro F ⟨e0, e1, e2, e4, e5, e14, e18⟩
  refine wp_cond_false (fr_eval rfl e18) ?_
  refine wp_skip ?_
  refine then_n ?_
  refine wp_seq ?_
  refine wp_regionX (fun _ => False) 12 (by kernel_rfl) (by kernel_rfl) ?_
  refine xl_take (i := 0) (v := .agg (cBs x.a.1 ++ (([.int .i64 x.h] : List Value) ++ (cBs x.r.1 ++ ([.int .i64 x.m] : List Value)))).toArray) rfl (by kernel_rfl) (by kernel_rfl) (by kernel_rfl) (by kernel_rfl) (yx_val (wantAll rfl) (fun w' hx' => rv_loadW rfl ((hH.ext hx').blk (i := 0) rfl) (fr_eval rfl e2) Try.underlying40 rfl (sz_len Try.sz40 (zBk_l12 x.a.2 x.r.2)))) ?_
  refine xl_take (i := 1) (v := .agg (cBs ((headS x).1)).toArray) rfl (by kernel_rfl) (by kernel_rfl) (by kernel_rfl) (by kernel_rfl) (yx_call (wantAll rfl) (fun w' => rv_call (args := [.agg (cBs x.a.1 ++ (([.int .i64 x.h] : List Value) ++ (cBs x.r.1 ++ ([.int .i64 x.m] : List Value)))).toArray]) rfl (evc (fr_eval rfl rfl) evn) Try.call30) (fun w' hx' => headSum_calls x hin _)) ?_
  refine xl_take (i := 2) (v := .pointer (some ⟨g1, 32, none⟩)) rfl (by kernel_rfl) (by kernel_rfl) (by kernel_rfl) (by kernel_rfl) (yx_val (wantAll rfl) (fun w' hx' => rv_fieldAddr (n := 0) rfl (fr_eval rfl e2) Try.underlying40 rfl rfl (by kernel_rfl))) ?_
  refine xl_take (i := 3) (v := .int .i64 x.h) rfl (by kernel_rfl) (by kernel_rfl) (by kernel_rfl) (by kernel_rfl) (yx_val (wantAll rfl) (fun w' hx' => rv_load1 rfl ((hH.ext hx').blk (i := 0) rfl) (zBk_g1 x.a.2 x.r.2) (fr_eval rfl rfl) Try.underlying3 rfl Try.sz3)) ?_
  refine xl_take (i := 4) (v := .int .i64 (x.h + 1)) rfl (by kernel_rfl) (by kernel_rfl) (by kernel_rfl) (by kernel_rfl) (yx_val (wantAll rfl) (fun w' hx' => rv_add rfl (fr_eval rfl rfl) rfl (wrap_i64 (by omega) (by omega) (by omega)))) ?_
  refine xl_take (i := 5) (v := v) rfl (by kernel_rfl) (by kernel_rfl) (by kernel_rfl) (by kernel_rfl) (yx_val (wantAll rfl) (fun w' hx' => rv_move rfl (fr_eval rfl e1))) ?_
  refine xl_take (i := 8) (v := v) rfl (by kernel_rfl) (by kernel_rfl) (by kernel_rfl) (by kernel_rfl) (yx_val (wantAll rfl) (fun w' hx' => rv_move rfl (fr_eval rfl e1))) ?_
  refine xl_take (i := 9) (v := .int .i64 ((l.length : Nat) : Int)) rfl (by kernel_rfl) (by kernel_rfl) (by kernel_rfl) (by kernel_rfl) (yx_val (wantAll rfl) (fun w' hx' => rv_len rfl (fr_eval rfl rfl) (hr.rd _ (hH.chg.trans (Ext.any hx'))) Try.underlying41)) ?_
  refine anyX_ready (rs := [6, 11]) (by kernel_rfl) ?_
  intro w3 hx
  replace hH := hH.ext hx
  clear hx
  refine (anyX_cons ?_ (anyX_cons ?_ anyX_nil))
  · refine xl_step (i := 6) rfl (wantAll rfl) ?_
    refine of_call (rv_call (args := [v]) rfl (evc (fr_eval rfl rfl) evn) Try.call64) (bsums_calls l (by omega) hs _ _ (fun t ht => (hts t ht).later hH.chg (newN_up hH.chg hH.up)) (hr.rd _ hH.chg)) ?_
    rintro _ w4 ⟨⟨y1, rfl, ho, hg⟩, hx⟩
    refine ⟨_, rfl, ?_⟩
    replace hH : Heap _ _ _ [_, _, _] := hH.addOwn hx hg ho
    clear ho hg
    refine ⟨hx, ?_⟩
    clear hx
    refine xl_take (i := 7) (v := .agg (cBs ((rootS (List.map sumT l)).1)).toArray) rfl (by kernel_rfl) (by kernel_rfl) (by kernel_rfl) (by kernel_rfl) (yx_call (wantAll rfl) (fun w' => rv_call (args := [y1]) rfl (evc (fr_eval rfl rfl) evn) Try.call19) (fun w' hx' => root_calls (List.map sumT l) (by first | omega | (simp only [List.length_map]; omega) | decide | (simp only [List.length_map, List.length_replicate]; omega)) _ _ (Own.rd ((hH.ext hx').own (i := 2) rfl) (row_one cS_one)))) ?_
    refine xl_take (i := 10) (v := .agg (cBs ((headS x).1) ++ (([.int .i64 (x.h + 1)] : List Value) ++ (cBs ((rootS (List.map sumT l)).1) ++ ([.int .i64 ((l.length : Nat) : Int)] : List Value)))).toArray) rfl (by kernel_rfl) (by kernel_rfl) (by kernel_rfl) (by kernel_rfl) (yx_val (wantAll rfl) (fun w' hx' => rv_buildS (ps := [(0, (.tmp 21)), (1, (.tmp 24)), (2, (.tmp 27)), (3, (.tmp 29))]) (places := #[(0, 32), (32, 1), (33, 32), (65, 1)]) (z := .agg (cBs (List.replicate 32 0) ++ (([.int .i64 0] : List Value) ++ (cBs (List.replicate 32 0) ++ ([.int .i64 0] : List Value)))).toArray) (zc := cBs (List.replicate 32 0) ++ (([.int .i64 0] : List Value) ++ (cBs (List.replicate 32 0) ++ ([.int .i64 0] : List Value)))) (cs := cBs ((headS x).1) ++ (([.int .i64 (x.h + 1)] : List Value) ++ (cBs ((rootS (List.map sumT l)).1) ++ ([.int .i64 ((l.length : Nat) : Int)] : List Value)))) rfl (evpc (fr_eval rfl rfl) (evpc (fr_eval rfl rfl) (evpc (fr_eval rfl rfl) (evpc (fr_eval rfl rfl) evpn)))) (by kernel_rfl) rfl Try.underlying40 (fun _ => by kernel_rfl) (fillM (cells' := _) (cs := cBs ((headS x).1)) (off := 0) (n := 32) rfl (cells_agg _) (cBs_len (headS x).2) (le_of_len2 (zBk_l12 (List.length_replicate ..) (List.length_replicate ..)) (by decide)) (zBk_y13 (List.length_replicate ..) (List.length_replicate ..) ((headS x).2)) (fillM (cells' := _) (cs := [.int .i64 (x.h + 1)]) (off := 32) (n := 1) rfl (cells_one rfl) (show List.length [.int .i64 (x.h + 1)] = 1 from rfl) (le_of_len2 (zBk_l12 ((headS x).2) (List.length_replicate ..)) (by decide)) (zBk_y14 ((headS x).2) (List.length_replicate ..)) (fillM (cells' := _) (cs := cBs ((rootS (List.map sumT l)).1)) (off := 33) (n := 32) rfl (cells_agg _) (cBs_len (rootS (List.map sumT l)).2) (le_of_len2 (zBk_l12 ((headS x).2) (List.length_replicate ..)) (by decide)) (zBk_y15 ((headS x).2) (List.length_replicate ..) ((rootS (List.map sumT l)).2)) (fillM (cells' := _) (cs := [.int .i64 ((l.length : Nat) : Int)]) (off := 65) (n := 1) rfl (cells_one rfl) (show List.length [.int .i64 ((l.length : Nat) : Int)] = 1 from rfl) (le_of_len2 (zBk_l12 ((headS x).2) ((rootS (List.map sumT l)).2)) (by decide)) (zBk_y16 ((headS x).2) ((rootS (List.map sumT l)).2)) fill0)))))) ?_
    refine anyX_ready (rs := [11]) (by kernel_rfl) ?_
    intro w5 hx
    replace hH := hH.ext hx
    clear hx
    refine (anyX_cons ?_ anyX_nil)
    refine xl_step (i := 11) rfl (wantAll rfl) ?_
    refine of_ex (hx_alloc hH 40 (z := .agg (cBs (List.replicate 32 0) ++ (([.int .i64 0] : List Value) ++ (cBs (List.replicate 32 0) ++ ([.int .i64 0] : List Value)))).toArray) (n := 66) (cs := cBs (List.replicate 32 0) ++ (([.int .i64 0] : List Value) ++ (cBs (List.replicate 32 0) ++ ([.int .i64 0] : List Value)))) rfl (by kernel_rfl) (by rfl)) ?_
    clear hH
    rintro _ w6 ⟨g3, rfl, hH, hx⟩
    replace hH : Heap _ _ _ [_, _, _, _] := hH
    refine ⟨hx, ?_⟩
    clear hx
    refine xl_tail (s := 12) rfl ?_
    intro w7 hx
    replace hH := hH.ext hx
    clear hx
    refine lf_sk (wantAll rfl) (hx_storeW hH (i := 3) (cs := cBs ((headS x).1) ++ (([.int .i64 (x.h + 1)] : List Value) ++ (cBs ((rootS (List.map sumT l)).1) ++ ([.int .i64 ((l.length : Nat) : Int)] : List Value)))) rfl rfl rfl (fr_eval rfl rfl) (fr_eval rfl rfl) (sz_len Try.sz40 (zBk_l12 ((headS x).2) ((rootS (List.map sumT l)).2))) (((zBk_l12 (List.length_replicate ..) (List.length_replicate ..))).trans ((zBk_l12 ((headS x).2) ((rootS (List.map sumT l)).2))).symm) (zBk_o17 rfl rfl)) ?_
    clear hH
    rintro w8 ⟨hH, hx⟩
    replace hH : Heap _ _ _ [_, _, _, _] := hH
    clear hx
    refine lf_nil ?_
    refine then_n ?_
    refine wp_seq ?_
    replace hH : Heap _ _ _ [_, _, _] := hH.drop (.cons_cons _ (.cons_cons _ (.cons _ (.cons_cons _ .slnil))))
    refine wp_gen (fun F' => F' 0 = .agg (cBs x.a.1 ++ (([.int .i64 x.h] : List Value) ++ (cBs x.r.1 ++ ([.int .i64 x.m] : List Value)))).toArray ∧ F' 1 = v ∧ F' 2 = .pointer (some ⟨g1, 0, none⟩) ∧ F' 4 = .pointer (some ⟨g2, 0, none⟩) ∧ F' 5 = .int .i64 0 ∧ F' 6 = .pointer (some ⟨g3, 0, none⟩) ∧ F' 14 = .bool false ∧ F' 18 = .bool false) ⟨e0, e1, e2, e4, e5, rfl, e14, e18⟩ ?_
    clear e0 e1 e2 e4 e5 e14 e18
    clear F
    rintro F ⟨e0, e1, e2, e4, e5, e6, e14, e18⟩
    refine wp_regionX (fun _ => False) 3 (by kernel_rfl) (by kernel_rfl) ?_
    refine xl_take (i := 0) (v := .agg (cBs ((headS x).1) ++ (([.int .i64 (x.h + 1)] : List Value) ++ (cBs ((rootS (List.map sumT l)).1) ++ ([.int .i64 ((l.length : Nat) : Int)] : List Value)))).toArray) rfl (by kernel_rfl) (by kernel_rfl) (by kernel_rfl) (by kernel_rfl) (yx_val (wantAll rfl) (fun w' hx' => rv_loadW rfl ((hH.ext hx').blk (i := 2) rfl) (fr_eval rfl e6) Try.underlying40 rfl (sz_len Try.sz40 (zBk_l12 ((headS x).2) ((rootS (List.map sumT l)).2))))) ?_
    refine xl_take (i := 1) (v := v) rfl (by kernel_rfl) (by kernel_rfl) (by kernel_rfl) (by kernel_rfl) (yx_val (wantAll rfl) (fun w' hx' => rv_move rfl (fr_eval rfl e1))) ?_
    refine anyX_ready (rs := [2]) (by kernel_rfl) ?_
    intro w9 hx
    replace hH := hH.ext hx
    clear hx
    refine (anyX_cons ?_ anyX_nil)
    refine xl_step (i := 2) rfl (wantAll rfl) ?_
    refine of_ex (hx_appendN hH Try.stTx (nm := (l).length) (xs' := (l).flatMap cTx) rfl rfl rfl (hr.rd _ hH.chg) rfl (fr_eval rfl rfl) (by first | omega | (simp only [List.length_append]; omega) | (simp only [List.length_append, List.length_cons, List.length_nil]; omega))) ?_
    clear hH
    rintro y2 w10 ⟨hH, hx⟩
    replace hH : Heap _ _ _ [_, _, _, _] := hH
    refine ⟨hx, ?_⟩
    clear hx
    refine xl_tail (s := 3) rfl ?_
    intro w11 hx
    replace hH := hH.ext hx
    clear hx
    refine lf_val (wantAll rfl) (rv_buildS (ps := [(0, (.tmp 31)), (1, (.tmp 33))]) (places := #[(0, 66), (66, 1)]) (z := .agg (cBs (List.replicate 32 0) ++ (([.int .i64 0] : List Value) ++ (cBs (List.replicate 32 0) ++ ([.int .i64 0, .slice none 0 0] : List Value)))).toArray) (zc := cBs (List.replicate 32 0) ++ (([.int .i64 0] : List Value) ++ (cBs (List.replicate 32 0) ++ ([.int .i64 0, .slice none 0 0] : List Value)))) (cs := cBs ((headS x).1) ++ (([.int .i64 (x.h + 1)] : List Value) ++ (cBs ((rootS (List.map sumT l)).1) ++ ([.int .i64 ((l.length : Nat) : Int), y2] : List Value)))) rfl (evpc (fr_eval rfl rfl) (evpc (fr_eval rfl rfl) evpn)) (by kernel_rfl) rfl Try.underlying43 (fun _ => by kernel_rfl) (fillM (cells' := _) (cs := cBs ((headS x).1) ++ (([.int .i64 (x.h + 1)] : List Value) ++ (cBs ((rootS (List.map sumT l)).1) ++ ([.int .i64 ((l.length : Nat) : Int)] : List Value)))) (off := 0) (n := 66) rfl (cells_agg _) (zBk_l12 ((headS x).2) ((rootS (List.map sumT l)).2)) (le_of_len2 (zBk_l10 (List.length_replicate ..) (List.length_replicate ..)) (by decide)) (zBk_y18 (List.length_replicate ..) (List.length_replicate ..) ((headS x).2) ((rootS (List.map sumT l)).2)) (fillM (cells' := _) (cs := [y2]) (off := 66) (n := 1) rfl (cells_one (Rd.oneV (Own.rd (hH.own (i := 3) rfl) (row_one cTx_one)))) (show List.length [y2] = 1 from rfl) (le_of_len2 (zBk_l10 ((headS x).2) ((rootS (List.map sumT l)).2)) (by decide)) (zBk_y19 ((headS x).2) ((rootS (List.map sumT l)).2)) fill0))) ?_
    refine lf_sk (wantAll rfl) (hx_storeW hH (i := 1) (cs := cBs ((headS x).1) ++ (([.int .i64 (x.h + 1)] : List Value) ++ (cBs ((rootS (List.map sumT l)).1) ++ ([.int .i64 ((l.length : Nat) : Int), y2] : List Value)))) rfl rfl rfl (fr_eval rfl e4) (fr_eval rfl rfl) (sz_len Try.sz43 (zBk_l10 ((headS x).2) ((rootS (List.map sumT l)).2))) (((zBk_l10 (List.length_replicate ..) (List.length_replicate ..))).trans ((zBk_l10 ((headS x).2) ((rootS (List.map sumT l)).2))).symm) (zBk_o11 rfl rfl (Rd.oneV (Own.rd (hH.own (i := 3) rfl) (row_one cTx_one))))) ?_
    clear hH
    rintro w12 ⟨hH, hx⟩
    replace hH : Heap _ _ _ [_, _, _, _] := hH
    clear hx
    refine lf_val (v := .int .i64 0) (wantAll rfl) (rv_assign rfl rfl) ?_
    refine lf_nil ?_
    refine then_n ?_
    refine wp_gen (fun F' => F' 0 = .agg (cBs x.a.1 ++ (([.int .i64 x.h] : List Value) ++ (cBs x.r.1 ++ ([.int .i64 x.m] : List Value)))).toArray ∧ F' 1 = v ∧ F' 2 = .pointer (some ⟨g1, 0, none⟩) ∧ F' 4 = .pointer (some ⟨g2, 0, none⟩) ∧ F' 5 = .int .i64 0 ∧ F' 6 = .pointer (some ⟨g3, 0, none⟩) ∧ F' 14 = .bool false ∧ F' 18 = .bool false) ⟨e0, e1, e2, e4, rfl, e6, e14, e18⟩ ?_
    clear e0 e1 e2 e4 e5 e6 e14 e18
    clear F
    rintro F ⟨e0, e1, e2, e4, e5, e6, e14, e18⟩
    refine wp_ret ?_
    have hF := hH
    replace hF : Heap _ _ _ [_] := hF.drop (.cons _ (.cons _ (.cons _ (.cons_cons _ .slnil))))
    exact bodyPost_ret (res2 rfl (ro_cell rfl e4 (hH.blk (i := 1) rfl) Try.underlying43 rfl (sz_len Try.sz43 (zBk_l10 ((headS x).2) ((rootS (List.map sumT l)).2)))) (ro_tmp rfl e5)) rfl (⟨_, rfl, hF⟩)
  · refine xl_step (i := 11) rfl (wantAll rfl) ?_
    refine of_ex (hx_alloc hH 40 (z := .agg (cBs (List.replicate 32 0) ++ (([.int .i64 0] : List Value) ++ (cBs (List.replicate 32 0) ++ ([.int .i64 0] : List Value)))).toArray) (n := 66) (cs := cBs (List.replicate 32 0) ++ (([.int .i64 0] : List Value) ++ (cBs (List.replicate 32 0) ++ ([.int .i64 0] : List Value)))) rfl (by kernel_rfl) (by rfl)) ?_
    clear hH
    rintro _ w13 ⟨g4, rfl, hH, hx⟩
    replace hH : Heap _ _ _ [_, _, _] := hH
    refine ⟨hx, ?_⟩
    clear hx
    refine anyX_ready (rs := [6]) (by kernel_rfl) ?_
    intro w14 hx
    replace hH := hH.ext hx
    clear hx
    refine (anyX_cons ?_ anyX_nil)
    refine xl_step (i := 6) rfl (wantAll rfl) ?_
    refine of_call (rv_call (args := [v]) rfl (evc (fr_eval rfl rfl) evn) Try.call64) (bsums_calls l (by omega) hs _ _ (fun t ht => (hts t ht).later hH.chg (newN_up hH.chg hH.up)) (hr.rd _ hH.chg)) ?_
    rintro _ w15 ⟨⟨y3, rfl, ho, hg⟩, hx⟩
    refine ⟨_, rfl, ?_⟩
    replace hH : Heap _ _ _ [_, _, _, _] := hH.addOwn hx hg ho
    clear ho hg
    refine ⟨hx, ?_⟩
    clear hx
    refine xl_take (i := 7) (v := .agg (cBs ((rootS (List.map sumT l)).1)).toArray) rfl (by kernel_rfl) (by kernel_rfl) (by kernel_rfl) (by kernel_rfl) (yx_call (wantAll rfl) (fun w' => rv_call (args := [y3]) rfl (evc (fr_eval rfl rfl) evn) Try.call19) (fun w' hx' => root_calls (List.map sumT l) (by first | omega | (simp only [List.length_map]; omega) | decide | (simp only [List.length_map, List.length_replicate]; omega)) _ _ (Own.rd ((hH.ext hx').own (i := 3) rfl) (row_one cS_one)))) ?_
    refine xl_take (i := 10) (v := .agg (cBs ((headS x).1) ++ (([.int .i64 (x.h + 1)] : List Value) ++ (cBs ((rootS (List.map sumT l)).1) ++ ([.int .i64 ((l.length : Nat) : Int)] : List Value)))).toArray) rfl (by kernel_rfl) (by kernel_rfl) (by kernel_rfl) (by kernel_rfl) (yx_val (wantAll rfl) (fun w' hx' => rv_buildS (ps := [(0, (.tmp 21)), (1, (.tmp 24)), (2, (.tmp 27)), (3, (.tmp 29))]) (places := #[(0, 32), (32, 1), (33, 32), (65, 1)]) (z := .agg (cBs (List.replicate 32 0) ++ (([.int .i64 0] : List Value) ++ (cBs (List.replicate 32 0) ++ ([.int .i64 0] : List Value)))).toArray) (zc := cBs (List.replicate 32 0) ++ (([.int .i64 0] : List Value) ++ (cBs (List.replicate 32 0) ++ ([.int .i64 0] : List Value)))) (cs := cBs ((headS x).1) ++ (([.int .i64 (x.h + 1)] : List Value) ++ (cBs ((rootS (List.map sumT l)).1) ++ ([.int .i64 ((l.length : Nat) : Int)] : List Value)))) rfl (evpc (fr_eval rfl rfl) (evpc (fr_eval rfl rfl) (evpc (fr_eval rfl rfl) (evpc (fr_eval rfl rfl) evpn)))) (by kernel_rfl) rfl Try.underlying40 (fun _ => by kernel_rfl) (fillM (cells' := _) (cs := cBs ((headS x).1)) (off := 0) (n := 32) rfl (cells_agg _) (cBs_len (headS x).2) (le_of_len2 (zBk_l12 (List.length_replicate ..) (List.length_replicate ..)) (by decide)) (zBk_y13 (List.length_replicate ..) (List.length_replicate ..) ((headS x).2)) (fillM (cells' := _) (cs := [.int .i64 (x.h + 1)]) (off := 32) (n := 1) rfl (cells_one rfl) (show List.length [.int .i64 (x.h + 1)] = 1 from rfl) (le_of_len2 (zBk_l12 ((headS x).2) (List.length_replicate ..)) (by decide)) (zBk_y14 ((headS x).2) (List.length_replicate ..)) (fillM (cells' := _) (cs := cBs ((rootS (List.map sumT l)).1)) (off := 33) (n := 32) rfl (cells_agg _) (cBs_len (rootS (List.map sumT l)).2) (le_of_len2 (zBk_l12 ((headS x).2) (List.length_replicate ..)) (by decide)) (zBk_y15 ((headS x).2) (List.length_replicate ..) ((rootS (List.map sumT l)).2)) (fillM (cells' := _) (cs := [.int .i64 ((l.length : Nat) : Int)]) (off := 65) (n := 1) rfl (cells_one rfl) (show List.length [.int .i64 ((l.length : Nat) : Int)] = 1 from rfl) (le_of_len2 (zBk_l12 ((headS x).2) ((rootS (List.map sumT l)).2)) (by decide)) (zBk_y16 ((headS x).2) ((rootS (List.map sumT l)).2)) fill0)))))) ?_
    refine xl_tail (s := 12) rfl ?_
    intro w16 hx
    replace hH := hH.ext hx
    clear hx
    refine lf_sk (wantAll rfl) (hx_storeW hH (i := 2) (cs := cBs ((headS x).1) ++ (([.int .i64 (x.h + 1)] : List Value) ++ (cBs ((rootS (List.map sumT l)).1) ++ ([.int .i64 ((l.length : Nat) : Int)] : List Value)))) rfl rfl rfl (fr_eval rfl rfl) (fr_eval rfl rfl) (sz_len Try.sz40 (zBk_l12 ((headS x).2) ((rootS (List.map sumT l)).2))) (((zBk_l12 (List.length_replicate ..) (List.length_replicate ..))).trans ((zBk_l12 ((headS x).2) ((rootS (List.map sumT l)).2))).symm) (zBk_o17 rfl rfl)) ?_
    clear hH
    rintro w17 ⟨hH, hx⟩
    replace hH : Heap _ _ _ [_, _, _, _] := hH
    clear hx
    refine lf_nil ?_
    refine then_n ?_
    refine wp_seq ?_
    replace hH : Heap _ _ _ [_, _, _] := hH.drop (.cons_cons _ (.cons_cons _ (.cons_cons _ (.cons _ .slnil))))
    refine wp_gen (fun F' => F' 0 = .agg (cBs x.a.1 ++ (([.int .i64 x.h] : List Value) ++ (cBs x.r.1 ++ ([.int .i64 x.m] : List Value)))).toArray ∧ F' 1 = v ∧ F' 2 = .pointer (some ⟨g1, 0, none⟩) ∧ F' 4 = .pointer (some ⟨g2, 0, none⟩) ∧ F' 5 = .int .i64 0 ∧ F' 6 = .pointer (some ⟨g4, 0, none⟩) ∧ F' 14 = .bool false ∧ F' 18 = .bool false) ⟨e0, e1, e2, e4, e5, rfl, e14, e18⟩ ?_
    clear e0 e1 e2 e4 e5 e14 e18
    clear F
    rintro F ⟨e0, e1, e2, e4, e5, e6, e14, e18⟩
    refine wp_regionX (fun _ => False) 3 (by kernel_rfl) (by kernel_rfl) ?_
    refine xl_take (i := 0) (v := .agg (cBs ((headS x).1) ++ (([.int .i64 (x.h + 1)] : List Value) ++ (cBs ((rootS (List.map sumT l)).1) ++ ([.int .i64 ((l.length : Nat) : Int)] : List Value)))).toArray) rfl (by kernel_rfl) (by kernel_rfl) (by kernel_rfl) (by kernel_rfl) (yx_val (wantAll rfl) (fun w' hx' => rv_loadW rfl ((hH.ext hx').blk (i := 2) rfl) (fr_eval rfl e6) Try.underlying40 rfl (sz_len Try.sz40 (zBk_l12 ((headS x).2) ((rootS (List.map sumT l)).2))))) ?_
    refine xl_take (i := 1) (v := v) rfl (by kernel_rfl) (by kernel_rfl) (by kernel_rfl) (by kernel_rfl) (yx_val (wantAll rfl) (fun w' hx' => rv_move rfl (fr_eval rfl e1))) ?_
    refine anyX_ready (rs := [2]) (by kernel_rfl) ?_
    intro w18 hx
    replace hH := hH.ext hx
    clear hx
    refine (anyX_cons ?_ anyX_nil)
    refine xl_step (i := 2) rfl (wantAll rfl) ?_
    refine of_ex (hx_appendN hH Try.stTx (nm := (l).length) (xs' := (l).flatMap cTx) rfl rfl rfl (hr.rd _ hH.chg) rfl (fr_eval rfl rfl) (by first | omega | (simp only [List.length_append]; omega) | (simp only [List.length_append, List.length_cons, List.length_nil]; omega))) ?_
    clear hH
    rintro y4 w19 ⟨hH, hx⟩
    replace hH : Heap _ _ _ [_, _, _, _] := hH
    refine ⟨hx, ?_⟩
    clear hx
    refine xl_tail (s := 3) rfl ?_
    intro w20 hx
    replace hH := hH.ext hx
    clear hx
    refine lf_val (wantAll rfl) (rv_buildS (ps := [(0, (.tmp 31)), (1, (.tmp 33))]) (places := #[(0, 66), (66, 1)]) (z := .agg (cBs (List.replicate 32 0) ++ (([.int .i64 0] : List Value) ++ (cBs (List.replicate 32 0) ++ ([.int .i64 0, .slice none 0 0] : List Value)))).toArray) (zc := cBs (List.replicate 32 0) ++ (([.int .i64 0] : List Value) ++ (cBs (List.replicate 32 0) ++ ([.int .i64 0, .slice none 0 0] : List Value)))) (cs := cBs ((headS x).1) ++ (([.int .i64 (x.h + 1)] : List Value) ++ (cBs ((rootS (List.map sumT l)).1) ++ ([.int .i64 ((l.length : Nat) : Int), y4] : List Value)))) rfl (evpc (fr_eval rfl rfl) (evpc (fr_eval rfl rfl) evpn)) (by kernel_rfl) rfl Try.underlying43 (fun _ => by kernel_rfl) (fillM (cells' := _) (cs := cBs ((headS x).1) ++ (([.int .i64 (x.h + 1)] : List Value) ++ (cBs ((rootS (List.map sumT l)).1) ++ ([.int .i64 ((l.length : Nat) : Int)] : List Value)))) (off := 0) (n := 66) rfl (cells_agg _) (zBk_l12 ((headS x).2) ((rootS (List.map sumT l)).2)) (le_of_len2 (zBk_l10 (List.length_replicate ..) (List.length_replicate ..)) (by decide)) (zBk_y18 (List.length_replicate ..) (List.length_replicate ..) ((headS x).2) ((rootS (List.map sumT l)).2)) (fillM (cells' := _) (cs := [y4]) (off := 66) (n := 1) rfl (cells_one (Rd.oneV (Own.rd (hH.own (i := 3) rfl) (row_one cTx_one)))) (show List.length [y4] = 1 from rfl) (le_of_len2 (zBk_l10 ((headS x).2) ((rootS (List.map sumT l)).2)) (by decide)) (zBk_y19 ((headS x).2) ((rootS (List.map sumT l)).2)) fill0))) ?_
    refine lf_sk (wantAll rfl) (hx_storeW hH (i := 1) (cs := cBs ((headS x).1) ++ (([.int .i64 (x.h + 1)] : List Value) ++ (cBs ((rootS (List.map sumT l)).1) ++ ([.int .i64 ((l.length : Nat) : Int), y4] : List Value)))) rfl rfl rfl (fr_eval rfl e4) (fr_eval rfl rfl) (sz_len Try.sz43 (zBk_l10 ((headS x).2) ((rootS (List.map sumT l)).2))) (((zBk_l10 (List.length_replicate ..) (List.length_replicate ..))).trans ((zBk_l10 ((headS x).2) ((rootS (List.map sumT l)).2))).symm) (zBk_o11 rfl rfl (Rd.oneV (Own.rd (hH.own (i := 3) rfl) (row_one cTx_one))))) ?_
    clear hH
    rintro w21 ⟨hH, hx⟩
    replace hH : Heap _ _ _ [_, _, _, _] := hH
    clear hx
    refine lf_val (v := .int .i64 0) (wantAll rfl) (rv_assign rfl rfl) ?_
    refine lf_nil ?_
    refine then_n ?_
    refine wp_gen (fun F' => F' 0 = .agg (cBs x.a.1 ++ (([.int .i64 x.h] : List Value) ++ (cBs x.r.1 ++ ([.int .i64 x.m] : List Value)))).toArray ∧ F' 1 = v ∧ F' 2 = .pointer (some ⟨g1, 0, none⟩) ∧ F' 4 = .pointer (some ⟨g2, 0, none⟩) ∧ F' 5 = .int .i64 0 ∧ F' 6 = .pointer (some ⟨g4, 0, none⟩) ∧ F' 14 = .bool false ∧ F' 18 = .bool false) ⟨e0, e1, e2, e4, rfl, e6, e14, e18⟩ ?_
    clear e0 e1 e2 e4 e5 e6 e14 e18
    clear F
    rintro F ⟨e0, e1, e2, e4, e5, e6, e14, e18⟩
    refine wp_ret ?_
    have hF := hH
    replace hF : Heap _ _ _ [_] := hF.drop (.cons _ (.cons _ (.cons _ (.cons_cons _ .slnil))))
    exact bodyPost_ret (res2 rfl (ro_cell rfl e4 (hH.blk (i := 1) rfl) Try.underlying43 rfl (sz_len Try.sz43 (zBk_l10 ((headS x).2) ((rootS (List.map sumT l)).2)))) (ro_tmp rfl e5)) rfl (⟨_, rfl, hF⟩)

set_option maxRecDepth 100000 in
set_option maxHeartbeats 4000000 in
theorem bPath_out (x : Hd) (at' : Int) (hn : -9223372036854775808 ≤ at' ∧ at' ≤ 9223372036854775807) (l : List TxG) (hl : l.length ≤ 1000) (hs : ∀ t ∈ l, smT t) (ho0 : ¬ (0 ≤ at' ∧ at' < (l.length : Int))) (v : Value) (w : World) (hts : ∀ t ∈ l, StTx (newN w) w t) (hr0 : Rd w 40 v l.length (l.flatMap cTx)) :
    Calls Try.prog 32 #[.agg (cBs x.a.1 ++ (([.int .i64 x.h] : List Value) ++ (cBs x.r.1 ++ ([.int .i64 x.m, v] : List Value)))).toArray, .int .i64 at'] w fun e'' w' => e'' = .returned (.tuple #[.slice none 0 0, .bool false]) ∧ Ext w w' := by
  refine calls_fr (args := [.agg (cBs x.a.1 ++ (([.int .i64 x.h] : List Value) ++ (cBs x.r.1 ++ ([.int .i64 x.m, v] : List Value)))).toArray, .int .i64 at']) (n := 13) Try.func32 rfl rfl (show 2 ≤ 13 by decide) ?_
  have ho : ¬ (0 ≤ at' ∧ at' < ((List.map sumT l).length : Int)) := by rw [List.length_map]; exact ho0
  have hr := Rd.stab hr0
  have hH : Heap (newN w) w w [] := Heap.fresh
  refine wp_seq ?_
  refine wp_gen (fun F' => F' 0 = .agg (cBs x.a.1 ++ (([.int .i64 x.h] : List Value) ++ (cBs x.r.1 ++ ([.int .i64 x.m, v] : List Value)))).toArray ∧ F' 1 = .int .i64 at') ⟨rfl, rfl⟩ ?_
  rintro F ⟨e0, e1⟩
  refine wp_regionF ?_
  refine lf_ex (wantAll rfl) (hx_box hH 43 (cs := cBs x.a.1 ++ (([.int .i64 x.h] : List Value) ++ (cBs x.r.1 ++ ([.int .i64 x.m, v] : List Value)))) rfl (fr_eval rfl e0) (by rfl)) ?_
  clear hH
  rintro _ w1 ⟨g1, rfl, hH, hx⟩
  replace hH : Heap _ _ _ [_] := hH
  clear hx
  refine lf_val (v := .slice none 0 0) (wantAll rfl) (rv_assign rfl rfl) ?_
  refine lf_val (v := .bool false) (wantAll rfl) (rv_assign rfl rfl) ?_
  refine lf_nil ?_
  refine then_n ?_
  refine wp_seq ?_
  refine wp_gen (fun F' => F' 0 = .agg (cBs x.a.1 ++ (([.int .i64 x.h] : List Value) ++ (cBs x.r.1 ++ ([.int .i64 x.m, v] : List Value)))).toArray ∧ F' 1 = .int .i64 at' ∧ F' 2 = .pointer (some ⟨g1, 0, none⟩) ∧ F' 4 = .slice none 0 0 ∧ F' 5 = .bool false) ⟨e0, e1, rfl, rfl, rfl⟩ ?_
  clear e0 e1
  clear F
  rintro F ⟨e0, e1, e2, e4, e5⟩
  refine wp_regionF ?_
  refine lf_val (v := .int .i64 at') (wantAll rfl) (rv_move rfl (fr_eval rfl e1)) ?_
  refine lf_val (v := .pointer (some ⟨g1, 66, none⟩)) (wantAll rfl) (rv_fieldAddr (n := 0) rfl (fr_eval rfl e2) Try.underlying43 rfl rfl (by kernel_rfl)) ?_
  refine lf_val (v := v) (wantAll rfl) (rv_load1 rfl (hH.blk (i := 0) rfl) (zBk_g7 x.a.2 x.r.2) (fr_eval rfl rfl) Try.underlying41 rfl Try.sz41) ?_
  refine lf_call (wantAll rfl) (rv_call (args := [v]) rfl (evc (fr_eval rfl rfl) evn) Try.call64) (bsums_calls l (by omega) hs _ _ (fun t ht => (hts t ht).later hH.chg (newN_up hH.chg hH.up)) (hr.rd _ hH.chg)) ?_
  rintro _ w2 ⟨⟨y1, rfl, ho, hg⟩, hx⟩
  refine ⟨_, rfl, ?_⟩
  replace hH : Heap _ _ _ [_, _] := hH.addOwn hx hg ho
  clear ho hg
  clear hx
  refine lf_call (wantAll rfl) (rv_call (args := [.int .i64 at', y1]) rfl (evc (fr_eval rfl rfl) (evc (fr_eval rfl rfl) evn)) Try.call18) (path_out at' (by omega) (List.map sumT l) ho _ _ (Own.rd (hH.own (i := 1) rfl) (row_one cS_one))) ?_
  rintro _ w3 ⟨rfl, hx⟩
  refine ⟨_, rfl, ?_⟩
  replace hH := hH.ext hx
  clear hx
  refine lf_val (v := .slice none 0 0) (wantAll rfl) (rv_extract rfl (fr_eval rfl rfl) rfl) ?_
  refine lf_val (v := .bool false) (wantAll rfl) (rv_extract rfl (fr_eval rfl rfl) rfl) ?_
  refine lf_val (v := .slice none 0 0) (wantAll rfl) (rv_assign rfl (fr_eval rfl rfl)) ?_
  refine lf_val (v := .bool false) (wantAll rfl) (rv_assign rfl (fr_eval rfl rfl)) ?_
  refine lf_nil ?_
  refine then_n ?_
  replace hH : Heap _ _ _ [_] := hH.drop (.cons_cons _ (.cons _ .slnil))
  refine wp_gen (fun F' => F' 0 = .agg (cBs x.a.1 ++ (([.int .i64 x.h] : List Value) ++ (cBs x.r.1 ++ ([.int .i64 x.m, v] : List Value)))).toArray ∧ F' 1 = .int .i64 at' ∧ F' 2 = .pointer (some ⟨g1, 0, none⟩) ∧ F' 4 = .slice none 0 0 ∧ F' 5 = .bool false) ⟨e0, e1, e2, rfl, rfl⟩ ?_
  clear e0 e1 e2 e4 e5
  clear F
  rintro F ⟨e0, e1, e2, e4, e5⟩
  refine wp_ret ?_
  exact bodyPost_ret (v := .tuple #[.slice none 0 0, .bool false]) (res2 rfl (ro_tmp rfl e4) (ro_tmp rfl e5)) rfl (⟨rfl, hH.done⟩)

set_option maxRecDepth 100000 in
set_option maxHeartbeats 4000000 in
theorem bPath_in (x : Hd) (a0 : Nat) (l : List TxG) (hl : l.length ≤ 1000) (hs : ∀ t ∈ l, smT t) (ha : a0 < l.length) (v : Value) (w : World) (hts : ∀ t ∈ l, StTx (newN w) w t) (hr0 : Rd w 40 v l.length (l.flatMap cTx)) :
    Calls Try.prog 32 #[.agg (cBs x.a.1 ++ (([.int .i64 x.h] : List Value) ++ (cBs x.r.1 ++ ([.int .i64 x.m, v] : List Value)))).toArray, .int .i64 ((a0 : Nat) : Int)] w fun e'' w' => (∃ v', e'' = .returned (.tuple #[v', .bool true]) ∧ Own w' 23 32 v' (pathT (List.map leafS (l.map sumT)) a0).length ((pathT (List.map leafS (l.map sumT)) a0).flatMap cS) ∧ ∀ k, v'.ownBlock = some k → w.heap.size ≤ k) ∧ Ext w w' := by
  refine calls_fr (args := [.agg (cBs x.a.1 ++ (([.int .i64 x.h] : List Value) ++ (cBs x.r.1 ++ ([.int .i64 x.m, v] : List Value)))).toArray, .int .i64 ((a0 : Nat) : Int)]) (n := 13) Try.func32 rfl rfl (show 2 ≤ 13 by decide) ?_
  have hml : (List.map sumT l).length = l.length := List.length_map ..
  have hr := Rd.stab hr0
  have hH : Heap (newN w) w w [] := Heap.fresh
  refine wp_seq ?_
  refine wp_gen (fun F' => F' 0 = .agg (cBs x.a.1 ++ (([.int .i64 x.h] : List Value) ++ (cBs x.r.1 ++ ([.int .i64 x.m, v] : List Value)))).toArray ∧ F' 1 = .int .i64 ((a0 : Nat) : Int)) ⟨rfl, rfl⟩ ?_
  rintro F ⟨e0, e1⟩
  refine wp_regionF ?_
  refine lf_ex (wantAll rfl) (hx_box hH 43 (cs := cBs x.a.1 ++ (([.int .i64 x.h] : List Value) ++ (cBs x.r.1 ++ ([.int .i64 x.m, v] : List Value)))) rfl (fr_eval rfl e0) (by rfl)) ?_
  clear hH
  rintro _ w1 ⟨g1, rfl, hH, hx⟩
  replace hH : Heap _ _ _ [_] := hH
  clear hx
  refine lf_val (v := .slice none 0 0) (wantAll rfl) (rv_assign rfl rfl) ?_
  refine lf_val (v := .bool false) (wantAll rfl) (rv_assign rfl rfl) ?_
  refine lf_nil ?_
  refine then_n ?_
  refine wp_seq ?_
  refine wp_gen (fun F' => F' 0 = .agg (cBs x.a.1 ++ (([.int .i64 x.h] : List Value) ++ (cBs x.r.1 ++ ([.int .i64 x.m, v] : List Value)))).toArray ∧ F' 1 = .int .i64 ((a0 : Nat) : Int) ∧ F' 2 = .pointer (some ⟨g1, 0, none⟩) ∧ F' 4 = .slice none 0 0 ∧ F' 5 = .bool false) ⟨e0, e1, rfl, rfl, rfl⟩ ?_
  clear e0 e1
  clear F
  rintro F ⟨e0, e1, e2, e4, e5⟩
  refine wp_regionF ?_
  refine lf_val (v := .int .i64 ((a0 : Nat) : Int)) (wantAll rfl) (rv_move rfl (fr_eval rfl e1)) ?_
  refine lf_val (v := .pointer (some ⟨g1, 66, none⟩)) (wantAll rfl) (rv_fieldAddr (n := 0) rfl (fr_eval rfl e2) Try.underlying43 rfl rfl (by kernel_rfl)) ?_
  refine lf_val (v := v) (wantAll rfl) (rv_load1 rfl (hH.blk (i := 0) rfl) (zBk_g7 x.a.2 x.r.2) (fr_eval rfl rfl) Try.underlying41 rfl Try.sz41) ?_
  refine lf_call (wantAll rfl) (rv_call (args := [v]) rfl (evc (fr_eval rfl rfl) evn) Try.call64) (bsums_calls l (by omega) hs _ _ (fun t ht => (hts t ht).later hH.chg (newN_up hH.chg hH.up)) (hr.rd _ hH.chg)) ?_
  rintro _ w2 ⟨⟨y1, rfl, ho, hg⟩, hx⟩
  refine ⟨_, rfl, ?_⟩
  replace hH : Heap _ _ _ [_, _] := hH.addOwn hx hg ho
  clear ho hg
  clear hx
  refine lf_call (wantAll rfl) (rv_call (args := [.int .i64 ((a0 : Nat) : Int), y1]) rfl (evc (fr_eval rfl rfl) (evc (fr_eval rfl rfl) evn)) Try.call18) (path_in a0 (List.map sumT l) (by omega) (by omega) _ _ (Own.rd (hH.own (i := 1) rfl) (row_one cS_one))) ?_
  rintro _ w3 ⟨⟨y2, rfl, ho, hg⟩, hx⟩
  refine ⟨_, rfl, ?_⟩
  replace hH : Heap (newN w) w w3 [oBlk g1 (cBs x.a.1 ++ (([.int .i64 x.h] : List Value) ++ (cBs x.r.1 ++ ([.int .i64 x.m, v] : List Value)))) 43, oRow cS 23 32 y1 (List.map sumT l), oRow cS 23 32 y2 (pathT (List.map leafS (List.map sumT l)) a0)] := hH.addOwn hx hg ho
  clear ho hg
  clear hx
  refine lf_val (v := y2) (wantAll rfl) (rv_extract rfl (fr_eval rfl rfl) rfl) ?_
  refine lf_val (v := .bool true) (wantAll rfl) (rv_extract rfl (fr_eval rfl rfl) rfl) ?_
  refine lf_val (v := y2) (wantAll rfl) (rv_assign rfl (fr_eval rfl rfl)) ?_
  refine lf_val (v := .bool true) (wantAll rfl) (rv_assign rfl (fr_eval rfl rfl)) ?_
  refine lf_nil ?_
  refine then_n ?_
  replace hH : Heap _ _ _ [_, _] := hH.drop (.cons_cons _ (.cons _ (.cons_cons _ .slnil)))
  refine wp_gen (fun F' => F' 0 = .agg (cBs x.a.1 ++ (([.int .i64 x.h] : List Value) ++ (cBs x.r.1 ++ ([.int .i64 x.m, v] : List Value)))).toArray ∧ F' 1 = .int .i64 ((a0 : Nat) : Int) ∧ F' 2 = .pointer (some ⟨g1, 0, none⟩) ∧ F' 4 = y2 ∧ F' 5 = .bool true) ⟨e0, e1, e2, rfl, rfl⟩ ?_
  clear e0 e1 e2 e4 e5
  clear F
  rintro F ⟨e0, e1, e2, e4, e5⟩
  refine wp_ret ?_
  exact bodyPost_ret (v := .tuple #[y2, .bool true]) (res2 rfl (ro_tmp rfl e4) (ro_tmp rfl e5)) rfl (⟨⟨_, rfl, hH.own (i := 1) rfl, hH.ge (i := 1) rfl⟩, hH.done⟩)

set_option maxRecDepth 100000 in
set_option maxHeartbeats 4000000 in
theorem bHas_calls (x : Hd) (hin : inHd x) (s : S32) (at' : Int) (hn : -9223372036854775808 ≤ at' ∧ at' ≤ 9223372036854775807) (p : List S32) (v : Value) (w : World) (hr0 : Rd w 32 v p.length (p.flatMap cS)) :
    Calls Try.prog 33 #[.agg (cBs x.a.1 ++ (([.int .i64 x.h] : List Value) ++ (cBs x.r.1 ++ ([.int .i64 x.m] : List Value)))).toArray, .agg (cBs s.1).toArray, .int .i64 at', v] w fun e'' w' => e'' = .returned (.bool (checkB x.r s at' x.m p)) ∧ Ext w w' := by
  refine calls_fr (args := [.agg (cBs x.a.1 ++ (([.int .i64 x.h] : List Value) ++ (cBs x.r.1 ++ ([.int .i64 x.m] : List Value)))).toArray, .agg (cBs s.1).toArray, .int .i64 at', v]) (n := 17) Try.func33 rfl rfl (show 4 ≤ 17 by decide) ?_
  obtain ⟨⟨hi1, hi2⟩, hi3, hi4⟩ := hin
  have hr := Rd.stab hr0
  have hH : Heap (newN w) w w [] := Heap.fresh
  refine wp_seq ?_
  refine wp_gen (fun F' => F' 0 = .agg (cBs x.a.1 ++ (([.int .i64 x.h] : List Value) ++ (cBs x.r.1 ++ ([.int .i64 x.m] : List Value)))).toArray ∧ F' 1 = .agg (cBs s.1).toArray ∧ F' 2 = .int .i64 at' ∧ F' 3 = v) ⟨rfl, rfl, rfl, rfl⟩ ?_
  rintro F ⟨e0, e1, e2, e3⟩
  refine wp_regionF ?_
  refine lf_ex (wantAll rfl) (hx_box hH 40 (cs := cBs x.a.1 ++ (([.int .i64 x.h] : List Value) ++ (cBs x.r.1 ++ ([.int .i64 x.m] : List Value)))) rfl (fr_eval rfl e0) (by rfl)) ?_
  clear hH
  rintro _ w1 ⟨g1, rfl, hH, hx⟩
  replace hH : Heap _ _ _ [_] := hH
  clear hx
  refine lf_ex (wantAll rfl) (hx_box hH 23 (cs := cBs s.1) rfl (fr_eval rfl e1) (by rfl)) ?_
  clear hH
  rintro _ w2 ⟨g2, rfl, hH, hx⟩
  replace hH : Heap _ _ _ [_, _] := hH
  clear hx
  refine lf_val (v := .bool false) (wantAll rfl) (rv_assign rfl rfl) ?_
  refine lf_nil ?_
  refine then_n ?_
  refine wp_seq ?_
  refine wp_gen (fun F' => F' 0 = .agg (cBs x.a.1 ++ (([.int .i64 x.h] : List Value) ++ (cBs x.r.1 ++ ([.int .i64 x.m] : List Value)))).toArray ∧ F' 1 = .agg (cBs s.1).toArray ∧ F' 2 = .int .i64 at' ∧ F' 3 = v ∧ F' 4 = .pointer (some ⟨g1, 0, none⟩) ∧ F' 5 = .pointer (some ⟨g2, 0, none⟩) ∧ F' 8 = .bool false) ⟨e0, e1, e2, e3, rfl, rfl, rfl⟩ ?_
  clear e0 e1 e2 e3
  clear F
  rintro F ⟨e0, e1, e2, e3, e4, e5, e8⟩
  refine wp_regionF ?_
  refine lf_val (v := .pointer (some ⟨g1, 33, none⟩)) (wantAll rfl) (rv_fieldAddr (n := 31) rfl (fr_eval rfl e4) Try.underlying40 rfl rfl (by kernel_rfl)) ?_
  refine lf_val (v := .agg (cBs x.r.1).toArray) (wantAll rfl) (rv_loadP rfl (hH.blk (i := 0) rfl) (zBk_p2 x.a.2 x.r.2) (cBs_len x.r.2) (fr_eval rfl rfl) Try.underlying23 rfl Try.sz23) ?_
  refine lf_val (v := .agg (cBs s.1).toArray) (wantAll rfl) (rv_loadW rfl (hH.blk (i := 1) rfl) (fr_eval rfl e5) Try.underlying23 rfl (sz_len Try.sz23 (cBs_len s.2))) ?_
  refine lf_val (v := .int .i64 at') (wantAll rfl) (rv_move rfl (fr_eval rfl e2)) ?_
  refine lf_val (v := .pointer (some ⟨g1, 65, none⟩)) (wantAll rfl) (rv_fieldAddr (n := 0) rfl (fr_eval rfl e4) Try.underlying40 rfl rfl (by kernel_rfl)) ?_
  refine lf_val (v := .int .i64 x.m) (wantAll rfl) (rv_load1 rfl (hH.blk (i := 0) rfl) (zBk_g3 x.a.2 x.r.2) (fr_eval rfl rfl) Try.underlying3 rfl Try.sz3) ?_
  refine lf_val (v := v) (wantAll rfl) (rv_move rfl (fr_eval rfl e3)) ?_
  refine lf_call (wantAll rfl) (rv_call (args := [.agg (cBs x.r.1).toArray, .agg (cBs s.1).toArray, .int .i64 at', .int .i64 x.m, v]) rfl (evc (fr_eval rfl rfl) (evc (fr_eval rfl rfl) (evc (fr_eval rfl rfl) (evc (fr_eval rfl rfl) (evc (fr_eval rfl rfl) evn))))) Try.call15) (check_calls x.r s at' x.m (by omega) (by omega) p _ _ (hr.rd _ hH.chg)) ?_
  rintro _ w3 ⟨rfl, hx⟩
  refine ⟨_, rfl, ?_⟩
  replace hH := hH.ext hx
  clear hx
  refine lf_val (v := .bool (checkB x.r s at' x.m p)) (wantAll rfl) (rv_assign rfl (fr_eval rfl rfl)) ?_
  refine lf_nil ?_
  refine then_n ?_
  refine wp_gen (fun F' => F' 0 = .agg (cBs x.a.1 ++ (([.int .i64 x.h] : List Value) ++ (cBs x.r.1 ++ ([.int .i64 x.m] : List Value)))).toArray ∧ F' 1 = .agg (cBs s.1).toArray ∧ F' 2 = .int .i64 at' ∧ F' 3 = v ∧ F' 4 = .pointer (some ⟨g1, 0, none⟩) ∧ F' 5 = .pointer (some ⟨g2, 0, none⟩) ∧ F' 8 = .bool (checkB x.r s at' x.m p)) ⟨e0, e1, e2, e3, e4, e5, rfl⟩ ?_
  clear e0 e1 e2 e3 e4 e5 e8
  clear F
  rintro F ⟨e0, e1, e2, e3, e4, e5, e8⟩
  refine wp_ret ?_
  exact bodyPost_ret (v := (.bool (checkB x.r s at' x.m p))) (res1 rfl (ro_tmp rfl e8)) rfl (⟨rfl, hH.done⟩)

end Go.Proofs.Ytokddhidcjkadaa
