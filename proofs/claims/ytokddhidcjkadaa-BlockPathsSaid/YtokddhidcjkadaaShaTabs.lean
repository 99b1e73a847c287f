/- Contracts: sha.first, sha.rounds. -/
import Derived.Test.YtokddhidcjkadaaShaPad
namespace Go.Proofs.Ytokddhidcjkadaa
open Go.RowKit Go.Bz Go.Bz.Sha

set_option maxRecDepth 100000 in
set_option maxHeartbeats 1000000 in
theorem first_calls (w : World) : Calls Try.prog 78 #[] w fun e w' => e = .returned (.agg (cWs st0.list).toArray) ∧ Ext w w' := by
  go_enter Try.func78, Try.ntmps78
  go_wp2_with (first | (with_reducible refine stop_alloc ?_) | (with_reducible refine stop_store ?_))
  refine wpl_ex (ex_alloc 121 Try.arr8 rfl) rfl ?_
  rintro _ w1 ⟨rfl, h1, hx1, hs1⟩
  go_wp2_with (first | (with_reducible refine stop_alloc ?_) | (with_reducible refine stop_store ?_))
  refine wpl_sk (ex_store 121 _ _ (cs := cWs st0.list) h1 rfl rfl rfl (Try.sz8.trans rfl) rfl (cWs_one _)) rfl ?_
  rintro w2 ⟨h2, hx2, hs2⟩
  go_wp2
  refine bodyPost_ret (results_cell_row rfl _ _ _ 121 _ (0, 0) _ rfl h2 Try.underlying121 rfl (Try.sz8.trans rfl)) rfl ⟨rfl, ?_⟩
  exact Chg.then hx1 hx2 (fun i hi h => by omega)

set_option maxRecDepth 100000 in
set_option maxHeartbeats 1000000 in
theorem rounds_calls (w : World) : Calls Try.prog 79 #[] w fun e w' => e = .returned (.agg (cWs ks).toArray) ∧ Ext w w' := by
  go_enter Try.func79, Try.ntmps79
  go_wp2_with (first | (with_reducible refine stop_alloc ?_) | (with_reducible refine stop_store ?_))
  refine wpl_ex (ex_alloc 123 Try.arr123 rfl) rfl ?_
  rintro _ w1 ⟨rfl, h1, hx1, hs1⟩
  go_wp2_with (first | (with_reducible refine stop_alloc ?_) | (with_reducible refine stop_store ?_))
  refine wpl_sk (ex_store 123 _ _ (cs := cWs ks) h1 rfl rfl rfl (Try.sz123.trans rfl) rfl (cWs_one _)) rfl ?_
  rintro w2 ⟨h2, hx2, hs2⟩
  go_wp2
  refine bodyPost_ret (results_cell_row rfl _ _ _ 123 _ (0, 0) _ rfl h2 Try.underlying123 rfl (Try.sz123.trans rfl)) rfl ⟨rfl, ?_⟩
  exact Chg.then hx1 hx2 (fun i hi h => by omega)
end Go.Proofs.Ytokddhidcjkadaa
