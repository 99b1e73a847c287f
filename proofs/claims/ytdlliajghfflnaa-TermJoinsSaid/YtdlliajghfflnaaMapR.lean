/- A map from nodes to numbers: what each operation makes of it. -/
import Derived.Test.YtdlliajghfflnaaMap
namespace Go.Bz
open Go.RowKit Go.Bz.Term
def lookN (ns : List Nd) (n : Nd) : Nat := if n ∈ ns then ns.idxOf n else 0
section
variable {N : Nat → Prop} {w0 w w' : World} {L L2 : List MemO} {r i : Nat} {ns : List Nd} {P : Program} {o : Oper} {a : Act}
theorem hx_makeMap (hH : Heap N w0 w L) {t : TypeId} (ho : o.op = .makeMap t none) :
    ∃ v w', (execOp a.eval o).run P w = .ok (.value v) w' ∧ ∃ r, v = .map (some r) ∧ Heap N w0 w' (L ++ [oMp (some r) []]) ∧ Ext w w' := by
  have hx := Ext.alloc w (.map #[] 0)
  have hm : MapAt (w.alloc (.map #[] 0)) (some w.heap.size) [] := ⟨#[], 0, heap_alloc_new w _, by simp⟩
  refine ⟨_, _, ?_, w.heap.size, rfl, hH.add hx (fun k hk => ?_) (stay_mp hm), hx⟩
  · unfold execOp
    simp only [ho, Option.map_none, Sem.run_bind, run_makeMap_plain, Result.andThen_ok, Sem.run_pure]
  · obtain rfl : w.heap.size = k := Option.some.inj hk
    exact ⟨Nat.le_refl _, hm.lt⟩
theorem hx_makeMapN (hH : Heap N w0 w L) {t : TypeId} (hn : ns = []) (ho : o.op = .makeMap t none) :
    ∃ v w', (execOp a.eval o).run P w = .ok (.value v) w' ∧ ∃ r, v = .map (some r) ∧ Heap N w0 w' (L ++ [oMp (some r) ns]) ∧ Ext w w' := by
  subst hn; exact hx_makeMap hH ho
theorem rv_eqmap {t t2 k e : TypeId} {x y : Operand} {p : Option Nat} (ho : o.op = .binOp .eql t x y t2) (hx : a.eval x = .map p) (hy : a.eval y = .map none) (ht : P.underlying t = some (.map k e)) : (execOp a.eval o).run P w = .ok (.value (.bool p.isNone)) w := by
  unfold execOp
  have hg : (eqGuard .eql t x y (.map p) (.map none)).run P w = .ok () w := rfl
  simp only [ho, hx, hy, Sem.run_bind, hg, Result.andThen_ok, run_eql_map_nil w _ _ _ p ht, Sem.run_pure]
end
end Go.Bz
namespace Go.Proofs.Ytdlliajghfflnaa
open Go.RowKit Go.Bz Go.Bz.Term
section
variable {N : Nat → Prop} {w0 w w' : World} {L L2 : List MemO} {r i : Nat} {ns : List Nd} {o : Oper} {a : Act}
theorem rv_mlookup {n : Nd} {x y : Operand} (ho : o.op = .lookup 28 x y true) (hm : MapAt w (some r) ns) (hx : a.eval x = .map (some r)) (hy : a.eval y = .agg (cNd n).toArray) :
    (execOp a.eval o).run Try.prog w = .ok (.value (.tuple #[.int .i64 ((lookN ns n : Nat) : Int), .bool (decide (n ∈ ns))])) w := by
  obtain ⟨es, c, h1, h2⟩ := hm
  have hz : (zeroValue 3).run Try.prog w = .ok (.int .i64 0) w := rfl
  have hf := findK_nd w n h2
  unfold execOp
  simp only [ho, hx, hy, Instr.lookup, Sem.run_bind, run_underlying Try.underlying28, Result.andThen_ok, MapKept.run_getObj_map h1, Sem.run_pure, check_nd, hf]
  by_cases h : n ∈ ns
  · simp [h, lookN]
  · simp [h, lookN, hz]
theorem hx_mapUpdate (hH : Heap N w0 w L) {n : Nd} {x y z : Operand} (ho : o.op = .mapUpdate 28 x y z) (hi : L[i]? = some (oMp (some r) ns)) (hL : L.set i (oMp (some r) (ns ++ [n])) = L2) (hn : ¬ n ∈ ns) (hx : a.eval x = .map (some r)) (hy : a.eval y = .agg (cNd n).toArray) (hz : a.eval z = .int .i64 ((ns.length : Nat) : Int)) :
    ∃ w', (execOp a.eval o).run Try.prog w = .ok .skip w' ∧ Heap N w0 w' L2 ∧ Chg N w w' := by
  obtain ⟨es, c, h1, h2⟩ := hH.mp hi
  have hf := findK_nd w n h2
  rw [if_neg hn] at hf
  have hlt : r < w.heap.size := (Array.getElem?_eq_some_iff.1 h1).1
  let w' : World := { w with heap := w.heap.setIfInBounds r (.map (es.push { key := .agg (cNd n).toArray, val := .int .i64 ((ns.length : Nat) : Int), born := c }) (c + 1)) }
  have hc : Chg (fun k => (oMp (some r) ns).fp k) w w' := ⟨rfl, rfl, rfl, by simp [w'], fun k _ hk => by
    have : ¬ r = k := fun e => hk (congrArg some e)
    simp [w', Array.getElem?_setIfInBounds, this]⟩
  have hm : MapAt w' (some r) (ns ++ [n]) := ⟨_, _, by simp [w', hlt]; exact ⟨rfl, rfl⟩, by simp [h2, List.zipIdx_append, entV]⟩
  refine ⟨w', ?_, hH.mut (O' := oMp (some r) (ns ++ [n])) hi hc (fun k hk => .inl hk) (stay_mp hm) hL, hH.within hi hc⟩
  unfold execOp
  simp only [ho, hx, hy, hz, Instr.mapUpdate, Sem.run_bind, run_underlying Try.underlying28, Result.andThen_ok, MapKept.run_getObj_map h1, Sem.run_pure, check_nd, hf, MapKept.run_setObj_map _ h1]
  rfl
end
section
variable {w : World} {o : Oper} {a : Act}
theorem rv_eqNd {x y : Operand} {t2 : TypeId} {r q : Nd} (ho : o.op = .binOp .eql 40 x y t2) (hx : a.eval x = .agg (cNd r).toArray) (hy : a.eval y = .agg (cNd q).toArray) : (execOp a.eval o).run Try.prog w = .ok (.value (.bool (decide (r = q)))) w := by
  unfold execOp
  simp only [ho, hx, hy, Sem.run_bind, run_eqGuard_agg (hm := Try.eqGuardType40), Result.andThen_ok, run_eql_struct, eqNd_in, Sem.run_pure]
end
end Go.Proofs.Ytdlliajghfflnaa
