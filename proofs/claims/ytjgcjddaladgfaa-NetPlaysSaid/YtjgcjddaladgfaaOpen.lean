/- How arguments that came in are opened: a sum, a byte, bytes. -/
import Derived.Test.YtjgcjddaladgfaaBytes2
import Derived.ProofKit
import Derived.OpenShut
import Derived.Stop.BytesEq
namespace Go.Proofs.Ytjgcjddaladgfaa
open Go.RowKit Go.Bz Go.ChangeShapes Go.WideShapes

section
variable {H : Type} {enc : TypeId × Value → H} {P : Program} {W : World} {base : Nat} {spare : Nat → Bool} {held : Bool} {d : DataW H} {ps : List MemPlace} {r : Reach} {b0 : Nat}
theorem byte_of {n : Int} (h : (Lit.int .u8 n).wf = true) : Value.int .u8 n = cB (UInt8.ofNat n.toNat) := by
  have hb := bounds_u8 h
  simp [cB]; omega
theorem open_byte {t : TypeId} {v : Value} (hu : P.underlying t = some (.int .u8)) (hval : Value.okWide P W r b0 t v) (hd : DataW.Trod enc P W base spare held t v d ps) : ∃ b : UInt8, v = cB b := by
  obtain ⟨n, rfl, _, _, wn⟩ := open_int hu hval hd
  exact ⟨_, byte_of wn⟩
/-- What a cell holds, as a byte. -/
def toB : Value → UInt8
  | .int _ n => UInt8.ofNat n.toNat
  | _ => 0
theorem trod_sum {t e : TypeId} {n fuel : Nat} {cs : List Value} {x : DataW H × List MemPlace} (hu : P.underlying t = some (.array n e)) (he : P.underlying e = some (.int .u8)) (hce : P.cellsOf e = 1) (hct : P.cellsOf t = n)
    (hf : DataW.trod enc P W base spare held fuel t cs = some x) : ∃ l : List UInt8, l.length = n ∧ cs = cBs l := by
  obtain ⟨xs, m, _, _, hlen, hxl, hget⟩ := DataW.trod_array hu hf
  rw [hct] at hlen
  refine ⟨cs.map toB, by simpa using hlen, ?_⟩
  apply List.ext_getElem
  · simp
  · intro i h1 h2
    have hi : i < n := by omega
    have hg := hget i hi
    rw [hce, Nat.mul_one, List.getElem?_eq_getElem (by omega)] at hg
    obtain ⟨k, hk, _, wk⟩ := DataW.trod_int he hg
    have hd : (cs.drop i).take 1 = [cs[i]] := by rw [List.drop_eq_getElem_cons h1]; rfl
    rw [hd] at hk
    simp only [List.cons.injEq, and_true] at hk
    simp only [cBs, List.map_map, List.getElem_map, Function.comp_def]
    rw [hk]
    exact byte_of wk
theorem open_sum {t e : TypeId} {v : Value} {n : Nat} (hu : P.underlying t = some (.array n e)) (he : P.underlying e = some (.int .u8)) (hce : P.cellsOf e = 1) (hct : P.cellsOf t = n)
    (hval : Value.okWide P W r b0 t v) (hd : DataW.Trod enc P W base spare held t v d ps) : ∃ l : List UInt8, l.length = n ∧ v = .agg (cBs l).toArray := by
  unfold Value.okWide at hval
  rw [hu] at hval
  obtain ⟨cs, rfl, _, _⟩ := hval
  obtain ⟨fuel, hf⟩ := hd
  obtain ⟨l, hl, e⟩ := trod_sum hu he hce hct hf
  refine ⟨l, hl, ?_⟩
  have : cs.toList = cBs l := e
  rw [← this]
/-- Bytes, as they come out of 'open_ints'. -/
theorem rdB_ints {a : Option Addr} {len cap : Nat} {zs : List Int} (h : (a = none ∧ len = 0 ∧ cap = 0 ∧ zs = []) ∨
    ∃ x, a = some x ∧ len ≤ cap ∧ cap ≤ maxLen ∧ zs.length = cap ∧ (∀ i, i < zs.length → W.cell? (x.add i) = some (.int .u8 (zs.getD i 0))) ∧ ∀ n ∈ zs, (Lit.int .u8 n).wf = true) :
    ∃ l : List UInt8, l.length = len ∧ RdB W (.slice a len cap) l := by
  rcases h with ⟨rfl, rfl, rfl, rfl⟩ | ⟨x, rfl, hl, hm, hz, hc, hw⟩
  · exact ⟨[], rfl, Rd.nil⟩
  · have hlen : ((zs.take len).map fun n => UInt8.ofNat n.toNat).length = len := by simp; omega
    refine ⟨(zs.take len).map fun n => UInt8.ofNat n.toNat, hlen, ?_⟩
    have key : Rd W 1 (.slice (some x) len cap) len (cBs ((zs.take len).map fun n => UInt8.ofNat n.toNat)) := by
      refine ⟨by simp; omega, cBs_one _, some x, cap, rfl, hl, hm, (fun h => by cases h), fun j u hu => ⟨x, rfl, ?_⟩⟩
      obtain ⟨y, hy, rfl⟩ := cBs_get hu
      have hj : j < len := by have := (List.getElem?_eq_some_iff.1 hy).1; rw [hlen] at this; exact this
      rw [hc j (by omega)]
      simp only [List.getElem?_map, List.getElem?_take, hj, if_true, Option.map_eq_some_iff] at hy
      obtain ⟨z, hz1, rfl⟩ := hy
      have hmem : z ∈ zs := List.mem_of_getElem? hz1
      rw [← byte_of (hw z hmem)]
      simp [List.getD_eq_getElem?_getD, hz1]
    show Rd W 1 _ ((zs.take len).map fun n => UInt8.ofNat n.toNat).length _
    rw [hlen]; exact key
end

theorem Try.szB1 (w : World) : (sizeOf 5).run Try.prog w = .ok 1 w := by
  obtain ⟨i, hi, _, hs, _⟩ := info_parts Try.stB.info
  simp [sizeOf, typeInfo, hi, hs]
/-- Two sums held against each other. -/
theorem eqS (w : World) (a b : List UInt8) (ha : a.length = 32) (hb : b.length = 32) : (binOp .eql 45 (.agg (cBs a).toArray) (.agg (cBs b).toArray)).run Try.prog w = .ok (.bool (a == b)) w :=
  run_eql_bytes w 45 5 32 Try.underlying45 Try.underlying5 Try.szB1 a b ha hb
theorem neS (w : World) (a b : List UInt8) (ha : a.length = 32) (hb : b.length = 32) : (binOp .neq 45 (.agg (cBs a).toArray) (.agg (cBs b).toArray)).run Try.prog w = .ok (.bool (!(a == b))) w := by
  have h := run_equalIn_bytes w 9998 45 5 32 Try.underlying45 Try.underlying5 Try.szB1 a b ha hb
  rw [run_neq_struct]
  have e : (Op.equalIn 10000 45 (.agg (cBs a).toArray) (.agg (cBs b).toArray)).run Try.prog w = .ok (a == b) w := h
  rw [e]; rfl
end Go.Proofs.Ytjgcjddaladgfaa
