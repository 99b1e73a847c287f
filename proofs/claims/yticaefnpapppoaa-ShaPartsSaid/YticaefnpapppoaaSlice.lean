/- A part of a slice, by its value: for regions that draw their order; and the cutters of the laws. -/
import Derived.Test.YticaefnpapppoaaSecret2
import Derived.Lib.SlBytesConst
namespace Go.Bz
open Go.RowKit
/-- The part's value. -/
def slV (ao : Option Addr) (cap size l h : Nat) : Value := .slice (if cap = l then ao else ao.map (·.add (l * size))) (h - l) (cap - l)
theorem slV_own (ao : Option Addr) (n cap size l h : Nat) : (slV ao cap size l h).ownBlock = (Value.slice ao n cap).ownBlock := by
  have hadd : ∀ (ad : Addr) k, (ad.add k).block = ad.block := fun ad k => by unfold Addr.add; split <;> rfl
  unfold slV
  cases ao <;> by_cases hc : cap = l <;> simp [Value.ownBlock, hc, hadd]
theorem run_slV {P : Program} {w : World} {a : Act} {o : Oper} {t e : TypeId} {z : Value} {size bytes : Nat} (T : ST P t e z size bytes) (x : Operand) (lo hi : Option Operand) {ao : Option Addr} {n cap : Nat} (l h : Nat)
    (hx : a.eval x = .slice ao n cap) (hlo : (lo.map a.eval = none ∧ l = 0) ∨ ∃ k, lo.map a.eval = some (.int k (l : Int))) (hhi : (hi.map a.eval = none ∧ h = n) ∨ ∃ k, hi.map a.eval = some (.int k (h : Int))) (ho : o.op = .slice t x lo hi none) (h1 : l ≤ h) (h2 : h ≤ n) (hnc : n ≤ cap) :
    (execOp a.eval o).run P w = .ok (.value (slV ao cap size l h)) w := by
  obtain ⟨ht, hinfo, hzs, hsz, hb⟩ := T
  obtain ⟨i, hi', hz, hsize, hby⟩ := info_parts hinfo
  unfold execOp slV
  have hsl : (Instr.sliceBounds true n cap (lo.map a.eval) (hi.map a.eval) none).run P w = .ok (l, h, cap) w := by
    unfold Instr.sliceBounds
    rcases hlo with ⟨e1, rfl⟩ | ⟨k1, e1⟩ <;> rcases hhi with ⟨e2, rfl⟩ | ⟨k2, e2⟩
    · simp [e1, e2]
    · simp [e1, e2, run_sliceBound w k2 (h : Int) cap _ (by omega) (by omega)]
    · simp [e1, e2, run_sliceBound w k1 (l : Int) h _ (by omega) (by omega)]
    · simp [e1, e2, run_sliceBound w k2 (h : Int) cap _ (by omega) (by omega), run_sliceBound w k1 (l : Int) h _ (by omega) (by omega)]
  simp only [ho, hx, Option.map_none, Sem.run_bind, Instr.sliceAt, Instr.slice, run_underlying ht, Result.andThen_ok, hsl, sizeOf, typeInfo]
  simp [hi', hsize]
end Go.Bz
namespace Go.Proofs.Yticaefnpapppoaa
open Go.RowKit Go.Bz
theorem rdB_slV {w : World} {ao : Option Addr} {n cap : Nat} {xs : List UInt8} (hr : RdB w (.slice ao n cap) xs) (hn : xs.length = n) (hc : n ≤ cap) (l h : Nat) (h1 : l ≤ h) (h2 : h ≤ n) : RdB w (slV ao cap 1 l h) ((xs.drop l).take (h - l)) := by
  obtain ⟨v', w', hrun, hrd, ho, rfl⟩ := ex_slB (w := w) (a := ⟨#[.slice ao n cap, .int .i64 (l : Int), .int .i64 (h : Int)], []⟩) (o := { dst := none, op := .slice 22 (.tmp 0) (some (.tmp 1)) (some (.tmp 2)) none, type := 0, pos := "", after := #[], guard := none }) (.tmp 0) (some (.tmp 1)) (some (.tmp 2)) hr l h rfl (.inr ⟨.i64, rfl⟩) (.inr ⟨.i64, rfl⟩) rfl h1 (by omega)
  have h3 := hrun.symm.trans (run_slV (P := Try.prog) (w := w) Try.stB (.tmp 0) (some (.tmp 1)) (some (.tmp 2)) (ao := ao) (n := n) (cap := cap) l h rfl (.inr ⟨.i64, rfl⟩) (.inr ⟨.i64, rfl⟩) rfl h1 h2 hc)
  injection h3 with h3
  injection h3 with h3
  rw [← h3]; exact hrd
/-- A part, taken ahead in a region that draws its order. -/
theorem slT {w : World} {a : Act} {o : Oper} (x : Operand) (lo hi : Option Operand) {ao : Option Addr} {n cap : Nat} (l h : Nat)
    (hx : a.eval x = .slice ao n cap) (hlo : (lo.map a.eval = none ∧ l = 0) ∨ ∃ k, lo.map a.eval = some (.int k (l : Int))) (hhi : (hi.map a.eval = none ∧ h = n) ∨ ∃ k, hi.map a.eval = some (.int k (h : Int))) (ho : o.op = .slice 22 x lo hi none) (h1 : l ≤ h) (h2 : h ≤ n) (hnc : n ≤ cap) :
    (execOp a.eval o).run Try.prog w = .ok (.value (slV ao cap 1 l h)) w := run_slV Try.stB x lo hi l h hx hlo hhi ho h1 h2 hnc
theorem slT' {w : World} {a : Act} {o : Oper} {ao : Option Addr} {n cap l h : Nat} {v : Value} (hv : slV ao cap 1 l h = v) (x : Operand) (lo hi : Option Operand)
    (hx : a.eval x = .slice ao n cap) (hlo : (lo.map a.eval = none ∧ l = 0) ∨ ∃ k, lo.map a.eval = some (.int k (l : Int))) (hhi : (hi.map a.eval = none ∧ h = n) ∨ ∃ k, hi.map a.eval = some (.int k (h : Int))) (ho : o.op = .slice 22 x lo hi none) (h1 : l ≤ h) (h2 : h ≤ n) (hnc : n ≤ cap) :
    (execOp a.eval o).run Try.prog w = .ok (.value v) w := hv ▸ slT x lo hi l h hx hlo hhi ho h1 h2 hnc
theorem lit_at {w : World} {v : Value} {b : List UInt8} (_ : RdB w v b) {cs : Array Value} {e : TypeId} {l : List UInt8} (hx : cs.toList = cBs l) (hn : l.length ≤ 1000000) : RdB (w.alloc (.cells cs e)) (.slice (some ⟨w.heap.size, 0, none⟩) l.length l.length) l ∧ Ext w (w.alloc (.cells cs e)) := ⟨rdB_lit hx hn, Ext.alloc _ _⟩
theorem nil_at {w : World} {v : Value} {b : List UInt8} (_ : RdB w v b) : RdP w (.slice none 0 0) [] := ⟨[], Rd.nil, .nil⟩
/-- A law's cutter: at most 200 bytes. -/
theorem cut02_calls (b : List UInt8) (v : Value) (w : World) (hr : RdB w v b) :
    Calls Try.prog 15 #[v] w fun e w' => (∃ v', e = .returned v' ∧ RdB w v' (b.take 200) ∧ v'.ownBlock = v.ownBlock) ∧ w = w' := by
  obtain ⟨ao, n, cap, rfl, hn, hnc⟩ := hr.form2
  by_cases h : 200 < n
  · go_enter Try.func15, Try.ntmps15
    go_wp2_with (with_reducible refine stop_slice ?_)
    refine wpl_ex (ex_slB (.tmp 6) none (some (.const (.int .i64 200))) hr 0 200 rfl (.inl ⟨rfl, rfl⟩) (.inr ⟨.i64, rfl⟩) rfl (by omega) (by omega)) rfl ?_
    rintro v' _ ⟨h1, h2, rfl⟩
    go_wp2
    go_ret
    exact ⟨⟨_, rfl, by simpa using h1, h2⟩, rfl⟩
  · go_enter Try.func15, Try.ntmps15
    go_wp2
    go_ret
    exact ⟨⟨_, rfl, by rw [List.take_of_length_le (by omega)]; exact hr, rfl⟩, rfl⟩
/-- Bytes of a string literal: the row is marked behind its last cell. -/
theorem ex_mark {w : World} {a : Act} {o : Oper} {C : Array Value} {n c : Nat} (x : Operand) (hx : a.eval x = .slice (some ⟨w.heap.size, 0, none⟩) n c) (ho : o.op = .convert 22 22 x) :
    ∃ v w', (execOp a.eval o).run Try.prog (w.alloc (.cells C 5)) = .ok (.value v) w' ∧ v = .slice (some ⟨w.heap.size, 0, none⟩) n c ∧ w' = w.alloc (.cells C 5 (C.size, C.size + 1)) := by
  refine ⟨_, _, ?_, rfl, rfl⟩
  unfold execOp
  simp only [ho, hx, Sem.run_bind, Lib.run_convert_bytes_const w 22 5 C n c Try.underlying22 Try.underlying5, Result.andThen_ok, Sem.run_pure]
theorem rdB_lit_fr {w : World} {cs : Array Value} {e : TypeId} {fr : Nat × Nat} {l : List UInt8} (hx : cs.toList = cBs l) (hn : l.length ≤ 1000000) : RdB (w.alloc (.cells cs e fr)) (.slice (some ⟨w.heap.size, 0, none⟩) l.length l.length) l := by
  refine ⟨by simp, cBs_one _, _, l.length, rfl, Nat.le_refl _, by unfold maxLen; omega, (fun h => by cases h), fun j u hu => ⟨_, rfl, ?_⟩⟩
  rw [Addr.add_mid, Nat.zero_add, cell_of_row _ _ j _ _ _ (heap_alloc_new w _), ← hu, ← hx]
  simp
end Go.Proofs.Yticaefnpapppoaa
