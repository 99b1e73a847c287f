/- Blocks, in plain Lean; a row made of unlike cells. -/
import Derived.Test.YtokddhidcjkadaaTxs
import Derived.Test.YtokddhidcjkadaaMerkle2
namespace Go.Bz
open Go.RowKit
theorem flat_rep_get {cs : List Value} {sz : Nat} (hl : cs.length = sz) (h0 : 0 < sz) : ∀ (n j : Nat), j < n * sz → (List.replicate n cs).flatten[j]? = cs[j % sz]?
  | 0, j, h => by simp at h
  | n + 1, j, h => by
    rw [List.replicate_succ, List.flatten_cons]
    by_cases hj : j < sz
    · rw [List.getElem?_append_left (by omega), Nat.mod_eq_of_lt hj]
    · rw [List.getElem?_append_right (by omega), hl, flat_rep_get hl h0 n (j - sz) (by rw [Nat.succ_mul] at h; omega), ← Nat.mod_eq_sub_mod (by omega)]
theorem flat_rep_len {cs : List Value} {sz : Nat} (hl : cs.length = sz) (n : Nat) : (List.replicate n cs).flatten.length = n * sz := by
  rw [List.length_flatten, List.map_replicate, List.sum_replicate_nat, hl]
theorem made_cells {z : Value} {cs : List Value} {sz n : Nat} (hz : z.cells = cs.toArray) (hl : cs.length = sz) (h0 : 0 < sz) : madeCells z.cells (n * sz) = (List.replicate n cs).flatten.toArray := by
  apply Array.ext
  · simp only [madeCells, Array.size_map, Array.size_range, List.size_toArray]; exact (flat_rep_len hl n).symm
  · intro j h1 h2
    have hj : j < n * sz := by simpa [madeCells] using h1
    have e := flat_rep_get hl h0 n j hj
    have hm : j % sz < sz := Nat.mod_lt _ h0
    rw [List.getElem?_eq_getElem (by rw [flat_rep_len hl]; exact hj), List.getElem?_eq_getElem (by omega)] at e
    injection e with e
    simp only [List.getElem_toArray, e, madeCells, Array.getElem_map, Array.getElem_range, hz, List.size_toArray, hl]
    rw [getElem!_pos _ _ (by simpa [hl] using hm)]
    simp
section
variable {P : Program} {N : Nat → Prop} {w0 w : World} {L : List MemO} {a : Act} {o : Oper}
/-- make: all of it, of unlike cells. -/
theorem hx_makeM (hH : Heap N w0 w L) {α : Type} {f : α → List Value} {d : α} {t e : TypeId} {n size bytes : Nat} {z : Value} (T : ST P t e z size bytes) {x y : Operand} {k k2 : IntKind} (ho : o.op = .makeSlice t x y) (hx : a.eval x = .int k (n : Int)) (hy : a.eval y = .int k2 (n : Int)) (hb : n * bytes ≤ 140737488355328) (hz : z.cells = (f d).toArray) (hl : (f d).length = size) :
    ∃ v w', (execOp a.eval o).run P w = .ok (.value v) w' ∧ Heap N w0 w' (L ++ [oRow f e size v (List.replicate n d)]) ∧ Ext w w' := by
  obtain ⟨ht, hinfo, hzs, hpos, hbp⟩ := T
  obtain ⟨i, hi, hzi, hsize, hby⟩ := info_parts hinfo
  subst hsize
  subst hby
  have hc1 : n ≤ 140737488355328 := Nat.le_trans (Nat.le_mul_of_pos_right n hbp) hb
  have hb' : (i.bytes : Int) * n ≤ 281474976710656 := by
    rw [Int.mul_comm]; have : ((n * i.bytes : Nat) : Int) ≤ 140737488355328 := Int.ofNat_le.2 hb
    rw [Int.natCast_mul] at this; omega
  have hr := run_make (P := P) w t e i z ht hi hzi k k2 (n : Int) (n : Int) (by omega) (by omega) hb' (by omega)
  rw [Int.toNat_natCast, made_cells hz hl hpos] at hr
  have hf : (List.replicate n d).flatMap f = (List.replicate n (f d)).flatten := by rw [List.flatMap, List.map_replicate]
  have hown : Own (w.alloc (.cells (List.replicate n (f d)).flatten.toArray e)) e i.size (.slice (some ⟨w.heap.size, 0, none⟩) n n) (List.replicate n d).length ((List.replicate n d).flatMap f) := by
    rw [hf, List.length_replicate]
    exact own_blk (g := w.heap.size) (by have := Blk.new w (List.replicate n (f d)).flatten.toArray e; simpa using this) (flat_rep_len hl n) (by unfold maxLen; omega)
  refine ⟨_, w.alloc (.cells (List.replicate n (f d)).flatten.toArray e), ?_, hH.addOwn (Ext.alloc _ _) (fun k hk => ?_) hown, Ext.alloc _ _⟩
  · unfold execOp
    simp only [ho, hx, hy, Sem.run_bind, hr, Result.andThen_ok, Sem.run_pure]
  · simp [Value.ownBlock] at hk; omega
end
end Go.Bz
namespace Go.Proofs.Ytokddhidcjkadaa
open Go.RowKit Go.Bz Go.Bz.Txs
theorem Try.stTx : ST Try.prog 41 63 (.agg (cTx zTx).toArray) 40 160 := ⟨Try.underlying41, by kernel_rfl, rfl, by decide, by decide⟩
end Go.Proofs.Ytokddhidcjkadaa
namespace Go.Bz.Txs
open Go.RowKit Go.Bz Go.Bz.Sha Go.Bz.Wire Go.Bz.Merkle
structure Hd where
  a : S32
  h : Int
  r : S32
  m : Int
def inHd (x : Hd) : Prop := inJ x.h ∧ inJ x.m
def zHd : Hd := ⟨zS, 0, zS, 0⟩
def cHd (x : Hd) : List Value := cBs x.a.1 ++ (([.int .i64 x.h] : List Value) ++ (cBs x.r.1 ++ ([.int .i64 x.m] : List Value)))
def headB (x : Hd) : List UInt8 := x.a.1 ++ put x.h ++ x.r.1 ++ put x.m
def headS (x : Hd) : S32 := ⟨join 81 [headB x], join_length _ _⟩
theorem headB_len (x : Hd) : (headB x).length ≤ 100 := by
  have h1 := put_len x.h
  have h2 := put_len x.m
  unfold headB
  simp only [List.length_append, x.a.2, x.r.2]; omega
def RightP (x : Hd) (n : Nat) (root : S32) : Prop := (((x.m = (n : Int) ∧ x.m ≤ 64) ∧ x.h ≥ 0) ∧ x.h ≤ 1073741824) ∧ x.r.1 = root.1
instance (x : Hd) (n : Nat) (root : S32) : Decidable (RightP x n root) := by unfold RightP; infer_instance
/-- A list's own path is checked. -/
theorem has_own {l : List S32} {i n : Nat} (h : i < l.length) (hn : n = l.length) (h2 : l.length ≤ 4096) {s : S32} (hs : s = l.getD i zS) : checkB (rootS l) s (i : Int) (n : Int) (pathT (l.map leafS) i) = true := by
  subst hn hs
  have := path_ok h []
  rw [List.append_nil] at this
  rw [checkB_some ⟨h, h2⟩ this]
  simp
end Go.Bz.Txs
