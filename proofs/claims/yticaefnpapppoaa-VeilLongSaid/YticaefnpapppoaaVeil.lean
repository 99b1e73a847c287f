/- What covers a text, in plain Lean; and two more rules: parts of an array, copy into a row. -/
import Derived.Test.YticaefnpapppoaaHeap2
import Derived.Test.YticaefnpapppoaaShaSpec
namespace Go.Bz.Veil
open Go.Bz Go.Bz.Sha
/-- The bytes that cover 32 bytes, and byte k of them all. -/
def pad (key : List UInt8) (j : Nat) : List UInt8 := join 51 [key, [UInt8.ofNat (j / 65536), UInt8.ofNat (j / 256), UInt8.ofNat j]]
theorem pad_len (key : List UInt8) (j : Nat) : (pad key j).length = 32 := join_length _ _
def pb (key : List UInt8) (k : Nat) : UInt8 := (pad key (k / 32)).getD (k % 32) 0
def cov (key b : List UInt8) : List UInt8 := (List.range b.length).map fun k => b.getD k 0 ^^^ pb key k
@[simp] theorem cov_len (key b : List UInt8) : (cov key b).length = b.length := by simp [cov]
theorem cov_get {key b : List UInt8} {k : Nat} (h : k < b.length) : (cov key b).getD k 0 = b.getD k 0 ^^^ pb key k := by
  simp [cov, List.getD_eq_getElem?_getD, h]
theorem cov_cov (key b : List UInt8) : cov key (cov key b) = b := by
  apply List.ext_getElem
  · simp
  · intro k h1 h2
    have e : (cov key b).getD k 0 = b.getD k 0 ^^^ pb key k := cov_get h2
    simp only [cov, List.getElem_map, List.getElem_range] at e ⊢
    show (cov key b).getD k 0 ^^^ pb key k = b[k]
    rw [cov_get h2, UInt8.xor_assoc, UInt8.xor_self, UInt8.xor_zero]
    simp [List.getD_eq_getElem?_getD, h2]
/-- What stands there ahead of byte i: what is done, what is laid, nothing. -/
def st (key b : List UInt8) (i m : Nat) : List UInt8 := (List.range b.length).map fun k => if k < i then b.getD k 0 ^^^ pb key k else if k < m then pb key k else 0
@[simp] theorem st_len (key b : List UInt8) (i m : Nat) : (st key b i m).length = b.length := by simp [st]
theorem st_0 (key b : List UInt8) : List.replicate b.length 0 = st key b 0 0 := by
  apply List.ext_getElem
  · simp
  · intro k h1 h2; simp [st]
theorem st_end (key b : List UInt8) (m : Nat) : st key b b.length m = cov key b := by
  apply List.ext_getElem
  · simp
  · intro k h1 h2; simp at h1; simp [st, cov, h1]
theorem st_same {key b : List UInt8} {i m m' : Nat} (h : ∀ k, i ≤ k → k < b.length → (k < m ↔ k < m')) : st key b i m = st key b i m' := by
  apply List.ext_getElem
  · simp
  · intro k h1 h2
    simp at h1
    simp only [st, List.getElem_map, List.getElem_range]
    by_cases hk : k < i
    · simp [hk]
    · have := h k (by omega) h1
      simp [hk, this]
theorem st_copy {key b : List UInt8} {i n : Nat} (hi : i < b.length) (h32 : i % 32 = 0) (hn : n = min 32 (b.length - i)) :
    (st key b i i).take i ++ ((pad key (i / 32)).take n ++ (st key b i i).drop (i + n)) = st key b i (i + 32) := by
  have hp := pad_len key (i / 32)
  apply List.ext_getElem
  · simp; omega
  · intro k h1 h2
    simp at h2
    have hx : ∀ k, k < b.length → (st key b i i)[k]? = some (if k < i then b.getD k 0 ^^^ pb key k else 0) := fun k hk => by
      simp only [st, List.getElem?_map, List.getElem?_range hk, Option.map_some]
      by_cases h : k < i <;> simp [h]
    have e : (st key b i (i + 32))[k] = if k < i then b.getD k 0 ^^^ pb key k else if k < i + 32 then pb key k else 0 := by simp [st]
    rw [e]
    apply Option.some.inj
    rw [← List.getElem?_eq_getElem h1]
    by_cases hk : k < i
    · rw [List.getElem?_append_left (by simp; omega), List.getElem?_take, if_pos hk, hx k h2, if_pos hk, if_pos hk]
    · rw [List.getElem?_append_right (by simp; omega), if_neg hk]
      have hl : (List.take i (st key b i i)).length = i := by simp; omega
      rw [hl]
      by_cases hk2 : k < i + 32
      · rw [if_pos hk2, List.getElem?_append_left (by simp; omega), List.getElem?_take, if_pos (by omega)]
        unfold pb
        rw [show k / 32 = i / 32 by omega, show k % 32 = k - i by omega, List.getD_eq_getElem?_getD, List.getElem?_eq_getElem (by omega)]
        rfl
      · rw [if_neg hk2, List.getElem?_append_right (by simp; omega), List.getElem?_drop]
        have hl2 : (List.take n (pad key (i / 32))).length = n := by simp; omega
        rw [hl2, show i + n + (k - i - n) = k by omega, hx k h2, if_neg hk]
theorem st_get {key b : List UInt8} {i m : Nat} (h : i < b.length) (hm : i < m) : (st key b i m).getD i 0 = pb key i := by
  simp [st, List.getD_eq_getElem?_getD, h, hm]
theorem st_set {key b : List UInt8} {i m : Nat} (h : i < b.length) (hm : i < m) : (st key b i m).set i ((st key b i m).getD i 0 ^^^ b.getD i 0) = st key b (i + 1) m := by
  rw [st_get h hm]
  apply List.ext_getElem
  · simp
  · intro k h1 h2
    simp at h2
    rw [List.getElem_set]
    by_cases hk : i = k
    · subst hk
      rw [if_pos rfl]
      simp only [st, List.getElem_map, List.getElem_range]
      rw [if_pos (by omega), UInt8.xor_comm]
    · rw [if_neg hk]
      simp only [st, List.getElem_map, List.getElem_range]
      by_cases h3 : k < i
      · rw [if_pos h3, if_pos (by omega)]
      · have h4 : ¬ k < i + 1 := by omega
        simp only [h3, h4, if_false]
theorem pad_prog {key : List UInt8} {i : Nat} : join 51 [key, [UInt8.ofNat (i / 2 ^ 21), UInt8.ofNat (i / 2 ^ 13), UInt8.ofNat (i / 2 ^ 5)]] = pad key (i / 32) := by
  unfold pad
  rw [show i / 2 ^ 21 = i / 32 / 65536 by rw [Nat.div_div_eq_div_mul], show i / 2 ^ 13 = i / 32 / 256 by rw [Nat.div_div_eq_div_mul], show i / 2 ^ 5 = i / 32 from rfl]
theorem pad_law {key : List UInt8} {i : Nat} (h : i ≤ 200) : join 51 [key, [0, 0, UInt8.ofNat (i / 32)]] = pad key (i / 32) := by
  unfold pad
  rw [show i / 32 / 65536 = 0 by omega, show i / 32 / 256 = 0 by omega]; rfl
theorem cov_step {key b : List UInt8} {i : Nat} (h : i < b.length) : (cov key b).take i ++ [b.getD i 0 ^^^ (pad key (i / 32)).getD (i % 32) 0] = (cov key b).take (i + 1) := by
  rw [List.take_succ_eq_append_getElem (by simpa using h)]
  congr 2
  simp [cov, pb]
/-- What a text is covered as; what bytes are opened to. -/
def vmark (key t : List UInt8) : List UInt8 := (join 52 [key, t]).take 16
theorem vmark_len (key t : List UInt8) : (vmark key t).length = 16 := by simp [vmark]
def closeV (key t : List UInt8) : List UInt8 := if 65536 < t.length then [] else vmark key t ++ cov key t
def closeE (t : List UInt8) : Int := if 65536 < t.length then 3 else 0
def openE (key b : List UInt8) : Int := if b.length < 16 then 2 else if 65552 < b.length then 3 else if vmark key (cov key (b.drop 16)) = b.take 16 then 0 else 4
def openV (key b : List UInt8) : List UInt8 := if openE key b = 0 then cov key (b.drop 16) else []
theorem open_close {key t : List UInt8} (h : t.length ≤ 65536) : openE key (closeV key t) = 0 ∧ openV key (closeV key t) = t := by
  have e : closeV key t = vmark key t ++ cov key t := by unfold closeV; rw [if_neg (by omega)]
  have hl : (closeV key t).length = 16 + t.length := by rw [e, List.length_append, vmark_len, cov_len]
  have hd : (closeV key t).drop 16 = cov key t := by rw [e]; exact List.drop_left' (vmark_len _ _)
  have ht : (closeV key t).take 16 = vmark key t := by rw [e]; exact List.take_left' (vmark_len _ _)
  have h1 : openE key (closeV key t) = 0 := by
    unfold openE
    rw [if_neg (by omega), if_neg (by omega), hd, ht, cov_cov, if_pos rfl]
  refine ⟨h1, ?_⟩
  unfold openV
  rw [if_pos h1, hd, cov_cov]
end Go.Bz.Veil
namespace Go.Bz
open Go.RowKit
theorem xor_u8 (x y : UInt8) : bitsOf .xor .u8 (x.toNat : Int) (y.toNat : Int) = ((x ^^^ y).toNat : Int) := by
  unfold bitsOf
  have h : ∀ z : UInt8, (BitVec.ofInt IntKind.u8.bits (z.toNat : Int)).toNat = z.toNat := fun z => by
    have := z.toNat_lt
    rw [BitVec.toNat_ofInt, show ((2 ^ IntKind.u8.bits : Nat) : Int) = 256 from rfl]; omega
  simp only [BitVec.toNat_xor, h]
  have := (x ^^^ y).toNat_lt
  have e : (x ^^^ y).toNat = x.toNat ^^^ y.toNat := by simp
  rw [← e]; exact wrap_u8 (by omega)
section
variable {P : Program} {N : Nat → Prop} {w0 w : World} {L L2 : List MemO} {a : Act} {o : Oper} {i : Nat}
theorem Heap.addRd (hH : Heap N w0 w L) {w' : World} {size n : Nat} {v : Value} {xs : List Value} (hx : Ext w w') (hg : ∀ k, v.ownBlock = some k → w.heap.size ≤ k) (h0 : 0 < xs.length) (hr : Rd w' size v n xs) : Heap N w0 w' (L ++ [oRd size v n xs]) :=
  hH.add hx (fun k hk => ⟨hg k hk, hr.lt h0 k hk⟩) (stay_rd hr)
/-- append to nothing: new memory alone. -/
theorem hx_appendN (hH : Heap N w0 w L) {t e : TypeId} {z : Value} {size bytes : Nat} (T : ST P t e z size bytes) {s x : Operand} {vx : Value} {m : Nat} {news : List Value} (ho : o.op = .call { callee := .builtin .append, args := #[s, x], argTypes := #[t, t] })
    {nm : Nat} {xs' : List Value} (hnm : m = nm) (hxs : news = xs') (hr : Rd w size vx m news) (hs : a.eval s = .slice none 0 0) (hx : a.eval x = vx) (hbytes : nm * bytes ≤ 140737488355328) :
    ∃ v' w', (execOp a.eval o).run P w = .ok (.value v') w' ∧ Heap N w0 w' (L ++ [oOwn e size v' nm xs']) ∧ Ext w w' := by
  subst hnm hxs
  obtain ⟨v', w', h1, h2, h3, _⟩ := ex_append (P := P) (w := w) (a := a) T s x (World.ownsRow_nil _ 0 e size) hr hs hx ho (by simpa using hbytes)
  have hE : Ext w w' := h3.chg.mono fun k _ hk => by simp [Value.ownBlock] at hk
  refine ⟨v', w', h1, hH.addOwn hE (fun k hk => ?_) (by simpa using h2), hE⟩
  rcases h3.blk with h | ⟨g, g1, g2, g3⟩
  · rw [h] at hk; simp [Value.ownBlock] at hk
  · rw [g3] at hk; obtain rfl := Option.some.inj hk; exact g1
/-- copy into a row, from a place on. -/
theorem hx_copyB (hH : Heap N w0 w L) {d s : Operand} {dT sT e : TypeId} {v vs : Value} {n m l nd nm : Nat} {xs xs' src : List Value} {sn : Nat} (ho : o.op = .call { callee := .builtin .copy, args := #[d, s], argTypes := #[dT, sT] }) (hi : L[i]? = some (oOwn e 1 v n xs)) (hL : L.set i (oOwn e 1 v nm xs') = L2) (hnd : n = nd) (hnm : n = nm)
    (hd : a.eval d = slcV v 1 l nd) (hs : a.eval s = vs) (hr : Rd w 1 vs sn src) (hl : l < nd) (h0 : 0 < sn) (hm : m = min sn (nd - l)) (hxs : xs.take l ++ (src.take m ++ xs.drop (l + m)) = xs') (hu : P.underlying dT = some (.slice e)) (hsz : (P.info? e).map (·.size) = some 1) :
    ∃ u w', (execOp a.eval o).run P w = .ok (.value u) w' ∧ u = .int .i64 (m : Int) ∧ Heap N w0 w' L2 ∧ Chg N w w' := by
  subst hnd hnm
  have hO := hH.own hi
  have hxl := hO.len
  have hsl := hr.len
  obtain ⟨g, cap, cur, rfl, hb, hc1, hc2, hc3, hc4⟩ := hO.form (by omega)
  obtain ⟨sb, so, sc, rfl, _, _, _, hcell⟩ := hr.cells (by omega)
  have hd' : a.eval d = .slice (some ⟨g, l, none⟩) (n - l) (cap - l) := by
    rw [hd]; unfold slcV; simp only [Nat.mul_one, Option.map_some, Addr.add_mid, Nat.zero_add]
    rw [if_neg (by omega)]
  have hcs : (src.take m).length = m := by simp; omega
  obtain ⟨u, w', h1, h2, h3, h4, _⟩ := ex_copy (P := P) (w := w) (a := a) (o := o) d s hb hd' hs ho hu hsz (cs := src.take m) (by rw [hcs, hm]) (fun j u hj => by
    rw [Addr.add_mid]
    rw [List.getElem?_take] at hj
    split at hj
    · exact hcell _ _ hj
    · cases hj) (by rw [hcs]; omega) (fun u hu => hr.one u (List.mem_of_mem_take hu))
  have hc : Chg (fun k => (Value.slice (some ⟨g, 0, none⟩) n cap).ownBlock = some k) w w' := h4.mono fun k _ hk => by subst hk; rfl
  refine ⟨u, w', h1, by rw [h2, hcs]; rfl, hH.setOwn hi hc (fun k hk => .inl hk) (Own.of_form h3 hc1 hc2 ?_ ?_) hL, hH.within hi hc⟩
  · have := lay_length (cur := cur) (cs := src.take m) (o := l) (by rw [hcs]; omega)
    unfold lay at this; rw [this]; exact hc3
  · have := lay_take (cur := cur) (cs := src.take m) (o := l) (m := n * 1) (by rw [hcs]; omega) (by omega)
    unfold lay at this
    rw [this, hc4, hcs, ← hxs]
end
/-- The first bytes of an array. -/
theorem rv_sliceArrH {P : Program} {w : World} {a : Act} {o : Oper} {t e : TypeId} {x y : Operand} {g off n size h : Nat} {k : IntKind} (ho : o.op = .slice t x none (some y) none) (hx : a.eval x = .pointer (some ⟨g, off, none⟩)) (hy : a.eval y = .int k (h : Int)) (hu : P.underlying t = some (.array n e)) (hs : (P.info? e).map (·.size) = some size) (hn : 0 < n) (hh : h ≤ n) : (execOp a.eval o).run P w = .ok (.value (.slice (some ⟨g, off, none⟩) h n)) w := by
  cases hq : P.info? e with
  | none => simp [hq] at hs
  | some inf =>
    unfold execOp
    simp only [ho, hx, hy, Option.map_none, Option.map_some, Instr.sliceAt, Instr.sureAddr, Instr.sliceBounds, Sem.run_bind, Sem.run_pure, Result.andThen_ok, run_underlying hu, sizeOf, typeInfo]
    have hb := run_sliceBound (P := P) w k (h : Int) n
    simp [hq, Addr.add, show ¬ n = 0 from by omega, run_sliceBound w k (h : Int) n _ (by omega) (by omega)]
end Go.Bz
namespace Go.Proofs.Yticaefnpapppoaa
open Go.RowKit Go.Bz
theorem rdB_blkH {w : World} {g n h : Nat} {T : TypeId} {l : List UInt8} (hb : Blk w g (cBs l) T) (hl : l.length = n) (hh : h ≤ n ∧ n ≤ 1000000) : RdB w (.slice (some ⟨g, 0, none⟩) h n) (l.take h) := by
  have e : (l.take h).length = h := by simp; omega
  show Rd w 1 _ (l.take h).length _
  rw [e]
  refine ⟨by simp; omega, cBs_one _, _, n, rfl, hh.1, by unfold maxLen; omega, (fun h => by cases h), fun j u hu => ⟨_, rfl, ?_⟩⟩
  rw [Addr.add_mid, Nat.zero_add, hb.cell]
  rw [cBs_take, List.getElem?_take] at hu
  split at hu
  · exact hu
  · cases hu
end Go.Proofs.Yticaefnpapppoaa
