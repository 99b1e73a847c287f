/- Transactions, in plain Lean: what lies in memory, what its bytes are, and which are small. -/
import Derived.Test.YtokddhidcjkadaaRcpt
import Derived.Test.YtokddhidcjkadaaNums
import Derived.Test.YtokddhidcjkadaaOpenP
import Derived.Test.YtokddhidcjkadaaHold
namespace Go.Bz
open Go.RowKit
theorem Stab.later {N N' : Nat → Prop} {w0 w : World} {sz n : Nat} {v : Value} {xs : List Value} (h : Stab N w0 sz v n xs) (hc : Chg N w0 w) (hN : ∀ k, N' k → N k) : Stab N' w sz v n xs :=
  ⟨fun _ h2 => h.rd _ (hc.trans (h2.le hN)), fun k hk h0 hn => h.out k hk h0 (hN k hn)⟩
theorem getD_memX {α : Type} {l : List α} {i : Nat} {d : α} (h : i < l.length) : l.getD i d ∈ l := by
  rw [List.getD_eq_getElem?_getD, List.getElem?_eq_getElem h]; exact List.getElem_mem _
theorem flat_max {α β : Type} {f : α → List β} {c : Nat} : ∀ {l : List α}, (∀ x ∈ l, (f x).length ≤ c) → (l.flatMap f).length ≤ c * l.length
  | [], _ => by simp
  | x :: l, h => by
    have h1 := h x (by simp)
    have h2 := flat_max (f := f) (c := c) (l := l) fun y hy => h y (by simp [hy])
    rw [List.flatMap_cons, List.length_append, List.length_cons, Nat.mul_succ]; omega
theorem flat_next {α β : Type} {f : α → List β} {d : α} {l : List α} {i : Nat} (h : i < l.length) : (l.take i).flatMap f ++ f (l.getD i d) = (l.take (i + 1)).flatMap f := by
  rw [List.take_succ_eq_append_getElem h, List.flatMap_append]
  simp [List.getD_eq_getElem?_getD, h]
theorem mem_take {α : Type} {l : List α} {i : Nat} {x : α} (h : x ∈ l.take i) : x ∈ l := List.mem_of_mem_take h
end Go.Bz
namespace Go.Bz.Txs
open Go.RowKit Go.Bz Go.Bz.Wire
def inJ (z : Int) : Prop := -9223372036854775808 ≤ z ∧ z ≤ 9223372036854775807
structure InG where
  tx : S32
  at' : Int
  way : Int
  pre : List UInt8
  v : V1
structure WayG where
  ks : List Int
  v : V1
  h : S32
  after : Int
  wait : Int
structure OutG where
  am : Int
  ws : List WayG
  v : V1
structure SgG where
  k : Int
  o : S32
structure TxG where
  ins : List InG
  vi : V1
  outs : List OutG
  vo : V1
  kd : Int
  tw : Int
  ch : Int
  am : Int
  root : S32
  data : List UInt8
  vd : V1
  sgs : List SgG
  vs : V1
def cIn (x : InG) : List Value := cBs x.tx.1 ++ ([.int .i64 x.at', .int .i64 x.way, x.v.1] : List Value)
def cWay (y : WayG) : List Value := ([y.v.1] : List Value) ++ (cBs y.h.1 ++ ([.int .i64 y.after, .int .i64 y.wait] : List Value))
def cOut (o : OutG) : List Value := [.int .i64 o.am, o.v.1]
def cSg (s : SgG) : List Value := ([.int .i64 s.k] : List Value) ++ cBs s.o.1
def cTx (t : TxG) : List Value := ([t.vi.1, t.vo.1, .int .i64 t.kd, .int .i64 t.tw, .int .i64 t.ch, .int .i64 t.am] : List Value) ++ (cBs t.root.1 ++ ([t.vd.1, t.vs.1] : List Value))
def zIn : InG := ⟨zS, 0, 0, [], zV1⟩
def zWay : WayG := ⟨[], zV1, zS, 0, 0⟩
def zOut : OutG := ⟨0, [], zV1⟩
def zSg : SgG := ⟨0, zS⟩
def zTx : TxG := ⟨[], zV1, [], zV1, 0, 0, 0, 0, zS, [], zV1, [], zV1⟩
theorem cIn_ln (x : InG) : (cIn x).length = 35 := by simp [cIn, x.tx.2]
theorem cIn_len {l : List InG} : ∀ x ∈ l, (cIn x).length = 35 := fun x _ => cIn_ln x
theorem cIn_one : ∀ x, ∀ u ∈ cIn x, u.oneCell' = true := fun x => ones_app (cBs_one _) (ones_cons rfl (ones_cons rfl (ones_cons x.v.2 ones_nil)))
theorem cWay_ln (x : WayG) : (cWay x).length = 35 := by simp [cWay, x.h.2]
theorem cWay_len {l : List WayG} : ∀ x ∈ l, (cWay x).length = 35 := fun x _ => cWay_ln x
theorem cWay_one : ∀ x, ∀ u ∈ cWay x, u.oneCell' = true := fun x => ones_app (ones_cons x.v.2 ones_nil) (ones_app (cBs_one _) (ones_cons rfl (ones_cons rfl ones_nil)))
theorem cOut_ln (x : OutG) : (cOut x).length = 2 := rfl
theorem cOut_len {l : List OutG} : ∀ x ∈ l, (cOut x).length = 2 := fun x _ => cOut_ln x
theorem cOut_one : ∀ x, ∀ u ∈ cOut x, u.oneCell' = true := fun x => ones_cons rfl (ones_cons x.v.2 ones_nil)
theorem cSg_ln (x : SgG) : (cSg x).length = 33 := by simp [cSg, x.o.2]
theorem cSg_len {l : List SgG} : ∀ x ∈ l, (cSg x).length = 33 := fun x _ => cSg_ln x
theorem cSg_one : ∀ x, ∀ u ∈ cSg x, u.oneCell' = true := fun _ => ones_app (ones_cons rfl ones_nil) (cBs_one _)
theorem cTx_ln (x : TxG) : (cTx x).length = 40 := by simp [cTx, x.root.2]
theorem cTx_len {l : List TxG} : ∀ x ∈ l, (cTx x).length = 40 := fun x _ => cTx_ln x
theorem cTx_one : ∀ x, ∀ u ∈ cTx x, u.oneCell' = true := fun x => ones_app (ones_cons x.vi.2 (ones_cons x.vo.2 (ones_cons rfl (ones_cons rfl (ones_cons rfl (ones_cons rfl ones_nil)))))) (ones_app (cBs_one _) (ones_cons x.vd.2 (ones_cons x.vs.2 ones_nil)))
/-- What of it lies elsewhere, and stays. -/
structure StIn (N : Nat → Prop) (w : World) (x : InG) : Prop where
  pre : Stab N w 1 x.v.1 x.pre.length (cBs x.pre)
  i1 : inJ x.at'
  i2 : inJ x.way
structure StWay (N : Nat → Prop) (w : World) (y : WayG) : Prop where
  ks : Stab N w 1 y.v.1 y.ks.length (y.ks.flatMap fun z => [.int .i64 z])
  ik : ∀ k ∈ y.ks, inJ k
  i1 : inJ y.after
  i2 : inJ y.wait
structure StOut (N : Nat → Prop) (w : World) (o : OutG) : Prop where
  ws : Stab N w 35 o.v.1 o.ws.length (o.ws.flatMap cWay)
  each : ∀ y ∈ o.ws, StWay N w y
  i1 : inJ o.am
structure StTx (N : Nat → Prop) (w : World) (t : TxG) : Prop where
  ins : Stab N w 35 t.vi.1 t.ins.length (t.ins.flatMap cIn)
  eachI : ∀ x ∈ t.ins, StIn N w x
  outs : Stab N w 2 t.vo.1 t.outs.length (t.outs.flatMap cOut)
  eachO : ∀ o ∈ t.outs, StOut N w o
  data : Stab N w 1 t.vd.1 t.data.length (cBs t.data)
  sgs : Stab N w 33 t.vs.1 t.sgs.length (t.sgs.flatMap cSg)
  i1 : inJ t.kd
  i2 : inJ t.tw
  i3 : inJ t.ch
  i4 : inJ t.am
section
variable {N N' : Nat → Prop} {w0 w : World}
theorem StIn.later {x : InG} (h : StIn N w0 x) (hc : Chg N w0 w) (hN : ∀ k, N' k → N k) : StIn N' w x := ⟨h.pre.later hc hN, h.i1, h.i2⟩
theorem StWay.later {x : WayG} (h : StWay N w0 x) (hc : Chg N w0 w) (hN : ∀ k, N' k → N k) : StWay N' w x := ⟨h.ks.later hc hN, h.ik, h.i1, h.i2⟩
theorem StOut.later {x : OutG} (h : StOut N w0 x) (hc : Chg N w0 w) (hN : ∀ k, N' k → N k) : StOut N' w x := ⟨h.ws.later hc hN, fun y hy => (h.each y hy).later hc hN, h.i1⟩
theorem StTx.later {x : TxG} (h : StTx N w0 x) (hc : Chg N w0 w) (hN : ∀ k, N' k → N k) : StTx N' w x :=
  ⟨h.ins.later hc hN, fun y hy => (h.eachI y hy).later hc hN, h.outs.later hc hN, fun y hy => (h.eachO y hy).later hc hN, h.data.later hc hN, h.sgs.later hc hN, h.i1, h.i2, h.i3, h.i4⟩
theorem StTx.zero : StTx N w0 zTx := by
  have h0 : ∀ sz, Stab N w0 sz (.slice none 0 0) 0 [] := fun sz => ⟨fun _ _ => Rd.nil, fun k hk => by simp [Value.ownBlock] at hk⟩
  refine ⟨h0 _, fun _ h => by simp [zTx] at h, h0 _, fun _ h => by simp [zTx] at h, h0 _, h0 _, ?_, ?_, ?_, ?_⟩ <;> exact ⟨by decide, by decide⟩
end
/-- Its bytes, without what is shown, and who signed. -/
def inB (x : InG) : List UInt8 := x.tx.1 ++ puts [x.at', x.way]
def wayB (y : WayG) : List UInt8 := put (y.ks.length : Int) ++ puts y.ks ++ y.h.1 ++ puts [y.after, y.wait]
def outB (o : OutG) : List UInt8 := puts [o.am, (o.ws.length : Int)] ++ o.ws.flatMap wayB
def opB (t : TxG) : List UInt8 := puts [t.kd, t.tw, t.ch, t.am] ++ t.root.1 ++ put (t.data.length : Int) ++ t.data
def bodyB (t : TxG) : List UInt8 := put (t.ins.length : Int) ++ t.ins.flatMap inB ++ put (t.outs.length : Int) ++ t.outs.flatMap outB ++ opB t
def smO (o : OutG) : Prop := o.ws.length ≤ 20 ∧ ∀ y ∈ o.ws, y.ks.length ≤ 20
def smT (t : TxG) : Prop := (t.ins.length ≤ 20 ∧ t.outs.length ≤ 20 ∧ t.sgs.length ≤ 20 ∧ t.data.length ≤ 6000) ∧ (∀ x ∈ t.ins, x.pre.length ≤ 100) ∧ ∀ o ∈ t.outs, smO o
def smL (l : List TxG) : Prop := l.length ≤ 20 ∧ ∀ t ∈ l, smT t
instance (o : OutG) : Decidable (smO o) := by unfold smO; infer_instance
instance (t : TxG) : Decidable (smT t) := by unfold smT; infer_instance
instance (l : List TxG) : Decidable (smL l) := by unfold smL; infer_instance
theorem smT_zero : smT zTx := by decide
theorem inB_len (x : InG) : (inB x).length ≤ 52 := by
  have := puts_len [x.at', x.way]
  unfold inB
  simp only [List.length_append, x.tx.2, List.length_cons, List.length_nil] at *; omega
theorem wayB_len {y : WayG} (h : y.ks.length ≤ 20) : (wayB y).length ≤ 262 := by
  have h1 := put_len (y.ks.length : Int)
  have h2 := puts_len y.ks
  have h3 := puts_len [y.after, y.wait]
  unfold wayB
  simp only [List.length_append, y.h.2, List.length_cons, List.length_nil] at *; omega
theorem ways_len {o : OutG} (h : smO o) (i : Nat) : ((o.ws.take i).flatMap wayB).length ≤ 5240 := by
  have h1 := flat_max (f := wayB) (c := 262) (l := o.ws.take i) fun y hy => wayB_len (h.2 y (mem_take hy))
  have h2 := List.length_take_le i o.ws
  have h3 : (o.ws.take i).length ≤ 20 := by rw [List.length_take]; have := h.1; omega
  omega
theorem outB_len {o : OutG} (h : smO o) : (outB o).length ≤ 5260 := by
  have h1 := ways_len h o.ws.length
  rw [List.take_length] at h1
  have h2 := puts_len [o.am, (o.ws.length : Int)]
  unfold outB
  simp only [List.length_append, List.length_cons, List.length_nil] at *; omega
theorem insB_len {t : TxG} (h : smT t) (i : Nat) : ((t.ins.take i).flatMap inB).length ≤ 1040 := by
  have h1 := flat_max (f := inB) (c := 52) (l := t.ins.take i) fun y _ => inB_len y
  have h3 : (t.ins.take i).length ≤ 20 := by rw [List.length_take]; have := h.1.1; omega
  omega
theorem outsB_len {t : TxG} (h : smT t) (i : Nat) : ((t.outs.take i).flatMap outB).length ≤ 105200 := by
  have h1 := flat_max (f := outB) (c := 5260) (l := t.outs.take i) fun y hy => outB_len (h.2.2 y (mem_take hy))
  have h3 : (t.outs.take i).length ≤ 20 := by rw [List.length_take]; have := h.1.2.1; omega
  omega
theorem opB_len {t : TxG} (h : smT t) : (opB t).length ≤ 6100 := by
  have h1 := puts_len [t.kd, t.tw, t.ch, t.am]
  have h2 := put_len (t.data.length : Int)
  have h3 := h.1.2.2.2
  unfold opB
  simp only [List.length_append, t.root.2, List.length_cons, List.length_nil] at *; omega
theorem bodyB_len {t : TxG} (h : smT t) : (bodyB t).length ≤ 200000 := by
  have h1 := insB_len h t.ins.length
  have h2 := outsB_len h t.outs.length
  rw [List.take_length] at h1 h2
  have h3 := opB_len h
  have h4 := put_len (t.ins.length : Int)
  have h5 := put_len (t.outs.length : Int)
  unfold bodyB
  simp only [List.length_append]; omega
end Go.Bz.Txs
