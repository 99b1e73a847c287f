/- Own laws for walks: rows that are owned or readable, whole blocks, and what each operation leaves, the world behind it being a variable. No seat's number stands here. -/
import Derived.WalkKit
import Derived.WalkLawsBesides
import Derived.WalkSpells
import Derived.Laws.AppendOwnNone
import Derived.Laws.CopyOwn
import Derived.Deep.MidRow
import Derived.Deep.WholeRow
import Derived.Deep.QuietTactic
import Derived.BigQuiet
import Derived.Lib.Hide
import Derived.Deep.RegionHeld3
import Derived.Outline
namespace Go.Bz
open Go.RowKit

/-- A byte as a cell. -/
def cB (x : UInt8) : Value := .int .u8 (x.toNat : Int)
def cBs (l : List UInt8) : List Value := l.map cB
@[simp] theorem cBs_length (l : List UInt8) : (cBs l).length = l.length := by simp [cBs]
@[simp] theorem cBs_append (l m : List UInt8) : cBs (l ++ m) = cBs l ++ cBs m := by simp [cBs]
@[simp] theorem cBs_nil : cBs [] = [] := rfl
theorem cBs_cons (x : UInt8) (l : List UInt8) : cBs (x :: l) = cB x :: cBs l := rfl
theorem cBs_one (l : List UInt8) : ∀ u ∈ cBs l, u.oneCell' = true := by
  intro u hu; simp only [cBs, List.mem_map] at hu; obtain ⟨x, _, rfl⟩ := hu; rfl
theorem cBs_get {l : List UInt8} {j : Nat} {u : Value} (h : (cBs l)[j]? = some u) : ∃ x, l[j]? = some x ∧ u = cB x := by
  simp only [cBs, List.getElem?_map, Option.map_eq_some_iff] at h
  obtain ⟨x, hx, rfl⟩ := h; exact ⟨x, hx, rfl⟩
theorem cBs_inj {l m : List UInt8} (h : cBs l = cBs m) : l = m := by
  induction l generalizing m with
  | nil => cases m with
    | nil => rfl
    | cons y m => simp [cBs] at h
  | cons x l ih => cases m with
    | nil => simp [cBs] at h
    | cons y m =>
      simp only [cBs, List.map_cons, List.cons.injEq] at h
      have := ih (by simpa [cBs] using h.2)
      subst this
      have hx : (x.toNat : Int) = (y.toNat : Int) := by simpa [cB] using h.1
      have : x = y := UInt8.toNat_inj.1 (by omega)
      rw [this]
theorem cBs_take (l : List UInt8) (n : Nat) : cBs (l.take n) = (cBs l).take n := by simp [cBs]
theorem cBs_drop (l : List UInt8) (n : Nat) : cBs (l.drop n) = (cBs l).drop n := by simp [cBs]
theorem cB_of {x : Int} {b : UInt8} (h : x = (b.toNat : Int)) : [Value.int .u8 x] = cBs [b] := by simp [cBs, cB, h]

/-- What has changed: blocks for which K holds, and new ones. -/
structure Chg (K : Nat → Prop) (w w' : World) : Prop where
  os : w'.os = w.os
  tape : w'.tape = w.tape
  output : w'.output = w.output
  size : w.heap.size ≤ w'.heap.size
  block : ∀ k, k < w.heap.size → ¬ K k → w'.heap[k]? = w.heap[k]?
/-- Nothing but new blocks. -/
abbrev Ext (w w' : World) : Prop := Chg (fun _ => False) w w'
theorem Chg.refl (K : Nat → Prop) (w : World) : Chg K w w := ⟨rfl, rfl, rfl, Nat.le_refl _, fun _ _ _ => rfl⟩
theorem Chg.trans {K : Nat → Prop} {a b c : World} (h : Chg K a b) (k : Chg K b c) : Chg K a c :=
  ⟨k.os.trans h.os, k.tape.trans h.tape, k.output.trans h.output, Nat.le_trans h.size k.size, fun i hi hK => (k.block i (Nat.lt_of_lt_of_le hi h.size) hK).trans (h.block i hi hK)⟩
theorem Chg.then {K K2 : Nat → Prop} {a b c : World} (h : Chg K a b) (k : Chg K2 b c) (hn : ∀ i, i < a.heap.size → K2 i → K i) : Chg K a c :=
  ⟨k.os.trans h.os, k.tape.trans h.tape, k.output.trans h.output, Nat.le_trans h.size k.size, fun i hi hK => (k.block i (Nat.lt_of_lt_of_le hi h.size) fun h2 => hK (hn i hi h2)).trans (h.block i hi hK)⟩
theorem Chg.mono {K K' : Nat → Prop} {a b : World} (h : Chg K a b) (hk : ∀ k, k < a.heap.size → K k → K' k) : Chg K' a b :=
  ⟨h.os, h.tape, h.output, h.size, fun i hi hK => h.block i hi fun hh => hK (hk i hi hh)⟩
theorem Ext.any {K : Nat → Prop} {a b : World} (h : Ext a b) : Chg K a b := h.mono fun _ _ h => h.elim
theorem Ext.of_below {a b : World} (h : Below a.heap.size a b) : Ext a b := ⟨h.os, h.tape, h.output, h.size, fun k hk _ => h.block k hk⟩
theorem Ext.below {a b : World} (h : Ext a b) : Below a.heap.size a b := ⟨h.os, h.tape, h.output, h.size, fun k hk => h.block k hk id⟩
theorem Ext.alloc (w : World) (o : Obj) : Ext w (w.alloc o) := ⟨rfl, rfl, rfl, by simp, fun k hk _ => Below.heap_alloc w o k hk⟩
theorem Ext.drew (w : World) : Ext w w.drew := ⟨rfl, rfl, rfl, Nat.le_refl _, fun _ _ _ => rfl⟩
theorem Ext.drewN (w : World) (n : Nat) : Ext w (w.drewN n) := ⟨rfl, rfl, rfl, Nat.le_refl _, fun _ _ _ => rfl⟩
theorem Chg.cell {K : Nat → Prop} {w w' : World} (h : Chg K w w') {p : Addr} {v : Value} (hc : w.cell? p = some v) (hk : ¬ K p.block) : w'.cell? p = some v := by
  rw [World.cell?_of_block (w := w) (h.block _ (World.block_lt_of_cell? w _ hc) hk)]; exact hc
theorem Ext.cell {w w' : World} (h : Ext w w') {p : Addr} {v : Value} (hc : w.cell? p = some v) : w'.cell? p = some v := Chg.cell h hc id
theorem Chg.below {K : Nat → Prop} {B : Nat} {w0 w w' : World} (h : Chg K w w') (hb : Below B w0 w) (hB : B ≤ w.heap.size) (hk : ∀ k, K k → B ≤ k) : Below B w0 w' :=
  hb.trans ⟨h.os, h.tape, h.output, h.size, fun k hkB => h.block k (by omega) fun hK => by have := hk k hK; omega⟩
theorem _root_.Go.RowKit.Below.ext {B : Nat} {w0 w w' : World} (hb : Below B w0 w) (h : Ext w w') (hB : B ≤ w.heap.size) : Below B w0 w' := Chg.below h hb hB fun _ h => h.elim

/-- A whole block of cells, not frozen. -/
def Blk (w : World) (g : Nat) (cs : List Value) (T : TypeId) : Prop := w.heap[g]? = some (.cells cs.toArray T (0, 0))
theorem Blk.lt {w : World} {g : Nat} {cs : List Value} {T : TypeId} (h : Blk w g cs T) : g < w.heap.size := (Array.getElem?_eq_some_iff.1 h).1
theorem Blk.keep {w w' : World} {K : Nat → Prop} {g : Nat} {cs : List Value} {T : TypeId} (h : Blk w g cs T) (hc : Chg K w w') (hk : ¬ K g) : Blk w' g cs T := (hc.block g h.lt hk).trans h
theorem Blk.ext {w w' : World} {g : Nat} {cs : List Value} {T : TypeId} (h : Blk w g cs T) (hc : Ext w w') : Blk w' g cs T := h.keep hc id
theorem Blk.cell {w : World} {g : Nat} {cs : List Value} {T : TypeId} (h : Blk w g cs T) (j : Nat) : w.cell? ⟨g, j, none⟩ = cs[j]? := by
  rw [cell_of_row w g j _ _ _ h, List.getElem?_toArray]
theorem Blk.free {w : World} {g : Nat} {cs : List Value} {T : TypeId} (h : Blk w g cs T) (j : Nat) : w.frozen? ⟨g, j, none⟩ = false := frozen_of_row w g j _ _ h
theorem Blk.set {w : World} {g : Nat} {cs : List Value} {T : TypeId} (h : Blk w g cs T) (j : Nat) (v : Value) : Blk (w.setCell ⟨g, j, none⟩ v) g (cs.set j v) T := by
  unfold Blk; rw [heap_setCell_same w g j _ _ v h, List.setIfInBounds_toArray]
theorem Blk.setRow {w : World} {g : Nat} {cs : List Value} {T : TypeId} (h : Blk w g cs T) (cs' : List Value) : Blk (w.setRow g cs'.toArray) g cs' T := setRow_heap w g _ _ _ _ h
theorem Blk.new (w : World) (cs : Array Value) (T : TypeId) : Blk (w.alloc (.cells cs T)) w.heap.size cs.toList T := by
  unfold Blk; rw [heap_alloc_new, Array.toArray_toList]
theorem Blk.neType {w : World} {g g' : Nat} {cs cs' : List Value} {T T' : TypeId} (h : Blk w g cs T) (h' : Blk w g' cs' T') (hn : T ≠ T') : g ≠ g' := by
  rintro rfl
  have := Option.some.inj (h.symm.trans h')
  injection this with _ hT _
  exact hn hT
theorem Chg.setCell {w : World} (a : Addr) (v : Value) : Chg (· = a.block) w (w.setCell a v) :=
  ⟨rfl, rfl, rfl, by simp [World.setCell], fun k _ hk => Below.heap_setCell w a v k hk⟩
theorem Chg.setRow {w : World} (g : Nat) (cs : Array Value) : Chg (· = g) w (w.setRow g cs) :=
  ⟨rfl, rfl, rfl, by simp [World.setRow], fun k _ hk => setRow_other w g k cs hk⟩

/-- Owned row, wherever it lies. -/
abbrev Own (w : World) (e : TypeId) (size : Nat) (v : Value) (n : Nat) (xs : List Value) : Prop := w.ownsRow 0 e size v n xs
theorem Own.keep {w w' : World} {K : Nat → Prop} {e : TypeId} {size : Nat} {v : Value} {n : Nat} {xs : List Value} (h : Own w e size v n xs) (hc : Chg K w w') (hk : ∀ k, v.ownBlock = some k → ¬ K k) : Own w' e size v n xs := by
  refine ⟨h.1, ?_⟩
  rcases h.2 with hn | ⟨g, cap, cur, rfl, hb, hgg, rest⟩
  · exact .inl hn
  · refine .inr ⟨g, cap, cur, rfl, hb, ?_, rest⟩
    rw [hc.block g (Array.getElem?_eq_some_iff.1 hgg).1 (hk g rfl)]
    exact hgg
theorem Own.ext {w w' : World} {e : TypeId} {size : Nat} {v : Value} {n : Nat} {xs : List Value} (h : Own w e size v n xs) (hc : Ext w w') : Own w' e size v n xs := h.keep hc fun _ _ => id
theorem Own.neType {w : World} {e : TypeId} {size : Nat} {v : Value} {n : Nat} {xs : List Value} {g : Nat} {cs : List Value} {T : TypeId} (h : Own w e size v n xs) (hb : Blk w g cs T) (hn : T ≠ e) : v.ownBlock ≠ some g := by
  intro hv
  rcases h.2 with ⟨rfl, _⟩ | ⟨g', cap, cur, rfl, _, hgg, _⟩
  · simp [Value.ownBlock] at hv
  · simp only [Value.ownBlock, Option.some.injEq] at hv
    subst hv
    have := Option.some.inj (hgg.symm.trans hb)
    injection this with _ hT _
    exact hn hT.symm

/-- What an append leaves: new blocks and writes to v's own row alone; the row's block is the old one, or new. -/
structure GB (w w' : World) (v v' : Value) : Prop where
  chg : Chg (fun k => v.ownBlock = some k) w w'
  blk : v'.ownBlock = v.ownBlock ∨ ∃ g, w.heap.size ≤ g ∧ g < w'.heap.size ∧ v'.ownBlock = some g

/-- Behind an append to a row of the call's own. -/
theorem GB.next {B : Nat} {w0 w w' : World} {v v' : Value} (hg : GB w w' v v') (h : Below B w0 w) (hB : B ≤ w.heap.size) (hv : ∀ k, v.ownBlock = some k → B ≤ k) :
    Below B w0 w' ∧ ∀ k, v'.ownBlock = some k → B ≤ k := by
  refine ⟨Chg.below hg.chg h hB fun k hk => hv k hk, fun k hk => ?_⟩
  rcases hg.blk with h | ⟨g, h1, _, h2⟩
  · exact hv k (h ▸ hk)
  · rw [h2] at hk; injection hk with e; omega
theorem ownBlock_nil {B : Nat} : ∀ k, (Value.slice none 0 0).ownBlock = some k → B ≤ k := fun _ h => by simp [Value.ownBlock] at h
theorem _root_.Go.RowKit.Below.new {B : Nat} {w0 w : World} (h : Below B w0 w) (o : Obj) (hB : B ≤ w.heap.size) : Below B w0 (w.alloc o) := Below.ext h (Ext.alloc w o) hB

/-- A readable slice value of n elements of size cells. -/
structure Rd (w : World) (size : Nat) (v : Value) (n : Nat) (xs : List Value) : Prop where
  len : xs.length = n * size
  one : ∀ u ∈ xs, u.oneCell' = true
  shape : ∃ ao cap, v = .slice ao n cap ∧ n ≤ cap ∧ cap ≤ maxLen ∧ (ao = none → n = 0 ∧ cap = 0) ∧ ∀ j u, xs[j]? = some u → ∃ a, ao = some a ∧ w.cell? (a.add j) = some u

theorem Rd.keep {w w' : World} {K : Nat → Prop} {size : Nat} {v : Value} {n : Nat} {xs : List Value} (h : Rd w size v n xs) (hc : Chg K w w') (hk : ∀ k, v.ownBlock = some k → 0 < xs.length → ¬ K k) : Rd w' size v n xs := by
  obtain ⟨h1, h2, ao, cap, rfl, h3, h4, h5, h6⟩ := h
  refine ⟨h1, h2, ao, cap, rfl, h3, h4, h5, fun j u hu => ?_⟩
  obtain ⟨a, rfl, hw⟩ := h6 j u hu
  have hb := World.block_lt_of_cell? w _ hw
  have hblk : (a.add j).block = a.block := by unfold Addr.add; split <;> rfl
  refine ⟨a, rfl, ?_⟩
  rw [World.cell?_of_block (w := w) (hc.block _ hb (by rw [hblk]; exact hk _ rfl (by have := (List.getElem?_eq_some_iff.1 hu).1; omega)))]
  exact hw
theorem Rd.ext {w w' : World} {size : Nat} {v : Value} {n : Nat} {xs : List Value} (h : Rd w size v n xs) (hc : Ext w w') : Rd w' size v n xs := h.keep hc fun _ _ _ => id
theorem Rd.lt {w : World} {size : Nat} {v : Value} {n : Nat} {xs : List Value} (h : Rd w size v n xs) (h0 : 0 < xs.length) : ∀ k, v.ownBlock = some k → k < w.heap.size := by
  obtain ⟨h1, h2, ao, cap, rfl, h3, h4, h5, h6⟩ := h
  intro k hk
  obtain ⟨a, rfl, hw⟩ := h6 0 _ (List.getElem?_eq_getElem h0)
  have hb := World.block_lt_of_cell? w _ hw
  simp only [Value.ownBlock, Option.some.injEq] at hk
  subst hk
  simpa [Addr.add] using hb
theorem Rd.cells {w : World} {size : Nat} {v : Value} {n : Nat} {xs : List Value} (h : Rd w size v n xs) (h0 : 0 < xs.length) :
    ∃ b off cap, v = .slice (some ⟨b, off, none⟩) n cap ∧ n ≤ cap ∧ cap ≤ maxLen ∧ b < w.heap.size ∧ ∀ j u, xs[j]? = some u → w.cell? ⟨b, off + j, none⟩ = some u := by
  obtain ⟨h1, h2, ao, cap, rfl, h3, h4, h5, h6⟩ := h
  obtain ⟨a, rfl, hw⟩ := h6 0 _ (List.getElem?_eq_getElem h0)
  obtain ⟨b, off, sp⟩ := a
  have hs : sp = none := by
    simp only [Addr.add, if_true, World.cell?] at hw
    split at hw
    · split at hw
      · cases hw
      · rename_i h; simpa using h
    · cases hw
  subst hs
  refine ⟨b, off, cap, rfl, h3, h4, World.block_lt_of_cell? w _ hw, fun j u hu => ?_⟩
  obtain ⟨a, ha, hw⟩ := h6 j u hu
  simp only [Option.some.injEq] at ha
  subst ha
  rwa [Addr.add_mid] at hw
theorem Rd.nil {w : World} {size : Nat} : Rd w size (.slice none 0 0) 0 [] := ⟨by simp, by simp, none, 0, rfl, Nat.le_refl _, Nat.zero_le _, fun _ => ⟨rfl, rfl⟩, by simp⟩
/-- An owned row reads. -/
theorem Own.rd {w : World} {e : TypeId} {size : Nat} {v : Value} {n : Nat} {xs : List Value} (h : Own w e size v n xs) (h1 : ∀ u ∈ xs, u.oneCell' = true) : Rd w size v n xs := by
  refine ⟨h.1, h1, ?_⟩
  rcases h.2 with ⟨rfl, rfl⟩ | ⟨g, cap, cur, rfl, _, hg, hn, hm, hs, ht⟩
  · refine ⟨none, 0, rfl, Nat.le_refl _, Nat.zero_le _, fun _ => ⟨rfl, rfl⟩, fun j u hu => ?_⟩
    have : xs = [] := List.eq_nil_of_length_eq_zero (by simpa using h.1)
    subst this; simp at hu
  · refine ⟨_, cap, rfl, hn, hm, (fun h => by cases h), fun j u hu => ⟨_, rfl, h.cells (g := g) rfl j u hu⟩⟩

section laws
variable {P : Program} {w : World} {ops : Array Oper} {rest : List Oper} {o : Oper} {a : Act} {Q : Exit → Act → World → Prop} {K : Act → World → Prop}

theorem wpl_ex {R : Value → World → Prop} (hx : ∃ v w', (execOp a.eval o).run P w = .ok (.value v) w' ∧ R v w') (hgd : o.guard = none) (h : ∀ v w', R v w' → wpList P ops Q rest (a.put o.dst v) w') : wpList P ops Q (o :: rest) a w := by
  obtain ⟨v, w', hr, hR⟩ := hx
  refine wpList_plain hgd fun K hK => ?_
  unfold Oper.wp
  rw [hr]
  exact hK _ _ (h v w' hR)
theorem wpk_ex {R : Value → World → Prop} (hx : ∃ v w', (execOp a.eval o).run P w = .ok (.value v) w' ∧ R v w') (h : ∀ v w', R v w' → K (a.put o.dst v) w') : o.wp P a w K Q := by
  obtain ⟨v, w', hr, hR⟩ := hx
  unfold Oper.wp
  rw [hr]
  exact h v w' hR
theorem wpl_sk {R : World → Prop} (hx : ∃ w', (execOp a.eval o).run P w = .ok .skip w' ∧ R w') (hgd : o.guard = none) (h : ∀ w', R w' → wpList P ops Q rest (a.put o.dst undef) w') : wpList P ops Q (o :: rest) a w := by
  obtain ⟨w', hr, hR⟩ := hx
  refine wpList_plain hgd fun K hK => ?_
  unfold Oper.wp
  rw [hr]
  exact hK _ _ (h w' hR)
theorem wpk_sk {R : World → Prop} (hx : ∃ w', (execOp a.eval o).run P w = .ok .skip w' ∧ R w') (h : ∀ w', R w' → K (a.put o.dst undef) w') : o.wp P a w K Q := by
  obtain ⟨w', hr, hR⟩ := hx
  unfold Oper.wp
  rw [hr]
  exact h w' hR

/-- A slice type and its element's row. -/
structure ST (P : Program) (t e : TypeId) (z : Value) (size bytes : Nat) : Prop where
  under : P.underlying t = some (.slice e)
  info : (P.info? e).map (fun i => (i.zero, i.size, i.bytes)) = some (some z, size, bytes)
  zs : z.cells.size = size
  pos : 0 < size
  bpos : 0 < bytes

theorem run_append_gb {t ty e : TypeId} {z : Value} {size bytes : Nat} (T : ST P t e z size bytes)
    {v : Value} {n : Nat} {xs : List Value} (hown : Own w e size v n xs) {vx : Value} {m : Nat} {news : List Value} (hr : Rd w size vx m news) (hbytes : (n + m) * bytes ≤ 140737488355328) :
    ∃ v' w', (Builtin.append_ #[t, t] ty #[v, vx]).run P w = .ok v' w' ∧ Own w' e size v' (n + m) (xs ++ news) ∧ GB w w' v v' ∧ (v' = .slice none 0 0 ↔ v = .slice none 0 0 ∧ vx = .slice none 0 0 ∨ v = .slice none 0 0 ∧ m = 0) := by
  obtain ⟨ht, hinfo, hzs, hsz, hb⟩ := T
  obtain ⟨i, hi, hz, hsize, hby⟩ := info_parts hinfo
  obtain ⟨hl, h1, ao, cap, rfl, hnc, hcm, hnone, hcells⟩ := hr
  have h63 : n + m ≤ maxLen := by
    have := Nat.le_mul_of_pos_right (n + m) hb
    unfold maxLen; omega
  cases ao with
  | none =>
    obtain ⟨rfl, rfl⟩ := hnone rfl
    obtain rfl : news = [] := List.eq_nil_of_length_eq_zero (by simpa using hl)
    refine ⟨v, w, run_append_owned_none (P := P) (w := w) 0 t ty e i size ht hi v n xs hown, by simpa using hown, ⟨Chg.refl _ _, .inl rfl⟩, by simp⟩
  | some ad =>
    have hnews : ∀ j u, news[j]? = some u → w.cell? (ad.add j) = some u := by
      intro j u hu
      obtain ⟨a', ha, hw⟩ := hcells j u hu
      simp only [Option.some.injEq] at ha
      subst ha; exact hw
    obtain ⟨v', w', hr, h2, h3, h4⟩ := run_append_own (P := P) w 0 t ty e i z size bytes ht hi hz hsize hby hzs hsz v n xs hown ad m cap news hl hnews h1 h63 hbytes (Nat.zero_le _)
    refine ⟨v', w', hr, h2, ⟨⟨h3.os, h3.tape, h3.output, h3.size, fun k hk hne => h3.block k hk fun h => hne h.symm⟩, ?_⟩, by simp [h4]⟩
    subst hsize
    subst hby
    have hlt : ∀ g, v'.ownBlock = some g → g < w'.heap.size := fun g hg => (h2.lt g hg).2
    rcases hown.2 with ⟨rfl, rfl⟩ | ⟨g, cap', cur, rfl, _, hg, hnc, hcm, hcs, htake⟩
    · by_cases hm : m = 0
      · exact .inl (by rw [h4.2 ⟨rfl, hm⟩])
      · have hr' := run_append_nil (P := P) w t ty e i z ht hi hz ad m cap news hl hnews (by omega) (by unfold maxLen at h63; omega) (by simp only [Nat.zero_add] at hbytes; omega)
        rw [hr'] at hr
        injection hr with e1 e2
        subst e1
        exact .inr ⟨_, Nat.le_refl _, hlt _ rfl, rfl⟩
    · by_cases hroom : n + m ≤ cap'
      · have hfit : n * i.size + news.length ≤ cur.size := by rw [hl, hcs, ← Nat.add_mul]; exact Nat.mul_le_mul_right _ hroom
        have hr' := run_append_room (P := P) w t ty e i ht hi g n cap' cur hg ad m cap news hl hnews h1 hroom hfit
        rw [hr'] at hr
        injection hr with e1 e2
        subst e1
        exact .inl rfl
      · have holds : ∀ j u, xs[j]? = some u → w.cell? ((⟨g, 0, none⟩ : Addr).add j) = some u := hown.cells (g := g) rfl
        have hr' := run_append_grow (P := P) w t ty e i z ht hi hz ⟨g, 0, none⟩ n cap' xs hown.1 holds ad m cap news hl hnews (by omega) (by unfold maxLen at h63; omega) (growslice_fits (by omega) hbytes)
        rw [hr'] at hr
        injection hr with e1 e2
        subst e1
        exact .inr ⟨_, Nat.le_refl _, hlt _ rfl, rfl⟩

theorem ex_append {t e : TypeId} {z : Value} {size bytes : Nat} (T : ST P t e z size bytes) (s x : Operand)
    {v : Value} {n : Nat} {xs : List Value} (hown : Own w e size v n xs) {vx : Value} {m : Nat} {news : List Value} (hr : Rd w size vx m news)
    (hs : a.eval s = v) (hx : a.eval x = vx) (ho : o.op = .call { callee := .builtin .append, args := #[s, x], argTypes := #[t, t] }) (hbytes : (n + m) * bytes ≤ 140737488355328) :
    ∃ v' w', (execOp a.eval o).run P w = .ok (.value v') w' ∧ Own w' e size v' (n + m) (xs ++ news) ∧ GB w w' v v' ∧ (v' = .slice none 0 0 ↔ v = .slice none 0 0 ∧ vx = .slice none 0 0 ∨ v = .slice none 0 0 ∧ m = 0) := by
  obtain ⟨v', w', hr, h2, h3, h4⟩ := run_append_gb (P := P) (w := w) (ty := o.type) T hown hr hbytes
  refine ⟨v', w', ?_, h2, h3, h4⟩
  unfold execOp
  simp only [ho, resolve, invoke, builtin, Sem.run_bind, Sem.run_pure, Result.andThen_ok, List.map_toArray, List.map_cons, List.map_nil, hs, hx, hr]

/-- A new variable, zero. -/
theorem ex_alloc (T : TypeId) {z : Value} {n : Nat} (hinfo : (P.info? T).map (fun i => (i.zero, i.size)) = some (some z, n)) (ho : o.op = .alloc T) :
    ∃ v w', (execOp a.eval o).run P w = .ok (.value v) w' ∧ v = .pointer (some ⟨w.heap.size, 0, none⟩) ∧ Blk w' w.heap.size z.cells.toList T ∧ Ext w w' ∧ w'.heap.size = w.heap.size + 1 := by
  refine ⟨_, w.alloc (.cells z.cells T), ?_, rfl, Blk.new w _ T, Ext.alloc _ _, by simp⟩
  unfold execOp
  simp only [ho, Instr.alloc, Sem.run_bind, (zero_of_info hinfo).1, newVar, newRow, Sem.run_pure]
  simp [go_sem]

/-- A new variable that holds a value. -/
theorem ex_box (T : TypeId) (x : Operand) {v : Value} (hx : a.eval x = v) (ho : o.op = .box T x) :
    ∃ p w', (execOp a.eval o).run P w = .ok (.value p) w' ∧ p = .pointer (some ⟨w.heap.size, 0, none⟩) ∧ Blk w' w.heap.size v.cells.toList T ∧ Ext w w' ∧ w'.heap.size = w.heap.size + 1 := by
  refine ⟨_, w.alloc (.cells v.cells T), ?_, rfl, Blk.new w _ T, Ext.alloc _ _, by simp⟩
  unfold execOp
  simp only [ho, hx, Instr.box, Sem.run_bind, newVar, newRow, Sem.run_pure]
  simp [go_sem]

/-- A whole block, by value. -/
theorem ex_load (ty : TypeId) (x : Operand) {g : Nat} {cs : List Value} {T : TypeId} (hb : Blk w g cs T) (hx : a.eval x = .pointer (some ⟨g, 0, none⟩)) (ho : o.op = .load ty x)
    {d : TypeDesc} (hu : P.underlying ty = some d) (hd : (match d with | .struct _ | .array _ _ => true | _ => false) = true) (hi : (P.info? ty).map (·.size) = some cs.length) :
    ∃ v w', (execOp a.eval o).run P w = .ok (.value v) w' ∧ v = .agg cs.toArray ∧ w = w' := by
  refine ⟨_, w, ?_, rfl, rfl⟩
  unfold execOp
  simp only [ho, hx, Instr.loadAt, Instr.sureAddr, Sem.run_bind, Sem.run_pure, Result.andThen_ok, run_loadVar_row w g T ty cs.toArray (0, 0) d hb hu hd (by simpa using hi)]

/-- A part of a block, by value. -/
theorem ex_load_at (ty : TypeId) (x : Operand) {b off : Nat} {cs : List Value} (hc : w.rangeAt b off cs) (hx : a.eval x = .pointer (some ⟨b, off, none⟩)) (ho : o.op = .load ty x)
    {d : TypeDesc} (hu : P.underlying ty = some d) (hd : d.isRow = true) (hi : (P.info? ty).map (·.size) = some cs.length) :
    ∃ v w', (execOp a.eval o).run P w = .ok (.value v) w' ∧ v = .agg cs.toArray ∧ w = w' := by
  refine ⟨_, w, ?_, rfl, rfl⟩
  unfold execOp
  simp only [ho, hx, Instr.loadAt, Instr.sureAddr, Sem.run_bind, Sem.run_pure, Result.andThen_ok, run_loadVar_mid w b off ty cs d hc hu hd hi]

/-- A whole block written. -/
theorem ex_store (ty : TypeId) (x y : Operand) {g : Nat} {old cs : List Value} {T : TypeId} (hb : Blk w g old T) (hx : a.eval x = .pointer (some ⟨g, 0, none⟩)) (hy : a.eval y = .agg cs.toArray) (ho : o.op = .store ty x y)
    (hi : (P.info? ty).map (·.size) = some cs.length) (hl : old.length = cs.length) (h1 : ∀ u ∈ cs, u.oneCell' = true) :
    ∃ w', (execOp a.eval o).run P w = .ok .skip w' ∧ Blk w' g cs T ∧ Chg (· = g) w w' ∧ w'.heap.size = w.heap.size := by
  refine ⟨w.setRow g cs.toArray, ?_, hb.setRow cs, Chg.setRow _ _, by simp⟩
  unfold execOp
  simp only [ho, hx, hy, Instr.storeAt, Instr.sureAddr, Sem.run_bind, Sem.run_pure, Result.andThen_ok, run_storeVar_row w g T ty old.toArray cs.toArray hb (by simpa using hi) (by simpa using hl) (all_oneCell_toArray h1)]

/-- One cell of a block written, by the address of the whole or of a part. -/
theorem ex_store1 (ty : TypeId) (x y : Operand) {g j : Nat} {cs : List Value} {T : TypeId} {v : Value} (hb : Blk w g cs T) (hj : j < cs.length) (hx : a.eval x = .pointer (some ⟨g, j, none⟩)) (hy : a.eval y = v) (ho : o.op = .store ty x y)
    (hi : (P.info? ty).map (·.size) = some 1) (h1 : v.oneCell' = true) :
    ∃ w', (execOp a.eval o).run P w = .ok .skip w' ∧ Blk w' g (cs.set j v) T ∧ Chg (· = g) w w' ∧ w'.heap.size = w.heap.size := by
  refine ⟨w.setCell ⟨g, j, none⟩ v, ?_, hb.set j v, Chg.setCell ⟨g, j, none⟩ v, by simp [World.setCell]⟩
  have hcs : v.cells = #[v] := by cases v <;> first | rfl | simp [Value.oneCell'] at h1
  have hcell : w.cell? ⟨g, j, none⟩ = some cs[j] := by rw [hb.cell]; simp [hj]
  cases hq : P.info? ty with
  | none => simp [hq] at hi
  | some i =>
    have hs : i.size = 1 := by simpa [hq] using hi
    unfold execOp
    simp only [ho, hx, hy, Instr.storeAt, Instr.sureAddr, Sem.run_bind, Sem.run_pure, Result.andThen_ok, storeVar, sizeOf, typeInfo, hcs]
    simp [hq, hs, storeCells, run_store, h1, Addr.add, hcell, hb.free, Result.andThen]

/-- Part of a slice. -/
theorem ex_slice {t e : TypeId} {z : Value} {size bytes : Nat} (T : ST P t e z size bytes) (x : Operand) (lo hi : Option Operand) {v : Value} {n : Nat} {xs : List Value} (hr : Rd w size v n xs) (l h : Nat)
    (hx : a.eval x = v) (hlo : (lo.map a.eval = none ∧ l = 0) ∨ ∃ k, lo.map a.eval = some (.int k (l : Int))) (hhi : (hi.map a.eval = none ∧ h = n) ∨ ∃ k, hi.map a.eval = some (.int k (h : Int))) (ho : o.op = .slice t x lo hi none) (h1 : l ≤ h) (h2 : h ≤ n) :
    ∃ v' w', (execOp a.eval o).run P w = .ok (.value v') w' ∧ Rd w size v' (h - l) ((xs.drop (l * size)).take ((h - l) * size)) ∧ v'.ownBlock = v.ownBlock ∧ w = w' := by
  obtain ⟨ht, hinfo, hzs, hsz, hb⟩ := T
  obtain ⟨i, hi', hz, hsize, hby⟩ := info_parts hinfo
  obtain ⟨hl, hone, ao, cap, rfl, hnc, hcm, hnone, hcells⟩ := hr
  have hll : ((xs.drop (l * size)).take ((h - l) * size)).length = (h - l) * size := by
    have hm : (h - l) * size + l * size ≤ n * size := by rw [← Nat.add_mul]; exact Nat.mul_le_mul_right _ (by omega)
    simp only [List.length_take, List.length_drop, hl]; omega
  refine ⟨.slice (if cap = l then ao else ao.map (·.add (l * size))) (h - l) (cap - l), w, ?_, ⟨hll, ?_, _, _, rfl, by omega, by omega, ?_, ?_⟩, ?_, rfl⟩
  · unfold execOp
    have hsl : (Instr.sliceBounds true n cap (lo.map a.eval) (hi.map a.eval) none).run P w = .ok (l, h, cap) w := by
      unfold Instr.sliceBounds
      rcases hlo with ⟨e1, rfl⟩ | ⟨k1, e1⟩ <;> rcases hhi with ⟨e2, rfl⟩ | ⟨k2, e2⟩
      · simp [e1, e2]
      · simp [e1, e2, run_sliceBound w k2 (h : Int) cap _ (by omega) (by omega)]
      · simp [e1, e2, run_sliceBound w k1 (l : Int) h _ (by omega) (by omega)]
      · simp [e1, e2, run_sliceBound w k2 (h : Int) cap _ (by omega) (by omega), run_sliceBound w k1 (l : Int) h _ (by omega) (by omega)]
    simp only [ho, hx, Option.map_none, Sem.run_bind, Instr.sliceAt, Instr.slice, run_underlying ht, Result.andThen_ok, hsl, sizeOf, typeInfo]
    simp [hi', hsize]
  · intro u hu
    exact hone u (List.mem_of_mem_drop (List.mem_of_mem_take hu))
  · intro h
    by_cases hc : cap = l
    · rw [if_pos hc] at h; obtain ⟨rfl, rfl⟩ := hnone h; omega
    · rw [if_neg hc] at h
      have : ao = none := by cases ao <;> simp_all
      obtain ⟨rfl, rfl⟩ := hnone this; omega
  · intro j u hu
    rw [List.getElem?_take] at hu
    split at hu
    · rename_i hj
      rw [List.getElem?_drop] at hu
      obtain ⟨ad, rfl, hw⟩ := hcells _ u hu
      have hne : ¬ cap = l := by
        rintro rfl
        have : h - cap = 0 := by omega
        rw [this] at hj; simp at hj
      rw [if_neg hne]
      refine ⟨_, rfl, ?_⟩
      have hadd : (ad.add (l * size)).add j = ad.add (l * size + j) := by
        unfold Addr.add
        by_cases h1 : l * size = 0 <;> by_cases h2 : j = 0 <;> simp [h1, h2, Nat.add_assoc]
      rw [hadd]; exact hw
    · cases hu
  · have hadd : ∀ (ad : Addr) k, (ad.add k).block = ad.block := fun ad k => by unfold Addr.add; split <;> rfl
    cases ao <;> by_cases hc : cap = l <;> simp [Value.ownBlock, hc, hadd]

/-- An element of an array's value: of one cell. -/
theorem ex_elem (t : TypeId) (x ix : Operand) {cs : List Value} {k n : Nat} {kk : IntKind} {e : TypeId} {u : Value} {d : TypeDesc} (hx : a.eval x = .agg cs.toArray) (hi : a.eval ix = .int kk (k : Int)) (ho : o.op = .index t x ix)
    (hu : P.underlying t = some (.array n e)) (hk : k < n) (hs : (P.info? e).map (·.size) = some 1) (hd : P.underlying e = some d) (hr : d.isRow = false) (hc : cs[k]? = some u) :
    ∃ v w', (execOp a.eval o).run P w = .ok (.value v) w' ∧ v = u ∧ w = w' := by
  refine ⟨_, w, ?_, rfl, rfl⟩
  cases hq : P.info? e with
  | none => simp [hq] at hs
  | some i =>
    have hsz : i.size = 1 := by simpa [hq] using hs
    have hag : (isAgg e).run P w = .ok false w := by
      unfold isAgg
      simp only [Sem.run_bind, run_underlying hd, Result.andThen_ok]
      cases d <;> first | rfl | simp [TypeDesc.isRow] at hr
    unfold execOp
    simp only [ho, hx, hi, Instr.index, asIntOf, Sem.run_bind, Sem.run_pure, Result.andThen_ok, run_underlying hu]
    rw [if_pos (by omega)]
    simp [sizeOf, typeInfo, hq, hsz, part, hag, hc]

/-- The builtin copy into a block. -/
theorem ex_copy (d s : Operand) {dT sT elem : TypeId} {g off dLen dCap : Nat} {ad : Addr} {sLen sCap : Nat} {cur cs : List Value} {T : TypeId} (hb : Blk w g cur T)
    (hd : a.eval d = .slice (some ⟨g, off, none⟩) dLen dCap) (hs : a.eval s = .slice (some ad) sLen sCap) (ho : o.op = .call { callee := .builtin .copy, args := #[d, s], argTypes := #[dT, sT] })
    (hu : P.underlying dT = some (.slice elem)) (hsz : (P.info? elem).map (·.size) = some 1) (hn : cs.length = Nat.min sLen dLen)
    (hsrc : ∀ j v, cs[j]? = some v → w.cell? (ad.add j) = some v) (hfit : off + cs.length ≤ cur.length) (h1 : ∀ v ∈ cs, v.oneCell' = true) :
    ∃ v w', (execOp a.eval o).run P w = .ok (.value v) w' ∧ v = goInt cs.length ∧ Blk w' g (cur.take off ++ (cs ++ cur.drop (off + cs.length))) T ∧ Chg (· = g) w w' ∧ w'.heap.size = w.heap.size := by
  have hrun := run_copy_row (P := P) w dT sT o.type elem g off dLen dCap ad sLen sCap cur.toArray T cs hu hsz hb hn hsrc (by simpa using hfit) h1
  simp only [List.append_assoc] at hrun
  refine ⟨_, _, ?_, rfl, hb.setRow _, Chg.setRow _ _, by simp⟩
  unfold execOp
  simp only [ho, resolve, invoke, builtin, Sem.run_bind, Sem.run_pure, Result.andThen_ok, List.map_toArray, List.map_cons, List.map_nil, hd, hs, hrun]

end laws

/-- A proposition that the walk does not look into: it stops ahead of an operation. -/
def Stop (p : Prop) : Prop := p
section
variable {P : Program} {ops : Array Oper} {Q : Exit → Act → World → Prop} {a : Act} {w : World} {rest : List Oper} {d : Option Tmp} {ty : TypeId} {ps : String} {af : Array Edge} {g : Option (Nat × Bool)}
theorem stop_append {as : Array Operand} {ts : Array TypeId} (h : Stop (wpList P ops Q (⟨d, .call { callee := .builtin .append, args := as, argTypes := ts }, ty, ps, af, g⟩ :: rest) a w)) : wpList P ops Q (⟨d, .call { callee := .builtin .append, args := as, argTypes := ts }, ty, ps, af, g⟩ :: rest) a w := h
theorem stop_copy {as : Array Operand} {ts : Array TypeId} (h : Stop (wpList P ops Q (⟨d, .call { callee := .builtin .copy, args := as, argTypes := ts }, ty, ps, af, g⟩ :: rest) a w)) : wpList P ops Q (⟨d, .call { callee := .builtin .copy, args := as, argTypes := ts }, ty, ps, af, g⟩ :: rest) a w := h
theorem stop_slice {t : TypeId} {x : Operand} {lo hi mx : Option Operand} (h : Stop (wpList P ops Q (⟨d, .slice t x lo hi mx, ty, ps, af, g⟩ :: rest) a w)) : wpList P ops Q (⟨d, .slice t x lo hi mx, ty, ps, af, g⟩ :: rest) a w := h
theorem stop_index {t : TypeId} {x i : Operand} (h : Stop (wpList P ops Q (⟨d, .indexAddr t x i, ty, ps, af, g⟩ :: rest) a w)) : wpList P ops Q (⟨d, .indexAddr t x i, ty, ps, af, g⟩ :: rest) a w := h
theorem stop_alloc {t : TypeId} (h : Stop (wpList P ops Q (⟨d, .alloc t, ty, ps, af, g⟩ :: rest) a w)) : wpList P ops Q (⟨d, .alloc t, ty, ps, af, g⟩ :: rest) a w := h
theorem stop_box {t : TypeId} {x : Operand} (h : Stop (wpList P ops Q (⟨d, .box t x, ty, ps, af, g⟩ :: rest) a w)) : wpList P ops Q (⟨d, .box t x, ty, ps, af, g⟩ :: rest) a w := h
theorem stop_load {t : TypeId} {x : Operand} (h : Stop (wpList P ops Q (⟨d, .load t x, ty, ps, af, g⟩ :: rest) a w)) : wpList P ops Q (⟨d, .load t x, ty, ps, af, g⟩ :: rest) a w := h
theorem stop_store {t : TypeId} {x y : Operand} (h : Stop (wpList P ops Q (⟨d, .store t x y, ty, ps, af, g⟩ :: rest) a w)) : wpList P ops Q (⟨d, .store t x y, ty, ps, af, g⟩ :: rest) a w := h
theorem stop_make {t : TypeId} {l c : Operand} (h : Stop (wpList P ops Q (⟨d, .makeSlice t l c, ty, ps, af, g⟩ :: rest) a w)) : wpList P ops Q (⟨d, .makeSlice t l c, ty, ps, af, g⟩ :: rest) a w := h
theorem stop_convert {s t : TypeId} {x : Operand} (h : Stop (wpList P ops Q (⟨d, .convert s t x, ty, ps, af, g⟩ :: rest) a w)) : wpList P ops Q (⟨d, .convert s t x, ty, ps, af, g⟩ :: rest) a w := h
theorem stop_buildSlice {t : TypeId} {n : Nat} {xs : Array (Nat × Operand)} (h : Stop (wpList P ops Q (⟨d, .buildSlice t n xs, ty, ps, af, g⟩ :: rest) a w)) : wpList P ops Q (⟨d, .buildSlice t n xs, ty, ps, af, g⟩ :: rest) a w := h
theorem stop_field {t : TypeId} {x : Operand} {f : Nat} (h : Stop (wpList P ops Q (⟨d, .field t x f, ty, ps, af, g⟩ :: rest) a w)) : wpList P ops Q (⟨d, .field t x f, ty, ps, af, g⟩ :: rest) a w := h
theorem stop_elem {t : TypeId} {x i : Operand} (h : Stop (wpList P ops Q (⟨d, .index t x i, ty, ps, af, g⟩ :: rest) a w)) : wpList P ops Q (⟨d, .index t x i, ty, ps, af, g⟩ :: rest) a w := h
end

/-- A list of cells lies at a new block. -/
theorem rd_blk {w : World} {g : Nat} {cs : List Value} {T : TypeId} {size n : Nat} (hb : Blk w g cs T) (hl : cs.length = n * size) (hn : n ≤ maxLen) (h1 : ∀ u ∈ cs, u.oneCell' = true) : Rd w size (.slice (some ⟨g, 0, none⟩) n n) n cs := by
  refine ⟨hl, h1, _, n, rfl, Nat.le_refl _, hn, (fun h => by cases h), fun j u hu => ⟨_, rfl, ?_⟩⟩
  rw [Addr.add_mid, Nat.zero_add, hb.cell]; exact hu
theorem rd_lit {w : World} {size : Nat} {cs : Array Value} {e : TypeId} {xs : List Value} {n : Nat} (hx : cs.toList = xs) (hl : xs.length = n * size) (hn : n ≤ maxLen) (h1 : ∀ u ∈ xs, u.oneCell' = true) :
    Rd (w.alloc (.cells cs e)) size (.slice (some ⟨w.heap.size, 0, none⟩) n n) n xs := by
  subst hx; exact rd_blk (Blk.new w cs e) hl hn h1
theorem own_blk {w : World} {g : Nat} {cs : List Value} {e : TypeId} {size n : Nat} (hb : Blk w g cs e) (hl : cs.length = n * size) (hn : n ≤ maxLen) : Own w e size (.slice (some ⟨g, 0, none⟩) n n) n cs :=
  ⟨hl, .inr ⟨g, n, cs.toArray, rfl, Nat.zero_le _, hb, Nat.le_refl _, hn, by simpa using hl, by simp [← hl]⟩⟩
end Go.Bz
