/- Receipts: what a signed one's bytes are. -/
import Derived.Test.YtjgcjddaladgfaaRcpts
import Derived.Stop.BytesEq
namespace Go.Proofs.Ytjgcjddaladgfaa
open Go.RowKit Go.Bz Go.Bz.Wire Go.Bz.Rcpt
attribute [local irreducible] wpList Code.wp wpAnyX
/-- A signed one's bytes. -/
def textS (r : Rc) (sig : List UInt8) : List UInt8 := put ((textR r).length : Int) ++ textR r ++ put (sig.length : Int) ++ sig
theorem textS_len (r : Rc) (sig : List UInt8) : (textS r sig).length ≤ 120 + sig.length := by
  have h1 := put_len ((textR r).length : Int)
  have h2 := put_len (sig.length : Int)
  have h3 := textR_len r
  unfold textS
  simp only [List.length_append]; omega
structure GetOk (b : List UInt8) (r : Rc) (sig : List UInt8) (e : Int) : Prop where
  one : ∀ q s, inR q → s.length ≤ 65536 → b = textS q s → e = 0 ∧ r = q ∧ sig = s
  good : e = 0 → inR r ∧ b = textS r sig ∧ sig.length ≤ 65536
  bad : ¬ e = 0 → r = zR ∧ sig = []
theorem put12_calls (r : Rc) (hin_r : inRc r) (sig : List UInt8) (hs : sig.length ≤ 10000000) (v : Value) (w : World) (hr0 : RdB w v sig) :
    Calls Try.prog 38 #[.agg (([.int .i64 r.t, .int .i64 r.c, .int .i64 r.s] : List Value) ++ (cBs r.h.1 ++ (cBs r.b.1 ++ ([v] : List Value)))).toArray] w fun e'' w' => (∃ v', e'' = .returned v' ∧ OwnB w' v' (textS r sig) ∧ ∀ k, v'.ownBlock = some k → w.heap.size ≤ k) ∧ Ext w w' := by
  refine calls_fr (args := [.agg (([.int .i64 r.t, .int .i64 r.c, .int .i64 r.s] : List Value) ++ (cBs r.h.1 ++ (cBs r.b.1 ++ ([v] : List Value)))).toArray]) (n := 12) Try.func38 rfl rfl (show 1 ≤ 12 by decide) ?_
  have l3 := textR_len r
  have l1 := put_len ((textR r).length : Int)
  have l2 := put_len (sig.length : Int)
  have hr := Rd.stab hr0
  have hH : Heap (newN w) w w [] := Heap.fresh
  refine wp_seq ?_
  refine wp_gen (fun F' => F' 0 = .agg (([.int .i64 r.t, .int .i64 r.c, .int .i64 r.s] : List Value) ++ (cBs r.h.1 ++ (cBs r.b.1 ++ ([v] : List Value)))).toArray) rfl ?_
  rintro F e0
  refine wp_regionF ?_
  refine lf_ex (wantAll rfl) (hx_box hH 61 (cs := ([.int .i64 r.t, .int .i64 r.c, .int .i64 r.s] : List Value) ++ (cBs r.h.1 ++ (cBs r.b.1 ++ ([v] : List Value)))) rfl (fr_eval rfl e0) (by rfl)) ?_
  clear hH
  rintro _ w1 ⟨g1, rfl, hH, hx⟩
  replace hH : Heap (newN w) w w1 [oBlk g1 (([.int .i64 r.t, .int .i64 r.c, .int .i64 r.s] : List Value) ++ (cBs r.h.1 ++ (cBs r.b.1 ++ ([v] : List Value)))) 61] := hH
  clear hx
  refine lf_val (v := .slice none 0 0) (wantAll rfl) (rv_assign rfl rfl) ?_
  refine lf_nil ?_
  refine then_n ?_
  refine wp_seq ?_
  refine wp_gen (fun F' => F' 0 = .agg (([.int .i64 r.t, .int .i64 r.c, .int .i64 r.s] : List Value) ++ (cBs r.h.1 ++ (cBs r.b.1 ++ ([v] : List Value)))).toArray ∧ F' 1 = .pointer (some ⟨g1, 0, none⟩) ∧ F' 2 = .slice none 0 0) ⟨e0, rfl, rfl⟩ ?_
  clear e0
  clear F
  rintro F ⟨e0, e1, e2⟩
  refine wp_regionF ?_
  refine lf_ex (wantAll rfl) (hx_alloc hH 50 (z := .agg ([.slice none 0 0]).toArray) (n := 1) (cs := [.slice none 0 0]) rfl (by kernel_rfl) (by rfl)) ?_
  clear hH
  rintro _ w2 ⟨g2, rfl, hH, hx⟩
  replace hH : Heap (newN w) w w2 [oBlk g1 (([.int .i64 r.t, .int .i64 r.c, .int .i64 r.s] : List Value) ++ (cBs r.h.1 ++ (cBs r.b.1 ++ ([v] : List Value)))) 61, oBlk g2 ([.slice none 0 0]) 50] := hH
  clear hx
  refine lf_nil ?_
  refine then_n ?_
  refine wp_seq ?_
  refine wp_gen (fun F' => F' 0 = .agg (([.int .i64 r.t, .int .i64 r.c, .int .i64 r.s] : List Value) ++ (cBs r.h.1 ++ (cBs r.b.1 ++ ([v] : List Value)))).toArray ∧ F' 1 = .pointer (some ⟨g1, 0, none⟩) ∧ F' 2 = .slice none 0 0 ∧ F' 3 = .pointer (some ⟨g2, 0, none⟩)) ⟨e0, e1, e2, rfl⟩ ?_
  clear e0 e1 e2
  clear F
  rintro F ⟨e0, e1, e2, e3⟩
  replace hH : Heap (newN w) w w2 [oBlk g1 (([.int .i64 r.t, .int .i64 r.c, .int .i64 r.s] : List Value) ++ (cBs r.h.1 ++ (cBs r.b.1 ++ ([v] : List Value)))) 61, oPen g2 (.slice none 0 0) []] := hH.toPen (i := 1) rfl rfl
  have hs_1 := hH.fixed1 (j := 0) (i := 1) rfl rfl (by decide)
  have hKN := hH.sub1 (i := 1) rfl
  have hcK : Chg (newK w2 (oPen g2 (.slice none 0 0) []).fp) w2 w2 := Chg.refl _ _
  have hfM : ∀ k, (oPen g2 (.slice none 0 0) []).fp k → (newK w2 (oPen g2 (.slice none 0 0) []).fp) k := fun k h => Or.inr h
  refine wp_regionX (newK w2 (oPen g2 (.slice none 0 0) []).fp) 6 (by kernel_rfl) (by kernel_rfl) ?_
  refine xl_take (i := 0) (v := .pointer (some ⟨g1, 0, none⟩)) rfl (by kernel_rfl) (by kernel_rfl) (by kernel_rfl) (by kernel_rfl) (yx_val (wantAll rfl) (fun w' hx' => rv_fieldAddr (n := 66) rfl (fr_eval rfl e1) Try.underlying61 rfl rfl (by kernel_rfl))) ?_
  refine xl_take (i := 1) (v := .agg (([.int .i64 r.t, .int .i64 r.c, .int .i64 r.s] : List Value) ++ (cBs r.h.1 ++ cBs r.b.1)).toArray) rfl (by kernel_rfl) (by kernel_rfl) (by kernel_rfl) (by kernel_rfl) (yx_val (wantAll rfl) (fun w' hx' => rv_loadP rfl (hs_1 _ (hcK.trans hx')) (part_of (cs := ([.int .i64 r.t, .int .i64 r.c, .int .i64 r.s] : List Value) ++ (cBs r.h.1 ++ (cBs r.b.1 ++ ([v] : List Value)))) (A := ([] : List Value)) (D := (([.int .i64 r.t, .int .i64 r.c, .int .i64 r.s] : List Value) ++ (cBs r.h.1 ++ cBs r.b.1) : List Value)) (C := ([v] : List Value)) (by simp only [List.append_assoc, List.cons_append, List.nil_append, List.append_nil]) (show List.length ([] : List Value) = 0 from rfl) (len_app (m := 3) (n := 64) (k := 67) rfl (len_app (m := 32) (n := 32) (k := 64) (cBs_len r.h.2) (cBs_len r.b.2) rfl) rfl)) (len_app (m := 3) (n := 64) (k := 67) rfl (len_app (m := 32) (n := 32) (k := 64) (cBs_len r.h.2) (cBs_len r.b.2) rfl) rfl) (fr_eval rfl rfl) Try.underlying54 rfl Try.sz54)) ?_
  refine xl_take (i := 4) (v := .pointer (some ⟨g1, 67, none⟩)) rfl (by kernel_rfl) (by kernel_rfl) (by kernel_rfl) (by kernel_rfl) (yx_val (wantAll rfl) (fun w' hx' => rv_fieldAddr (n := 0) rfl (fr_eval rfl e1) Try.underlying61 rfl rfl (by kernel_rfl))) ?_
  refine xl_take (i := 5) (v := v) rfl (by kernel_rfl) (by kernel_rfl) (by kernel_rfl) (by kernel_rfl) (yx_val (wantAll rfl) (fun w' hx' => rv_load1 rfl (hs_1 _ (hcK.trans hx')) (get_of (cs := ([.int .i64 r.t, .int .i64 r.c, .int .i64 r.s] : List Value) ++ (cBs r.h.1 ++ (cBs r.b.1 ++ ([v] : List Value)))) (A := (([.int .i64 r.t, .int .i64 r.c, .int .i64 r.s] : List Value) ++ (cBs r.h.1 ++ cBs r.b.1) : List Value)) (D := ([v] : List Value)) (C := ([] : List Value)) (o := 67) (j := 0) (by simp only [List.append_assoc, List.cons_append, List.nil_append, List.append_nil]) (len_app (m := 3) (n := 64) (k := 67) rfl (len_app (m := 32) (n := 32) (k := 64) (cBs_len r.h.2) (cBs_len r.b.2) rfl) rfl) rfl (show ([v] : List Value)[0]? = some (v) from rfl)) (fr_eval rfl rfl) Try.underlying22 rfl Try.sz22)) ?_
  refine anyX_ready (rs := [2]) (by kernel_rfl) ?_
  intro w3 hx
  replace hH := hH.ext hx
  replace hcK := hcK.trans (Ext.any hx)
  clear hx
  refine (anyX_cons ?_ anyX_nil)
  refine xl_step (i := 2) rfl (wantAll rfl) ?_
  refine of_call (rv_call (args := [.agg (([.int .i64 r.t, .int .i64 r.c, .int .i64 r.s] : List Value) ++ (cBs r.h.1 ++ cBs r.b.1)).toArray]) rfl (evc (fr_eval rfl rfl) evn) Try.call33) (rcText_calls r hin_r _) ?_
  rintro _ w4 ⟨⟨y1, rfl, ho, hg⟩, hx⟩
  refine ⟨_, rfl, ?_⟩
  replace hH : Heap (newN w) w w4 [oBlk g1 (([.int .i64 r.t, .int .i64 r.c, .int .i64 r.s] : List Value) ++ (cBs r.h.1 ++ (cBs r.b.1 ++ ([v] : List Value)))) 61, oPen g2 (.slice none 0 0) [], oB y1 (textR r)] := hH.addOwn hx hg ho
  clear ho hg
  replace hcK := hcK.trans (Ext.any hx)
  refine ⟨(Ext.any hx), ?_⟩
  clear hx
  refine anyX_ready (rs := [3]) (by kernel_rfl) ?_
  intro w5 hx
  replace hH := hH.ext hx
  replace hcK := hcK.trans (Ext.any hx)
  clear hx
  refine (anyX_cons ?_ anyX_nil)
  refine xl_step (i := 3) rfl (wantAll rfl) ?_
  refine of_call (rv_call (args := [.pointer (some ⟨g2, 0, none⟩), y1]) rfl (evc (fr_eval rfl e3) (evc (fr_eval rfl rfl) evn)) Try.call25) (penText_calls (Nat.le_trans (textR_len r) (by decide)) _ (OwnB.rd (hH.own (i := 2) rfl)) (fun k hk h0 e => apart_at hH.apart (i := 2) (j := 1) rfl rfl (by decide) k hk (Or.inl e)) (fun k hk h0 h => apart_at hH.apart (i := 2) (j := 1) rfl rfl (by decide) k hk (Or.inr h)) (hH.pen (i := 1) rfl) (by simp only [List.length_append, List.length_nil]; omega)) ?_
  rintro _ w6 ⟨rfl, hp⟩
  refine ⟨_, rfl, ?_⟩
  obtain ⟨y2, hH', hx, hxf, hgr⟩ := hH.penPost (i := 1) (l2 := put (((textR r).length : Nat) : Int) ++ (textR r)) rfl (fun _ => rfl) hp
  clear hH hp
  have hH : Heap (newN w) w w6 [oBlk g1 (([.int .i64 r.t, .int .i64 r.c, .int .i64 r.s] : List Value) ++ (cBs r.h.1 ++ (cBs r.b.1 ++ ([v] : List Value)))) 61, oPen g2 y2 (put (((textR r).length : Nat) : Int) ++ (textR r)), oB y1 (textR r)] := hH'
  clear hH'
  have hcx := hxf.mono (fun k _ hk => hfM k hk)
  replace hfM := grow1 (fun k h => Or.inl h) hcK.size hfM hgr
  replace hcK := hcK.trans hcx
  refine ⟨hcx, ?_⟩
  clear hcx hxf hgr hx
  refine xl_tail (s := 6) rfl ?_
  intro w7 hx
  replace hH := hH.ext hx
  clear hx
  clear hs_1 hKN hcK hfM
  refine lf_call (wantAll rfl) (rv_call (args := [.pointer (some ⟨g2, 0, none⟩), v]) rfl (evc (fr_eval rfl rfl) (evc (fr_eval rfl rfl) evn)) Try.call25) (penText_calls (by omega) _ (hr.rd _ hH.chg) (fun k hk h0 e => hr.out _ hk h0 ((hH.one (i := 1) rfl).sub k (Or.inl e))) (fun k hk h0 h => hr.out _ hk h0 ((hH.one (i := 1) rfl).sub k (Or.inr h))) (hH.pen (i := 1) rfl) (by simp only [List.length_append, List.length_nil]; omega)) ?_
  rintro _ w8 ⟨rfl, hp⟩
  refine ⟨_, rfl, ?_⟩
  obtain ⟨y3, hH', hx, hxf, hgr⟩ := hH.penPost (i := 1) (l2 := put (((textR r).length : Nat) : Int) ++ (textR r) ++ put ((sig.length : Nat) : Int) ++ sig) rfl (fun _ => rfl) hp
  clear hH hp
  have hH : Heap (newN w) w w8 [oBlk g1 (([.int .i64 r.t, .int .i64 r.c, .int .i64 r.s] : List Value) ++ (cBs r.h.1 ++ (cBs r.b.1 ++ ([v] : List Value)))) 61, oPen g2 y3 (put (((textR r).length : Nat) : Int) ++ (textR r) ++ put ((sig.length : Nat) : Int) ++ sig), oB y1 (textR r)] := hH'
  clear hH'
  clear hxf hgr hx
  refine lf_call (wantAll rfl) (rv_call (args := [.pointer (some ⟨g2, 0, none⟩)]) rfl (evc (fr_eval rfl rfl) evn) Try.call28) (penBytes_calls _ (hH.pen (i := 1) rfl) (by simp only [List.length_append, List.length_nil]; omega)) ?_
  rintro _ w9 ⟨⟨y4, rfl, ho, hg⟩, hx⟩
  refine ⟨_, rfl, ?_⟩
  replace hH : Heap (newN w) w w9 [oBlk g1 (([.int .i64 r.t, .int .i64 r.c, .int .i64 r.s] : List Value) ++ (cBs r.h.1 ++ (cBs r.b.1 ++ ([v] : List Value)))) 61, oPen g2 y3 (put (((textR r).length : Nat) : Int) ++ (textR r) ++ put ((sig.length : Nat) : Int) ++ sig), oB y1 (textR r), oB y4 (put (((textR r).length : Nat) : Int) ++ (textR r) ++ put ((sig.length : Nat) : Int) ++ sig)] := hH.addOwn hx hg ho
  clear ho hg
  clear hx
  refine lf_val (v := y4) (wantAll rfl) (rv_assign rfl (fr_eval rfl rfl)) ?_
  refine lf_nil ?_
  refine then_n ?_
  replace hH : Heap (newN w) w w9 [oBlk g1 (([.int .i64 r.t, .int .i64 r.c, .int .i64 r.s] : List Value) ++ (cBs r.h.1 ++ (cBs r.b.1 ++ ([v] : List Value)))) 61, oPen g2 y3 (put (((textR r).length : Nat) : Int) ++ (textR r) ++ put ((sig.length : Nat) : Int) ++ sig), oB y4 (put (((textR r).length : Nat) : Int) ++ (textR r) ++ put ((sig.length : Nat) : Int) ++ sig)] := hH.drop (.cons_cons _ (.cons_cons _ (.cons _ (.cons_cons _ .slnil))))
  refine wp_gen (fun F' => F' 0 = .agg (([.int .i64 r.t, .int .i64 r.c, .int .i64 r.s] : List Value) ++ (cBs r.h.1 ++ (cBs r.b.1 ++ ([v] : List Value)))).toArray ∧ F' 1 = .pointer (some ⟨g1, 0, none⟩) ∧ F' 2 = y4 ∧ F' 3 = .pointer (some ⟨g2, 0, none⟩)) ⟨e0, e1, rfl, e3⟩ ?_
  clear e0 e1 e2 e3
  clear F
  rintro F ⟨e0, e1, e2, e3⟩
  refine wp_ret ?_
  exact bodyPost_ret (v := y4) (res1 rfl (ro_tmp rfl e2)) rfl (⟨⟨_, rfl, hH.own (i := 2) rfl, hH.ge (i := 2) rfl⟩, hH.done⟩)

end Go.Proofs.Ytjgcjddaladgfaa
