/- Chapter 29's laws: the walks of NetNobody and NetPlays. -/
import Derived.Test.YtjgcjddaladgfaaNets2
import Derived.Test.YtjgcjddaladgfaaLitM
namespace Go.Proofs.Ytjgcjddaladgfaa
open Go.RowKit Go.Bz Go.Bz.Wire Go.Bz.Rcpt Go.Bz.Talk
attribute [local irreducible] wpList Code.wp wpAnyX
theorem Try.stMsgs : ST Try.prog 108 81 (.agg (cMg zMg).toArray) 239 376 := ⟨Try.underlying108, by kernel_rfl, rfl, by decide, by decide⟩
theorem stab_nil {N : Nat → Prop} {w : World} : Stab N w 1 (.slice none 0 0) 0 [] := ⟨fun _ _ => Rd.nil, fun k hk _ => by simp [Value.ownBlock] at hk⟩
theorem all1 {α : Type} {p : α → Prop} {x : α} (h : p x) : ∀ y ∈ [x], p y := fun y hy => by
  obtain rfl : y = x := by simpa using hy
  exact h
theorem all2 {α : Type} {p : α → Prop} {x x2 : α} (h : p x) (h2 : p x2) : ∀ y ∈ [x, x2], p y := fun y hy => by
  rcases List.mem_cons.1 hy with rfl | hy
  · exact h
  · exact all1 h2 y hy
theorem putK_len {s : St} {k : Int × List UInt8} {p : Prop} [Decidable p] (h : s.1.length ≤ 64) : (putK s k p).1.length ≤ 64 ∧ (putK s k p).2 ≤ s.2 + 1 := by
  unfold putK; split
  · exact ⟨by simp; omega, by simp⟩
  · exact ⟨h, Nat.le_refl _⟩
theorem put_len {ls l2 : List Lt} {lost lo2 : Nat} {k : Int × List UInt8} {p : Prop} [Decidable p] (hl : ls.length ≤ 64) (h : kst l2 lo2 = putK (kst ls lost) k p) : l2.length ≤ 64 ∧ lo2 ≤ lost + 1 := by
  have h1 := putK_len (s := kst ls lost) (k := k) (p := p) (by simpa using hl)
  rw [← h] at h1; simpa using h1
theorem sendK_len {ms : List Mg} : ∀ {s : St}, s.1.length ≤ 64 → (sendK s ms).1.length ≤ 64 ∧ (sendK s ms).2 ≤ s.2 + ms.length := by
  induction ms with
  | nil => intro s h; exact ⟨h, Nat.le_refl _⟩
  | cons x ms ih =>
    intro s h
    have h1 := putK_len (s := s) (k := (x.u.b, textM x.u x.bl x.sg)) (p := inM x.u) h
    have h2 := ih (s := stepK s x) h1.1
    have h3 : (stepK s x).2 ≤ s.2 + 1 := h1.2
    refine ⟨h2.1, Nat.le_trans h2.2 ?_⟩
    simp only [List.length_cons]; omega
theorem send_len {ls l2 : List Lt} {lost lo2 : Nat} {ms : List Mg} (hl : ls.length ≤ 64) (h : kst l2 lo2 = sendK (kst ls lost) ms) : l2.length ≤ 64 ∧ lo2 ≤ lost + ms.length := by
  have h1 := sendK_len (s := kst ls lost) (ms := ms) (by simpa using hl)
  rw [← h] at h1; simpa using h1
theorem send_ex {m0 m1 : Mg} {l : List Lt} {lo : Nat} (hk : kst l lo = sendK (kst [] 0) [m0, m1]) (h0 : ¬ inM m0.u) (h1 : inM m1.u) (h2 : m1.u.b = 2) : 1 = lo ∧ ∃ x : Lt, [x] = l ∧ x.to = 2 := by
  have e : sendK (kst [] 0) [m0, m1] = ([((2 : Int), textM m1.u m1.bl m1.sg)], 1) := by
    show stepK (stepK (kst [] 0) m0) m1 = _
    unfold stepK
    rw [putK_no (fun h => h0 h.1), putK_yes h1 (by simp [kst]), h2]; rfl
  rw [e] at hk
  have hl : kys l = [((2 : Int), textM m1.u m1.bl m1.sg)] := congrArg Prod.fst hk
  have ho : lo = 1 := congrArg Prod.snd hk
  have hn : l.length = 1 := by have := congrArg List.length hl; simpa using this
  obtain ⟨x, rfl⟩ := List.length_eq_one_iff.1 hn
  refine ⟨ho.symm, x, rfl, ?_⟩
  have := congrArg (fun q => q.head?.map Prod.fst) hl
  simpa [ky] using this
theorem for_ex {x : Lt} (h : x.to = 2) : (forK [x] 2 [x].length).length = 1 := by
  have e := forK_yes (ls := [x]) (z := 2) (n := 0) (by simpa using h)
  show (forK [x] 2 (0 + 1)).length = 1
  rw [← e]; rfl
theorem throw_ex {l l2 : List Lt} {lo lo2 : Nat} {a b : Int × List UInt8} {p q : Prop} [Decidable p] [Decidable q] (h1 : kst l lo = putK (kst [] 0) a p) (hp : ¬ p) (h2 : kst l2 lo2 = putK (kst l lo) b q) (hq : q) : l2.length = 1 ∧ lo2 = 1 := by
  rw [putK_no (fun h => hp h.1)] at h1
  rw [h1, putK_yes hq (by simp [kst])] at h2
  have ha : kys l2 = [b] := congrArg Prod.fst h2
  have hb : lo2 = 1 := congrArg Prod.snd h2
  exact ⟨by have := congrArg List.length ha; simpa using this, hb⟩

theorem zL9_l0 {a0 : Value} {a1 : Value} {a2 : Value} {a3 : Value} {a4 : Value} {a5 : Value} {a6 : List UInt8} (ha6 : a6.length = 32) {a7 : List UInt8} (ha7 : a7.length = 32) {a8 : Value} {a9 : List UInt8} (ha9 : a9.length = 32) {a10 : Value} {a11 : List UInt8} (ha11 : a11.length = 32) {a12 : Value} {a13 : Value} {a14 : List UInt8} (ha14 : a14.length = 32) {a15 : Value} {a16 : Value} {a17 : Value} {a18 : Value} {a19 : List UInt8} (ha19 : a19.length = 32) {a20 : List UInt8} (ha20 : a20.length = 32) {a21 : Value} : List.length (([a0, a1, a2, a3, a4, a5] : List Value) ++ (cBs a6 ++ (cBs a7 ++ (([a8] : List Value) ++ (cBs a9 ++ (([a10] : List Value) ++ (cBs a11 ++ (([a12, a13] : List Value) ++ (cBs a14 ++ (([a15, a16, a17, a18] : List Value) ++ (cBs a19 ++ (cBs a20 ++ ([a21] : List Value))))))))))))) = 239 := (len_app (m := 6) (n := 233) (k := 239) rfl (len_app (m := 32) (n := 201) (k := 233) (cBs_len ha6) (len_app (m := 32) (n := 169) (k := 201) (cBs_len ha7) (len_app (m := 1) (n := 168) (k := 169) rfl (len_app (m := 32) (n := 136) (k := 168) (cBs_len ha9) (len_app (m := 1) (n := 135) (k := 136) rfl (len_app (m := 32) (n := 103) (k := 135) (cBs_len ha11) (len_app (m := 2) (n := 101) (k := 103) rfl (len_app (m := 32) (n := 69) (k := 101) (cBs_len ha14) (len_app (m := 4) (n := 65) (k := 69) rfl (len_app (m := 32) (n := 33) (k := 65) (cBs_len ha19) (len_app (m := 32) (n := 1) (k := 33) (cBs_len ha20) rfl rfl) rfl) rfl) rfl) rfl) rfl) rfl) rfl) rfl) rfl) rfl) rfl)
theorem zL9_y1 {a0 : Value} {a1 : Value} {a2 : Value} {a3 : Value} {a4 : Value} {a5 : Value} {a6 : List UInt8} (_ : a6.length = 32) {a7 : List UInt8} (_ : a7.length = 32) {a8 : Value} {a9 : List UInt8} (_ : a9.length = 32) {a10 : Value} {a11 : List UInt8} (_ : a11.length = 32) {a12 : Value} {a13 : Value} {a14 : List UInt8} (_ : a14.length = 32) {a15 : Value} {a16 : Value} {a17 : Value} {a18 : Value} {a19 : List UInt8} (_ : a19.length = 32) {a20 : List UInt8} (_ : a20.length = 32) {a21 : Value} {n0 : Value} : lay (([a0, a1, a2, a3, a4, a5] : List Value) ++ (cBs a6 ++ (cBs a7 ++ (([a8] : List Value) ++ (cBs a9 ++ (([a10] : List Value) ++ (cBs a11 ++ (([a12, a13] : List Value) ++ (cBs a14 ++ (([a15, a16, a17, a18] : List Value) ++ (cBs a19 ++ (cBs a20 ++ ([a21] : List Value))))))))))))) 0 ([n0]) = ([n0, a1, a2, a3, a4, a5] : List Value) ++ (cBs a6 ++ (cBs a7 ++ (([a8] : List Value) ++ (cBs a9 ++ (([a10] : List Value) ++ (cBs a11 ++ (([a12, a13] : List Value) ++ (cBs a14 ++ (([a15, a16, a17, a18] : List Value) ++ (cBs a19 ++ (cBs a20 ++ ([a21] : List Value)))))))))))) := (show lay ([] ++ (([a0]) ++ (([a1, a2, a3, a4, a5] : List Value) ++ (cBs a6 ++ (cBs a7 ++ (([a8] : List Value) ++ (cBs a9 ++ (([a10] : List Value) ++ (cBs a11 ++ (([a12, a13] : List Value) ++ (cBs a14 ++ (([a15, a16, a17, a18] : List Value) ++ (cBs a19 ++ (cBs a20 ++ ([a21] : List Value))))))))))))))) 0 ([n0]) = [] ++ (([n0]) ++ (([a1, a2, a3, a4, a5] : List Value) ++ (cBs a6 ++ (cBs a7 ++ (([a8] : List Value) ++ (cBs a9 ++ (([a10] : List Value) ++ (cBs a11 ++ (([a12, a13] : List Value) ++ (cBs a14 ++ (([a15, a16, a17, a18] : List Value) ++ (cBs a19 ++ (cBs a20 ++ ([a21] : List Value)))))))))))))) from lay_app (show List.length ([] : List Value) = 0 from rfl) ((show List.length [a0] = 1 from rfl).trans (show List.length [n0] = 1 from rfl).symm))
theorem zL9_y2 {a0 : Value} {a1 : Value} {a2 : Value} {a3 : Value} {a4 : Value} {a5 : Value} {a6 : List UInt8} (_ : a6.length = 32) {a7 : List UInt8} (_ : a7.length = 32) {a8 : Value} {a9 : List UInt8} (_ : a9.length = 32) {a10 : Value} {a11 : List UInt8} (_ : a11.length = 32) {a12 : Value} {a13 : Value} {a14 : List UInt8} (_ : a14.length = 32) {a15 : Value} {a16 : Value} {a17 : Value} {a18 : Value} {a19 : List UInt8} (_ : a19.length = 32) {a20 : List UInt8} (_ : a20.length = 32) {a21 : Value} {n0 : Value} : lay (([a0, a1, a2, a3, a4, a5] : List Value) ++ (cBs a6 ++ (cBs a7 ++ (([a8] : List Value) ++ (cBs a9 ++ (([a10] : List Value) ++ (cBs a11 ++ (([a12, a13] : List Value) ++ (cBs a14 ++ (([a15, a16, a17, a18] : List Value) ++ (cBs a19 ++ (cBs a20 ++ ([a21] : List Value))))))))))))) 1 ([n0]) = ([a0, n0, a2, a3, a4, a5] : List Value) ++ (cBs a6 ++ (cBs a7 ++ (([a8] : List Value) ++ (cBs a9 ++ (([a10] : List Value) ++ (cBs a11 ++ (([a12, a13] : List Value) ++ (cBs a14 ++ (([a15, a16, a17, a18] : List Value) ++ (cBs a19 ++ (cBs a20 ++ ([a21] : List Value)))))))))))) := (show lay ([a0] ++ (([a1]) ++ (([a2, a3, a4, a5] : List Value) ++ (cBs a6 ++ (cBs a7 ++ (([a8] : List Value) ++ (cBs a9 ++ (([a10] : List Value) ++ (cBs a11 ++ (([a12, a13] : List Value) ++ (cBs a14 ++ (([a15, a16, a17, a18] : List Value) ++ (cBs a19 ++ (cBs a20 ++ ([a21] : List Value))))))))))))))) 1 ([n0]) = [a0] ++ (([n0]) ++ (([a2, a3, a4, a5] : List Value) ++ (cBs a6 ++ (cBs a7 ++ (([a8] : List Value) ++ (cBs a9 ++ (([a10] : List Value) ++ (cBs a11 ++ (([a12, a13] : List Value) ++ (cBs a14 ++ (([a15, a16, a17, a18] : List Value) ++ (cBs a19 ++ (cBs a20 ++ ([a21] : List Value)))))))))))))) from lay_app (show List.length [a0] = 1 from rfl) ((show List.length [a1] = 1 from rfl).trans (show List.length [n0] = 1 from rfl).symm))
theorem zL9_y3 {a0 : Value} {a1 : Value} {a2 : Value} {a3 : Value} {a4 : Value} {a5 : Value} {a6 : List UInt8} (_ : a6.length = 32) {a7 : List UInt8} (_ : a7.length = 32) {a8 : Value} {a9 : List UInt8} (_ : a9.length = 32) {a10 : Value} {a11 : List UInt8} (_ : a11.length = 32) {a12 : Value} {a13 : Value} {a14 : List UInt8} (_ : a14.length = 32) {a15 : Value} {a16 : Value} {a17 : Value} {a18 : Value} {a19 : List UInt8} (_ : a19.length = 32) {a20 : List UInt8} (_ : a20.length = 32) {a21 : Value} {n0 : Value} : lay (([a0, a1, a2, a3, a4, a5] : List Value) ++ (cBs a6 ++ (cBs a7 ++ (([a8] : List Value) ++ (cBs a9 ++ (([a10] : List Value) ++ (cBs a11 ++ (([a12, a13] : List Value) ++ (cBs a14 ++ (([a15, a16, a17, a18] : List Value) ++ (cBs a19 ++ (cBs a20 ++ ([a21] : List Value))))))))))))) 2 ([n0]) = ([a0, a1, n0, a3, a4, a5] : List Value) ++ (cBs a6 ++ (cBs a7 ++ (([a8] : List Value) ++ (cBs a9 ++ (([a10] : List Value) ++ (cBs a11 ++ (([a12, a13] : List Value) ++ (cBs a14 ++ (([a15, a16, a17, a18] : List Value) ++ (cBs a19 ++ (cBs a20 ++ ([a21] : List Value)))))))))))) := (show lay ([a0, a1] ++ (([a2]) ++ (([a3, a4, a5] : List Value) ++ (cBs a6 ++ (cBs a7 ++ (([a8] : List Value) ++ (cBs a9 ++ (([a10] : List Value) ++ (cBs a11 ++ (([a12, a13] : List Value) ++ (cBs a14 ++ (([a15, a16, a17, a18] : List Value) ++ (cBs a19 ++ (cBs a20 ++ ([a21] : List Value))))))))))))))) 2 ([n0]) = [a0, a1] ++ (([n0]) ++ (([a3, a4, a5] : List Value) ++ (cBs a6 ++ (cBs a7 ++ (([a8] : List Value) ++ (cBs a9 ++ (([a10] : List Value) ++ (cBs a11 ++ (([a12, a13] : List Value) ++ (cBs a14 ++ (([a15, a16, a17, a18] : List Value) ++ (cBs a19 ++ (cBs a20 ++ ([a21] : List Value)))))))))))))) from lay_app (show List.length [a0, a1] = 2 from rfl) ((show List.length [a2] = 1 from rfl).trans (show List.length [n0] = 1 from rfl).symm))
set_option maxRecDepth 100000 in
set_option maxHeartbeats 4000000 in
theorem awake29_calls (w : World) :
    Calls Try.prog 44 #[] w fun e'' w' => e'' = .returned (.bool true) ∧ Ext w w' := by
  refine calls_fr (args := []) (n := 25) Try.func44 rfl rfl (show 0 ≤ 25 by decide) ?_
  have hZ : ∀ k, newN w k → ¬ (fun _ : Nat => False) k := fun _ _ h => h
  have h00 : ([] : List Lt).length = 0 := rfl
  have hH : Heap (newN w) w w [] := Heap.fresh
  refine wp_seq ?_
  refine wp_gen (fun F' => True) trivial ?_
  rintro F _
  refine wp_regionF ?_
  refine lf_val (v := .bool false) (wantAll rfl) (rv_assign rfl rfl) ?_
  refine lf_nil ?_
  refine then_n ?_
  refine wp_seq ?_
  refine wp_gen (fun F' => F' 0 = .bool false) rfl ?_
  clear F
  rintro F e0
  refine wp_regionF ?_
  refine lf_val (v := .agg #[.slice none 0 0, .int .i64 0]) (wantAll rfl) (rv_buildS (ps := []) (places := #[(0, 1), (1, 1)]) (z := .agg #[.slice none 0 0, .int .i64 0]) (zc := [.slice none 0 0, .int .i64 0]) (cs := [.slice none 0 0, .int .i64 0]) rfl evpn (by kernel_rfl) rfl Try.underlying69 (fun _ => by kernel_rfl) fill0) ?_
  refine lf_ex (wantAll rfl) (hx_box hH 69 (cs := [.slice none 0 0, .int .i64 0]) rfl (fr_eval rfl rfl) (by rfl)) ?_
  clear hH
  rintro _ w1 ⟨g1, rfl, hH, hx⟩
  replace hH : Heap _ _ _ [_] := hH
  clear hx
  refine lf_val (v := .pointer (some ⟨g1, 0, none⟩)) (wantAll rfl) (rv_assign rfl (fr_eval rfl rfl)) ?_
  refine lf_nil ?_
  refine then_n ?_
  refine wp_seq ?_
  refine wp_gen (fun F' => F' 0 = .bool false ∧ F' 1 = .pointer (some ⟨g1, 0, none⟩)) ⟨e0, rfl⟩ ?_
  clear e0
  clear F
  rintro F ⟨e0, e1⟩
  replace hH : Heap _ _ _ [_, _] := hH.addNil 87 2
  replace hH : Heap (newN w) w w1 [oBlk g1 ([(.slice none 0 0), .int .i64 0]) 69, oRow cLt 87 2 (.slice none 0 0) [], oBag (fun _ => False) (fun _ => False) []] := hH.addBag0 (fun _ => False)
  replace hH : Heap (newN w) w w1 [oBlk g1 ([(.slice none 0 0), .int .i64 ((0 : Nat) : Int)]) 69, oRow cLt 87 2 (.slice none 0 0) [], oBag (fun _ => False) (fun _ => False) []] := hH
  refine wp_regionF ?_
  refine lf_val (v := .pointer (some ⟨g1, 0, none⟩)) (wantAll rfl) (rv_move rfl (fr_eval rfl e1)) ?_
  refine lf_val (wantAll rfl) (rv_buildS (ps := []) (places := #[(0, 1), (1, 1), (2, 1), (3, 67), (70, 33), (103, 1), (104, 32), (136, 35), (171, 68)]) (z := .agg (([.int .i64 0, .int .i64 0, .int .i64 0, .int .i64 0, .int .i64 0, .int .i64 0] : List Value) ++ (cBs (List.replicate 32 0) ++ (cBs (List.replicate 32 0) ++ (([.int .i64 0] : List Value) ++ (cBs (List.replicate 32 0) ++ (([.int .i64 0] : List Value) ++ (cBs (List.replicate 32 0) ++ (([.int .i64 0, .int .i64 0] : List Value) ++ (cBs (List.replicate 32 0) ++ (([.slice none 0 0, .int .i64 0, .int .i64 0, .int .i64 0] : List Value) ++ (cBs (List.replicate 32 0) ++ (cBs (List.replicate 32 0) ++ ([.slice none 0 0] : List Value))))))))))))).toArray) (zc := ([.int .i64 0, .int .i64 0, .int .i64 0, .int .i64 0, .int .i64 0, .int .i64 0] : List Value) ++ (cBs (List.replicate 32 0) ++ (cBs (List.replicate 32 0) ++ (([.int .i64 0] : List Value) ++ (cBs (List.replicate 32 0) ++ (([.int .i64 0] : List Value) ++ (cBs (List.replicate 32 0) ++ (([.int .i64 0, .int .i64 0] : List Value) ++ (cBs (List.replicate 32 0) ++ (([.slice none 0 0, .int .i64 0, .int .i64 0, .int .i64 0] : List Value) ++ (cBs (List.replicate 32 0) ++ (cBs (List.replicate 32 0) ++ ([.slice none 0 0] : List Value))))))))))))) (cs := ([.int .i64 0, .int .i64 0, .int .i64 0, .int .i64 0, .int .i64 0, .int .i64 0] : List Value) ++ (cBs (List.replicate 32 0) ++ (cBs (List.replicate 32 0) ++ (([.int .i64 0] : List Value) ++ (cBs (List.replicate 32 0) ++ (([.int .i64 0] : List Value) ++ (cBs (List.replicate 32 0) ++ (([.int .i64 0, .int .i64 0] : List Value) ++ (cBs (List.replicate 32 0) ++ (([.slice none 0 0, .int .i64 0, .int .i64 0, .int .i64 0] : List Value) ++ (cBs (List.replicate 32 0) ++ (cBs (List.replicate 32 0) ++ ([.slice none 0 0] : List Value))))))))))))) rfl evpn (by kernel_rfl) rfl Try.underlying81 (fun _ => by kernel_rfl) fill0) ?_
  refine lf_val (wantAll rfl) (rv_buildS (ps := [(0, (.const (.int .i64 3))), (1, (.const (.int .i64 1))), (2, (.const (.int .i64 2)))]) (places := #[(0, 1), (1, 1), (2, 1), (3, 67), (70, 33), (103, 1), (104, 32), (136, 35), (171, 68)]) (z := .agg (([.int .i64 0, .int .i64 0, .int .i64 0, .int .i64 0, .int .i64 0, .int .i64 0] : List Value) ++ (cBs (List.replicate 32 0) ++ (cBs (List.replicate 32 0) ++ (([.int .i64 0] : List Value) ++ (cBs (List.replicate 32 0) ++ (([.int .i64 0] : List Value) ++ (cBs (List.replicate 32 0) ++ (([.int .i64 0, .int .i64 0] : List Value) ++ (cBs (List.replicate 32 0) ++ (([.slice none 0 0, .int .i64 0, .int .i64 0, .int .i64 0] : List Value) ++ (cBs (List.replicate 32 0) ++ (cBs (List.replicate 32 0) ++ ([.slice none 0 0] : List Value))))))))))))).toArray) (zc := ([.int .i64 0, .int .i64 0, .int .i64 0, .int .i64 0, .int .i64 0, .int .i64 0] : List Value) ++ (cBs (List.replicate 32 0) ++ (cBs (List.replicate 32 0) ++ (([.int .i64 0] : List Value) ++ (cBs (List.replicate 32 0) ++ (([.int .i64 0] : List Value) ++ (cBs (List.replicate 32 0) ++ (([.int .i64 0, .int .i64 0] : List Value) ++ (cBs (List.replicate 32 0) ++ (([.slice none 0 0, .int .i64 0, .int .i64 0, .int .i64 0] : List Value) ++ (cBs (List.replicate 32 0) ++ (cBs (List.replicate 32 0) ++ ([.slice none 0 0] : List Value))))))))))))) (cs := ([.int .i64 3, .int .i64 1, .int .i64 2, .int .i64 0, .int .i64 0, .int .i64 0] : List Value) ++ (cBs (List.replicate 32 0) ++ (cBs (List.replicate 32 0) ++ (([.int .i64 0] : List Value) ++ (cBs (List.replicate 32 0) ++ (([.int .i64 0] : List Value) ++ (cBs (List.replicate 32 0) ++ (([.int .i64 0, .int .i64 0] : List Value) ++ (cBs (List.replicate 32 0) ++ (([.slice none 0 0, .int .i64 0, .int .i64 0, .int .i64 0] : List Value) ++ (cBs (List.replicate 32 0) ++ (cBs (List.replicate 32 0) ++ ([.slice none 0 0] : List Value))))))))))))) rfl (evpc rfl (evpc rfl (evpc rfl evpn))) (by kernel_rfl) rfl Try.underlying81 (fun _ => by kernel_rfl) (fillM (cells' := _) (cs := [.int .i64 3]) (off := 0) (n := 1) rfl (cells_one rfl) (show List.length [.int .i64 3] = 1 from rfl) (le_of_len2 (zL9_l0 (List.length_replicate ..) (List.length_replicate ..) (List.length_replicate ..) (List.length_replicate ..) (List.length_replicate ..) (List.length_replicate ..) (List.length_replicate ..)) (by decide)) (zL9_y1 (List.length_replicate ..) (List.length_replicate ..) (List.length_replicate ..) (List.length_replicate ..) (List.length_replicate ..) (List.length_replicate ..) (List.length_replicate ..)) (fillM (cells' := _) (cs := [.int .i64 1]) (off := 1) (n := 1) rfl (cells_one rfl) (show List.length [.int .i64 1] = 1 from rfl) (le_of_len2 (zL9_l0 (List.length_replicate ..) (List.length_replicate ..) (List.length_replicate ..) (List.length_replicate ..) (List.length_replicate ..) (List.length_replicate ..) (List.length_replicate ..)) (by decide)) (zL9_y2 (List.length_replicate ..) (List.length_replicate ..) (List.length_replicate ..) (List.length_replicate ..) (List.length_replicate ..) (List.length_replicate ..) (List.length_replicate ..)) (fillM (cells' := _) (cs := [.int .i64 2]) (off := 2) (n := 1) rfl (cells_one rfl) (show List.length [.int .i64 2] = 1 from rfl) (le_of_len2 (zL9_l0 (List.length_replicate ..) (List.length_replicate ..) (List.length_replicate ..) (List.length_replicate ..) (List.length_replicate ..) (List.length_replicate ..) (List.length_replicate ..)) (by decide)) (zL9_y3 (List.length_replicate ..) (List.length_replicate ..) (List.length_replicate ..) (List.length_replicate ..) (List.length_replicate ..) (List.length_replicate ..) (List.length_replicate ..)) fill0)))) ?_
  refine lf_ex (wantAll rfl) (hx_litM hH Try.stMsgs (n := 2) (nm := List.length [(⟨(⟨0, 0, 0, 0, 0, 0, ⟨List.replicate 32 0, (List.length_replicate ..)⟩, ⟨List.replicate 32 0, (List.length_replicate ..)⟩, 0, ⟨List.replicate 32 0, (List.length_replicate ..)⟩, 0, ⟨List.replicate 32 0, (List.length_replicate ..)⟩, 0, 0, ⟨List.replicate 32 0, (List.length_replicate ..)⟩, (⟨0, 0, 0, ⟨List.replicate 32 0, (List.length_replicate ..)⟩, ⟨List.replicate 32 0, (List.length_replicate ..)⟩⟩ : Rc)⟩ : Ms), ⟨.slice none 0 0, rfl⟩, ⟨.slice none 0 0, rfl⟩, [], []⟩ : Mg), (⟨(⟨3, 1, 2, 0, 0, 0, ⟨List.replicate 32 0, (List.length_replicate ..)⟩, ⟨List.replicate 32 0, (List.length_replicate ..)⟩, 0, ⟨List.replicate 32 0, (List.length_replicate ..)⟩, 0, ⟨List.replicate 32 0, (List.length_replicate ..)⟩, 0, 0, ⟨List.replicate 32 0, (List.length_replicate ..)⟩, (⟨0, 0, 0, ⟨List.replicate 32 0, (List.length_replicate ..)⟩, ⟨List.replicate 32 0, (List.length_replicate ..)⟩⟩ : Rc)⟩ : Ms), ⟨.slice none 0 0, rfl⟩, ⟨.slice none 0 0, rfl⟩, [], []⟩ : Mg)]) [(.tmp 5), (.tmp 6)] (vs := [.agg (([.int .i64 0, .int .i64 0, .int .i64 0, .int .i64 0, .int .i64 0, .int .i64 0] : List Value) ++ (cBs (List.replicate 32 0) ++ (cBs (List.replicate 32 0) ++ (([.int .i64 0] : List Value) ++ (cBs (List.replicate 32 0) ++ (([.int .i64 0] : List Value) ++ (cBs (List.replicate 32 0) ++ (([.int .i64 0, .int .i64 0] : List Value) ++ (cBs (List.replicate 32 0) ++ (([.slice none 0 0, .int .i64 0, .int .i64 0, .int .i64 0] : List Value) ++ (cBs (List.replicate 32 0) ++ (cBs (List.replicate 32 0) ++ ([.slice none 0 0] : List Value))))))))))))).toArray, .agg (([.int .i64 3, .int .i64 1, .int .i64 2, .int .i64 0, .int .i64 0, .int .i64 0] : List Value) ++ (cBs (List.replicate 32 0) ++ (cBs (List.replicate 32 0) ++ (([.int .i64 0] : List Value) ++ (cBs (List.replicate 32 0) ++ (([.int .i64 0] : List Value) ++ (cBs (List.replicate 32 0) ++ (([.int .i64 0, .int .i64 0] : List Value) ++ (cBs (List.replicate 32 0) ++ (([.slice none 0 0, .int .i64 0, .int .i64 0, .int .i64 0] : List Value) ++ (cBs (List.replicate 32 0) ++ (cBs (List.replicate 32 0) ++ ([.slice none 0 0] : List Value))))))))))))).toArray]) (css := [cMg (⟨(⟨0, 0, 0, 0, 0, 0, ⟨List.replicate 32 0, (List.length_replicate ..)⟩, ⟨List.replicate 32 0, (List.length_replicate ..)⟩, 0, ⟨List.replicate 32 0, (List.length_replicate ..)⟩, 0, ⟨List.replicate 32 0, (List.length_replicate ..)⟩, 0, 0, ⟨List.replicate 32 0, (List.length_replicate ..)⟩, (⟨0, 0, 0, ⟨List.replicate 32 0, (List.length_replicate ..)⟩, ⟨List.replicate 32 0, (List.length_replicate ..)⟩⟩ : Rc)⟩ : Ms), ⟨.slice none 0 0, rfl⟩, ⟨.slice none 0 0, rfl⟩, [], []⟩ : Mg), cMg (⟨(⟨3, 1, 2, 0, 0, 0, ⟨List.replicate 32 0, (List.length_replicate ..)⟩, ⟨List.replicate 32 0, (List.length_replicate ..)⟩, 0, ⟨List.replicate 32 0, (List.length_replicate ..)⟩, 0, ⟨List.replicate 32 0, (List.length_replicate ..)⟩, 0, 0, ⟨List.replicate 32 0, (List.length_replicate ..)⟩, (⟨0, 0, 0, ⟨List.replicate 32 0, (List.length_replicate ..)⟩, ⟨List.replicate 32 0, (List.length_replicate ..)⟩⟩ : Rc)⟩ : Ms), ⟨.slice none 0 0, rfl⟩, ⟨.slice none 0 0, rfl⟩, [], []⟩ : Mg)]) (cs := List.flatMap cMg [(⟨(⟨0, 0, 0, 0, 0, 0, ⟨List.replicate 32 0, (List.length_replicate ..)⟩, ⟨List.replicate 32 0, (List.length_replicate ..)⟩, 0, ⟨List.replicate 32 0, (List.length_replicate ..)⟩, 0, ⟨List.replicate 32 0, (List.length_replicate ..)⟩, 0, 0, ⟨List.replicate 32 0, (List.length_replicate ..)⟩, (⟨0, 0, 0, ⟨List.replicate 32 0, (List.length_replicate ..)⟩, ⟨List.replicate 32 0, (List.length_replicate ..)⟩⟩ : Rc)⟩ : Ms), ⟨.slice none 0 0, rfl⟩, ⟨.slice none 0 0, rfl⟩, [], []⟩ : Mg), (⟨(⟨3, 1, 2, 0, 0, 0, ⟨List.replicate 32 0, (List.length_replicate ..)⟩, ⟨List.replicate 32 0, (List.length_replicate ..)⟩, 0, ⟨List.replicate 32 0, (List.length_replicate ..)⟩, 0, ⟨List.replicate 32 0, (List.length_replicate ..)⟩, 0, 0, ⟨List.replicate 32 0, (List.length_replicate ..)⟩, (⟨0, 0, 0, ⟨List.replicate 32 0, (List.length_replicate ..)⟩, ⟨List.replicate 32 0, (List.length_replicate ..)⟩⟩ : Rc)⟩ : Ms), ⟨.slice none 0 0, rfl⟩, ⟨.slice none 0 0, rfl⟩, [], []⟩ : Mg)]) rfl (evc (fr_eval rfl rfl) (evc (fr_eval rfl rfl) evn)) (.cons (cells_agg _) (cMg_ln (⟨(⟨0, 0, 0, 0, 0, 0, ⟨List.replicate 32 0, (List.length_replicate ..)⟩, ⟨List.replicate 32 0, (List.length_replicate ..)⟩, 0, ⟨List.replicate 32 0, (List.length_replicate ..)⟩, 0, ⟨List.replicate 32 0, (List.length_replicate ..)⟩, 0, 0, ⟨List.replicate 32 0, (List.length_replicate ..)⟩, (⟨0, 0, 0, ⟨List.replicate 32 0, (List.length_replicate ..)⟩, ⟨List.replicate 32 0, (List.length_replicate ..)⟩⟩ : Rc)⟩ : Ms), ⟨.slice none 0 0, rfl⟩, ⟨.slice none 0 0, rfl⟩, [], []⟩ : Mg)) (.cons (cells_agg _) (cMg_ln (⟨(⟨3, 1, 2, 0, 0, 0, ⟨List.replicate 32 0, (List.length_replicate ..)⟩, ⟨List.replicate 32 0, (List.length_replicate ..)⟩, 0, ⟨List.replicate 32 0, (List.length_replicate ..)⟩, 0, ⟨List.replicate 32 0, (List.length_replicate ..)⟩, 0, 0, ⟨List.replicate 32 0, (List.length_replicate ..)⟩, (⟨0, 0, 0, ⟨List.replicate 32 0, (List.length_replicate ..)⟩, ⟨List.replicate 32 0, (List.length_replicate ..)⟩⟩ : Rc)⟩ : Ms), ⟨.slice none 0 0, rfl⟩, ⟨.slice none 0 0, rfl⟩, [], []⟩ : Mg)) .nil)) rfl (by decide) rfl rfl) ?_
  clear hH
  rintro y1 w2 ⟨hH, hx⟩
  replace hH : Heap _ _ _ [_, _, _, _] := hH
  clear hx
  replace hH : Heap _ _ _ [_, _, _, _] := hH.perm (.trans (.swap _ _ _) (.cons _ (.trans (.swap _ _ _) (.cons _ (.trans (.swap _ _ _) (.cons _ (.refl _)))))))
  refine lf_call (wantAll rfl) (rv_call (args := [.pointer (some ⟨g1, 0, none⟩), y1]) rfl (evc (fr_eval rfl rfl) (evc (fr_eval rfl rfl) evn)) Try.call45) (netSend_calls (Heap.partZ (L := [_]) (M := [_, _, _]) hH hZ) [] (by omega) 0 (by omega) ([(⟨(⟨0, 0, 0, 0, 0, 0, ⟨List.replicate 32 0, (List.length_replicate ..)⟩, ⟨List.replicate 32 0, (List.length_replicate ..)⟩, 0, ⟨List.replicate 32 0, (List.length_replicate ..)⟩, 0, ⟨List.replicate 32 0, (List.length_replicate ..)⟩, 0, 0, ⟨List.replicate 32 0, (List.length_replicate ..)⟩, (⟨0, 0, 0, ⟨List.replicate 32 0, (List.length_replicate ..)⟩, ⟨List.replicate 32 0, (List.length_replicate ..)⟩⟩ : Rc)⟩ : Ms), ⟨.slice none 0 0, rfl⟩, ⟨.slice none 0 0, rfl⟩, [], []⟩ : Mg), (⟨(⟨3, 1, 2, 0, 0, 0, ⟨List.replicate 32 0, (List.length_replicate ..)⟩, ⟨List.replicate 32 0, (List.length_replicate ..)⟩, 0, ⟨List.replicate 32 0, (List.length_replicate ..)⟩, 0, ⟨List.replicate 32 0, (List.length_replicate ..)⟩, 0, 0, ⟨List.replicate 32 0, (List.length_replicate ..)⟩, (⟨0, 0, 0, ⟨List.replicate 32 0, (List.length_replicate ..)⟩, ⟨List.replicate 32 0, (List.length_replicate ..)⟩⟩ : Rc)⟩ : Ms), ⟨.slice none 0 0, rfl⟩, ⟨.slice none 0 0, rfl⟩, [], []⟩ : Mg)]) (by simp) (all2 ⟨(by unfold inMs inRc inI; refine ⟨⟨?_, ?_⟩, ⟨?_, ?_⟩, ⟨?_, ?_⟩, ⟨?_, ?_⟩, ⟨?_, ?_⟩, ⟨?_, ?_⟩, ⟨?_, ?_⟩, ⟨?_, ?_⟩, ⟨?_, ?_⟩, ⟨?_, ?_⟩, ⟨?_, ?_⟩, ⟨?_, ?_⟩, ⟨?_, ?_⟩⟩ <;> decide), by decide, by decide⟩ ⟨(by unfold inMs inRc inI; refine ⟨⟨?_, ?_⟩, ⟨?_, ?_⟩, ⟨?_, ?_⟩, ⟨?_, ?_⟩, ⟨?_, ?_⟩, ⟨?_, ?_⟩, ⟨?_, ?_⟩, ⟨?_, ?_⟩, ⟨?_, ?_⟩, ⟨?_, ?_⟩, ⟨?_, ?_⟩, ⟨?_, ?_⟩, ⟨?_, ?_⟩⟩ <;> decide), by decide, by decide⟩) _ (Heap.rowStab (L := [_]) (M := [_, _, _]) hH (i := 0) rfl (row_one cMg_one)) (all2 ⟨stab_nil, stab_nil⟩ ⟨stab_nil, stab_nil⟩) (Heap.part (L := [_]) (M := [_, _, _]) hH)) ?_
  rintro _ w3 ⟨y2, ls1, lo1, S1, rfl, hk1, hP⟩
  refine ⟨_, rfl, ?_⟩
  have hx := hH.callChg (L := [_]) (M := [_, _, _]) (fun _ h => h) hP
  replace hH : Heap _ _ _ [_, _, _, _] := hH.call (L := [_]) (M := [_, _, _]) (fun _ h => h) hP (Stays.blk (hP.blk (i := 0) rfl) (Stays.own (hP.own (i := 1) rfl) (Stays.bag hZ (hP.bag (i := 2) rfl) Stays.nil)))
  clear hP
  clear hx
  obtain ⟨hll1, hlo1⟩ := send_len (by omega) hk1
  refine lf_nil ?_
  refine then_n ?_
  refine wp_seq ?_
  replace hH : Heap _ _ _ [_, _, _] := hH.drop (.cons _ (.cons_cons _ (.cons_cons _ (.cons_cons _ .slnil))))
  refine wp_gen (fun F' => F' 0 = .bool false ∧ F' 1 = .pointer (some ⟨g1, 0, none⟩)) ⟨e0, e1⟩ ?_
  clear e0 e1
  clear F
  rintro F ⟨e0, e1⟩
  obtain ⟨rfl, x0, rfl, hx0⟩ := send_ex hk1 (by unfold inM; decide) (by unfold inM; decide) rfl
  have hq1 : [x0].length = 1 := rfl
  have hq2 := for_ex hx0
  refine wp_regionF ?_
  refine lf_val (v := .pointer (some ⟨g1, 0, none⟩)) (wantAll rfl) (rv_move rfl (fr_eval rfl e1)) ?_
  refine lf_call (wantAll rfl) (rv_call (args := [.pointer (some ⟨g1, 0, none⟩)]) rfl (evc (fr_eval rfl rfl) evn) Try.call41) (netLost_calls [x0] 1 _ (hH.blk (i := 0) rfl) (Own.rd (hH.own (i := 1) rfl) (row_one cLt_one))) ?_
  rintro _ w4 ⟨rfl, hx⟩
  refine ⟨_, rfl, ?_⟩
  replace hH := hH.ext hx
  clear hx
  refine lf_val (v := .bool true) (wantAll rfl) (rv_known (rv_eqlP (p := True) rfl (fr_eval rfl rfl) rfl (by simp)) (decide_eq_true trivial)) ?_
  refine lf_val (v := .bool true) (wantAll rfl) (rv_move rfl (fr_eval rfl rfl)) ?_
  refine lf_val (v := .pointer (some ⟨g1, 0, none⟩)) (wantF (d := 12) rfl (by kernel_rfl) rfl rfl) (rv_move rfl (fr_eval rfl e1)) ?_
  refine lf_call (wantF (d := 12) rfl (by kernel_rfl) rfl rfl) (rv_call (args := [.pointer (some ⟨g1, 0, none⟩)]) rfl (evc (fr_eval rfl rfl) evn) Try.call40) (netLen_calls [x0] 1 _ (hH.blk (i := 0) rfl) (Own.rd (hH.own (i := 1) rfl) (row_one cLt_one))) ?_
  rintro _ w5 ⟨rfl, hx⟩
  refine ⟨_, rfl, ?_⟩
  replace hH := hH.ext hx
  clear hx
  refine lf_val (v := .bool (decide ([x0].length = 1))) (wantF (d := 12) rfl (by kernel_rfl) rfl rfl) (rv_eqlP (p := [x0].length = 1) rfl (fr_eval rfl rfl) rfl (by omega)) ?_
  refine lf_val (v := .bool (decide ([x0].length = 1))) (wantAll rfl) (rv_pickT rfl (fr_eval rfl rfl) (fr_eval rfl rfl)) ?_
  refine lf_val (v := .bool (decide ([x0].length = 1))) (wantAll rfl) (rv_move rfl (fr_eval rfl rfl)) ?_
  refine lf_join (fun F' w' => F' 0 = .bool false ∧ F' 1 = .pointer (some ⟨g1, 0, none⟩) ∧ F' 22 = .bool (decide (([x0].length = 1) ∧ ((forK [x0] 2 [x0].length).length = 1))) ∧ Heap (newN w) w w' [oBlk g1 ([y2, .int .i64 ((1 : Nat) : Int)]) 69, oRow cLt 87 2 y2 [x0], oBag (fun _ => False) S1 [x0]]) 5 (fun hk => ?_) ?_
  · by_cases hc1 : [x0].length = 1
    · refine lf_val (v := .pointer (some ⟨g1, 0, none⟩)) (wantF (d := 17) rfl (by kernel_rfl) rfl (congrArg Value.bool (decide_eq_true hc1))) (rv_move rfl (fr_eval rfl e1)) ?_
      refine lf_call (wantF (d := 17) rfl (by kernel_rfl) rfl (congrArg Value.bool (decide_eq_true hc1))) (rv_call (args := [.pointer (some ⟨g1, 0, none⟩), .int .i64 2]) rfl (evc (fr_eval rfl rfl) (evc rfl evn)) Try.call42) (netFor_calls [x0] (by omega) 1 2 _ (hH.blk (i := 0) rfl) (Own.rd (hH.own (i := 1) rfl) (row_one cLt_one))) ?_
      rintro _ w6 ⟨⟨y3, rfl, ho, hg⟩, hx⟩
      refine ⟨_, rfl, ?_⟩
      replace hH : Heap _ _ _ [_, _, _, _] := hH.addOwn hx hg ho
      clear ho hg
      clear hx
      refine lf_val (v := .int .i64 (((forK [x0] 2 [x0].length).length : Nat) : Int)) (wantF (d := 17) rfl (by kernel_rfl) rfl (congrArg Value.bool (decide_eq_true hc1))) (rv_len rfl (fr_eval rfl rfl) (Own.rd (hH.own (i := 3) rfl) (row_one cNu_one)) Try.underlying48) ?_
      refine lf_val (v := .bool (decide ((forK [x0] 2 [x0].length).length = 1))) (wantF (d := 17) rfl (by kernel_rfl) rfl (congrArg Value.bool (decide_eq_true hc1))) (rv_eqlP (p := (forK [x0] 2 [x0].length).length = 1) rfl (fr_eval rfl rfl) rfl (by omega)) ?_
      refine lf_val (v := .bool (decide ((forK [x0] 2 [x0].length).length = 1))) (wantAll rfl) (rv_pickT rfl (fr_eval rfl (congrArg Value.bool (decide_eq_true hc1))) (fr_eval rfl rfl)) ?_
      replace hH : Heap _ _ _ [_, _, _] := hH.drop (.cons_cons _ (.cons_cons _ (.cons_cons _ (.cons _ .slnil))))
      exact hk _ _ ⟨e0, e1, (congrArg Value.bool (dec_and hc1)), hH⟩
    · refine lf_not (wantNot (d := 17) rfl (by kernel_rfl) rfl (congrArg Value.bool (decide_eq_false hc1))) ?_
      refine lf_not (wantNot (d := 17) rfl (by kernel_rfl) rfl (congrArg Value.bool (decide_eq_false hc1))) ?_
      refine lf_not (wantNot (d := 17) rfl (by kernel_rfl) rfl (congrArg Value.bool (decide_eq_false hc1))) ?_
      refine lf_not (wantNot (d := 17) rfl (by kernel_rfl) rfl (congrArg Value.bool (decide_eq_false hc1))) ?_
      refine lf_val (v := .bool false) (wantAll rfl) (rv_pickF rfl (fr_eval rfl (congrArg Value.bool (decide_eq_false hc1))) rfl) ?_
      exact hk _ _ ⟨e0, e1, (congrArg Value.bool (dec_andF hc1)), hH⟩
  · clear e0 e1 hH
    clear F
    rintro F w7 ⟨e0, e1, e22, hH⟩
    refine lf_val (wantAll rfl) (rv_move rfl (fr_eval rfl e22)) ?_
    refine lf_val (v := .bool (decide (([x0].length = 1) ∧ ((forK [x0] 2 [x0].length).length = 1)))) (wantAll rfl) (rv_pickB rfl (fr_eval rfl rfl) rfl rfl) ?_
    refine lf_val (v := .bool (decide (([x0].length = 1) ∧ ((forK [x0] 2 [x0].length).length = 1)))) (wantAll rfl) (rv_assign rfl (fr_eval rfl rfl)) ?_
    refine lf_nil ?_
    refine then_n ?_
    refine wp_gen (fun F' => F' 0 = .bool (decide (([x0].length = 1) ∧ ((forK [x0] 2 [x0].length).length = 1))) ∧ F' 1 = .pointer (some ⟨g1, 0, none⟩)) ⟨rfl, e1⟩ ?_
    clear e0 e1 e22
    clear F
    rintro F ⟨e0, e1⟩
    refine wp_ret ?_
    exact bodyPost_ret (res1 rfl (ro_tmp rfl e0)) rfl (⟨congrArg (fun b => Ending.returned (.bool b)) (decide_eq_true (by omega)), hH.done⟩)

end Go.Proofs.Ytjgcjddaladgfaa
