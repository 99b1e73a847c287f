/- The standard's sum, as the reference's functions make it. -/
import Derived.Test.YticaefnpapppoaaHeap
import Derived.Test.YticaefnpapppoaaShaSpec
namespace Go.Bz.Sha
def W (b : List UInt8) (i : Nat) : List Nat := words b i ++ List.replicate (64 - i) 0
theorem W_0 (b : List UInt8) : List.replicate 64 0 = W b 0 := rfl
theorem W_64 (b : List UInt8) : W b 64 = words b 64 := by simp [W]
theorem W_len (b : List UInt8) {i : Nat} (h : i ≤ 64) : (W b i).length = 64 := by simp [W]; omega
theorem W_lt (b : List UInt8) (i : Nat) : ∀ x ∈ W b i, x < M := fun x hx => by
  rcases List.mem_append.1 hx with h | h
  · exact words_lt b i x h
  · rw [(List.mem_replicate.1 h).2]; decide
theorem W_get (b : List UInt8) {i j : Nat} (h : j < i) : (W b i).getD j 0 = (words b i).getD j 0 := by
  unfold W
  rw [List.getD_eq_getElem?_getD, List.getElem?_append_left (by simpa using h), ← List.getD_eq_getElem?_getD]
theorem W_set (b : List UInt8) {i x : Nat} (h : i < 64) (hw : words b (i + 1) = words b i ++ [x]) : (W b i).set i x = W b (i + 1) := by
  unfold W
  rw [hw, show 64 - i = (64 - (i + 1)) + 1 by omega, List.replicate_succ, List.set_append_right _ _ (by simp), List.append_assoc]
  simp
theorem W_lo (b : List UInt8) {i x : Nat} (h : i < 16) (hx : x = word b i) : (W b i).set i x = W b (i + 1) :=
  W_set b (by omega) (by simp only [words]; rw [if_pos h, hx])
theorem W_hi (b : List UInt8) {i : Nat} (h16 : 16 ≤ i) (h : i < 64) : (W b i).set i ((((((W b i).getD (i - 16) 0 + sg0 ((W b i).getD (i - 15) 0)) % M) + (W b i).getD (i - 7) 0) % M + sg1 ((W b i).getD (i - 2) 0)) % M) = W b (i + 1) :=
  W_set b h (by
    rw [W_get b (by omega), W_get b (by omega), W_get b (by omega), W_get b (by omega)]
    simp only [words]
    rw [if_neg (by omega)]
    congr 2; unfold M; omega)
theorem rounds_next {w : List Nat} {s : St} {i ch' mj : Nat} (hc : ch' = ch (rounds w s i).e (rounds w s i).f (rounds w s i).g) (hm : mj = maj (rounds w s i).a (rounds w s i).b (rounds w s i).c) :
    (fun t u => [(t + u) % M, (rounds w s i).a, (rounds w s i).b, (rounds w s i).c, ((rounds w s i).d + t) % M, (rounds w s i).e, (rounds w s i).f, (rounds w s i).g]) (((((((rounds w s i).h + bs1 (rounds w s i).e) % M + ch') % M) + ks.getD i 0) % M + w.getD i 0) % M) ((bs0 (rounds w s i).a + mj) % M) = (rounds w s (i + 1)).list := by
  subst hc hm
  have e : (((((rounds w s i).h + bs1 (rounds w s i).e) % M + ch (rounds w s i).e (rounds w s i).f (rounds w s i).g) % M + ks.getD i 0) % M + w.getD i 0) % M = tt (rounds w s i) (ks.getD i 0) (w.getD i 0) := by unfold tt M; omega
  simp only [e]; rfl
theorem ch_ref {e f g : Nat} (h : e < M) : (e &&& f) ||| ((e ^^^ 4294967295) &&& g) = ch e f g := by rw [ch_xor h, ch_or h]
theorem list_lt {s : St} (h : s.Ok) : ∀ x ∈ s.list, x < M := by
  obtain ⟨h1, h2, h3, h4, h5, h6, h7, h8⟩ := h
  intro x hx
  simp only [St.list, List.mem_cons, List.not_mem_nil, or_false] at hx
  rcases hx with rfl | rfl | rfl | rfl | rfl | rfl | rfl | rfl <;> assumption
theorem ks_lt : ∀ x ∈ ks, x < M := by decide
theorem k8' {k : Nat} (h : k < 8) : k = 0 ∨ k = 1 ∨ k = 2 ∨ k = 3 ∨ k = 4 ∨ k = 5 ∨ k = 6 ∨ k = 7 := by omega
def copyL (s : St) (i : Nat) : List Nat := s.list.take i ++ List.replicate (8 - i) 0
theorem copyL_set (s : St) {i : Nat} (h : i < 8) : (copyL s i).set i (s.list.getD i 0) = copyL s (i + 1) := by
  rcases k8' h with rfl | rfl | rfl | rfl | rfl | rfl | rfl | rfl <;> rfl
theorem copyL_8 (s : St) : copyL s 8 = s.list := rfl
theorem copyL_len (s : St) {i : Nat} (h : i ≤ 8) : (copyL s i).length = 8 := by simp [copyL, St.list]; omega
def outL (s t : St) (i : Nat) : List Nat := (add s t).list.take i ++ List.replicate (8 - i) 0
theorem outL_set (s t : St) {i : Nat} (h : i < 8) : (outL s t i).set i ((s.list.getD i 0 + t.list.getD i 0) % M) = outL s t (i + 1) := by
  rcases k8' h with rfl | rfl | rfl | rfl | rfl | rfl | rfl | rfl <;> rfl
theorem outL_8 (s t : St) : outL s t 8 = (add s t).list := rfl
theorem outL_len (s t : St) {i : Nat} (h : i ≤ 8) : (outL s t i).length = 8 := by simp [outL, St.list]; omega
theorem out_step (s : St) {k : Nat} (h : k < 8) : (out s).take (4 * k) ++ [UInt8.ofNat (s.list.getD k 0 / 2 ^ 24), UInt8.ofNat (s.list.getD k 0 / 2 ^ 16), UInt8.ofNat (s.list.getD k 0 / 2 ^ 8), UInt8.ofNat (s.list.getD k 0)] = (out s).take (4 * (k + 1)) := by
  rcases k8' h with rfl | rfl | rfl | rfl | rfl | rfl | rfl | rfl <;> rfl
theorem be8_ref (N : Nat) {k : Nat} (h : k < 8) : (be8 N).take (7 - k) ++ [UInt8.ofNat (N / 2 ^ (8 * k))] = (be8 N).take (8 - k) := by
  rcases k8' h with rfl | rfl | rfl | rfl | rfl | rfl | rfl | rfl <;> first | rfl | simp [be8]
theorem zeros_end {n m : Nat} (h : m ≤ zeros n) (hs : (n + 1 + m) % 64 = 56) : m = zeros n := by unfold zeros at *; omega
theorem zeros_more {n m : Nat} (h : m ≤ zeros n) (hs : ¬ (n + 1 + m) % 64 = 56) : m + 1 ≤ zeros n := by unfold zeros at *; omega
theorem zeros_63 (n : Nat) : zeros n ≤ 63 := by unfold zeros; omega
end Go.Bz.Sha
namespace Go.Proofs.Yticaefnpapppoaa
open Go.RowKit Go.Bz Go.Bz.Sha
attribute [local irreducible] wpList Code.wp wpAnyX

set_option maxRecDepth 100000 in
set_option maxHeartbeats 4000000 in
theorem turn_calls (x n : Nat) (hx : x < 4294967296) (h1 : 1 ≤ n) (h2 : n ≤ 31) (w : World) :
    Calls Try.prog 61 #[.int .u32 ((x : Nat) : Int), .int .i64 ((n : Nat) : Int)] w fun e'' w' => e'' = .returned (.int .u32 ((rr n x : Nat) : Int)) ∧ Ext w w' := by
  refine calls_fr (args := [.int .u32 ((x : Nat) : Int), .int .i64 ((n : Nat) : Int)]) (n := 13) Try.func61 rfl rfl (show 2 ≤ 13 by decide) ?_
  have hH : Heap (newN w) w w [] := Heap.fresh
  refine wp_seq ?_
  refine wp_gen (fun F' => F' 0 = .int .u32 ((x : Nat) : Int) ∧ F' 1 = .int .i64 ((n : Nat) : Int)) ⟨rfl, rfl⟩ ?_
  rintro F ⟨e0, e1⟩
  refine wp_regionF ?_
  refine lf_val (v := .int .u32 0) (wantAll rfl) (rv_assign rfl rfl) ?_
  refine lf_nil ?_
  refine then_n ?_
  refine wp_seq ?_
  refine wp_gen (fun F' => F' 0 = .int .u32 ((x : Nat) : Int) ∧ F' 1 = .int .i64 ((n : Nat) : Int) ∧ F' 4 = .int .u32 0) ⟨e0, e1, rfl⟩ ?_
  clear e0 e1
  clear F
  rintro F ⟨e0, e1, e4⟩
  refine wp_regionX (fun _ => False) 7 (by kernel_rfl) (by kernel_rfl) ?_
  refine xl_take (i := 0) (v := .int .u32 ((x : Nat) : Int)) rfl (by kernel_rfl) (by kernel_rfl) (by kernel_rfl) (by kernel_rfl) (yx_val (wantAll rfl) (fun w' hx' => rv_move rfl (fr_eval rfl e0))) ?_
  refine xl_take (i := 1) (v := .int .i64 ((n : Nat) : Int)) rfl (by kernel_rfl) (by kernel_rfl) (by kernel_rfl) (by kernel_rfl) (yx_val (wantAll rfl) (fun w' hx' => rv_move rfl (fr_eval rfl e1))) ?_
  refine xl_take (i := 2) (v := .int .u32 ((x / 2 ^ n : Nat) : Int)) rfl (by kernel_rfl) (by kernel_rfl) (by kernel_rfl) (by kernel_rfl) (yx_val (wantAll rfl) (fun w' hx' => rv_shr rfl (fr_eval rfl rfl) (fr_eval rfl rfl) (shr_nat n (by show _ ≤ 32; omega)))) ?_
  refine xl_take (i := 3) (v := .int .u32 ((x : Nat) : Int)) rfl (by kernel_rfl) (by kernel_rfl) (by kernel_rfl) (by kernel_rfl) (yx_val (wantAll rfl) (fun w' hx' => rv_move rfl (fr_eval rfl e0))) ?_
  refine xl_take (i := 4) (v := .int .i64 ((n : Nat) : Int)) rfl (by kernel_rfl) (by kernel_rfl) (by kernel_rfl) (by kernel_rfl) (yx_val (wantAll rfl) (fun w' hx' => rv_move rfl (fr_eval rfl e1))) ?_
  refine xl_take (i := 5) (v := .int .i64 ((32 - n : Nat) : Int)) rfl (by kernel_rfl) (by kernel_rfl) (by kernel_rfl) (by kernel_rfl) (yx_val (wantAll rfl) (fun w' hx' => rv_sub rfl rfl (fr_eval rfl rfl) (wrap_i64 (by omega) (by omega) (by omega)))) ?_
  refine xl_take (i := 6) (v := .int .u32 ((x * 2 ^ (32 - n) % 4294967296 : Nat) : Int)) rfl (by kernel_rfl) (by kernel_rfl) (by kernel_rfl) (by kernel_rfl) (yx_val (wantAll rfl) (fun w' hx' => rv_shl rfl (fr_eval rfl rfl) (fr_eval rfl rfl) (shl32 _ (by omega)))) ?_
  refine xl_tail (s := 7) rfl ?_
  intro w1 hx
  replace hH := hH.ext hx
  clear hx
  refine lf_val (v := .int .u32 (((x / 2 ^ n) ||| (x * 2 ^ (32 - n) % 4294967296) : Nat) : Int)) (wantAll rfl) (rv_or rfl (fr_eval rfl rfl) (fr_eval rfl rfl) (or32 (Sha.div_lt hx) (Nat.mod_lt _ (by decide)))) ?_
  refine lf_val (v := .int .u32 (((x / 2 ^ n) ||| (x * 2 ^ (32 - n) % 4294967296) : Nat) : Int)) (wantAll rfl) (rv_assign rfl (fr_eval rfl rfl)) ?_
  refine lf_nil ?_
  refine then_n ?_
  refine wp_gen (fun F' => F' 0 = .int .u32 ((x : Nat) : Int) ∧ F' 1 = .int .i64 ((n : Nat) : Int) ∧ F' 4 = .int .u32 (((x / 2 ^ n) ||| (x * 2 ^ (32 - n) % 4294967296) : Nat) : Int)) ⟨e0, e1, rfl⟩ ?_
  clear e0 e1 e4
  clear F
  rintro F ⟨e0, e1, e4⟩
  refine wp_ret ?_
  exact bodyPost_ret (v := (.int .u32 (((x / 2 ^ n) ||| (x * 2 ^ (32 - n) % 4294967296) : Nat) : Int))) (res1 rfl (ro_tmp rfl e4)) rfl (⟨rfl, hH.done⟩)

set_option maxRecDepth 100000 in
set_option maxHeartbeats 4000000 in
theorem constants_calls (w : World) :
    Calls Try.prog 53 #[] w fun e'' w' => (∃ v', e'' = .returned v' ∧ Own w' 65 1 v' ks.length (ks.flatMap c32) ∧ ∀ k, v'.ownBlock = some k → w.heap.size ≤ k) ∧ Ext w w' := by
  refine calls_fr (args := []) (n := 2) Try.func53 rfl rfl (show 0 ≤ 2 by decide) ?_
  have hH : Heap (newN w) w w [] := Heap.fresh
  refine wp_seq ?_
  refine wp_gen (fun F' => True) trivial ?_
  rintro F _
  refine wp_regionF ?_
  refine lf_val (v := .slice none 0 0) (wantAll rfl) (rv_assign rfl rfl) ?_
  refine lf_nil ?_
  refine then_n ?_
  refine wp_seq ?_
  refine wp_gen (fun F' => F' 0 = .slice none 0 0) rfl ?_
  clear F
  rintro F e0
  refine wp_regionF ?_
  refine lf_ex (wantAll rfl) (hx_lits hH Try.st32 (n := 64) (nm := List.length (1116352408 :: 1899447441 :: 3049323471 :: 3921009573 :: 961987163 :: 1508970993 :: 2453635748 :: 2870763221 :: 3624381080 :: 310598401 :: 607225278 :: 1426881987 :: 1925078388 :: 2162078206 :: 2614888103 :: 3248222580 :: 3835390401 :: 4022224774 :: 264347078 :: 604807628 :: 770255983 :: 1249150122 :: 1555081692 :: 1996064986 :: 2554220882 :: 2821834349 :: 2952996808 :: 3210313671 :: 3336571891 :: 3584528711 :: 113926993 :: 338241895 :: 666307205 :: 773529912 :: 1294757372 :: 1396182291 :: 1695183700 :: 1986661051 :: 2177026350 :: 2456956037 :: 2730485921 :: 2820302411 :: 3259730800 :: 3345764771 :: 3516065817 :: 3600352804 :: 4094571909 :: 275423344 :: 430227734 :: 506948616 :: 659060556 :: 883997877 :: 958139571 :: 1322822218 :: 1537002063 :: 1747873779 :: 1955562222 :: 2024104815 :: 2227730452 :: 2361852424 :: 2428436474 :: 2756734187 :: 3204031479 :: 3329325298 :: [])) ((.const (.int .u32 1116352408)) :: (.const (.int .u32 1899447441)) :: (.const (.int .u32 3049323471)) :: (.const (.int .u32 3921009573)) :: (.const (.int .u32 961987163)) :: (.const (.int .u32 1508970993)) :: (.const (.int .u32 2453635748)) :: (.const (.int .u32 2870763221)) :: (.const (.int .u32 3624381080)) :: (.const (.int .u32 310598401)) :: (.const (.int .u32 607225278)) :: (.const (.int .u32 1426881987)) :: (.const (.int .u32 1925078388)) :: (.const (.int .u32 2162078206)) :: (.const (.int .u32 2614888103)) :: (.const (.int .u32 3248222580)) :: (.const (.int .u32 3835390401)) :: (.const (.int .u32 4022224774)) :: (.const (.int .u32 264347078)) :: (.const (.int .u32 604807628)) :: (.const (.int .u32 770255983)) :: (.const (.int .u32 1249150122)) :: (.const (.int .u32 1555081692)) :: (.const (.int .u32 1996064986)) :: (.const (.int .u32 2554220882)) :: (.const (.int .u32 2821834349)) :: (.const (.int .u32 2952996808)) :: (.const (.int .u32 3210313671)) :: (.const (.int .u32 3336571891)) :: (.const (.int .u32 3584528711)) :: (.const (.int .u32 113926993)) :: (.const (.int .u32 338241895)) :: (.const (.int .u32 666307205)) :: (.const (.int .u32 773529912)) :: (.const (.int .u32 1294757372)) :: (.const (.int .u32 1396182291)) :: (.const (.int .u32 1695183700)) :: (.const (.int .u32 1986661051)) :: (.const (.int .u32 2177026350)) :: (.const (.int .u32 2456956037)) :: (.const (.int .u32 2730485921)) :: (.const (.int .u32 2820302411)) :: (.const (.int .u32 3259730800)) :: (.const (.int .u32 3345764771)) :: (.const (.int .u32 3516065817)) :: (.const (.int .u32 3600352804)) :: (.const (.int .u32 4094571909)) :: (.const (.int .u32 275423344)) :: (.const (.int .u32 430227734)) :: (.const (.int .u32 506948616)) :: (.const (.int .u32 659060556)) :: (.const (.int .u32 883997877)) :: (.const (.int .u32 958139571)) :: (.const (.int .u32 1322822218)) :: (.const (.int .u32 1537002063)) :: (.const (.int .u32 1747873779)) :: (.const (.int .u32 1955562222)) :: (.const (.int .u32 2024104815)) :: (.const (.int .u32 2227730452)) :: (.const (.int .u32 2361852424)) :: (.const (.int .u32 2428436474)) :: (.const (.int .u32 2756734187)) :: (.const (.int .u32 3204031479)) :: (.const (.int .u32 3329325298)) :: []) (vs := ((.int .u32 1116352408) :: (.int .u32 1899447441) :: (.int .u32 3049323471) :: (.int .u32 3921009573) :: (.int .u32 961987163) :: (.int .u32 1508970993) :: (.int .u32 2453635748) :: (.int .u32 2870763221) :: (.int .u32 3624381080) :: (.int .u32 310598401) :: (.int .u32 607225278) :: (.int .u32 1426881987) :: (.int .u32 1925078388) :: (.int .u32 2162078206) :: (.int .u32 2614888103) :: (.int .u32 3248222580) :: (.int .u32 3835390401) :: (.int .u32 4022224774) :: (.int .u32 264347078) :: (.int .u32 604807628) :: (.int .u32 770255983) :: (.int .u32 1249150122) :: (.int .u32 1555081692) :: (.int .u32 1996064986) :: (.int .u32 2554220882) :: (.int .u32 2821834349) :: (.int .u32 2952996808) :: (.int .u32 3210313671) :: (.int .u32 3336571891) :: (.int .u32 3584528711) :: (.int .u32 113926993) :: (.int .u32 338241895) :: (.int .u32 666307205) :: (.int .u32 773529912) :: (.int .u32 1294757372) :: (.int .u32 1396182291) :: (.int .u32 1695183700) :: (.int .u32 1986661051) :: (.int .u32 2177026350) :: (.int .u32 2456956037) :: (.int .u32 2730485921) :: (.int .u32 2820302411) :: (.int .u32 3259730800) :: (.int .u32 3345764771) :: (.int .u32 3516065817) :: (.int .u32 3600352804) :: (.int .u32 4094571909) :: (.int .u32 275423344) :: (.int .u32 430227734) :: (.int .u32 506948616) :: (.int .u32 659060556) :: (.int .u32 883997877) :: (.int .u32 958139571) :: (.int .u32 1322822218) :: (.int .u32 1537002063) :: (.int .u32 1747873779) :: (.int .u32 1955562222) :: (.int .u32 2024104815) :: (.int .u32 2227730452) :: (.int .u32 2361852424) :: (.int .u32 2428436474) :: (.int .u32 2756734187) :: (.int .u32 3204031479) :: (.int .u32 3329325298) :: [])) (cs := List.flatMap c32 (1116352408 :: 1899447441 :: 3049323471 :: 3921009573 :: 961987163 :: 1508970993 :: 2453635748 :: 2870763221 :: 3624381080 :: 310598401 :: 607225278 :: 1426881987 :: 1925078388 :: 2162078206 :: 2614888103 :: 3248222580 :: 3835390401 :: 4022224774 :: 264347078 :: 604807628 :: 770255983 :: 1249150122 :: 1555081692 :: 1996064986 :: 2554220882 :: 2821834349 :: 2952996808 :: 3210313671 :: 3336571891 :: 3584528711 :: 113926993 :: 338241895 :: 666307205 :: 773529912 :: 1294757372 :: 1396182291 :: 1695183700 :: 1986661051 :: 2177026350 :: 2456956037 :: 2730485921 :: 2820302411 :: 3259730800 :: 3345764771 :: 3516065817 :: 3600352804 :: 4094571909 :: 275423344 :: 430227734 :: 506948616 :: 659060556 :: 883997877 :: 958139571 :: 1322822218 :: 1537002063 :: 1747873779 :: 1955562222 :: 2024104815 :: 2227730452 :: 2361852424 :: 2428436474 :: 2756734187 :: 3204031479 :: 3329325298 :: [])) rfl (evc rfl (evc rfl (evc rfl (evc rfl (evc rfl (evc rfl (evc rfl (evc rfl (evc rfl (evc rfl (evc rfl (evc rfl (evc rfl (evc rfl (evc rfl (evc rfl (evc rfl (evc rfl (evc rfl (evc rfl (evc rfl (evc rfl (evc rfl (evc rfl (evc rfl (evc rfl (evc rfl (evc rfl (evc rfl (evc rfl (evc rfl (evc rfl (evc rfl (evc rfl (evc rfl (evc rfl (evc rfl (evc rfl (evc rfl (evc rfl (evc rfl (evc rfl (evc rfl (evc rfl (evc rfl (evc rfl (evc rfl (evc rfl (evc rfl (evc rfl (evc rfl (evc rfl (evc rfl (evc rfl (evc rfl (evc rfl (evc rfl (evc rfl (evc rfl (evc rfl (evc rfl (evc rfl (evc rfl (evc rfl evn)))))))))))))))))))))))))))))))))))))))))))))))))))))))))))))))) (row_one (l := (1116352408 :: 1899447441 :: 3049323471 :: 3921009573 :: 961987163 :: 1508970993 :: 2453635748 :: 2870763221 :: 3624381080 :: 310598401 :: 607225278 :: 1426881987 :: 1925078388 :: 2162078206 :: 2614888103 :: 3248222580 :: 3835390401 :: 4022224774 :: 264347078 :: 604807628 :: 770255983 :: 1249150122 :: 1555081692 :: 1996064986 :: 2554220882 :: 2821834349 :: 2952996808 :: 3210313671 :: 3336571891 :: 3584528711 :: 113926993 :: 338241895 :: 666307205 :: 773529912 :: 1294757372 :: 1396182291 :: 1695183700 :: 1986661051 :: 2177026350 :: 2456956037 :: 2730485921 :: 2820302411 :: 3259730800 :: 3345764771 :: 3516065817 :: 3600352804 :: 4094571909 :: 275423344 :: 430227734 :: 506948616 :: 659060556 :: 883997877 :: 958139571 :: 1322822218 :: 1537002063 :: 1747873779 :: 1955562222 :: 2024104815 :: 2227730452 :: 2361852424 :: 2428436474 :: 2756734187 :: 3204031479 :: 3329325298 :: [])) c32_one) rfl (by decide) rfl rfl) ?_
  clear hH
  rintro y1 w1 ⟨hH, hx⟩
  replace hH : Heap (newN w) w w1 [oRow c32 65 1 y1 (1116352408 :: 1899447441 :: 3049323471 :: 3921009573 :: 961987163 :: 1508970993 :: 2453635748 :: 2870763221 :: 3624381080 :: 310598401 :: 607225278 :: 1426881987 :: 1925078388 :: 2162078206 :: 2614888103 :: 3248222580 :: 3835390401 :: 4022224774 :: 264347078 :: 604807628 :: 770255983 :: 1249150122 :: 1555081692 :: 1996064986 :: 2554220882 :: 2821834349 :: 2952996808 :: 3210313671 :: 3336571891 :: 3584528711 :: 113926993 :: 338241895 :: 666307205 :: 773529912 :: 1294757372 :: 1396182291 :: 1695183700 :: 1986661051 :: 2177026350 :: 2456956037 :: 2730485921 :: 2820302411 :: 3259730800 :: 3345764771 :: 3516065817 :: 3600352804 :: 4094571909 :: 275423344 :: 430227734 :: 506948616 :: 659060556 :: 883997877 :: 958139571 :: 1322822218 :: 1537002063 :: 1747873779 :: 1955562222 :: 2024104815 :: 2227730452 :: 2361852424 :: 2428436474 :: 2756734187 :: 3204031479 :: 3329325298 :: [])] := hH
  clear hx
  refine lf_val (v := y1) (wantAll rfl) (rv_assign rfl (fr_eval rfl rfl)) ?_
  refine lf_nil ?_
  refine then_n ?_
  refine wp_gen (fun F' => F' 0 = y1) rfl ?_
  clear e0
  clear F
  rintro F e0
  refine wp_ret ?_
  exact bodyPost_ret (v := y1) (res1 rfl (ro_tmp rfl e0)) rfl (⟨⟨_, rfl, hH.own (i := 0) rfl, hH.ge (i := 0) rfl⟩, hH.done⟩)

set_option maxRecDepth 100000 in
set_option maxHeartbeats 4000000 in
theorem one_calls (s : St) (hs : s.Ok) (b : List UInt8) (hb : b.length = 64) (vh vk v : Value) (w : World) (hh0 : Rd w 1 vh (s.list).length ((s.list).flatMap c32)) (hk0 : Rd w 1 vk (ks).length ((ks).flatMap c32)) (hr0 : RdB w v b) :
    Calls Try.prog 54 #[vh, vk, v] w fun e'' w' => (∃ v', e'' = .returned v' ∧ Own w' 65 1 v' ((comp s b).list).length (((comp s b).list).flatMap c32) ∧ ∀ k, v'.ownBlock = some k → w.heap.size ≤ k) ∧ Ext w w' := by
  refine calls_fr (args := [vh, vk, v]) (n := 253) Try.func54 rfl rfl (show 3 ≤ 253 by decide) ?_
  have hw := words_lt b 64
  have hsl := list_lt hs
  have hh := Rd.stab hh0
  have hk := Rd.stab hk0
  have hr := Rd.stab hr0
  have hH : Heap (newN w) w w [] := Heap.fresh
  refine wp_seq ?_
  refine wp_gen (fun F' => F' 0 = vh ∧ F' 1 = vk ∧ F' 2 = v) ⟨rfl, rfl, rfl⟩ ?_
  rintro F ⟨e0, e1, e2⟩
  refine wp_regionF ?_
  refine lf_val (v := .slice none 0 0) (wantAll rfl) (rv_assign rfl rfl) ?_
  refine lf_nil ?_
  refine then_n ?_
  refine wp_seq ?_
  refine wp_gen (fun F' => F' 0 = vh ∧ F' 1 = vk ∧ F' 2 = v ∧ F' 6 = .slice none 0 0) ⟨e0, e1, e2, rfl⟩ ?_
  clear e0 e1 e2
  clear F
  rintro F ⟨e0, e1, e2, e6⟩
  refine wp_regionF ?_
  refine lf_ex (wantAll rfl) (hx_make hH Try.st32 (n := 64) (nm := List.length (List.replicate 64 0)) (z1 := .int .u32 0) (xs := (List.replicate 64 0).flatMap c32) rfl (show _ = Value.int _ ((64 : Nat) : Int) from rfl) (show _ = Value.int _ ((64 : Nat) : Int) from rfl) (by omega) rfl (zeros_f (f := c32) (d := 0) (sz := 1) rfl _) (List.length_replicate ..).symm) ?_
  clear hH
  rintro y1 w1 ⟨hH, hx⟩
  replace hH : Heap (newN w) w w1 [oRow c32 65 1 y1 (List.replicate 64 0)] := hH
  clear hx
  refine lf_val (v := y1) (wantAll rfl) (rv_assign rfl (fr_eval rfl rfl)) ?_
  refine lf_nil ?_
  refine then_n ?_
  refine wp_seq ?_
  refine wp_seq ?_
  refine wp_gen (fun F' => F' 0 = vh ∧ F' 1 = vk ∧ F' 2 = v ∧ F' 6 = .slice none 0 0 ∧ F' 7 = y1) ⟨e0, e1, e2, e6, rfl⟩ ?_
  clear e0 e1 e2 e6
  clear F
  rintro F ⟨e0, e1, e2, e6, e7⟩
  refine wp_regionF ?_
  refine lf_val (v := .int .i64 0) (wantAll rfl) (rv_assign rfl rfl) ?_
  refine lf_nil ?_
  refine then_n ?_
  refine wp_block ?_
  replace hH : Heap (newN w) w w1 [oRow c32 65 1 y1 (W b 0)] := by have e : List.replicate 64 0 = W b 0 := W_0 b; rw [← e]; exact hH
  refine wp_gen (fun F' => F' 0 = vh ∧ F' 1 = vk ∧ F' 2 = v ∧ F' 6 = .slice none 0 0 ∧ F' 7 = y1 ∧ F' 8 = .int .i64 0) ⟨e0, e1, e2, e6, e7, rfl⟩ ?_
  clear e0 e1 e2 e6 e7
  clear F
  rintro F ⟨e0, e1, e2, e6, e7, e8⟩
  refine wp_loopF (fun m F wr => ∃ i : Nat, m = 64 - i ∧ i ≤ 64 ∧ F 0 = vh ∧ F 1 = vk ∧ F 2 = v ∧ F 6 = .slice none 0 0 ∧ F 7 = y1 ∧ F 8 = .int .i64 ((i : Nat) : Int) ∧ Heap (newN w) w wr [oRow c32 65 1 y1 (W b i)]) ⟨0, rfl, (by decide), e0, e1, e2, e6, e7, e8, hH⟩ ?_
  clear e0 e1 e2 e6 e7 e8 hH
  clear F
  rintro m F w2 ⟨i, rfl, pi0, e0, e1, e2, e6, e7, e8, hH⟩
  refine wp_seq ?_
  refine wp_seq ?_
  refine wp_regionF ?_
  refine lf_val (v := .int .i64 ((i : Nat) : Int)) (wantAll rfl) (rv_move rfl (fr_eval rfl e8)) ?_
  by_cases hc1 : i < 64
  · refine lf_val (v := .bool true) (wantAll rfl) (rv_lss rfl (fr_eval rfl rfl) rfl (decide_eq_true (by omega))) ?_
    refine lf_nil ?_
    refine then_n ?_
    refine wp_gen (fun F' => F' 0 = vh ∧ F' 1 = vk ∧ F' 2 = v ∧ F' 6 = .slice none 0 0 ∧ F' 7 = y1 ∧ F' 8 = .int .i64 ((i : Nat) : Int) ∧ F' 23 = .bool true) ⟨e0, e1, e2, e6, e7, e8, rfl⟩ ?_
    clear e0 e1 e2 e6 e7 e8
    clear F
    rintro F ⟨e0, e1, e2, e6, e7, e8, e23⟩
    refine wp_cond_true (fr_eval rfl e23) ?_
    refine wp_skip ?_
    refine then_n ?_
    refine wp_seq ?_
    refine wp_block ?_
    refine wp_seq ?_
    refine wp_seq ?_
    refine wp_regionF ?_
    refine lf_val (v := .int .i64 ((i : Nat) : Int)) (wantAll rfl) (rv_move rfl (fr_eval rfl e8)) ?_
    by_cases hc2 : i < 16
    · refine lf_val (v := .bool true) (wantAll rfl) (rv_lss rfl (fr_eval rfl rfl) rfl (decide_eq_true (by omega))) ?_
      refine lf_nil ?_
      refine then_n ?_
      refine wp_gen (fun F' => F' 0 = vh ∧ F' 1 = vk ∧ F' 2 = v ∧ F' 6 = .slice none 0 0 ∧ F' 7 = y1 ∧ F' 8 = .int .i64 ((i : Nat) : Int) ∧ F' 23 = .bool true ∧ F' 27 = .bool true) ⟨e0, e1, e2, e6, e7, e8, e23, rfl⟩ ?_
      clear e0 e1 e2 e6 e7 e8 e23
      clear F
      rintro F ⟨e0, e1, e2, e6, e7, e8, e23, e27⟩
      refine wp_cond_true (fr_eval rfl e27) ?_
      refine wp_seq ?_
      have hb0 := UInt8.toNat_lt (List.getD b (4 * i) 0)
      have hb1 := UInt8.toNat_lt (List.getD b (4 * i + 1) 0)
      have hb2 := UInt8.toNat_lt (List.getD b (4 * i + 2) 0)
      have hb3 := UInt8.toNat_lt (List.getD b (4 * i + 3) 0)
      refine wp_regionX (fun _ => False) 35 (by kernel_rfl) (by kernel_rfl) ?_
      refine xl_take (i := 0) (v := y1) rfl (by kernel_rfl) (by kernel_rfl) (by kernel_rfl) (by kernel_rfl) (yx_val (wantAll rfl) (fun w' hx' => rv_move rfl (fr_eval rfl e7))) ?_
      refine xl_take (i := 1) (v := .int .i64 ((i : Nat) : Int)) rfl (by kernel_rfl) (by kernel_rfl) (by kernel_rfl) (by kernel_rfl) (yx_val (wantAll rfl) (fun w' hx' => rv_move rfl (fr_eval rfl e8))) ?_
      refine xl_take (i := 2) (v := v) rfl (by kernel_rfl) (by kernel_rfl) (by kernel_rfl) (by kernel_rfl) (yx_val (wantAll rfl) (fun w' hx' => rv_move rfl (fr_eval rfl e2))) ?_
      refine xl_take (i := 3) (v := .int .i64 ((i : Nat) : Int)) rfl (by kernel_rfl) (by kernel_rfl) (by kernel_rfl) (by kernel_rfl) (yx_val (wantAll rfl) (fun w' hx' => rv_move rfl (fr_eval rfl e8))) ?_
      refine xl_take (i := 4) (v := .int .i64 ((4 * i : Nat) : Int)) rfl (by kernel_rfl) (by kernel_rfl) (by kernel_rfl) (by kernel_rfl) (yx_val (wantAll rfl) (fun w' hx' => rv_mul rfl rfl (fr_eval rfl rfl) (wrap_i64 (by omega) (by omega) (by omega)))) ?_
      refine xl_take (i := 5) (v := .pointer (some (elemA v ((4 * i) * 1)))) rfl (by kernel_rfl) (by kernel_rfl) (by kernel_rfl) (by kernel_rfl) (yx_val (wantAll rfl) (fun w' hx' => rv_index rfl (fr_eval rfl rfl) (fr_eval rfl rfl) (RdB.rn (hr.rd _ (hH.chg.trans (Ext.any hx'))) hb) (show 4 * i < 64 from (by omega)) Try.underlying22 Try.sz5 (by decide))) ?_
      refine xl_take (i := 6) (v := cB (List.getD b (4 * i) 0)) rfl (by kernel_rfl) (by kernel_rfl) (by kernel_rfl) (by kernel_rfl) (yx_val (wantAll rfl) (fun w' hx' => rv_loadCell rfl (fr_eval rfl rfl) (Nat.mul_one _) (hr.rd _ (hH.chg.trans (Ext.any hx'))) (cell_b rfl (Nat.lt_of_lt_of_eq (show 4 * i < 64 from (by omega)) (hb).symm)) Try.underlying5 rfl Try.sz5)) ?_
      refine xl_take (i := 7) (v := .int .u32 (((List.getD b (4 * i) 0).toNat : Nat) : Int)) rfl (by kernel_rfl) (by kernel_rfl) (by kernel_rfl) (by kernel_rfl) (yx_val (wantAll rfl) (fun w' hx' => rv_conv rfl (fr_eval rfl rfl) Try.underlying5 Try.underlying65 (wrap32 (Nat.lt_trans (UInt8.toNat_lt _) (by decide))))) ?_
      refine xl_take (i := 8) (v := .int .u32 (((((List.getD b (4 * i) 0).toNat) * 16777216) % 4294967296 : Nat) : Int)) rfl (by kernel_rfl) (by kernel_rfl) (by kernel_rfl) (by kernel_rfl) (yx_val (wantAll rfl) (fun w' hx' => rv_mul rfl (fr_eval rfl rfl) (show _ = Value.int _ ((16777216 : Nat) : Int) from rfl) (mul32 _ _))) ?_
      refine xl_take (i := 9) (v := v) rfl (by kernel_rfl) (by kernel_rfl) (by kernel_rfl) (by kernel_rfl) (yx_val (wantAll rfl) (fun w' hx' => rv_move rfl (fr_eval rfl e2))) ?_
      refine xl_take (i := 10) (v := .int .i64 ((i : Nat) : Int)) rfl (by kernel_rfl) (by kernel_rfl) (by kernel_rfl) (by kernel_rfl) (yx_val (wantAll rfl) (fun w' hx' => rv_move rfl (fr_eval rfl e8))) ?_
      refine xl_take (i := 11) (v := .int .i64 ((4 * i : Nat) : Int)) rfl (by kernel_rfl) (by kernel_rfl) (by kernel_rfl) (by kernel_rfl) (yx_val (wantAll rfl) (fun w' hx' => rv_mul rfl rfl (fr_eval rfl rfl) (wrap_i64 (by omega) (by omega) (by omega)))) ?_
      refine xl_take (i := 12) (v := .int .i64 (((4 * i) + 1 : Nat) : Int)) rfl (by kernel_rfl) (by kernel_rfl) (by kernel_rfl) (by kernel_rfl) (yx_val (wantAll rfl) (fun w' hx' => rv_add rfl (fr_eval rfl rfl) rfl (wrap_i64 (by omega) (by omega) (by omega)))) ?_
      refine xl_take (i := 13) (v := .pointer (some (elemA v (((4 * i) + 1) * 1)))) rfl (by kernel_rfl) (by kernel_rfl) (by kernel_rfl) (by kernel_rfl) (yx_val (wantAll rfl) (fun w' hx' => rv_index rfl (fr_eval rfl rfl) (fr_eval rfl rfl) (RdB.rn (hr.rd _ (hH.chg.trans (Ext.any hx'))) hb) (show (4 * i) + 1 < 64 from (by omega)) Try.underlying22 Try.sz5 (by decide))) ?_
      refine xl_take (i := 14) (v := cB (List.getD b ((4 * i) + 1) 0)) rfl (by kernel_rfl) (by kernel_rfl) (by kernel_rfl) (by kernel_rfl) (yx_val (wantAll rfl) (fun w' hx' => rv_loadCell rfl (fr_eval rfl rfl) (Nat.mul_one _) (hr.rd _ (hH.chg.trans (Ext.any hx'))) (cell_b rfl (Nat.lt_of_lt_of_eq (show (4 * i) + 1 < 64 from (by omega)) (hb).symm)) Try.underlying5 rfl Try.sz5)) ?_
      refine xl_take (i := 15) (v := .int .u32 (((List.getD b ((4 * i) + 1) 0).toNat : Nat) : Int)) rfl (by kernel_rfl) (by kernel_rfl) (by kernel_rfl) (by kernel_rfl) (yx_val (wantAll rfl) (fun w' hx' => rv_conv rfl (fr_eval rfl rfl) Try.underlying5 Try.underlying65 (wrap32 (Nat.lt_trans (UInt8.toNat_lt _) (by decide))))) ?_
      refine xl_take (i := 16) (v := .int .u32 (((((List.getD b ((4 * i) + 1) 0).toNat) * 65536) % 4294967296 : Nat) : Int)) rfl (by kernel_rfl) (by kernel_rfl) (by kernel_rfl) (by kernel_rfl) (yx_val (wantAll rfl) (fun w' hx' => rv_mul rfl (fr_eval rfl rfl) (show _ = Value.int _ ((65536 : Nat) : Int) from rfl) (mul32 _ _))) ?_
      refine xl_take (i := 17) (v := .int .u32 (((((((List.getD b (4 * i) 0).toNat) * 16777216) % 4294967296) + ((((List.getD b ((4 * i) + 1) 0).toNat) * 65536) % 4294967296)) % 4294967296 : Nat) : Int)) rfl (by kernel_rfl) (by kernel_rfl) (by kernel_rfl) (by kernel_rfl) (yx_val (wantAll rfl) (fun w' hx' => rv_add rfl (fr_eval rfl rfl) (fr_eval rfl rfl) (add32 _ _))) ?_
      refine xl_take (i := 18) (v := v) rfl (by kernel_rfl) (by kernel_rfl) (by kernel_rfl) (by kernel_rfl) (yx_val (wantAll rfl) (fun w' hx' => rv_move rfl (fr_eval rfl e2))) ?_
      refine xl_take (i := 19) (v := .int .i64 ((i : Nat) : Int)) rfl (by kernel_rfl) (by kernel_rfl) (by kernel_rfl) (by kernel_rfl) (yx_val (wantAll rfl) (fun w' hx' => rv_move rfl (fr_eval rfl e8))) ?_
      refine xl_take (i := 20) (v := .int .i64 ((4 * i : Nat) : Int)) rfl (by kernel_rfl) (by kernel_rfl) (by kernel_rfl) (by kernel_rfl) (yx_val (wantAll rfl) (fun w' hx' => rv_mul rfl rfl (fr_eval rfl rfl) (wrap_i64 (by omega) (by omega) (by omega)))) ?_
      refine xl_take (i := 21) (v := .int .i64 (((4 * i) + 2 : Nat) : Int)) rfl (by kernel_rfl) (by kernel_rfl) (by kernel_rfl) (by kernel_rfl) (yx_val (wantAll rfl) (fun w' hx' => rv_add rfl (fr_eval rfl rfl) rfl (wrap_i64 (by omega) (by omega) (by omega)))) ?_
      refine xl_take (i := 22) (v := .pointer (some (elemA v (((4 * i) + 2) * 1)))) rfl (by kernel_rfl) (by kernel_rfl) (by kernel_rfl) (by kernel_rfl) (yx_val (wantAll rfl) (fun w' hx' => rv_index rfl (fr_eval rfl rfl) (fr_eval rfl rfl) (RdB.rn (hr.rd _ (hH.chg.trans (Ext.any hx'))) hb) (show (4 * i) + 2 < 64 from (by omega)) Try.underlying22 Try.sz5 (by decide))) ?_
      refine xl_take (i := 23) (v := cB (List.getD b ((4 * i) + 2) 0)) rfl (by kernel_rfl) (by kernel_rfl) (by kernel_rfl) (by kernel_rfl) (yx_val (wantAll rfl) (fun w' hx' => rv_loadCell rfl (fr_eval rfl rfl) (Nat.mul_one _) (hr.rd _ (hH.chg.trans (Ext.any hx'))) (cell_b rfl (Nat.lt_of_lt_of_eq (show (4 * i) + 2 < 64 from (by omega)) (hb).symm)) Try.underlying5 rfl Try.sz5)) ?_
      refine xl_take (i := 24) (v := .int .u32 (((List.getD b ((4 * i) + 2) 0).toNat : Nat) : Int)) rfl (by kernel_rfl) (by kernel_rfl) (by kernel_rfl) (by kernel_rfl) (yx_val (wantAll rfl) (fun w' hx' => rv_conv rfl (fr_eval rfl rfl) Try.underlying5 Try.underlying65 (wrap32 (Nat.lt_trans (UInt8.toNat_lt _) (by decide))))) ?_
      refine xl_take (i := 25) (v := .int .u32 (((((List.getD b ((4 * i) + 2) 0).toNat) * 256) % 4294967296 : Nat) : Int)) rfl (by kernel_rfl) (by kernel_rfl) (by kernel_rfl) (by kernel_rfl) (yx_val (wantAll rfl) (fun w' hx' => rv_mul rfl (fr_eval rfl rfl) (show _ = Value.int _ ((256 : Nat) : Int) from rfl) (mul32 _ _))) ?_
      refine xl_take (i := 26) (v := .int .u32 (((((((((List.getD b (4 * i) 0).toNat) * 16777216) % 4294967296) + ((((List.getD b ((4 * i) + 1) 0).toNat) * 65536) % 4294967296)) % 4294967296) + ((((List.getD b ((4 * i) + 2) 0).toNat) * 256) % 4294967296)) % 4294967296 : Nat) : Int)) rfl (by kernel_rfl) (by kernel_rfl) (by kernel_rfl) (by kernel_rfl) (yx_val (wantAll rfl) (fun w' hx' => rv_add rfl (fr_eval rfl rfl) (fr_eval rfl rfl) (add32 _ _))) ?_
      refine xl_take (i := 27) (v := v) rfl (by kernel_rfl) (by kernel_rfl) (by kernel_rfl) (by kernel_rfl) (yx_val (wantAll rfl) (fun w' hx' => rv_move rfl (fr_eval rfl e2))) ?_
      refine xl_take (i := 28) (v := .int .i64 ((i : Nat) : Int)) rfl (by kernel_rfl) (by kernel_rfl) (by kernel_rfl) (by kernel_rfl) (yx_val (wantAll rfl) (fun w' hx' => rv_move rfl (fr_eval rfl e8))) ?_
      refine xl_take (i := 29) (v := .int .i64 ((4 * i : Nat) : Int)) rfl (by kernel_rfl) (by kernel_rfl) (by kernel_rfl) (by kernel_rfl) (yx_val (wantAll rfl) (fun w' hx' => rv_mul rfl rfl (fr_eval rfl rfl) (wrap_i64 (by omega) (by omega) (by omega)))) ?_
      refine xl_take (i := 30) (v := .int .i64 (((4 * i) + 3 : Nat) : Int)) rfl (by kernel_rfl) (by kernel_rfl) (by kernel_rfl) (by kernel_rfl) (yx_val (wantAll rfl) (fun w' hx' => rv_add rfl (fr_eval rfl rfl) rfl (wrap_i64 (by omega) (by omega) (by omega)))) ?_
      refine xl_take (i := 31) (v := .pointer (some (elemA v (((4 * i) + 3) * 1)))) rfl (by kernel_rfl) (by kernel_rfl) (by kernel_rfl) (by kernel_rfl) (yx_val (wantAll rfl) (fun w' hx' => rv_index rfl (fr_eval rfl rfl) (fr_eval rfl rfl) (RdB.rn (hr.rd _ (hH.chg.trans (Ext.any hx'))) hb) (show (4 * i) + 3 < 64 from (by omega)) Try.underlying22 Try.sz5 (by decide))) ?_
      refine xl_take (i := 32) (v := cB (List.getD b ((4 * i) + 3) 0)) rfl (by kernel_rfl) (by kernel_rfl) (by kernel_rfl) (by kernel_rfl) (yx_val (wantAll rfl) (fun w' hx' => rv_loadCell rfl (fr_eval rfl rfl) (Nat.mul_one _) (hr.rd _ (hH.chg.trans (Ext.any hx'))) (cell_b rfl (Nat.lt_of_lt_of_eq (show (4 * i) + 3 < 64 from (by omega)) (hb).symm)) Try.underlying5 rfl Try.sz5)) ?_
      refine xl_take (i := 33) (v := .int .u32 (((List.getD b ((4 * i) + 3) 0).toNat : Nat) : Int)) rfl (by kernel_rfl) (by kernel_rfl) (by kernel_rfl) (by kernel_rfl) (yx_val (wantAll rfl) (fun w' hx' => rv_conv rfl (fr_eval rfl rfl) Try.underlying5 Try.underlying65 (wrap32 (Nat.lt_trans (UInt8.toNat_lt _) (by decide))))) ?_
      refine xl_take (i := 34) (v := .int .u32 (((((((((((List.getD b (4 * i) 0).toNat) * 16777216) % 4294967296) + ((((List.getD b ((4 * i) + 1) 0).toNat) * 65536) % 4294967296)) % 4294967296) + ((((List.getD b ((4 * i) + 2) 0).toNat) * 256) % 4294967296)) % 4294967296) + ((List.getD b ((4 * i) + 3) 0).toNat)) % 4294967296 : Nat) : Int)) rfl (by kernel_rfl) (by kernel_rfl) (by kernel_rfl) (by kernel_rfl) (yx_val (wantAll rfl) (fun w' hx' => rv_add rfl (fr_eval rfl rfl) (fr_eval rfl rfl) (add32 _ _))) ?_
      refine xl_tail (s := 35) rfl ?_
      intro w3 hx
      replace hH := hH.ext hx
      clear hx
      refine lf_val (v := .pointer (some (elemA y1 (i * 1)))) (wantAll rfl) (rv_index rfl (fr_eval rfl rfl) (fr_eval rfl rfl) (rdN (Own.rd (hH.own (i := 0) rfl) (row_one c32_one)) (W_len b pi0)) (show i < 64 from (by omega)) Try.underlying74 Try.sz65 (by decide)) ?_
      refine lf_sk (wantAll rfl) (hx_setC hH (i := 0) (nm := List.length (List.set (W b i) i ((((((((((List.getD b (4 * i) 0).toNat) * 16777216) % 4294967296) + ((((List.getD b ((4 * i) + 1) 0).toNat) * 65536) % 4294967296)) % 4294967296) + ((((List.getD b ((4 * i) + 2) 0).toNat) * 256) % 4294967296)) % 4294967296) + ((List.getD b ((4 * i) + 3) 0).toNat)) % 4294967296))) (j := i) (xs' := (List.set (W b i) i ((((((((((List.getD b (4 * i) 0).toNat) * 16777216) % 4294967296) + ((((List.getD b ((4 * i) + 1) 0).toNat) * 65536) % 4294967296)) % 4294967296) + ((((List.getD b ((4 * i) + 2) 0).toNat) * 256) % 4294967296)) % 4294967296) + ((List.getD b ((4 * i) + 3) 0).toNat)) % 4294967296)).flatMap c32) rfl rfl rfl (List.length_set ..).symm (Nat.lt_of_lt_of_eq (by omega) ((W_len b pi0)).symm) (flat_set1 c32_len rfl (Nat.lt_of_lt_of_eq (by omega) ((W_len b pi0)).symm)) (fr_eval rfl rfl) (fr_eval rfl rfl) Try.sz65 rfl) ?_
      clear hH
      rintro w5 ⟨hH, hx⟩
      replace hH : Heap (newN w) w w5 [oRow c32 65 1 y1 (List.set (W b i) i ((((((((((List.getD b (4 * i) 0).toNat) * 16777216) % 4294967296) + ((((List.getD b ((4 * i) + 1) 0).toNat) * 65536) % 4294967296)) % 4294967296) + ((((List.getD b ((4 * i) + 2) 0).toNat) * 256) % 4294967296)) % 4294967296) + ((List.getD b ((4 * i) + 3) 0).toNat)) % 4294967296))] := hH
      replace hH : Heap (newN w) w w5 [oRow c32 65 1 y1 (W b (i + 1))] := by have e : List.set (W b i) i ((((((((((List.getD b (4 * i) 0).toNat) * 16777216) % 4294967296) + ((((List.getD b ((4 * i) + 1) 0).toNat) * 65536) % 4294967296)) % 4294967296) + ((((List.getD b ((4 * i) + 2) 0).toNat) * 256) % 4294967296)) % 4294967296) + ((List.getD b ((4 * i) + 3) 0).toNat)) % 4294967296) = W b (i + 1) := W_lo b (by omega) (by unfold word; omega); rw [e] at hH; exact hH
      clear hx
      refine lf_nil ?_
      refine then_n ?_
      refine wp_exit ?_
      refine then_exit ?_
      refine blk_exit ?_
      refine then_n ?_
      refine wp_gen (fun F' => F' 0 = vh ∧ F' 1 = vk ∧ F' 2 = v ∧ F' 6 = .slice none 0 0 ∧ F' 7 = y1 ∧ F' 8 = .int .i64 ((i : Nat) : Int) ∧ F' 23 = .bool true ∧ F' 27 = .bool true) ⟨e0, e1, e2, e6, e7, e8, e23, e27⟩ ?_
      clear e0 e1 e2 e6 e7 e8 e23 e27
      clear F
      rintro F ⟨e0, e1, e2, e6, e7, e8, e23, e27⟩
      refine wp_regionF ?_
      refine lf_val (v := .int .i64 ((i : Nat) : Int)) (wantAll rfl) (rv_move rfl (fr_eval rfl e8)) ?_
      refine lf_val (v := .int .i64 ((i + 1 : Nat) : Int)) (wantAll rfl) (rv_add rfl (fr_eval rfl rfl) rfl (wrap_i64 (by omega) (by omega) (by omega))) ?_
      refine lf_val (v := .int .i64 ((i + 1 : Nat) : Int)) (wantAll rfl) (rv_assign rfl (fr_eval rfl rfl)) ?_
      refine lf_nil ?_
      refine then_n ?_
      exact ⟨_, _, (by omega), rfl, i + 1, rfl, (by omega), e0, e1, e2, e6, e7, rfl, hH⟩
    · refine lf_val (v := .bool false) (wantAll rfl) (rv_lss rfl (fr_eval rfl rfl) rfl (decide_eq_false (by omega))) ?_
      refine lf_nil ?_
      refine then_n ?_
      refine wp_gen (fun F' => F' 0 = vh ∧ F' 1 = vk ∧ F' 2 = v ∧ F' 6 = .slice none 0 0 ∧ F' 7 = y1 ∧ F' 8 = .int .i64 ((i : Nat) : Int) ∧ F' 23 = .bool true ∧ F' 27 = .bool false) ⟨e0, e1, e2, e6, e7, e8, e23, rfl⟩ ?_
      clear e0 e1 e2 e6 e7 e8 e23
      clear F
      rintro F ⟨e0, e1, e2, e6, e7, e8, e23, e27⟩
      refine wp_cond_false (fr_eval rfl e27) ?_
      refine wp_skip ?_
      refine then_n ?_
      refine wp_seq ?_
      refine wp_regionX (fun _ => False) 11 (by kernel_rfl) (by kernel_rfl) ?_
      refine xl_take (i := 0) (v := y1) rfl (by kernel_rfl) (by kernel_rfl) (by kernel_rfl) (by kernel_rfl) (yx_val (wantAll rfl) (fun w' hx' => rv_move rfl (fr_eval rfl e7))) ?_
      refine xl_take (i := 1) (v := .int .i64 ((i : Nat) : Int)) rfl (by kernel_rfl) (by kernel_rfl) (by kernel_rfl) (by kernel_rfl) (yx_val (wantAll rfl) (fun w' hx' => rv_move rfl (fr_eval rfl e8))) ?_
      refine xl_take (i := 2) (v := .int .i64 ((i - 15 : Nat) : Int)) rfl (by kernel_rfl) (by kernel_rfl) (by kernel_rfl) (by kernel_rfl) (yx_val (wantAll rfl) (fun w' hx' => rv_sub rfl (fr_eval rfl rfl) rfl (wrap_i64 (by omega) (by omega) (by omega)))) ?_
      refine xl_take (i := 3) (v := .pointer (some (elemA y1 ((i - 15) * 1)))) rfl (by kernel_rfl) (by kernel_rfl) (by kernel_rfl) (by kernel_rfl) (yx_val (wantAll rfl) (fun w' hx' => rv_index rfl (fr_eval rfl rfl) (fr_eval rfl rfl) (rdN (Own.rd ((hH.ext hx').own (i := 0) rfl) (row_one c32_one)) (W_len b pi0)) (show i - 15 < 64 from (by omega)) Try.underlying74 Try.sz65 (by decide))) ?_
      refine xl_take (i := 4) (v := .int .u32 ((List.getD (W b i) (i - 15) 0 : Nat) : Int)) rfl (by kernel_rfl) (by kernel_rfl) (by kernel_rfl) (by kernel_rfl) (yx_val (wantAll rfl) (fun w' hx' => rv_loadCell rfl (fr_eval rfl rfl) (Nat.mul_one _) (Own.rd ((hH.ext hx').own (i := 0) rfl) (row_one c32_one)) (flat_get1 0 c32_len (Nat.lt_of_lt_of_eq (show i - 15 < 64 from (by omega)) ((W_len b pi0)).symm) rfl) Try.underlying65 rfl Try.sz65)) ?_
      refine xl_take (i := 5) (v := y1) rfl (by kernel_rfl) (by kernel_rfl) (by kernel_rfl) (by kernel_rfl) (yx_val (wantAll rfl) (fun w' hx' => rv_move rfl (fr_eval rfl e7))) ?_
      refine xl_take (i := 6) (v := .int .i64 ((i : Nat) : Int)) rfl (by kernel_rfl) (by kernel_rfl) (by kernel_rfl) (by kernel_rfl) (yx_val (wantAll rfl) (fun w' hx' => rv_move rfl (fr_eval rfl e8))) ?_
      refine xl_take (i := 7) (v := .int .i64 ((i - 2 : Nat) : Int)) rfl (by kernel_rfl) (by kernel_rfl) (by kernel_rfl) (by kernel_rfl) (yx_val (wantAll rfl) (fun w' hx' => rv_sub rfl (fr_eval rfl rfl) rfl (wrap_i64 (by omega) (by omega) (by omega)))) ?_
      refine xl_take (i := 8) (v := .pointer (some (elemA y1 ((i - 2) * 1)))) rfl (by kernel_rfl) (by kernel_rfl) (by kernel_rfl) (by kernel_rfl) (yx_val (wantAll rfl) (fun w' hx' => rv_index rfl (fr_eval rfl rfl) (fr_eval rfl rfl) (rdN (Own.rd ((hH.ext hx').own (i := 0) rfl) (row_one c32_one)) (W_len b pi0)) (show i - 2 < 64 from (by omega)) Try.underlying74 Try.sz65 (by decide))) ?_
      refine xl_take (i := 9) (v := .int .u32 ((List.getD (W b i) (i - 2) 0 : Nat) : Int)) rfl (by kernel_rfl) (by kernel_rfl) (by kernel_rfl) (by kernel_rfl) (yx_val (wantAll rfl) (fun w' hx' => rv_loadCell rfl (fr_eval rfl rfl) (Nat.mul_one _) (Own.rd ((hH.ext hx').own (i := 0) rfl) (row_one c32_one)) (flat_get1 0 c32_len (Nat.lt_of_lt_of_eq (show i - 2 < 64 from (by omega)) ((W_len b pi0)).symm) rfl) Try.underlying65 rfl Try.sz65)) ?_
      refine xl_take (i := 10) (v := .int .u32 ((List.getD (W b i) (i - 15) 0 : Nat) : Int)) rfl (by kernel_rfl) (by kernel_rfl) (by kernel_rfl) (by kernel_rfl) (yx_val (wantAll rfl) (fun w' hx' => rv_assign rfl (fr_eval rfl rfl))) ?_
      refine xl_tail (s := 11) rfl ?_
      intro w6 hx
      replace hH := hH.ext hx
      clear hx
      refine lf_val (v := .int .u32 ((List.getD (W b i) (i - 2) 0 : Nat) : Int)) (wantAll rfl) (rv_assign rfl (fr_eval rfl rfl)) ?_
      refine lf_nil ?_
      refine then_n ?_
      refine wp_gen (fun F' => F' 0 = vh ∧ F' 1 = vk ∧ F' 2 = v ∧ F' 6 = .slice none 0 0 ∧ F' 7 = y1 ∧ F' 8 = .int .i64 ((i : Nat) : Int) ∧ F' 9 = .int .u32 ((List.getD (W b i) (i - 15) 0 : Nat) : Int) ∧ F' 10 = .int .u32 ((List.getD (W b i) (i - 2) 0 : Nat) : Int) ∧ F' 23 = .bool true ∧ F' 27 = .bool false) ⟨e0, e1, e2, e6, e7, e8, rfl, rfl, e23, e27⟩ ?_
      clear e0 e1 e2 e6 e7 e8 e23 e27
      clear F
      rintro F ⟨e0, e1, e2, e6, e7, e8, e9, e10, e23, e27⟩
      refine wp_regionX (fun _ => False) 31 (by kernel_rfl) (by kernel_rfl) ?_
      refine xl_take (i := 0) (v := y1) rfl (by kernel_rfl) (by kernel_rfl) (by kernel_rfl) (by kernel_rfl) (yx_val (wantAll rfl) (fun w' hx' => rv_move rfl (fr_eval rfl e7))) ?_
      refine xl_take (i := 1) (v := .int .i64 ((i : Nat) : Int)) rfl (by kernel_rfl) (by kernel_rfl) (by kernel_rfl) (by kernel_rfl) (yx_val (wantAll rfl) (fun w' hx' => rv_move rfl (fr_eval rfl e8))) ?_
      refine xl_take (i := 2) (v := y1) rfl (by kernel_rfl) (by kernel_rfl) (by kernel_rfl) (by kernel_rfl) (yx_val (wantAll rfl) (fun w' hx' => rv_move rfl (fr_eval rfl e7))) ?_
      refine xl_take (i := 3) (v := .int .i64 ((i : Nat) : Int)) rfl (by kernel_rfl) (by kernel_rfl) (by kernel_rfl) (by kernel_rfl) (yx_val (wantAll rfl) (fun w' hx' => rv_move rfl (fr_eval rfl e8))) ?_
      refine xl_take (i := 4) (v := .int .i64 ((i - 16 : Nat) : Int)) rfl (by kernel_rfl) (by kernel_rfl) (by kernel_rfl) (by kernel_rfl) (yx_val (wantAll rfl) (fun w' hx' => rv_sub rfl (fr_eval rfl rfl) rfl (wrap_i64 (by omega) (by omega) (by omega)))) ?_
      refine xl_take (i := 5) (v := .pointer (some (elemA y1 ((i - 16) * 1)))) rfl (by kernel_rfl) (by kernel_rfl) (by kernel_rfl) (by kernel_rfl) (yx_val (wantAll rfl) (fun w' hx' => rv_index rfl (fr_eval rfl rfl) (fr_eval rfl rfl) (rdN (Own.rd ((hH.ext hx').own (i := 0) rfl) (row_one c32_one)) (W_len b pi0)) (show i - 16 < 64 from (by omega)) Try.underlying74 Try.sz65 (by decide))) ?_
      refine xl_take (i := 6) (v := .int .u32 ((List.getD (W b i) (i - 16) 0 : Nat) : Int)) rfl (by kernel_rfl) (by kernel_rfl) (by kernel_rfl) (by kernel_rfl) (yx_val (wantAll rfl) (fun w' hx' => rv_loadCell rfl (fr_eval rfl rfl) (Nat.mul_one _) (Own.rd ((hH.ext hx').own (i := 0) rfl) (row_one c32_one)) (flat_get1 0 c32_len (Nat.lt_of_lt_of_eq (show i - 16 < 64 from (by omega)) ((W_len b pi0)).symm) rfl) Try.underlying65 rfl Try.sz65)) ?_
      refine xl_take (i := 7) (v := .int .u32 ((List.getD (W b i) (i - 15) 0 : Nat) : Int)) rfl (by kernel_rfl) (by kernel_rfl) (by kernel_rfl) (by kernel_rfl) (yx_val (wantAll rfl) (fun w' hx' => rv_move rfl (fr_eval rfl e9))) ?_
      refine xl_take (i := 8) (v := .int .u32 ((rr 7 (List.getD (W b i) (i - 15) 0) : Nat) : Int)) rfl (by kernel_rfl) (by kernel_rfl) (by kernel_rfl) (by kernel_rfl) (yx_call (wantAll rfl) (fun w' => rv_call (args := [.int .u32 ((List.getD (W b i) (i - 15) 0 : Nat) : Int), .int .i64 7]) rfl (evc (fr_eval rfl rfl) (evc rfl evn)) Try.call61) (fun w' hx' => turn_calls (List.getD (W b i) (i - 15) 0) 7 (getD_lt (W_lt b i) _) (by decide) (by decide) _)) ?_
      refine xl_take (i := 9) (v := .int .u32 ((List.getD (W b i) (i - 15) 0 : Nat) : Int)) rfl (by kernel_rfl) (by kernel_rfl) (by kernel_rfl) (by kernel_rfl) (yx_val (wantAll rfl) (fun w' hx' => rv_move rfl (fr_eval rfl e9))) ?_
      refine xl_take (i := 10) (v := .int .u32 ((rr 18 (List.getD (W b i) (i - 15) 0) : Nat) : Int)) rfl (by kernel_rfl) (by kernel_rfl) (by kernel_rfl) (by kernel_rfl) (yx_call (wantAll rfl) (fun w' => rv_call (args := [.int .u32 ((List.getD (W b i) (i - 15) 0 : Nat) : Int), .int .i64 18]) rfl (evc (fr_eval rfl rfl) (evc rfl evn)) Try.call61) (fun w' hx' => turn_calls (List.getD (W b i) (i - 15) 0) 18 (getD_lt (W_lt b i) _) (by decide) (by decide) _)) ?_
      refine xl_take (i := 11) (v := .int .u32 (((rr 7 (List.getD (W b i) (i - 15) 0)) ^^^ (rr 18 (List.getD (W b i) (i - 15) 0)) : Nat) : Int)) rfl (by kernel_rfl) (by kernel_rfl) (by kernel_rfl) (by kernel_rfl) (yx_val (wantAll rfl) (fun w' hx' => rv_xor rfl (fr_eval rfl rfl) (fr_eval rfl rfl) (xor32 (rr_lt (getD_lt (W_lt b i) _)) (rr_lt (getD_lt (W_lt b i) _))))) ?_
      refine xl_take (i := 12) (v := .int .u32 ((List.getD (W b i) (i - 15) 0 : Nat) : Int)) rfl (by kernel_rfl) (by kernel_rfl) (by kernel_rfl) (by kernel_rfl) (yx_val (wantAll rfl) (fun w' hx' => rv_move rfl (fr_eval rfl e9))) ?_
      refine xl_take (i := 13) (v := .int .u32 (((List.getD (W b i) (i - 15) 0) / 2 ^ 3 : Nat) : Int)) rfl (by kernel_rfl) (by kernel_rfl) (by kernel_rfl) (by kernel_rfl) (yx_val (wantAll rfl) (fun w' hx' => rv_shr rfl (fr_eval rfl rfl) (show _ = Value.int _ ((3 : Nat) : Int) from rfl) (shr_nat 3 (by show _ ≤ 32; omega)))) ?_
      refine xl_take (i := 14) (v := .int .u32 ((((rr 7 (List.getD (W b i) (i - 15) 0)) ^^^ (rr 18 (List.getD (W b i) (i - 15) 0))) ^^^ ((List.getD (W b i) (i - 15) 0) / 2 ^ 3) : Nat) : Int)) rfl (by kernel_rfl) (by kernel_rfl) (by kernel_rfl) (by kernel_rfl) (yx_val (wantAll rfl) (fun w' hx' => rv_xor rfl (fr_eval rfl rfl) (fr_eval rfl rfl) (xor32 (Sha.xor_lt (rr_lt (getD_lt (W_lt b i) _)) (rr_lt (getD_lt (W_lt b i) _))) (Sha.div_lt (getD_lt (W_lt b i) _))))) ?_
      refine xl_take (i := 15) (v := .int .u32 ((((List.getD (W b i) (i - 16) 0) + (((rr 7 (List.getD (W b i) (i - 15) 0)) ^^^ (rr 18 (List.getD (W b i) (i - 15) 0))) ^^^ ((List.getD (W b i) (i - 15) 0) / 2 ^ 3))) % 4294967296 : Nat) : Int)) rfl (by kernel_rfl) (by kernel_rfl) (by kernel_rfl) (by kernel_rfl) (yx_val (wantAll rfl) (fun w' hx' => rv_add rfl (fr_eval rfl rfl) (fr_eval rfl rfl) (add32 _ _))) ?_
      refine xl_take (i := 16) (v := y1) rfl (by kernel_rfl) (by kernel_rfl) (by kernel_rfl) (by kernel_rfl) (yx_val (wantAll rfl) (fun w' hx' => rv_move rfl (fr_eval rfl e7))) ?_
      refine xl_take (i := 17) (v := .int .i64 ((i : Nat) : Int)) rfl (by kernel_rfl) (by kernel_rfl) (by kernel_rfl) (by kernel_rfl) (yx_val (wantAll rfl) (fun w' hx' => rv_move rfl (fr_eval rfl e8))) ?_
      refine xl_take (i := 18) (v := .int .i64 ((i - 7 : Nat) : Int)) rfl (by kernel_rfl) (by kernel_rfl) (by kernel_rfl) (by kernel_rfl) (yx_val (wantAll rfl) (fun w' hx' => rv_sub rfl (fr_eval rfl rfl) rfl (wrap_i64 (by omega) (by omega) (by omega)))) ?_
      refine xl_take (i := 19) (v := .pointer (some (elemA y1 ((i - 7) * 1)))) rfl (by kernel_rfl) (by kernel_rfl) (by kernel_rfl) (by kernel_rfl) (yx_val (wantAll rfl) (fun w' hx' => rv_index rfl (fr_eval rfl rfl) (fr_eval rfl rfl) (rdN (Own.rd ((hH.ext hx').own (i := 0) rfl) (row_one c32_one)) (W_len b pi0)) (show i - 7 < 64 from (by omega)) Try.underlying74 Try.sz65 (by decide))) ?_
      refine xl_take (i := 20) (v := .int .u32 ((List.getD (W b i) (i - 7) 0 : Nat) : Int)) rfl (by kernel_rfl) (by kernel_rfl) (by kernel_rfl) (by kernel_rfl) (yx_val (wantAll rfl) (fun w' hx' => rv_loadCell rfl (fr_eval rfl rfl) (Nat.mul_one _) (Own.rd ((hH.ext hx').own (i := 0) rfl) (row_one c32_one)) (flat_get1 0 c32_len (Nat.lt_of_lt_of_eq (show i - 7 < 64 from (by omega)) ((W_len b pi0)).symm) rfl) Try.underlying65 rfl Try.sz65)) ?_
      refine xl_take (i := 21) (v := .int .u32 ((((((List.getD (W b i) (i - 16) 0) + (((rr 7 (List.getD (W b i) (i - 15) 0)) ^^^ (rr 18 (List.getD (W b i) (i - 15) 0))) ^^^ ((List.getD (W b i) (i - 15) 0) / 2 ^ 3))) % 4294967296) + (List.getD (W b i) (i - 7) 0)) % 4294967296 : Nat) : Int)) rfl (by kernel_rfl) (by kernel_rfl) (by kernel_rfl) (by kernel_rfl) (yx_val (wantAll rfl) (fun w' hx' => rv_add rfl (fr_eval rfl rfl) (fr_eval rfl rfl) (add32 _ _))) ?_
      refine xl_take (i := 22) (v := .int .u32 ((List.getD (W b i) (i - 2) 0 : Nat) : Int)) rfl (by kernel_rfl) (by kernel_rfl) (by kernel_rfl) (by kernel_rfl) (yx_val (wantAll rfl) (fun w' hx' => rv_move rfl (fr_eval rfl e10))) ?_
      refine xl_take (i := 23) (v := .int .u32 ((rr 17 (List.getD (W b i) (i - 2) 0) : Nat) : Int)) rfl (by kernel_rfl) (by kernel_rfl) (by kernel_rfl) (by kernel_rfl) (yx_call (wantAll rfl) (fun w' => rv_call (args := [.int .u32 ((List.getD (W b i) (i - 2) 0 : Nat) : Int), .int .i64 17]) rfl (evc (fr_eval rfl rfl) (evc rfl evn)) Try.call61) (fun w' hx' => turn_calls (List.getD (W b i) (i - 2) 0) 17 (getD_lt (W_lt b i) _) (by decide) (by decide) _)) ?_
      refine xl_take (i := 24) (v := .int .u32 ((List.getD (W b i) (i - 2) 0 : Nat) : Int)) rfl (by kernel_rfl) (by kernel_rfl) (by kernel_rfl) (by kernel_rfl) (yx_val (wantAll rfl) (fun w' hx' => rv_move rfl (fr_eval rfl e10))) ?_
      refine xl_take (i := 25) (v := .int .u32 ((rr 19 (List.getD (W b i) (i - 2) 0) : Nat) : Int)) rfl (by kernel_rfl) (by kernel_rfl) (by kernel_rfl) (by kernel_rfl) (yx_call (wantAll rfl) (fun w' => rv_call (args := [.int .u32 ((List.getD (W b i) (i - 2) 0 : Nat) : Int), .int .i64 19]) rfl (evc (fr_eval rfl rfl) (evc rfl evn)) Try.call61) (fun w' hx' => turn_calls (List.getD (W b i) (i - 2) 0) 19 (getD_lt (W_lt b i) _) (by decide) (by decide) _)) ?_
      refine xl_take (i := 26) (v := .int .u32 (((rr 17 (List.getD (W b i) (i - 2) 0)) ^^^ (rr 19 (List.getD (W b i) (i - 2) 0)) : Nat) : Int)) rfl (by kernel_rfl) (by kernel_rfl) (by kernel_rfl) (by kernel_rfl) (yx_val (wantAll rfl) (fun w' hx' => rv_xor rfl (fr_eval rfl rfl) (fr_eval rfl rfl) (xor32 (rr_lt (getD_lt (W_lt b i) _)) (rr_lt (getD_lt (W_lt b i) _))))) ?_
      refine xl_take (i := 27) (v := .int .u32 ((List.getD (W b i) (i - 2) 0 : Nat) : Int)) rfl (by kernel_rfl) (by kernel_rfl) (by kernel_rfl) (by kernel_rfl) (yx_val (wantAll rfl) (fun w' hx' => rv_move rfl (fr_eval rfl e10))) ?_
      refine xl_take (i := 28) (v := .int .u32 (((List.getD (W b i) (i - 2) 0) / 2 ^ 10 : Nat) : Int)) rfl (by kernel_rfl) (by kernel_rfl) (by kernel_rfl) (by kernel_rfl) (yx_val (wantAll rfl) (fun w' hx' => rv_shr rfl (fr_eval rfl rfl) (show _ = Value.int _ ((10 : Nat) : Int) from rfl) (shr_nat 10 (by show _ ≤ 32; omega)))) ?_
      refine xl_take (i := 29) (v := .int .u32 ((((rr 17 (List.getD (W b i) (i - 2) 0)) ^^^ (rr 19 (List.getD (W b i) (i - 2) 0))) ^^^ ((List.getD (W b i) (i - 2) 0) / 2 ^ 10) : Nat) : Int)) rfl (by kernel_rfl) (by kernel_rfl) (by kernel_rfl) (by kernel_rfl) (yx_val (wantAll rfl) (fun w' hx' => rv_xor rfl (fr_eval rfl rfl) (fr_eval rfl rfl) (xor32 (Sha.xor_lt (rr_lt (getD_lt (W_lt b i) _)) (rr_lt (getD_lt (W_lt b i) _))) (Sha.div_lt (getD_lt (W_lt b i) _))))) ?_
      refine xl_take (i := 30) (v := .int .u32 ((((((((List.getD (W b i) (i - 16) 0) + (((rr 7 (List.getD (W b i) (i - 15) 0)) ^^^ (rr 18 (List.getD (W b i) (i - 15) 0))) ^^^ ((List.getD (W b i) (i - 15) 0) / 2 ^ 3))) % 4294967296) + (List.getD (W b i) (i - 7) 0)) % 4294967296) + (((rr 17 (List.getD (W b i) (i - 2) 0)) ^^^ (rr 19 (List.getD (W b i) (i - 2) 0))) ^^^ ((List.getD (W b i) (i - 2) 0) / 2 ^ 10))) % 4294967296 : Nat) : Int)) rfl (by kernel_rfl) (by kernel_rfl) (by kernel_rfl) (by kernel_rfl) (yx_val (wantAll rfl) (fun w' hx' => rv_add rfl (fr_eval rfl rfl) (fr_eval rfl rfl) (add32 _ _))) ?_
      refine xl_tail (s := 31) rfl ?_
      intro w7 hx
      replace hH := hH.ext hx
      clear hx
      refine lf_val (v := .pointer (some (elemA y1 (i * 1)))) (wantAll rfl) (rv_index rfl (fr_eval rfl rfl) (fr_eval rfl rfl) (rdN (Own.rd (hH.own (i := 0) rfl) (row_one c32_one)) (W_len b pi0)) (show i < 64 from (by omega)) Try.underlying74 Try.sz65 (by decide)) ?_
      refine lf_sk (wantAll rfl) (hx_setC hH (i := 0) (nm := List.length (List.set (W b i) i (((((((List.getD (W b i) (i - 16) 0) + (((rr 7 (List.getD (W b i) (i - 15) 0)) ^^^ (rr 18 (List.getD (W b i) (i - 15) 0))) ^^^ ((List.getD (W b i) (i - 15) 0) / 2 ^ 3))) % 4294967296) + (List.getD (W b i) (i - 7) 0)) % 4294967296) + (((rr 17 (List.getD (W b i) (i - 2) 0)) ^^^ (rr 19 (List.getD (W b i) (i - 2) 0))) ^^^ ((List.getD (W b i) (i - 2) 0) / 2 ^ 10))) % 4294967296))) (j := i) (xs' := (List.set (W b i) i (((((((List.getD (W b i) (i - 16) 0) + (((rr 7 (List.getD (W b i) (i - 15) 0)) ^^^ (rr 18 (List.getD (W b i) (i - 15) 0))) ^^^ ((List.getD (W b i) (i - 15) 0) / 2 ^ 3))) % 4294967296) + (List.getD (W b i) (i - 7) 0)) % 4294967296) + (((rr 17 (List.getD (W b i) (i - 2) 0)) ^^^ (rr 19 (List.getD (W b i) (i - 2) 0))) ^^^ ((List.getD (W b i) (i - 2) 0) / 2 ^ 10))) % 4294967296)).flatMap c32) rfl rfl rfl (List.length_set ..).symm (Nat.lt_of_lt_of_eq (by omega) ((W_len b pi0)).symm) (flat_set1 c32_len rfl (Nat.lt_of_lt_of_eq (by omega) ((W_len b pi0)).symm)) (fr_eval rfl rfl) (fr_eval rfl rfl) Try.sz65 rfl) ?_
      clear hH
      rintro w9 ⟨hH, hx⟩
      replace hH : Heap (newN w) w w9 [oRow c32 65 1 y1 (List.set (W b i) i (((((((List.getD (W b i) (i - 16) 0) + (((rr 7 (List.getD (W b i) (i - 15) 0)) ^^^ (rr 18 (List.getD (W b i) (i - 15) 0))) ^^^ ((List.getD (W b i) (i - 15) 0) / 2 ^ 3))) % 4294967296) + (List.getD (W b i) (i - 7) 0)) % 4294967296) + (((rr 17 (List.getD (W b i) (i - 2) 0)) ^^^ (rr 19 (List.getD (W b i) (i - 2) 0))) ^^^ ((List.getD (W b i) (i - 2) 0) / 2 ^ 10))) % 4294967296))] := hH
      replace hH : Heap (newN w) w w9 [oRow c32 65 1 y1 (W b (i + 1))] := by have e : List.set (W b i) i (((((((List.getD (W b i) (i - 16) 0) + (((rr 7 (List.getD (W b i) (i - 15) 0)) ^^^ (rr 18 (List.getD (W b i) (i - 15) 0))) ^^^ ((List.getD (W b i) (i - 15) 0) / 2 ^ 3))) % 4294967296) + (List.getD (W b i) (i - 7) 0)) % 4294967296) + (((rr 17 (List.getD (W b i) (i - 2) 0)) ^^^ (rr 19 (List.getD (W b i) (i - 2) 0))) ^^^ ((List.getD (W b i) (i - 2) 0) / 2 ^ 10))) % 4294967296) = W b (i + 1) := W_hi b (by omega) (by omega); rw [e] at hH; exact hH
      clear hx
      refine lf_nil ?_
      refine blk_n ?_
      refine then_n ?_
      refine wp_gen (fun F' => F' 0 = vh ∧ F' 1 = vk ∧ F' 2 = v ∧ F' 6 = .slice none 0 0 ∧ F' 7 = y1 ∧ F' 8 = .int .i64 ((i : Nat) : Int) ∧ F' 9 = .int .u32 ((List.getD (W b i) (i - 15) 0 : Nat) : Int) ∧ F' 10 = .int .u32 ((List.getD (W b i) (i - 2) 0 : Nat) : Int) ∧ F' 23 = .bool true ∧ F' 27 = .bool false) ⟨e0, e1, e2, e6, e7, e8, e9, e10, e23, e27⟩ ?_
      clear e0 e1 e2 e6 e7 e8 e9 e10 e23 e27
      clear F
      rintro F ⟨e0, e1, e2, e6, e7, e8, e9, e10, e23, e27⟩
      refine wp_regionF ?_
      refine lf_val (v := .int .i64 ((i : Nat) : Int)) (wantAll rfl) (rv_move rfl (fr_eval rfl e8)) ?_
      refine lf_val (v := .int .i64 ((i + 1 : Nat) : Int)) (wantAll rfl) (rv_add rfl (fr_eval rfl rfl) rfl (wrap_i64 (by omega) (by omega) (by omega))) ?_
      refine lf_val (v := .int .i64 ((i + 1 : Nat) : Int)) (wantAll rfl) (rv_assign rfl (fr_eval rfl rfl)) ?_
      refine lf_nil ?_
      refine then_n ?_
      exact ⟨_, _, (by omega), rfl, i + 1, rfl, (by omega), e0, e1, e2, e6, e7, rfl, hH⟩
  · refine lf_val (v := .bool false) (wantAll rfl) (rv_lss rfl (fr_eval rfl rfl) rfl (decide_eq_false (by omega))) ?_
    refine lf_nil ?_
    refine then_n ?_
    refine wp_gen (fun F' => F' 0 = vh ∧ F' 1 = vk ∧ F' 2 = v ∧ F' 6 = .slice none 0 0 ∧ F' 7 = y1 ∧ F' 8 = .int .i64 ((i : Nat) : Int) ∧ F' 23 = .bool false) ⟨e0, e1, e2, e6, e7, e8, rfl⟩ ?_
    clear e0 e1 e2 e6 e7 e8
    clear F
    rintro F ⟨e0, e1, e2, e6, e7, e8, e23⟩
    refine wp_cond_false (fr_eval rfl e23) ?_
    refine wp_exit ?_
    refine then_exit ?_
    refine then_exit ?_
    refine blk_exit ?_
    refine then_n ?_
    refine wp_seq ?_
    obtain rfl : i = 64 := by omega
    replace hH : Heap (newN w) w w2 [oRow c32 65 1 y1 (words b 64)] := by have e : W b 64 = words b 64 := W_64 b; rw [← e]; exact hH
    refine wp_regionF ?_
    refine lf_ex (wantAll rfl) (hx_make hH Try.st32 (n := 8) (nm := List.length (List.replicate 8 0)) (z1 := .int .u32 0) (xs := (List.replicate 8 0).flatMap c32) rfl (show _ = Value.int _ ((8 : Nat) : Int) from rfl) (show _ = Value.int _ ((8 : Nat) : Int) from rfl) (by omega) rfl (zeros_f (f := c32) (d := 0) (sz := 1) rfl _) (List.length_replicate ..).symm) ?_
    clear hH
    rintro y2 w10 ⟨hH, hx⟩
    replace hH : Heap (newN w) w w10 [oRow c32 65 1 y1 (words b 64), oRow c32 65 1 y2 (List.replicate 8 0)] := hH
    clear hx
    refine lf_val (v := y2) (wantAll rfl) (rv_assign rfl (fr_eval rfl rfl)) ?_
    refine lf_nil ?_
    refine then_n ?_
    refine wp_seq ?_
    refine wp_seq ?_
    refine wp_gen (fun F' => F' 0 = vh ∧ F' 1 = vk ∧ F' 2 = v ∧ F' 6 = .slice none 0 0 ∧ F' 7 = y1 ∧ F' 8 = .int .i64 ((64 : Nat) : Int) ∧ F' 11 = y2 ∧ F' 23 = .bool false) ⟨e0, e1, e2, e6, e7, e8, rfl, e23⟩ ?_
    clear e0 e1 e2 e6 e7 e8 e23
    clear F
    rintro F ⟨e0, e1, e2, e6, e7, e8, e11, e23⟩
    refine wp_regionF ?_
    refine lf_val (v := .int .i64 0) (wantAll rfl) (rv_assign rfl rfl) ?_
    refine lf_nil ?_
    refine then_n ?_
    refine wp_block ?_
    replace hH : Heap (newN w) w w10 [oRow c32 65 1 y1 (words b 64), oRow c32 65 1 y2 (copyL s 0)] := by have e : List.replicate 8 0 = copyL s 0 := rfl; rw [← e]; exact hH
    refine wp_gen (fun F' => F' 0 = vh ∧ F' 1 = vk ∧ F' 2 = v ∧ F' 6 = .slice none 0 0 ∧ F' 7 = y1 ∧ F' 8 = .int .i64 ((64 : Nat) : Int) ∧ F' 11 = y2 ∧ F' 12 = .int .i64 0 ∧ F' 23 = .bool false) ⟨e0, e1, e2, e6, e7, e8, e11, rfl, e23⟩ ?_
    clear e0 e1 e2 e6 e7 e8 e11 e23
    clear F
    rintro F ⟨e0, e1, e2, e6, e7, e8, e11, e12, e23⟩
    refine wp_loopF (fun m F wr => ∃ j : Nat, m = 8 - j ∧ j ≤ 8 ∧ F 0 = vh ∧ F 1 = vk ∧ F 2 = v ∧ F 6 = .slice none 0 0 ∧ F 7 = y1 ∧ F 8 = .int .i64 ((64 : Nat) : Int) ∧ F 11 = y2 ∧ F 12 = .int .i64 ((j : Nat) : Int) ∧ F 23 = .bool false ∧ Heap (newN w) w wr [oRow c32 65 1 y1 (words b 64), oRow c32 65 1 y2 (copyL s j)]) ⟨0, rfl, (by decide), e0, e1, e2, e6, e7, e8, e11, e12, e23, hH⟩ ?_
    clear e0 e1 e2 e6 e7 e8 e11 e12 e23 hH
    clear F
    rintro m F w11 ⟨j, rfl, pj0, e0, e1, e2, e6, e7, e8, e11, e12, e23, hH⟩
    refine wp_seq ?_
    refine wp_seq ?_
    refine wp_regionF ?_
    refine lf_val (v := .int .i64 ((j : Nat) : Int)) (wantAll rfl) (rv_move rfl (fr_eval rfl e12)) ?_
    by_cases hc3 : j < 8
    · refine lf_val (v := .bool true) (wantAll rfl) (rv_lss rfl (fr_eval rfl rfl) rfl (decide_eq_true (by omega))) ?_
      refine lf_nil ?_
      refine then_n ?_
      refine wp_gen (fun F' => F' 0 = vh ∧ F' 1 = vk ∧ F' 2 = v ∧ F' 6 = .slice none 0 0 ∧ F' 7 = y1 ∧ F' 8 = .int .i64 ((64 : Nat) : Int) ∧ F' 11 = y2 ∧ F' 12 = .int .i64 ((j : Nat) : Int) ∧ F' 23 = .bool false ∧ F' 108 = .bool true) ⟨e0, e1, e2, e6, e7, e8, e11, e12, e23, rfl⟩ ?_
      clear e0 e1 e2 e6 e7 e8 e11 e12 e23
      clear F
      rintro F ⟨e0, e1, e2, e6, e7, e8, e11, e12, e23, e108⟩
      refine wp_cond_true (fr_eval rfl e108) ?_
      refine wp_skip ?_
      refine then_n ?_
      refine wp_seq ?_
      refine wp_block ?_
      refine wp_regionF ?_
      refine lf_val (v := y2) (wantAll rfl) (rv_move rfl (fr_eval rfl e11)) ?_
      refine lf_val (v := .int .i64 ((j : Nat) : Int)) (wantAll rfl) (rv_move rfl (fr_eval rfl e12)) ?_
      refine lf_val (v := vh) (wantAll rfl) (rv_move rfl (fr_eval rfl e0)) ?_
      refine lf_val (v := .int .i64 ((j : Nat) : Int)) (wantAll rfl) (rv_move rfl (fr_eval rfl e12)) ?_
      refine lf_val (v := .pointer (some (elemA vh (j * 1)))) (wantAll rfl) (rv_index rfl (fr_eval rfl rfl) (fr_eval rfl rfl) (rdN (hh.rd _ hH.chg) rfl) (show j < 8 from (by omega)) Try.underlying74 Try.sz65 (by decide)) ?_
      refine lf_val (v := .int .u32 ((List.getD s.list j 0 : Nat) : Int)) (wantAll rfl) (rv_loadCell rfl (fr_eval rfl rfl) (Nat.mul_one _) (hh.rd _ hH.chg) (flat_get1 0 c32_len (show j < 8 from (by omega)) rfl) Try.underlying65 rfl Try.sz65) ?_
      refine lf_val (v := .pointer (some (elemA y2 (j * 1)))) (wantAll rfl) (rv_index rfl (fr_eval rfl rfl) (fr_eval rfl rfl) (rdN (Own.rd (hH.own (i := 1) rfl) (row_one c32_one)) (copyL_len s pj0)) (show j < 8 from (by omega)) Try.underlying74 Try.sz65 (by decide)) ?_
      refine lf_sk (wantAll rfl) (hx_setC hH (i := 1) (nm := List.length (List.set (copyL s j) j (List.getD s.list j 0))) (j := j) (xs' := (List.set (copyL s j) j (List.getD s.list j 0)).flatMap c32) rfl rfl rfl (List.length_set ..).symm (Nat.lt_of_lt_of_eq (by omega) ((copyL_len s pj0)).symm) (flat_set1 c32_len rfl (Nat.lt_of_lt_of_eq (by omega) ((copyL_len s pj0)).symm)) (fr_eval rfl rfl) (fr_eval rfl rfl) Try.sz65 rfl) ?_
      clear hH
      rintro w13 ⟨hH, hx⟩
      replace hH : Heap (newN w) w w13 [oRow c32 65 1 y1 (words b 64), oRow c32 65 1 y2 (List.set (copyL s j) j (List.getD s.list j 0))] := hH
      replace hH : Heap (newN w) w w13 [oRow c32 65 1 y1 (words b 64), oRow c32 65 1 y2 (copyL s (j + 1))] := by have e : List.set (copyL s j) j (List.getD s.list j 0) = copyL s (j + 1) := copyL_set s (by omega); rw [e] at hH; exact hH
      clear hx
      refine lf_nil ?_
      refine blk_n ?_
      refine then_n ?_
      refine wp_gen (fun F' => F' 0 = vh ∧ F' 1 = vk ∧ F' 2 = v ∧ F' 6 = .slice none 0 0 ∧ F' 7 = y1 ∧ F' 8 = .int .i64 ((64 : Nat) : Int) ∧ F' 11 = y2 ∧ F' 12 = .int .i64 ((j : Nat) : Int) ∧ F' 23 = .bool false ∧ F' 108 = .bool true) ⟨e0, e1, e2, e6, e7, e8, e11, e12, e23, e108⟩ ?_
      clear e0 e1 e2 e6 e7 e8 e11 e12 e23 e108
      clear F
      rintro F ⟨e0, e1, e2, e6, e7, e8, e11, e12, e23, e108⟩
      refine wp_regionF ?_
      refine lf_val (v := .int .i64 ((j : Nat) : Int)) (wantAll rfl) (rv_move rfl (fr_eval rfl e12)) ?_
      refine lf_val (v := .int .i64 ((j + 1 : Nat) : Int)) (wantAll rfl) (rv_add rfl (fr_eval rfl rfl) rfl (wrap_i64 (by omega) (by omega) (by omega))) ?_
      refine lf_val (v := .int .i64 ((j + 1 : Nat) : Int)) (wantAll rfl) (rv_assign rfl (fr_eval rfl rfl)) ?_
      refine lf_nil ?_
      refine then_n ?_
      exact ⟨_, _, (by omega), rfl, j + 1, rfl, (by omega), e0, e1, e2, e6, e7, e8, e11, rfl, e23, hH⟩
    · refine lf_val (v := .bool false) (wantAll rfl) (rv_lss rfl (fr_eval rfl rfl) rfl (decide_eq_false (by omega))) ?_
      refine lf_nil ?_
      refine then_n ?_
      refine wp_gen (fun F' => F' 0 = vh ∧ F' 1 = vk ∧ F' 2 = v ∧ F' 6 = .slice none 0 0 ∧ F' 7 = y1 ∧ F' 8 = .int .i64 ((64 : Nat) : Int) ∧ F' 11 = y2 ∧ F' 12 = .int .i64 ((j : Nat) : Int) ∧ F' 23 = .bool false ∧ F' 108 = .bool false) ⟨e0, e1, e2, e6, e7, e8, e11, e12, e23, rfl⟩ ?_
      clear e0 e1 e2 e6 e7 e8 e11 e12 e23
      clear F
      rintro F ⟨e0, e1, e2, e6, e7, e8, e11, e12, e23, e108⟩
      refine wp_cond_false (fr_eval rfl e108) ?_
      refine wp_exit ?_
      refine then_exit ?_
      refine then_exit ?_
      refine blk_exit ?_
      refine then_n ?_
      refine wp_seq ?_
      refine wp_seq ?_
      obtain rfl : j = 8 := by omega
      have hro : ∀ i, (rounds (words b 64) s i).Ok := rounds_ok _ hs
      replace hH : Heap (newN w) w w11 [oRow c32 65 1 y1 (words b 64), oRow c32 65 1 y2 ((rounds (words b 64) s 0).list)] := by have e : copyL s 8 = (rounds (words b 64) s 0).list := rfl; rw [← e]; exact hH
      refine wp_regionF ?_
      refine lf_val (v := .int .i64 0) (wantAll rfl) (rv_assign rfl rfl) ?_
      refine lf_nil ?_
      refine then_n ?_
      refine wp_block ?_
      refine wp_gen (fun F' => F' 0 = vh ∧ F' 1 = vk ∧ F' 2 = v ∧ F' 6 = .slice none 0 0 ∧ F' 7 = y1 ∧ F' 8 = .int .i64 ((64 : Nat) : Int) ∧ F' 11 = y2 ∧ F' 12 = .int .i64 ((8 : Nat) : Int) ∧ F' 13 = .int .i64 0 ∧ F' 23 = .bool false ∧ F' 108 = .bool false) ⟨e0, e1, e2, e6, e7, e8, e11, e12, rfl, e23, e108⟩ ?_
      clear e0 e1 e2 e6 e7 e8 e11 e12 e23 e108
      clear F
      rintro F ⟨e0, e1, e2, e6, e7, e8, e11, e12, e13, e23, e108⟩
      refine wp_loopF (fun m F wr => ∃ i : Nat, ∃ yv : Value, m = 64 - i ∧ i ≤ 64 ∧ F 0 = vh ∧ F 1 = vk ∧ F 2 = v ∧ F 6 = .slice none 0 0 ∧ F 7 = y1 ∧ F 8 = .int .i64 ((64 : Nat) : Int) ∧ F 11 = yv ∧ F 12 = .int .i64 ((8 : Nat) : Int) ∧ F 13 = .int .i64 ((i : Nat) : Int) ∧ F 23 = .bool false ∧ F 108 = .bool false ∧ Heap (newN w) w wr [oRow c32 65 1 y1 (words b 64), oRow c32 65 1 yv ((rounds (words b 64) s i).list)]) ⟨0, _, rfl, (by decide), e0, e1, e2, e6, e7, e8, e11, e12, e13, e23, e108, hH⟩ ?_
      clear e0 e1 e2 e6 e7 e8 e11 e12 e13 e23 e108 hH
      clear F
      rintro m F w14 ⟨i, yv, rfl, pi0, e0, e1, e2, e6, e7, e8, e11, e12, e13, e23, e108, hH⟩
      refine wp_seq ?_
      refine wp_seq ?_
      refine wp_regionF ?_
      refine lf_val (v := .int .i64 ((i : Nat) : Int)) (wantAll rfl) (rv_move rfl (fr_eval rfl e13)) ?_
      by_cases hc4 : i < 64
      · refine lf_val (v := .bool true) (wantAll rfl) (rv_lss rfl (fr_eval rfl rfl) rfl (decide_eq_true (by omega))) ?_
        refine lf_nil ?_
        refine then_n ?_
        refine wp_gen (fun F' => F' 0 = vh ∧ F' 1 = vk ∧ F' 2 = v ∧ F' 6 = .slice none 0 0 ∧ F' 7 = y1 ∧ F' 8 = .int .i64 ((64 : Nat) : Int) ∧ F' 11 = yv ∧ F' 12 = .int .i64 ((8 : Nat) : Int) ∧ F' 13 = .int .i64 ((i : Nat) : Int) ∧ F' 23 = .bool false ∧ F' 108 = .bool false ∧ F' 119 = .bool true) ⟨e0, e1, e2, e6, e7, e8, e11, e12, e13, e23, e108, rfl⟩ ?_
        clear e0 e1 e2 e6 e7 e8 e11 e12 e13 e23 e108
        clear F
        rintro F ⟨e0, e1, e2, e6, e7, e8, e11, e12, e13, e23, e108, e119⟩
        refine wp_cond_true (fr_eval rfl e119) ?_
        refine wp_skip ?_
        refine then_n ?_
        refine wp_seq ?_
        refine wp_block ?_
        refine wp_seq ?_
        refine wp_regionX (fun _ => False) 15 (by kernel_rfl) (by kernel_rfl) ?_
        refine xl_take (i := 0) (v := yv) rfl (by kernel_rfl) (by kernel_rfl) (by kernel_rfl) (by kernel_rfl) (yx_val (wantAll rfl) (fun w' hx' => rv_move rfl (fr_eval rfl e11))) ?_
        refine xl_take (i := 1) (v := .pointer (some (elemA yv (4 * 1)))) rfl (by kernel_rfl) (by kernel_rfl) (by kernel_rfl) (by kernel_rfl) (yx_val (wantAll rfl) (fun w' hx' => rv_index rfl (fr_eval rfl rfl) (show _ = Value.int _ ((4 : Nat) : Int) from rfl) (rdN (Own.rd ((hH.ext hx').own (i := 1) rfl) (row_one c32_one)) rfl) (show 4 < 8 from (by omega)) Try.underlying74 Try.sz65 (by decide))) ?_
        refine xl_take (i := 2) (v := .int .u32 (((rounds (words b 64) s i).e : Nat) : Int)) rfl (by kernel_rfl) (by kernel_rfl) (by kernel_rfl) (by kernel_rfl) (yx_val (wantAll rfl) (fun w' hx' => rv_loadCell rfl (fr_eval rfl rfl) (Nat.mul_one _) (Own.rd ((hH.ext hx').own (i := 1) rfl) (row_one c32_one)) (flat_get1 0 c32_len (show 4 < 8 from (by omega)) rfl) Try.underlying65 rfl Try.sz65)) ?_
        refine xl_take (i := 3) (v := yv) rfl (by kernel_rfl) (by kernel_rfl) (by kernel_rfl) (by kernel_rfl) (yx_val (wantAll rfl) (fun w' hx' => rv_move rfl (fr_eval rfl e11))) ?_
        refine xl_take (i := 4) (v := .pointer (some (elemA yv (5 * 1)))) rfl (by kernel_rfl) (by kernel_rfl) (by kernel_rfl) (by kernel_rfl) (yx_val (wantAll rfl) (fun w' hx' => rv_index rfl (fr_eval rfl rfl) (show _ = Value.int _ ((5 : Nat) : Int) from rfl) (rdN (Own.rd ((hH.ext hx').own (i := 1) rfl) (row_one c32_one)) rfl) (show 5 < 8 from (by omega)) Try.underlying74 Try.sz65 (by decide))) ?_
        refine xl_take (i := 5) (v := .int .u32 (((rounds (words b 64) s i).f : Nat) : Int)) rfl (by kernel_rfl) (by kernel_rfl) (by kernel_rfl) (by kernel_rfl) (yx_val (wantAll rfl) (fun w' hx' => rv_loadCell rfl (fr_eval rfl rfl) (Nat.mul_one _) (Own.rd ((hH.ext hx').own (i := 1) rfl) (row_one c32_one)) (flat_get1 0 c32_len (show 5 < 8 from (by omega)) rfl) Try.underlying65 rfl Try.sz65)) ?_
        refine xl_take (i := 6) (v := .int .u32 ((((rounds (words b 64) s i).e) &&& ((rounds (words b 64) s i).f) : Nat) : Int)) rfl (by kernel_rfl) (by kernel_rfl) (by kernel_rfl) (by kernel_rfl) (yx_val (wantAll rfl) (fun w' hx' => rv_and rfl (fr_eval rfl rfl) (fr_eval rfl rfl) (and32 (hro i).e (hro i).f))) ?_
        refine xl_take (i := 7) (v := yv) rfl (by kernel_rfl) (by kernel_rfl) (by kernel_rfl) (by kernel_rfl) (yx_val (wantAll rfl) (fun w' hx' => rv_move rfl (fr_eval rfl e11))) ?_
        refine xl_take (i := 8) (v := .pointer (some (elemA yv (4 * 1)))) rfl (by kernel_rfl) (by kernel_rfl) (by kernel_rfl) (by kernel_rfl) (yx_val (wantAll rfl) (fun w' hx' => rv_index rfl (fr_eval rfl rfl) (show _ = Value.int _ ((4 : Nat) : Int) from rfl) (rdN (Own.rd ((hH.ext hx').own (i := 1) rfl) (row_one c32_one)) rfl) (show 4 < 8 from (by omega)) Try.underlying74 Try.sz65 (by decide))) ?_
        refine xl_take (i := 9) (v := .int .u32 (((rounds (words b 64) s i).e : Nat) : Int)) rfl (by kernel_rfl) (by kernel_rfl) (by kernel_rfl) (by kernel_rfl) (yx_val (wantAll rfl) (fun w' hx' => rv_loadCell rfl (fr_eval rfl rfl) (Nat.mul_one _) (Own.rd ((hH.ext hx').own (i := 1) rfl) (row_one c32_one)) (flat_get1 0 c32_len (show 4 < 8 from (by omega)) rfl) Try.underlying65 rfl Try.sz65)) ?_
        refine xl_take (i := 10) (v := .int .u32 ((((rounds (words b 64) s i).e) ^^^ 4294967295 : Nat) : Int)) rfl (by kernel_rfl) (by kernel_rfl) (by kernel_rfl) (by kernel_rfl) (yx_val (wantAll rfl) (fun w' hx' => rv_xor rfl (fr_eval rfl rfl) (show _ = Value.int _ ((4294967295 : Nat) : Int) from rfl) (xor32 (hro i).e (by decide)))) ?_
        refine xl_take (i := 11) (v := yv) rfl (by kernel_rfl) (by kernel_rfl) (by kernel_rfl) (by kernel_rfl) (yx_val (wantAll rfl) (fun w' hx' => rv_move rfl (fr_eval rfl e11))) ?_
        refine xl_take (i := 12) (v := .pointer (some (elemA yv (6 * 1)))) rfl (by kernel_rfl) (by kernel_rfl) (by kernel_rfl) (by kernel_rfl) (yx_val (wantAll rfl) (fun w' hx' => rv_index rfl (fr_eval rfl rfl) (show _ = Value.int _ ((6 : Nat) : Int) from rfl) (rdN (Own.rd ((hH.ext hx').own (i := 1) rfl) (row_one c32_one)) rfl) (show 6 < 8 from (by omega)) Try.underlying74 Try.sz65 (by decide))) ?_
        refine xl_take (i := 13) (v := .int .u32 (((rounds (words b 64) s i).g : Nat) : Int)) rfl (by kernel_rfl) (by kernel_rfl) (by kernel_rfl) (by kernel_rfl) (yx_val (wantAll rfl) (fun w' hx' => rv_loadCell rfl (fr_eval rfl rfl) (Nat.mul_one _) (Own.rd ((hH.ext hx').own (i := 1) rfl) (row_one c32_one)) (flat_get1 0 c32_len (show 6 < 8 from (by omega)) rfl) Try.underlying65 rfl Try.sz65)) ?_
        refine xl_take (i := 14) (v := .int .u32 (((((rounds (words b 64) s i).e) ^^^ 4294967295) &&& ((rounds (words b 64) s i).g) : Nat) : Int)) rfl (by kernel_rfl) (by kernel_rfl) (by kernel_rfl) (by kernel_rfl) (yx_val (wantAll rfl) (fun w' hx' => rv_and rfl (fr_eval rfl rfl) (fr_eval rfl rfl) (and32 (Sha.xor_lt (hro i).e (by decide)) (hro i).g))) ?_
        refine xl_tail (s := 15) rfl ?_
        intro w15 hx
        replace hH := hH.ext hx
        clear hx
        refine lf_val (v := .int .u32 (((((rounds (words b 64) s i).e) &&& ((rounds (words b 64) s i).f)) ||| ((((rounds (words b 64) s i).e) ^^^ 4294967295) &&& ((rounds (words b 64) s i).g)) : Nat) : Int)) (wantAll rfl) (rv_or rfl (fr_eval rfl rfl) (fr_eval rfl rfl) (or32 (Sha.and_lt (hro i).e) (Sha.and_lt (Sha.xor_lt (hro i).e (by decide))))) ?_
        refine lf_val (v := .int .u32 (((((rounds (words b 64) s i).e) &&& ((rounds (words b 64) s i).f)) ||| ((((rounds (words b 64) s i).e) ^^^ 4294967295) &&& ((rounds (words b 64) s i).g)) : Nat) : Int)) (wantAll rfl) (rv_assign rfl (fr_eval rfl rfl)) ?_
        refine lf_nil ?_
        refine then_n ?_
        refine wp_seq ?_
        refine wp_gen (fun F' => F' 0 = vh ∧ F' 1 = vk ∧ F' 2 = v ∧ F' 6 = .slice none 0 0 ∧ F' 7 = y1 ∧ F' 8 = .int .i64 ((64 : Nat) : Int) ∧ F' 11 = yv ∧ F' 12 = .int .i64 ((8 : Nat) : Int) ∧ F' 13 = .int .i64 ((i : Nat) : Int) ∧ F' 14 = .int .u32 (((((rounds (words b 64) s i).e) &&& ((rounds (words b 64) s i).f)) ||| ((((rounds (words b 64) s i).e) ^^^ 4294967295) &&& ((rounds (words b 64) s i).g)) : Nat) : Int) ∧ F' 23 = .bool false ∧ F' 108 = .bool false ∧ F' 119 = .bool true) ⟨e0, e1, e2, e6, e7, e8, e11, e12, e13, rfl, e23, e108, e119⟩ ?_
        clear e0 e1 e2 e6 e7 e8 e11 e12 e13 e23 e108 e119
        clear F
        rintro F ⟨e0, e1, e2, e6, e7, e8, e11, e12, e13, e14, e23, e108, e119⟩
        refine wp_regionX (fun _ => False) 22 (by kernel_rfl) (by kernel_rfl) ?_
        refine xl_take (i := 0) (v := yv) rfl (by kernel_rfl) (by kernel_rfl) (by kernel_rfl) (by kernel_rfl) (yx_val (wantAll rfl) (fun w' hx' => rv_move rfl (fr_eval rfl e11))) ?_
        refine xl_take (i := 1) (v := .pointer (some (elemA yv (0 * 1)))) rfl (by kernel_rfl) (by kernel_rfl) (by kernel_rfl) (by kernel_rfl) (yx_val (wantAll rfl) (fun w' hx' => rv_index rfl (fr_eval rfl rfl) (show _ = Value.int _ ((0 : Nat) : Int) from rfl) (rdN (Own.rd ((hH.ext hx').own (i := 1) rfl) (row_one c32_one)) rfl) (show 0 < 8 from (by omega)) Try.underlying74 Try.sz65 (by decide))) ?_
        refine xl_take (i := 2) (v := .int .u32 (((rounds (words b 64) s i).a : Nat) : Int)) rfl (by kernel_rfl) (by kernel_rfl) (by kernel_rfl) (by kernel_rfl) (yx_val (wantAll rfl) (fun w' hx' => rv_loadCell rfl (fr_eval rfl rfl) (Nat.mul_one _) (Own.rd ((hH.ext hx').own (i := 1) rfl) (row_one c32_one)) (flat_get1 0 c32_len (show 0 < 8 from (by omega)) rfl) Try.underlying65 rfl Try.sz65)) ?_
        refine xl_take (i := 3) (v := yv) rfl (by kernel_rfl) (by kernel_rfl) (by kernel_rfl) (by kernel_rfl) (yx_val (wantAll rfl) (fun w' hx' => rv_move rfl (fr_eval rfl e11))) ?_
        refine xl_take (i := 4) (v := .pointer (some (elemA yv (1 * 1)))) rfl (by kernel_rfl) (by kernel_rfl) (by kernel_rfl) (by kernel_rfl) (yx_val (wantAll rfl) (fun w' hx' => rv_index rfl (fr_eval rfl rfl) (show _ = Value.int _ ((1 : Nat) : Int) from rfl) (rdN (Own.rd ((hH.ext hx').own (i := 1) rfl) (row_one c32_one)) rfl) (show 1 < 8 from (by omega)) Try.underlying74 Try.sz65 (by decide))) ?_
        refine xl_take (i := 5) (v := .int .u32 (((rounds (words b 64) s i).b : Nat) : Int)) rfl (by kernel_rfl) (by kernel_rfl) (by kernel_rfl) (by kernel_rfl) (yx_val (wantAll rfl) (fun w' hx' => rv_loadCell rfl (fr_eval rfl rfl) (Nat.mul_one _) (Own.rd ((hH.ext hx').own (i := 1) rfl) (row_one c32_one)) (flat_get1 0 c32_len (show 1 < 8 from (by omega)) rfl) Try.underlying65 rfl Try.sz65)) ?_
        refine xl_take (i := 6) (v := .int .u32 ((((rounds (words b 64) s i).a) &&& ((rounds (words b 64) s i).b) : Nat) : Int)) rfl (by kernel_rfl) (by kernel_rfl) (by kernel_rfl) (by kernel_rfl) (yx_val (wantAll rfl) (fun w' hx' => rv_and rfl (fr_eval rfl rfl) (fr_eval rfl rfl) (and32 (hro i).a (hro i).b))) ?_
        refine xl_take (i := 7) (v := yv) rfl (by kernel_rfl) (by kernel_rfl) (by kernel_rfl) (by kernel_rfl) (yx_val (wantAll rfl) (fun w' hx' => rv_move rfl (fr_eval rfl e11))) ?_
        refine xl_take (i := 8) (v := .pointer (some (elemA yv (0 * 1)))) rfl (by kernel_rfl) (by kernel_rfl) (by kernel_rfl) (by kernel_rfl) (yx_val (wantAll rfl) (fun w' hx' => rv_index rfl (fr_eval rfl rfl) (show _ = Value.int _ ((0 : Nat) : Int) from rfl) (rdN (Own.rd ((hH.ext hx').own (i := 1) rfl) (row_one c32_one)) rfl) (show 0 < 8 from (by omega)) Try.underlying74 Try.sz65 (by decide))) ?_
        refine xl_take (i := 9) (v := .int .u32 (((rounds (words b 64) s i).a : Nat) : Int)) rfl (by kernel_rfl) (by kernel_rfl) (by kernel_rfl) (by kernel_rfl) (yx_val (wantAll rfl) (fun w' hx' => rv_loadCell rfl (fr_eval rfl rfl) (Nat.mul_one _) (Own.rd ((hH.ext hx').own (i := 1) rfl) (row_one c32_one)) (flat_get1 0 c32_len (show 0 < 8 from (by omega)) rfl) Try.underlying65 rfl Try.sz65)) ?_
        refine xl_take (i := 10) (v := yv) rfl (by kernel_rfl) (by kernel_rfl) (by kernel_rfl) (by kernel_rfl) (yx_val (wantAll rfl) (fun w' hx' => rv_move rfl (fr_eval rfl e11))) ?_
        refine xl_take (i := 11) (v := .pointer (some (elemA yv (2 * 1)))) rfl (by kernel_rfl) (by kernel_rfl) (by kernel_rfl) (by kernel_rfl) (yx_val (wantAll rfl) (fun w' hx' => rv_index rfl (fr_eval rfl rfl) (show _ = Value.int _ ((2 : Nat) : Int) from rfl) (rdN (Own.rd ((hH.ext hx').own (i := 1) rfl) (row_one c32_one)) rfl) (show 2 < 8 from (by omega)) Try.underlying74 Try.sz65 (by decide))) ?_
        refine xl_take (i := 12) (v := .int .u32 (((rounds (words b 64) s i).c : Nat) : Int)) rfl (by kernel_rfl) (by kernel_rfl) (by kernel_rfl) (by kernel_rfl) (yx_val (wantAll rfl) (fun w' hx' => rv_loadCell rfl (fr_eval rfl rfl) (Nat.mul_one _) (Own.rd ((hH.ext hx').own (i := 1) rfl) (row_one c32_one)) (flat_get1 0 c32_len (show 2 < 8 from (by omega)) rfl) Try.underlying65 rfl Try.sz65)) ?_
        refine xl_take (i := 13) (v := .int .u32 ((((rounds (words b 64) s i).a) &&& ((rounds (words b 64) s i).c) : Nat) : Int)) rfl (by kernel_rfl) (by kernel_rfl) (by kernel_rfl) (by kernel_rfl) (yx_val (wantAll rfl) (fun w' hx' => rv_and rfl (fr_eval rfl rfl) (fr_eval rfl rfl) (and32 (hro i).a (hro i).c))) ?_
        refine xl_take (i := 14) (v := .int .u32 (((((rounds (words b 64) s i).a) &&& ((rounds (words b 64) s i).b)) ||| (((rounds (words b 64) s i).a) &&& ((rounds (words b 64) s i).c)) : Nat) : Int)) rfl (by kernel_rfl) (by kernel_rfl) (by kernel_rfl) (by kernel_rfl) (yx_val (wantAll rfl) (fun w' hx' => rv_or rfl (fr_eval rfl rfl) (fr_eval rfl rfl) (or32 (Sha.and_lt (hro i).a) (Sha.and_lt (hro i).a)))) ?_
        refine xl_take (i := 15) (v := yv) rfl (by kernel_rfl) (by kernel_rfl) (by kernel_rfl) (by kernel_rfl) (yx_val (wantAll rfl) (fun w' hx' => rv_move rfl (fr_eval rfl e11))) ?_
        refine xl_take (i := 16) (v := .pointer (some (elemA yv (1 * 1)))) rfl (by kernel_rfl) (by kernel_rfl) (by kernel_rfl) (by kernel_rfl) (yx_val (wantAll rfl) (fun w' hx' => rv_index rfl (fr_eval rfl rfl) (show _ = Value.int _ ((1 : Nat) : Int) from rfl) (rdN (Own.rd ((hH.ext hx').own (i := 1) rfl) (row_one c32_one)) rfl) (show 1 < 8 from (by omega)) Try.underlying74 Try.sz65 (by decide))) ?_
        refine xl_take (i := 17) (v := .int .u32 (((rounds (words b 64) s i).b : Nat) : Int)) rfl (by kernel_rfl) (by kernel_rfl) (by kernel_rfl) (by kernel_rfl) (yx_val (wantAll rfl) (fun w' hx' => rv_loadCell rfl (fr_eval rfl rfl) (Nat.mul_one _) (Own.rd ((hH.ext hx').own (i := 1) rfl) (row_one c32_one)) (flat_get1 0 c32_len (show 1 < 8 from (by omega)) rfl) Try.underlying65 rfl Try.sz65)) ?_
        refine xl_take (i := 18) (v := yv) rfl (by kernel_rfl) (by kernel_rfl) (by kernel_rfl) (by kernel_rfl) (yx_val (wantAll rfl) (fun w' hx' => rv_move rfl (fr_eval rfl e11))) ?_
        refine xl_take (i := 19) (v := .pointer (some (elemA yv (2 * 1)))) rfl (by kernel_rfl) (by kernel_rfl) (by kernel_rfl) (by kernel_rfl) (yx_val (wantAll rfl) (fun w' hx' => rv_index rfl (fr_eval rfl rfl) (show _ = Value.int _ ((2 : Nat) : Int) from rfl) (rdN (Own.rd ((hH.ext hx').own (i := 1) rfl) (row_one c32_one)) rfl) (show 2 < 8 from (by omega)) Try.underlying74 Try.sz65 (by decide))) ?_
        refine xl_take (i := 20) (v := .int .u32 (((rounds (words b 64) s i).c : Nat) : Int)) rfl (by kernel_rfl) (by kernel_rfl) (by kernel_rfl) (by kernel_rfl) (yx_val (wantAll rfl) (fun w' hx' => rv_loadCell rfl (fr_eval rfl rfl) (Nat.mul_one _) (Own.rd ((hH.ext hx').own (i := 1) rfl) (row_one c32_one)) (flat_get1 0 c32_len (show 2 < 8 from (by omega)) rfl) Try.underlying65 rfl Try.sz65)) ?_
        refine xl_take (i := 21) (v := .int .u32 ((((rounds (words b 64) s i).b) &&& ((rounds (words b 64) s i).c) : Nat) : Int)) rfl (by kernel_rfl) (by kernel_rfl) (by kernel_rfl) (by kernel_rfl) (yx_val (wantAll rfl) (fun w' hx' => rv_and rfl (fr_eval rfl rfl) (fr_eval rfl rfl) (and32 (hro i).b (hro i).c))) ?_
        refine xl_tail (s := 22) rfl ?_
        intro w16 hx
        replace hH := hH.ext hx
        clear hx
        refine lf_val (v := .int .u32 ((((((rounds (words b 64) s i).a) &&& ((rounds (words b 64) s i).b)) ||| (((rounds (words b 64) s i).a) &&& ((rounds (words b 64) s i).c))) ||| (((rounds (words b 64) s i).b) &&& ((rounds (words b 64) s i).c)) : Nat) : Int)) (wantAll rfl) (rv_or rfl (fr_eval rfl rfl) (fr_eval rfl rfl) (or32 (Sha.or_lt (Sha.and_lt (hro i).a) (Sha.and_lt (hro i).a)) (Sha.and_lt (hro i).b))) ?_
        refine lf_val (v := .int .u32 ((((((rounds (words b 64) s i).a) &&& ((rounds (words b 64) s i).b)) ||| (((rounds (words b 64) s i).a) &&& ((rounds (words b 64) s i).c))) ||| (((rounds (words b 64) s i).b) &&& ((rounds (words b 64) s i).c)) : Nat) : Int)) (wantAll rfl) (rv_assign rfl (fr_eval rfl rfl)) ?_
        refine lf_nil ?_
        refine then_n ?_
        refine wp_seq ?_
        refine wp_gen (fun F' => F' 0 = vh ∧ F' 1 = vk ∧ F' 2 = v ∧ F' 6 = .slice none 0 0 ∧ F' 7 = y1 ∧ F' 8 = .int .i64 ((64 : Nat) : Int) ∧ F' 11 = yv ∧ F' 12 = .int .i64 ((8 : Nat) : Int) ∧ F' 13 = .int .i64 ((i : Nat) : Int) ∧ F' 14 = .int .u32 (((((rounds (words b 64) s i).e) &&& ((rounds (words b 64) s i).f)) ||| ((((rounds (words b 64) s i).e) ^^^ 4294967295) &&& ((rounds (words b 64) s i).g)) : Nat) : Int) ∧ F' 15 = .int .u32 ((((((rounds (words b 64) s i).a) &&& ((rounds (words b 64) s i).b)) ||| (((rounds (words b 64) s i).a) &&& ((rounds (words b 64) s i).c))) ||| (((rounds (words b 64) s i).b) &&& ((rounds (words b 64) s i).c)) : Nat) : Int) ∧ F' 23 = .bool false ∧ F' 108 = .bool false ∧ F' 119 = .bool true) ⟨e0, e1, e2, e6, e7, e8, e11, e12, e13, e14, rfl, e23, e108, e119⟩ ?_
        clear e0 e1 e2 e6 e7 e8 e11 e12 e13 e14 e23 e108 e119
        clear F
        rintro F ⟨e0, e1, e2, e6, e7, e8, e11, e12, e13, e14, e15, e23, e108, e119⟩
        refine wp_regionX (fun _ => False) 29 (by kernel_rfl) (by kernel_rfl) ?_
        refine xl_take (i := 0) (v := yv) rfl (by kernel_rfl) (by kernel_rfl) (by kernel_rfl) (by kernel_rfl) (yx_val (wantAll rfl) (fun w' hx' => rv_move rfl (fr_eval rfl e11))) ?_
        refine xl_take (i := 1) (v := .pointer (some (elemA yv (7 * 1)))) rfl (by kernel_rfl) (by kernel_rfl) (by kernel_rfl) (by kernel_rfl) (yx_val (wantAll rfl) (fun w' hx' => rv_index rfl (fr_eval rfl rfl) (show _ = Value.int _ ((7 : Nat) : Int) from rfl) (rdN (Own.rd ((hH.ext hx').own (i := 1) rfl) (row_one c32_one)) rfl) (show 7 < 8 from (by omega)) Try.underlying74 Try.sz65 (by decide))) ?_
        refine xl_take (i := 2) (v := .int .u32 (((rounds (words b 64) s i).h : Nat) : Int)) rfl (by kernel_rfl) (by kernel_rfl) (by kernel_rfl) (by kernel_rfl) (yx_val (wantAll rfl) (fun w' hx' => rv_loadCell rfl (fr_eval rfl rfl) (Nat.mul_one _) (Own.rd ((hH.ext hx').own (i := 1) rfl) (row_one c32_one)) (flat_get1 0 c32_len (show 7 < 8 from (by omega)) rfl) Try.underlying65 rfl Try.sz65)) ?_
        refine xl_take (i := 3) (v := yv) rfl (by kernel_rfl) (by kernel_rfl) (by kernel_rfl) (by kernel_rfl) (yx_val (wantAll rfl) (fun w' hx' => rv_move rfl (fr_eval rfl e11))) ?_
        refine xl_take (i := 4) (v := .pointer (some (elemA yv (4 * 1)))) rfl (by kernel_rfl) (by kernel_rfl) (by kernel_rfl) (by kernel_rfl) (yx_val (wantAll rfl) (fun w' hx' => rv_index rfl (fr_eval rfl rfl) (show _ = Value.int _ ((4 : Nat) : Int) from rfl) (rdN (Own.rd ((hH.ext hx').own (i := 1) rfl) (row_one c32_one)) rfl) (show 4 < 8 from (by omega)) Try.underlying74 Try.sz65 (by decide))) ?_
        refine xl_take (i := 5) (v := .int .u32 (((rounds (words b 64) s i).e : Nat) : Int)) rfl (by kernel_rfl) (by kernel_rfl) (by kernel_rfl) (by kernel_rfl) (yx_val (wantAll rfl) (fun w' hx' => rv_loadCell rfl (fr_eval rfl rfl) (Nat.mul_one _) (Own.rd ((hH.ext hx').own (i := 1) rfl) (row_one c32_one)) (flat_get1 0 c32_len (show 4 < 8 from (by omega)) rfl) Try.underlying65 rfl Try.sz65)) ?_
        refine xl_take (i := 6) (v := .int .u32 ((rr 6 ((rounds (words b 64) s i).e) : Nat) : Int)) rfl (by kernel_rfl) (by kernel_rfl) (by kernel_rfl) (by kernel_rfl) (yx_call (wantAll rfl) (fun w' => rv_call (args := [.int .u32 (((rounds (words b 64) s i).e : Nat) : Int), .int .i64 6]) rfl (evc (fr_eval rfl rfl) (evc rfl evn)) Try.call61) (fun w' hx' => turn_calls ((rounds (words b 64) s i).e) 6 (hro i).e (by decide) (by decide) _)) ?_
        refine xl_take (i := 7) (v := yv) rfl (by kernel_rfl) (by kernel_rfl) (by kernel_rfl) (by kernel_rfl) (yx_val (wantAll rfl) (fun w' hx' => rv_move rfl (fr_eval rfl e11))) ?_
        refine xl_take (i := 8) (v := .pointer (some (elemA yv (4 * 1)))) rfl (by kernel_rfl) (by kernel_rfl) (by kernel_rfl) (by kernel_rfl) (yx_val (wantAll rfl) (fun w' hx' => rv_index rfl (fr_eval rfl rfl) (show _ = Value.int _ ((4 : Nat) : Int) from rfl) (rdN (Own.rd ((hH.ext hx').own (i := 1) rfl) (row_one c32_one)) rfl) (show 4 < 8 from (by omega)) Try.underlying74 Try.sz65 (by decide))) ?_
        refine xl_take (i := 9) (v := .int .u32 (((rounds (words b 64) s i).e : Nat) : Int)) rfl (by kernel_rfl) (by kernel_rfl) (by kernel_rfl) (by kernel_rfl) (yx_val (wantAll rfl) (fun w' hx' => rv_loadCell rfl (fr_eval rfl rfl) (Nat.mul_one _) (Own.rd ((hH.ext hx').own (i := 1) rfl) (row_one c32_one)) (flat_get1 0 c32_len (show 4 < 8 from (by omega)) rfl) Try.underlying65 rfl Try.sz65)) ?_
        refine xl_take (i := 10) (v := .int .u32 ((rr 11 ((rounds (words b 64) s i).e) : Nat) : Int)) rfl (by kernel_rfl) (by kernel_rfl) (by kernel_rfl) (by kernel_rfl) (yx_call (wantAll rfl) (fun w' => rv_call (args := [.int .u32 (((rounds (words b 64) s i).e : Nat) : Int), .int .i64 11]) rfl (evc (fr_eval rfl rfl) (evc rfl evn)) Try.call61) (fun w' hx' => turn_calls ((rounds (words b 64) s i).e) 11 (hro i).e (by decide) (by decide) _)) ?_
        refine xl_take (i := 11) (v := .int .u32 (((rr 6 ((rounds (words b 64) s i).e)) ^^^ (rr 11 ((rounds (words b 64) s i).e)) : Nat) : Int)) rfl (by kernel_rfl) (by kernel_rfl) (by kernel_rfl) (by kernel_rfl) (yx_val (wantAll rfl) (fun w' hx' => rv_xor rfl (fr_eval rfl rfl) (fr_eval rfl rfl) (xor32 (rr_lt (hro i).e) (rr_lt (hro i).e)))) ?_
        refine xl_take (i := 12) (v := yv) rfl (by kernel_rfl) (by kernel_rfl) (by kernel_rfl) (by kernel_rfl) (yx_val (wantAll rfl) (fun w' hx' => rv_move rfl (fr_eval rfl e11))) ?_
        refine xl_take (i := 13) (v := .pointer (some (elemA yv (4 * 1)))) rfl (by kernel_rfl) (by kernel_rfl) (by kernel_rfl) (by kernel_rfl) (yx_val (wantAll rfl) (fun w' hx' => rv_index rfl (fr_eval rfl rfl) (show _ = Value.int _ ((4 : Nat) : Int) from rfl) (rdN (Own.rd ((hH.ext hx').own (i := 1) rfl) (row_one c32_one)) rfl) (show 4 < 8 from (by omega)) Try.underlying74 Try.sz65 (by decide))) ?_
        refine xl_take (i := 14) (v := .int .u32 (((rounds (words b 64) s i).e : Nat) : Int)) rfl (by kernel_rfl) (by kernel_rfl) (by kernel_rfl) (by kernel_rfl) (yx_val (wantAll rfl) (fun w' hx' => rv_loadCell rfl (fr_eval rfl rfl) (Nat.mul_one _) (Own.rd ((hH.ext hx').own (i := 1) rfl) (row_one c32_one)) (flat_get1 0 c32_len (show 4 < 8 from (by omega)) rfl) Try.underlying65 rfl Try.sz65)) ?_
        refine xl_take (i := 15) (v := .int .u32 ((rr 25 ((rounds (words b 64) s i).e) : Nat) : Int)) rfl (by kernel_rfl) (by kernel_rfl) (by kernel_rfl) (by kernel_rfl) (yx_call (wantAll rfl) (fun w' => rv_call (args := [.int .u32 (((rounds (words b 64) s i).e : Nat) : Int), .int .i64 25]) rfl (evc (fr_eval rfl rfl) (evc rfl evn)) Try.call61) (fun w' hx' => turn_calls ((rounds (words b 64) s i).e) 25 (hro i).e (by decide) (by decide) _)) ?_
        refine xl_take (i := 16) (v := .int .u32 ((((rr 6 ((rounds (words b 64) s i).e)) ^^^ (rr 11 ((rounds (words b 64) s i).e))) ^^^ (rr 25 ((rounds (words b 64) s i).e)) : Nat) : Int)) rfl (by kernel_rfl) (by kernel_rfl) (by kernel_rfl) (by kernel_rfl) (yx_val (wantAll rfl) (fun w' hx' => rv_xor rfl (fr_eval rfl rfl) (fr_eval rfl rfl) (xor32 (Sha.xor_lt (rr_lt (hro i).e) (rr_lt (hro i).e)) (rr_lt (hro i).e)))) ?_
        refine xl_take (i := 17) (v := .int .u32 (((((rounds (words b 64) s i).h) + (((rr 6 ((rounds (words b 64) s i).e)) ^^^ (rr 11 ((rounds (words b 64) s i).e))) ^^^ (rr 25 ((rounds (words b 64) s i).e)))) % 4294967296 : Nat) : Int)) rfl (by kernel_rfl) (by kernel_rfl) (by kernel_rfl) (by kernel_rfl) (yx_val (wantAll rfl) (fun w' hx' => rv_add rfl (fr_eval rfl rfl) (fr_eval rfl rfl) (add32 _ _))) ?_
        refine xl_take (i := 18) (v := .int .u32 (((((rounds (words b 64) s i).e) &&& ((rounds (words b 64) s i).f)) ||| ((((rounds (words b 64) s i).e) ^^^ 4294967295) &&& ((rounds (words b 64) s i).g)) : Nat) : Int)) rfl (by kernel_rfl) (by kernel_rfl) (by kernel_rfl) (by kernel_rfl) (yx_val (wantAll rfl) (fun w' hx' => rv_move rfl (fr_eval rfl e14))) ?_
        refine xl_take (i := 19) (v := .int .u32 (((((((rounds (words b 64) s i).h) + (((rr 6 ((rounds (words b 64) s i).e)) ^^^ (rr 11 ((rounds (words b 64) s i).e))) ^^^ (rr 25 ((rounds (words b 64) s i).e)))) % 4294967296) + ((((rounds (words b 64) s i).e) &&& ((rounds (words b 64) s i).f)) ||| ((((rounds (words b 64) s i).e) ^^^ 4294967295) &&& ((rounds (words b 64) s i).g)))) % 4294967296 : Nat) : Int)) rfl (by kernel_rfl) (by kernel_rfl) (by kernel_rfl) (by kernel_rfl) (yx_val (wantAll rfl) (fun w' hx' => rv_add rfl (fr_eval rfl rfl) (fr_eval rfl rfl) (add32 _ _))) ?_
        refine xl_take (i := 20) (v := vk) rfl (by kernel_rfl) (by kernel_rfl) (by kernel_rfl) (by kernel_rfl) (yx_val (wantAll rfl) (fun w' hx' => rv_move rfl (fr_eval rfl e1))) ?_
        refine xl_take (i := 21) (v := .int .i64 ((i : Nat) : Int)) rfl (by kernel_rfl) (by kernel_rfl) (by kernel_rfl) (by kernel_rfl) (yx_val (wantAll rfl) (fun w' hx' => rv_move rfl (fr_eval rfl e13))) ?_
        refine xl_take (i := 22) (v := .pointer (some (elemA vk (i * 1)))) rfl (by kernel_rfl) (by kernel_rfl) (by kernel_rfl) (by kernel_rfl) (yx_val (wantAll rfl) (fun w' hx' => rv_index rfl (fr_eval rfl rfl) (fr_eval rfl rfl) (rdN (hk.rd _ (hH.chg.trans (Ext.any hx'))) rfl) (show i < 64 from (by omega)) Try.underlying74 Try.sz65 (by decide))) ?_
        refine xl_take (i := 23) (v := .int .u32 ((List.getD ks i 0 : Nat) : Int)) rfl (by kernel_rfl) (by kernel_rfl) (by kernel_rfl) (by kernel_rfl) (yx_val (wantAll rfl) (fun w' hx' => rv_loadCell rfl (fr_eval rfl rfl) (Nat.mul_one _) (hk.rd _ (hH.chg.trans (Ext.any hx'))) (flat_get1 0 c32_len (show i < 64 from (by omega)) rfl) Try.underlying65 rfl Try.sz65)) ?_
        refine xl_take (i := 24) (v := .int .u32 (((((((((rounds (words b 64) s i).h) + (((rr 6 ((rounds (words b 64) s i).e)) ^^^ (rr 11 ((rounds (words b 64) s i).e))) ^^^ (rr 25 ((rounds (words b 64) s i).e)))) % 4294967296) + ((((rounds (words b 64) s i).e) &&& ((rounds (words b 64) s i).f)) ||| ((((rounds (words b 64) s i).e) ^^^ 4294967295) &&& ((rounds (words b 64) s i).g)))) % 4294967296) + (List.getD ks i 0)) % 4294967296 : Nat) : Int)) rfl (by kernel_rfl) (by kernel_rfl) (by kernel_rfl) (by kernel_rfl) (yx_val (wantAll rfl) (fun w' hx' => rv_add rfl (fr_eval rfl rfl) (fr_eval rfl rfl) (add32 _ _))) ?_
        refine xl_take (i := 25) (v := y1) rfl (by kernel_rfl) (by kernel_rfl) (by kernel_rfl) (by kernel_rfl) (yx_val (wantAll rfl) (fun w' hx' => rv_move rfl (fr_eval rfl e7))) ?_
        refine xl_take (i := 26) (v := .int .i64 ((i : Nat) : Int)) rfl (by kernel_rfl) (by kernel_rfl) (by kernel_rfl) (by kernel_rfl) (yx_val (wantAll rfl) (fun w' hx' => rv_move rfl (fr_eval rfl e13))) ?_
        refine xl_take (i := 27) (v := .pointer (some (elemA y1 (i * 1)))) rfl (by kernel_rfl) (by kernel_rfl) (by kernel_rfl) (by kernel_rfl) (yx_val (wantAll rfl) (fun w' hx' => rv_index rfl (fr_eval rfl rfl) (fr_eval rfl rfl) (rdN (Own.rd ((hH.ext hx').own (i := 0) rfl) (row_one c32_one)) (words_length b 64)) (show i < 64 from (by omega)) Try.underlying74 Try.sz65 (by decide))) ?_
        refine xl_take (i := 28) (v := .int .u32 ((List.getD (words b 64) i 0 : Nat) : Int)) rfl (by kernel_rfl) (by kernel_rfl) (by kernel_rfl) (by kernel_rfl) (yx_val (wantAll rfl) (fun w' hx' => rv_loadCell rfl (fr_eval rfl rfl) (Nat.mul_one _) (Own.rd ((hH.ext hx').own (i := 0) rfl) (row_one c32_one)) (flat_get1 0 c32_len (Nat.lt_of_lt_of_eq (show i < 64 from (by omega)) ((words_length b 64)).symm) rfl) Try.underlying65 rfl Try.sz65)) ?_
        refine xl_tail (s := 29) rfl ?_
        intro w17 hx
        replace hH := hH.ext hx
        clear hx
        refine lf_val (v := .int .u32 (((((((((((rounds (words b 64) s i).h) + (((rr 6 ((rounds (words b 64) s i).e)) ^^^ (rr 11 ((rounds (words b 64) s i).e))) ^^^ (rr 25 ((rounds (words b 64) s i).e)))) % 4294967296) + ((((rounds (words b 64) s i).e) &&& ((rounds (words b 64) s i).f)) ||| ((((rounds (words b 64) s i).e) ^^^ 4294967295) &&& ((rounds (words b 64) s i).g)))) % 4294967296) + (List.getD ks i 0)) % 4294967296) + (List.getD (words b 64) i 0)) % 4294967296 : Nat) : Int)) (wantAll rfl) (rv_add rfl (fr_eval rfl rfl) (fr_eval rfl rfl) (add32 _ _)) ?_
        refine lf_val (v := .int .u32 (((((((((((rounds (words b 64) s i).h) + (((rr 6 ((rounds (words b 64) s i).e)) ^^^ (rr 11 ((rounds (words b 64) s i).e))) ^^^ (rr 25 ((rounds (words b 64) s i).e)))) % 4294967296) + ((((rounds (words b 64) s i).e) &&& ((rounds (words b 64) s i).f)) ||| ((((rounds (words b 64) s i).e) ^^^ 4294967295) &&& ((rounds (words b 64) s i).g)))) % 4294967296) + (List.getD ks i 0)) % 4294967296) + (List.getD (words b 64) i 0)) % 4294967296 : Nat) : Int)) (wantAll rfl) (rv_assign rfl (fr_eval rfl rfl)) ?_
        refine lf_nil ?_
        refine then_n ?_
        refine wp_seq ?_
        refine wp_gen (fun F' => F' 0 = vh ∧ F' 1 = vk ∧ F' 2 = v ∧ F' 6 = .slice none 0 0 ∧ F' 7 = y1 ∧ F' 8 = .int .i64 ((64 : Nat) : Int) ∧ F' 11 = yv ∧ F' 12 = .int .i64 ((8 : Nat) : Int) ∧ F' 13 = .int .i64 ((i : Nat) : Int) ∧ F' 14 = .int .u32 (((((rounds (words b 64) s i).e) &&& ((rounds (words b 64) s i).f)) ||| ((((rounds (words b 64) s i).e) ^^^ 4294967295) &&& ((rounds (words b 64) s i).g)) : Nat) : Int) ∧ F' 15 = .int .u32 ((((((rounds (words b 64) s i).a) &&& ((rounds (words b 64) s i).b)) ||| (((rounds (words b 64) s i).a) &&& ((rounds (words b 64) s i).c))) ||| (((rounds (words b 64) s i).b) &&& ((rounds (words b 64) s i).c)) : Nat) : Int) ∧ F' 16 = .int .u32 (((((((((((rounds (words b 64) s i).h) + (((rr 6 ((rounds (words b 64) s i).e)) ^^^ (rr 11 ((rounds (words b 64) s i).e))) ^^^ (rr 25 ((rounds (words b 64) s i).e)))) % 4294967296) + ((((rounds (words b 64) s i).e) &&& ((rounds (words b 64) s i).f)) ||| ((((rounds (words b 64) s i).e) ^^^ 4294967295) &&& ((rounds (words b 64) s i).g)))) % 4294967296) + (List.getD ks i 0)) % 4294967296) + (List.getD (words b 64) i 0)) % 4294967296 : Nat) : Int) ∧ F' 23 = .bool false ∧ F' 108 = .bool false ∧ F' 119 = .bool true) ⟨e0, e1, e2, e6, e7, e8, e11, e12, e13, e14, e15, rfl, e23, e108, e119⟩ ?_
        clear e0 e1 e2 e6 e7 e8 e11 e12 e13 e14 e15 e23 e108 e119
        clear F
        rintro F ⟨e0, e1, e2, e6, e7, e8, e11, e12, e13, e14, e15, e16, e23, e108, e119⟩
        refine wp_regionX (fun _ => False) 15 (by kernel_rfl) (by kernel_rfl) ?_
        refine xl_take (i := 0) (v := yv) rfl (by kernel_rfl) (by kernel_rfl) (by kernel_rfl) (by kernel_rfl) (yx_val (wantAll rfl) (fun w' hx' => rv_move rfl (fr_eval rfl e11))) ?_
        refine xl_take (i := 1) (v := .pointer (some (elemA yv (0 * 1)))) rfl (by kernel_rfl) (by kernel_rfl) (by kernel_rfl) (by kernel_rfl) (yx_val (wantAll rfl) (fun w' hx' => rv_index rfl (fr_eval rfl rfl) (show _ = Value.int _ ((0 : Nat) : Int) from rfl) (rdN (Own.rd ((hH.ext hx').own (i := 1) rfl) (row_one c32_one)) rfl) (show 0 < 8 from (by omega)) Try.underlying74 Try.sz65 (by decide))) ?_
        refine xl_take (i := 2) (v := .int .u32 (((rounds (words b 64) s i).a : Nat) : Int)) rfl (by kernel_rfl) (by kernel_rfl) (by kernel_rfl) (by kernel_rfl) (yx_val (wantAll rfl) (fun w' hx' => rv_loadCell rfl (fr_eval rfl rfl) (Nat.mul_one _) (Own.rd ((hH.ext hx').own (i := 1) rfl) (row_one c32_one)) (flat_get1 0 c32_len (show 0 < 8 from (by omega)) rfl) Try.underlying65 rfl Try.sz65)) ?_
        refine xl_take (i := 3) (v := .int .u32 ((rr 2 ((rounds (words b 64) s i).a) : Nat) : Int)) rfl (by kernel_rfl) (by kernel_rfl) (by kernel_rfl) (by kernel_rfl) (yx_call (wantAll rfl) (fun w' => rv_call (args := [.int .u32 (((rounds (words b 64) s i).a : Nat) : Int), .int .i64 2]) rfl (evc (fr_eval rfl rfl) (evc rfl evn)) Try.call61) (fun w' hx' => turn_calls ((rounds (words b 64) s i).a) 2 (hro i).a (by decide) (by decide) _)) ?_
        refine xl_take (i := 4) (v := yv) rfl (by kernel_rfl) (by kernel_rfl) (by kernel_rfl) (by kernel_rfl) (yx_val (wantAll rfl) (fun w' hx' => rv_move rfl (fr_eval rfl e11))) ?_
        refine xl_take (i := 5) (v := .pointer (some (elemA yv (0 * 1)))) rfl (by kernel_rfl) (by kernel_rfl) (by kernel_rfl) (by kernel_rfl) (yx_val (wantAll rfl) (fun w' hx' => rv_index rfl (fr_eval rfl rfl) (show _ = Value.int _ ((0 : Nat) : Int) from rfl) (rdN (Own.rd ((hH.ext hx').own (i := 1) rfl) (row_one c32_one)) rfl) (show 0 < 8 from (by omega)) Try.underlying74 Try.sz65 (by decide))) ?_
        refine xl_take (i := 6) (v := .int .u32 (((rounds (words b 64) s i).a : Nat) : Int)) rfl (by kernel_rfl) (by kernel_rfl) (by kernel_rfl) (by kernel_rfl) (yx_val (wantAll rfl) (fun w' hx' => rv_loadCell rfl (fr_eval rfl rfl) (Nat.mul_one _) (Own.rd ((hH.ext hx').own (i := 1) rfl) (row_one c32_one)) (flat_get1 0 c32_len (show 0 < 8 from (by omega)) rfl) Try.underlying65 rfl Try.sz65)) ?_
        refine xl_take (i := 7) (v := .int .u32 ((rr 13 ((rounds (words b 64) s i).a) : Nat) : Int)) rfl (by kernel_rfl) (by kernel_rfl) (by kernel_rfl) (by kernel_rfl) (yx_call (wantAll rfl) (fun w' => rv_call (args := [.int .u32 (((rounds (words b 64) s i).a : Nat) : Int), .int .i64 13]) rfl (evc (fr_eval rfl rfl) (evc rfl evn)) Try.call61) (fun w' hx' => turn_calls ((rounds (words b 64) s i).a) 13 (hro i).a (by decide) (by decide) _)) ?_
        refine xl_take (i := 8) (v := .int .u32 (((rr 2 ((rounds (words b 64) s i).a)) ^^^ (rr 13 ((rounds (words b 64) s i).a)) : Nat) : Int)) rfl (by kernel_rfl) (by kernel_rfl) (by kernel_rfl) (by kernel_rfl) (yx_val (wantAll rfl) (fun w' hx' => rv_xor rfl (fr_eval rfl rfl) (fr_eval rfl rfl) (xor32 (rr_lt (hro i).a) (rr_lt (hro i).a)))) ?_
        refine xl_take (i := 9) (v := yv) rfl (by kernel_rfl) (by kernel_rfl) (by kernel_rfl) (by kernel_rfl) (yx_val (wantAll rfl) (fun w' hx' => rv_move rfl (fr_eval rfl e11))) ?_
        refine xl_take (i := 10) (v := .pointer (some (elemA yv (0 * 1)))) rfl (by kernel_rfl) (by kernel_rfl) (by kernel_rfl) (by kernel_rfl) (yx_val (wantAll rfl) (fun w' hx' => rv_index rfl (fr_eval rfl rfl) (show _ = Value.int _ ((0 : Nat) : Int) from rfl) (rdN (Own.rd ((hH.ext hx').own (i := 1) rfl) (row_one c32_one)) rfl) (show 0 < 8 from (by omega)) Try.underlying74 Try.sz65 (by decide))) ?_
        refine xl_take (i := 11) (v := .int .u32 (((rounds (words b 64) s i).a : Nat) : Int)) rfl (by kernel_rfl) (by kernel_rfl) (by kernel_rfl) (by kernel_rfl) (yx_val (wantAll rfl) (fun w' hx' => rv_loadCell rfl (fr_eval rfl rfl) (Nat.mul_one _) (Own.rd ((hH.ext hx').own (i := 1) rfl) (row_one c32_one)) (flat_get1 0 c32_len (show 0 < 8 from (by omega)) rfl) Try.underlying65 rfl Try.sz65)) ?_
        refine xl_take (i := 12) (v := .int .u32 ((rr 22 ((rounds (words b 64) s i).a) : Nat) : Int)) rfl (by kernel_rfl) (by kernel_rfl) (by kernel_rfl) (by kernel_rfl) (yx_call (wantAll rfl) (fun w' => rv_call (args := [.int .u32 (((rounds (words b 64) s i).a : Nat) : Int), .int .i64 22]) rfl (evc (fr_eval rfl rfl) (evc rfl evn)) Try.call61) (fun w' hx' => turn_calls ((rounds (words b 64) s i).a) 22 (hro i).a (by decide) (by decide) _)) ?_
        refine xl_take (i := 13) (v := .int .u32 ((((rr 2 ((rounds (words b 64) s i).a)) ^^^ (rr 13 ((rounds (words b 64) s i).a))) ^^^ (rr 22 ((rounds (words b 64) s i).a)) : Nat) : Int)) rfl (by kernel_rfl) (by kernel_rfl) (by kernel_rfl) (by kernel_rfl) (yx_val (wantAll rfl) (fun w' hx' => rv_xor rfl (fr_eval rfl rfl) (fr_eval rfl rfl) (xor32 (Sha.xor_lt (rr_lt (hro i).a) (rr_lt (hro i).a)) (rr_lt (hro i).a)))) ?_
        refine xl_take (i := 14) (v := .int .u32 ((((((rounds (words b 64) s i).a) &&& ((rounds (words b 64) s i).b)) ||| (((rounds (words b 64) s i).a) &&& ((rounds (words b 64) s i).c))) ||| (((rounds (words b 64) s i).b) &&& ((rounds (words b 64) s i).c)) : Nat) : Int)) rfl (by kernel_rfl) (by kernel_rfl) (by kernel_rfl) (by kernel_rfl) (yx_val (wantAll rfl) (fun w' hx' => rv_move rfl (fr_eval rfl e15))) ?_
        refine xl_tail (s := 15) rfl ?_
        intro w18 hx
        replace hH := hH.ext hx
        clear hx
        refine lf_val (v := .int .u32 ((((((rr 2 ((rounds (words b 64) s i).a)) ^^^ (rr 13 ((rounds (words b 64) s i).a))) ^^^ (rr 22 ((rounds (words b 64) s i).a))) + (((((rounds (words b 64) s i).a) &&& ((rounds (words b 64) s i).b)) ||| (((rounds (words b 64) s i).a) &&& ((rounds (words b 64) s i).c))) ||| (((rounds (words b 64) s i).b) &&& ((rounds (words b 64) s i).c)))) % 4294967296 : Nat) : Int)) (wantAll rfl) (rv_add rfl (fr_eval rfl rfl) (fr_eval rfl rfl) (add32 _ _)) ?_
        refine lf_val (v := .int .u32 ((((((rr 2 ((rounds (words b 64) s i).a)) ^^^ (rr 13 ((rounds (words b 64) s i).a))) ^^^ (rr 22 ((rounds (words b 64) s i).a))) + (((((rounds (words b 64) s i).a) &&& ((rounds (words b 64) s i).b)) ||| (((rounds (words b 64) s i).a) &&& ((rounds (words b 64) s i).c))) ||| (((rounds (words b 64) s i).b) &&& ((rounds (words b 64) s i).c)))) % 4294967296 : Nat) : Int)) (wantAll rfl) (rv_assign rfl (fr_eval rfl rfl)) ?_
        refine lf_nil ?_
        refine then_n ?_
        refine wp_seq ?_
        refine wp_gen (fun F' => F' 0 = vh ∧ F' 1 = vk ∧ F' 2 = v ∧ F' 6 = .slice none 0 0 ∧ F' 7 = y1 ∧ F' 8 = .int .i64 ((64 : Nat) : Int) ∧ F' 11 = yv ∧ F' 12 = .int .i64 ((8 : Nat) : Int) ∧ F' 13 = .int .i64 ((i : Nat) : Int) ∧ F' 14 = .int .u32 (((((rounds (words b 64) s i).e) &&& ((rounds (words b 64) s i).f)) ||| ((((rounds (words b 64) s i).e) ^^^ 4294967295) &&& ((rounds (words b 64) s i).g)) : Nat) : Int) ∧ F' 15 = .int .u32 ((((((rounds (words b 64) s i).a) &&& ((rounds (words b 64) s i).b)) ||| (((rounds (words b 64) s i).a) &&& ((rounds (words b 64) s i).c))) ||| (((rounds (words b 64) s i).b) &&& ((rounds (words b 64) s i).c)) : Nat) : Int) ∧ F' 16 = .int .u32 (((((((((((rounds (words b 64) s i).h) + (((rr 6 ((rounds (words b 64) s i).e)) ^^^ (rr 11 ((rounds (words b 64) s i).e))) ^^^ (rr 25 ((rounds (words b 64) s i).e)))) % 4294967296) + ((((rounds (words b 64) s i).e) &&& ((rounds (words b 64) s i).f)) ||| ((((rounds (words b 64) s i).e) ^^^ 4294967295) &&& ((rounds (words b 64) s i).g)))) % 4294967296) + (List.getD ks i 0)) % 4294967296) + (List.getD (words b 64) i 0)) % 4294967296 : Nat) : Int) ∧ F' 17 = .int .u32 ((((((rr 2 ((rounds (words b 64) s i).a)) ^^^ (rr 13 ((rounds (words b 64) s i).a))) ^^^ (rr 22 ((rounds (words b 64) s i).a))) + (((((rounds (words b 64) s i).a) &&& ((rounds (words b 64) s i).b)) ||| (((rounds (words b 64) s i).a) &&& ((rounds (words b 64) s i).c))) ||| (((rounds (words b 64) s i).b) &&& ((rounds (words b 64) s i).c)))) % 4294967296 : Nat) : Int) ∧ F' 23 = .bool false ∧ F' 108 = .bool false ∧ F' 119 = .bool true) ⟨e0, e1, e2, e6, e7, e8, e11, e12, e13, e14, e15, e16, rfl, e23, e108, e119⟩ ?_
        clear e0 e1 e2 e6 e7 e8 e11 e12 e13 e14 e15 e16 e23 e108 e119
        clear F
        rintro F ⟨e0, e1, e2, e6, e7, e8, e11, e12, e13, e14, e15, e16, e17, e23, e108, e119⟩
        refine wp_regionX (fun _ => False) 26 (by kernel_rfl) (by kernel_rfl) ?_
        refine xl_take (i := 0) (v := .int .u32 (((((((((((rounds (words b 64) s i).h) + (((rr 6 ((rounds (words b 64) s i).e)) ^^^ (rr 11 ((rounds (words b 64) s i).e))) ^^^ (rr 25 ((rounds (words b 64) s i).e)))) % 4294967296) + ((((rounds (words b 64) s i).e) &&& ((rounds (words b 64) s i).f)) ||| ((((rounds (words b 64) s i).e) ^^^ 4294967295) &&& ((rounds (words b 64) s i).g)))) % 4294967296) + (List.getD ks i 0)) % 4294967296) + (List.getD (words b 64) i 0)) % 4294967296 : Nat) : Int)) rfl (by kernel_rfl) (by kernel_rfl) (by kernel_rfl) (by kernel_rfl) (yx_val (wantAll rfl) (fun w' hx' => rv_move rfl (fr_eval rfl e16))) ?_
        refine xl_take (i := 1) (v := .int .u32 ((((((rr 2 ((rounds (words b 64) s i).a)) ^^^ (rr 13 ((rounds (words b 64) s i).a))) ^^^ (rr 22 ((rounds (words b 64) s i).a))) + (((((rounds (words b 64) s i).a) &&& ((rounds (words b 64) s i).b)) ||| (((rounds (words b 64) s i).a) &&& ((rounds (words b 64) s i).c))) ||| (((rounds (words b 64) s i).b) &&& ((rounds (words b 64) s i).c)))) % 4294967296 : Nat) : Int)) rfl (by kernel_rfl) (by kernel_rfl) (by kernel_rfl) (by kernel_rfl) (yx_val (wantAll rfl) (fun w' hx' => rv_move rfl (fr_eval rfl e17))) ?_
        refine xl_take (i := 2) (v := .int .u32 (((((((((((((rounds (words b 64) s i).h) + (((rr 6 ((rounds (words b 64) s i).e)) ^^^ (rr 11 ((rounds (words b 64) s i).e))) ^^^ (rr 25 ((rounds (words b 64) s i).e)))) % 4294967296) + ((((rounds (words b 64) s i).e) &&& ((rounds (words b 64) s i).f)) ||| ((((rounds (words b 64) s i).e) ^^^ 4294967295) &&& ((rounds (words b 64) s i).g)))) % 4294967296) + (List.getD ks i 0)) % 4294967296) + (List.getD (words b 64) i 0)) % 4294967296) + (((((rr 2 ((rounds (words b 64) s i).a)) ^^^ (rr 13 ((rounds (words b 64) s i).a))) ^^^ (rr 22 ((rounds (words b 64) s i).a))) + (((((rounds (words b 64) s i).a) &&& ((rounds (words b 64) s i).b)) ||| (((rounds (words b 64) s i).a) &&& ((rounds (words b 64) s i).c))) ||| (((rounds (words b 64) s i).b) &&& ((rounds (words b 64) s i).c)))) % 4294967296)) % 4294967296 : Nat) : Int)) rfl (by kernel_rfl) (by kernel_rfl) (by kernel_rfl) (by kernel_rfl) (yx_val (wantAll rfl) (fun w' hx' => rv_add rfl (fr_eval rfl rfl) (fr_eval rfl rfl) (add32 _ _))) ?_
        refine xl_take (i := 3) (v := yv) rfl (by kernel_rfl) (by kernel_rfl) (by kernel_rfl) (by kernel_rfl) (yx_val (wantAll rfl) (fun w' hx' => rv_move rfl (fr_eval rfl e11))) ?_
        refine xl_take (i := 4) (v := .pointer (some (elemA yv (0 * 1)))) rfl (by kernel_rfl) (by kernel_rfl) (by kernel_rfl) (by kernel_rfl) (yx_val (wantAll rfl) (fun w' hx' => rv_index rfl (fr_eval rfl rfl) (show _ = Value.int _ ((0 : Nat) : Int) from rfl) (rdN (Own.rd ((hH.ext hx').own (i := 1) rfl) (row_one c32_one)) rfl) (show 0 < 8 from (by omega)) Try.underlying74 Try.sz65 (by decide))) ?_
        refine xl_take (i := 5) (v := .int .u32 (((rounds (words b 64) s i).a : Nat) : Int)) rfl (by kernel_rfl) (by kernel_rfl) (by kernel_rfl) (by kernel_rfl) (yx_val (wantAll rfl) (fun w' hx' => rv_loadCell rfl (fr_eval rfl rfl) (Nat.mul_one _) (Own.rd ((hH.ext hx').own (i := 1) rfl) (row_one c32_one)) (flat_get1 0 c32_len (show 0 < 8 from (by omega)) rfl) Try.underlying65 rfl Try.sz65)) ?_
        refine xl_take (i := 6) (v := yv) rfl (by kernel_rfl) (by kernel_rfl) (by kernel_rfl) (by kernel_rfl) (yx_val (wantAll rfl) (fun w' hx' => rv_move rfl (fr_eval rfl e11))) ?_
        refine xl_take (i := 7) (v := .pointer (some (elemA yv (1 * 1)))) rfl (by kernel_rfl) (by kernel_rfl) (by kernel_rfl) (by kernel_rfl) (yx_val (wantAll rfl) (fun w' hx' => rv_index rfl (fr_eval rfl rfl) (show _ = Value.int _ ((1 : Nat) : Int) from rfl) (rdN (Own.rd ((hH.ext hx').own (i := 1) rfl) (row_one c32_one)) rfl) (show 1 < 8 from (by omega)) Try.underlying74 Try.sz65 (by decide))) ?_
        refine xl_take (i := 8) (v := .int .u32 (((rounds (words b 64) s i).b : Nat) : Int)) rfl (by kernel_rfl) (by kernel_rfl) (by kernel_rfl) (by kernel_rfl) (yx_val (wantAll rfl) (fun w' hx' => rv_loadCell rfl (fr_eval rfl rfl) (Nat.mul_one _) (Own.rd ((hH.ext hx').own (i := 1) rfl) (row_one c32_one)) (flat_get1 0 c32_len (show 1 < 8 from (by omega)) rfl) Try.underlying65 rfl Try.sz65)) ?_
        refine xl_take (i := 9) (v := yv) rfl (by kernel_rfl) (by kernel_rfl) (by kernel_rfl) (by kernel_rfl) (yx_val (wantAll rfl) (fun w' hx' => rv_move rfl (fr_eval rfl e11))) ?_
        refine xl_take (i := 10) (v := .pointer (some (elemA yv (2 * 1)))) rfl (by kernel_rfl) (by kernel_rfl) (by kernel_rfl) (by kernel_rfl) (yx_val (wantAll rfl) (fun w' hx' => rv_index rfl (fr_eval rfl rfl) (show _ = Value.int _ ((2 : Nat) : Int) from rfl) (rdN (Own.rd ((hH.ext hx').own (i := 1) rfl) (row_one c32_one)) rfl) (show 2 < 8 from (by omega)) Try.underlying74 Try.sz65 (by decide))) ?_
        refine xl_take (i := 11) (v := .int .u32 (((rounds (words b 64) s i).c : Nat) : Int)) rfl (by kernel_rfl) (by kernel_rfl) (by kernel_rfl) (by kernel_rfl) (yx_val (wantAll rfl) (fun w' hx' => rv_loadCell rfl (fr_eval rfl rfl) (Nat.mul_one _) (Own.rd ((hH.ext hx').own (i := 1) rfl) (row_one c32_one)) (flat_get1 0 c32_len (show 2 < 8 from (by omega)) rfl) Try.underlying65 rfl Try.sz65)) ?_
        refine xl_take (i := 12) (v := yv) rfl (by kernel_rfl) (by kernel_rfl) (by kernel_rfl) (by kernel_rfl) (yx_val (wantAll rfl) (fun w' hx' => rv_move rfl (fr_eval rfl e11))) ?_
        refine xl_take (i := 13) (v := .pointer (some (elemA yv (3 * 1)))) rfl (by kernel_rfl) (by kernel_rfl) (by kernel_rfl) (by kernel_rfl) (yx_val (wantAll rfl) (fun w' hx' => rv_index rfl (fr_eval rfl rfl) (show _ = Value.int _ ((3 : Nat) : Int) from rfl) (rdN (Own.rd ((hH.ext hx').own (i := 1) rfl) (row_one c32_one)) rfl) (show 3 < 8 from (by omega)) Try.underlying74 Try.sz65 (by decide))) ?_
        refine xl_take (i := 14) (v := .int .u32 (((rounds (words b 64) s i).d : Nat) : Int)) rfl (by kernel_rfl) (by kernel_rfl) (by kernel_rfl) (by kernel_rfl) (yx_val (wantAll rfl) (fun w' hx' => rv_loadCell rfl (fr_eval rfl rfl) (Nat.mul_one _) (Own.rd ((hH.ext hx').own (i := 1) rfl) (row_one c32_one)) (flat_get1 0 c32_len (show 3 < 8 from (by omega)) rfl) Try.underlying65 rfl Try.sz65)) ?_
        refine xl_take (i := 15) (v := .int .u32 (((((((((((rounds (words b 64) s i).h) + (((rr 6 ((rounds (words b 64) s i).e)) ^^^ (rr 11 ((rounds (words b 64) s i).e))) ^^^ (rr 25 ((rounds (words b 64) s i).e)))) % 4294967296) + ((((rounds (words b 64) s i).e) &&& ((rounds (words b 64) s i).f)) ||| ((((rounds (words b 64) s i).e) ^^^ 4294967295) &&& ((rounds (words b 64) s i).g)))) % 4294967296) + (List.getD ks i 0)) % 4294967296) + (List.getD (words b 64) i 0)) % 4294967296 : Nat) : Int)) rfl (by kernel_rfl) (by kernel_rfl) (by kernel_rfl) (by kernel_rfl) (yx_val (wantAll rfl) (fun w' hx' => rv_move rfl (fr_eval rfl e16))) ?_
        refine xl_take (i := 16) (v := .int .u32 (((((rounds (words b 64) s i).d) + ((((((((((rounds (words b 64) s i).h) + (((rr 6 ((rounds (words b 64) s i).e)) ^^^ (rr 11 ((rounds (words b 64) s i).e))) ^^^ (rr 25 ((rounds (words b 64) s i).e)))) % 4294967296) + ((((rounds (words b 64) s i).e) &&& ((rounds (words b 64) s i).f)) ||| ((((rounds (words b 64) s i).e) ^^^ 4294967295) &&& ((rounds (words b 64) s i).g)))) % 4294967296) + (List.getD ks i 0)) % 4294967296) + (List.getD (words b 64) i 0)) % 4294967296)) % 4294967296 : Nat) : Int)) rfl (by kernel_rfl) (by kernel_rfl) (by kernel_rfl) (by kernel_rfl) (yx_val (wantAll rfl) (fun w' hx' => rv_add rfl (fr_eval rfl rfl) (fr_eval rfl rfl) (add32 _ _))) ?_
        refine xl_take (i := 17) (v := yv) rfl (by kernel_rfl) (by kernel_rfl) (by kernel_rfl) (by kernel_rfl) (yx_val (wantAll rfl) (fun w' hx' => rv_move rfl (fr_eval rfl e11))) ?_
        refine xl_take (i := 18) (v := .pointer (some (elemA yv (4 * 1)))) rfl (by kernel_rfl) (by kernel_rfl) (by kernel_rfl) (by kernel_rfl) (yx_val (wantAll rfl) (fun w' hx' => rv_index rfl (fr_eval rfl rfl) (show _ = Value.int _ ((4 : Nat) : Int) from rfl) (rdN (Own.rd ((hH.ext hx').own (i := 1) rfl) (row_one c32_one)) rfl) (show 4 < 8 from (by omega)) Try.underlying74 Try.sz65 (by decide))) ?_
        refine xl_take (i := 19) (v := .int .u32 (((rounds (words b 64) s i).e : Nat) : Int)) rfl (by kernel_rfl) (by kernel_rfl) (by kernel_rfl) (by kernel_rfl) (yx_val (wantAll rfl) (fun w' hx' => rv_loadCell rfl (fr_eval rfl rfl) (Nat.mul_one _) (Own.rd ((hH.ext hx').own (i := 1) rfl) (row_one c32_one)) (flat_get1 0 c32_len (show 4 < 8 from (by omega)) rfl) Try.underlying65 rfl Try.sz65)) ?_
        refine xl_take (i := 20) (v := yv) rfl (by kernel_rfl) (by kernel_rfl) (by kernel_rfl) (by kernel_rfl) (yx_val (wantAll rfl) (fun w' hx' => rv_move rfl (fr_eval rfl e11))) ?_
        refine xl_take (i := 21) (v := .pointer (some (elemA yv (5 * 1)))) rfl (by kernel_rfl) (by kernel_rfl) (by kernel_rfl) (by kernel_rfl) (yx_val (wantAll rfl) (fun w' hx' => rv_index rfl (fr_eval rfl rfl) (show _ = Value.int _ ((5 : Nat) : Int) from rfl) (rdN (Own.rd ((hH.ext hx').own (i := 1) rfl) (row_one c32_one)) rfl) (show 5 < 8 from (by omega)) Try.underlying74 Try.sz65 (by decide))) ?_
        refine xl_take (i := 22) (v := .int .u32 (((rounds (words b 64) s i).f : Nat) : Int)) rfl (by kernel_rfl) (by kernel_rfl) (by kernel_rfl) (by kernel_rfl) (yx_val (wantAll rfl) (fun w' hx' => rv_loadCell rfl (fr_eval rfl rfl) (Nat.mul_one _) (Own.rd ((hH.ext hx').own (i := 1) rfl) (row_one c32_one)) (flat_get1 0 c32_len (show 5 < 8 from (by omega)) rfl) Try.underlying65 rfl Try.sz65)) ?_
        refine xl_take (i := 23) (v := yv) rfl (by kernel_rfl) (by kernel_rfl) (by kernel_rfl) (by kernel_rfl) (yx_val (wantAll rfl) (fun w' hx' => rv_move rfl (fr_eval rfl e11))) ?_
        refine xl_take (i := 24) (v := .pointer (some (elemA yv (6 * 1)))) rfl (by kernel_rfl) (by kernel_rfl) (by kernel_rfl) (by kernel_rfl) (yx_val (wantAll rfl) (fun w' hx' => rv_index rfl (fr_eval rfl rfl) (show _ = Value.int _ ((6 : Nat) : Int) from rfl) (rdN (Own.rd ((hH.ext hx').own (i := 1) rfl) (row_one c32_one)) rfl) (show 6 < 8 from (by omega)) Try.underlying74 Try.sz65 (by decide))) ?_
        refine xl_take (i := 25) (v := .int .u32 (((rounds (words b 64) s i).g : Nat) : Int)) rfl (by kernel_rfl) (by kernel_rfl) (by kernel_rfl) (by kernel_rfl) (yx_val (wantAll rfl) (fun w' hx' => rv_loadCell rfl (fr_eval rfl rfl) (Nat.mul_one _) (Own.rd ((hH.ext hx').own (i := 1) rfl) (row_one c32_one)) (flat_get1 0 c32_len (show 6 < 8 from (by omega)) rfl) Try.underlying65 rfl Try.sz65)) ?_
        refine xl_tail (s := 26) rfl ?_
        intro w19 hx
        replace hH := hH.ext hx
        clear hx
        refine lf_ex (wantAll rfl) (hx_lits hH Try.st32 (n := 8) (nm := List.length [(((((((((((rounds (words b 64) s i).h) + (((rr 6 ((rounds (words b 64) s i).e)) ^^^ (rr 11 ((rounds (words b 64) s i).e))) ^^^ (rr 25 ((rounds (words b 64) s i).e)))) % 4294967296) + ((((rounds (words b 64) s i).e) &&& ((rounds (words b 64) s i).f)) ||| ((((rounds (words b 64) s i).e) ^^^ 4294967295) &&& ((rounds (words b 64) s i).g)))) % 4294967296) + (List.getD ks i 0)) % 4294967296) + (List.getD (words b 64) i 0)) % 4294967296) + (((((rr 2 ((rounds (words b 64) s i).a)) ^^^ (rr 13 ((rounds (words b 64) s i).a))) ^^^ (rr 22 ((rounds (words b 64) s i).a))) + (((((rounds (words b 64) s i).a) &&& ((rounds (words b 64) s i).b)) ||| (((rounds (words b 64) s i).a) &&& ((rounds (words b 64) s i).c))) ||| (((rounds (words b 64) s i).b) &&& ((rounds (words b 64) s i).c)))) % 4294967296)) % 4294967296, (rounds (words b 64) s i).a, (rounds (words b 64) s i).b, (rounds (words b 64) s i).c, (((rounds (words b 64) s i).d) + ((((((((((rounds (words b 64) s i).h) + (((rr 6 ((rounds (words b 64) s i).e)) ^^^ (rr 11 ((rounds (words b 64) s i).e))) ^^^ (rr 25 ((rounds (words b 64) s i).e)))) % 4294967296) + ((((rounds (words b 64) s i).e) &&& ((rounds (words b 64) s i).f)) ||| ((((rounds (words b 64) s i).e) ^^^ 4294967295) &&& ((rounds (words b 64) s i).g)))) % 4294967296) + (List.getD ks i 0)) % 4294967296) + (List.getD (words b 64) i 0)) % 4294967296)) % 4294967296, (rounds (words b 64) s i).e, (rounds (words b 64) s i).f, (rounds (words b 64) s i).g]) [(.tmp 209), (.tmp 212), (.tmp 215), (.tmp 218), (.tmp 223), (.tmp 226), (.tmp 229), (.tmp 232)] (vs := [(.int .u32 (((((((((((((rounds (words b 64) s i).h) + (((rr 6 ((rounds (words b 64) s i).e)) ^^^ (rr 11 ((rounds (words b 64) s i).e))) ^^^ (rr 25 ((rounds (words b 64) s i).e)))) % 4294967296) + ((((rounds (words b 64) s i).e) &&& ((rounds (words b 64) s i).f)) ||| ((((rounds (words b 64) s i).e) ^^^ 4294967295) &&& ((rounds (words b 64) s i).g)))) % 4294967296) + (List.getD ks i 0)) % 4294967296) + (List.getD (words b 64) i 0)) % 4294967296) + (((((rr 2 ((rounds (words b 64) s i).a)) ^^^ (rr 13 ((rounds (words b 64) s i).a))) ^^^ (rr 22 ((rounds (words b 64) s i).a))) + (((((rounds (words b 64) s i).a) &&& ((rounds (words b 64) s i).b)) ||| (((rounds (words b 64) s i).a) &&& ((rounds (words b 64) s i).c))) ||| (((rounds (words b 64) s i).b) &&& ((rounds (words b 64) s i).c)))) % 4294967296)) % 4294967296 : Nat) : Int)), (.int .u32 (((rounds (words b 64) s i).a : Nat) : Int)), (.int .u32 (((rounds (words b 64) s i).b : Nat) : Int)), (.int .u32 (((rounds (words b 64) s i).c : Nat) : Int)), (.int .u32 (((((rounds (words b 64) s i).d) + ((((((((((rounds (words b 64) s i).h) + (((rr 6 ((rounds (words b 64) s i).e)) ^^^ (rr 11 ((rounds (words b 64) s i).e))) ^^^ (rr 25 ((rounds (words b 64) s i).e)))) % 4294967296) + ((((rounds (words b 64) s i).e) &&& ((rounds (words b 64) s i).f)) ||| ((((rounds (words b 64) s i).e) ^^^ 4294967295) &&& ((rounds (words b 64) s i).g)))) % 4294967296) + (List.getD ks i 0)) % 4294967296) + (List.getD (words b 64) i 0)) % 4294967296)) % 4294967296 : Nat) : Int)), (.int .u32 (((rounds (words b 64) s i).e : Nat) : Int)), (.int .u32 (((rounds (words b 64) s i).f : Nat) : Int)), (.int .u32 (((rounds (words b 64) s i).g : Nat) : Int))]) (cs := List.flatMap c32 [(((((((((((rounds (words b 64) s i).h) + (((rr 6 ((rounds (words b 64) s i).e)) ^^^ (rr 11 ((rounds (words b 64) s i).e))) ^^^ (rr 25 ((rounds (words b 64) s i).e)))) % 4294967296) + ((((rounds (words b 64) s i).e) &&& ((rounds (words b 64) s i).f)) ||| ((((rounds (words b 64) s i).e) ^^^ 4294967295) &&& ((rounds (words b 64) s i).g)))) % 4294967296) + (List.getD ks i 0)) % 4294967296) + (List.getD (words b 64) i 0)) % 4294967296) + (((((rr 2 ((rounds (words b 64) s i).a)) ^^^ (rr 13 ((rounds (words b 64) s i).a))) ^^^ (rr 22 ((rounds (words b 64) s i).a))) + (((((rounds (words b 64) s i).a) &&& ((rounds (words b 64) s i).b)) ||| (((rounds (words b 64) s i).a) &&& ((rounds (words b 64) s i).c))) ||| (((rounds (words b 64) s i).b) &&& ((rounds (words b 64) s i).c)))) % 4294967296)) % 4294967296, (rounds (words b 64) s i).a, (rounds (words b 64) s i).b, (rounds (words b 64) s i).c, (((rounds (words b 64) s i).d) + ((((((((((rounds (words b 64) s i).h) + (((rr 6 ((rounds (words b 64) s i).e)) ^^^ (rr 11 ((rounds (words b 64) s i).e))) ^^^ (rr 25 ((rounds (words b 64) s i).e)))) % 4294967296) + ((((rounds (words b 64) s i).e) &&& ((rounds (words b 64) s i).f)) ||| ((((rounds (words b 64) s i).e) ^^^ 4294967295) &&& ((rounds (words b 64) s i).g)))) % 4294967296) + (List.getD ks i 0)) % 4294967296) + (List.getD (words b 64) i 0)) % 4294967296)) % 4294967296, (rounds (words b 64) s i).e, (rounds (words b 64) s i).f, (rounds (words b 64) s i).g]) rfl (evc (fr_eval rfl rfl) (evc (fr_eval rfl rfl) (evc (fr_eval rfl rfl) (evc (fr_eval rfl rfl) (evc (fr_eval rfl rfl) (evc (fr_eval rfl rfl) (evc (fr_eval rfl rfl) (evc (fr_eval rfl rfl) evn)))))))) (row_one (l := [(((((((((((rounds (words b 64) s i).h) + (((rr 6 ((rounds (words b 64) s i).e)) ^^^ (rr 11 ((rounds (words b 64) s i).e))) ^^^ (rr 25 ((rounds (words b 64) s i).e)))) % 4294967296) + ((((rounds (words b 64) s i).e) &&& ((rounds (words b 64) s i).f)) ||| ((((rounds (words b 64) s i).e) ^^^ 4294967295) &&& ((rounds (words b 64) s i).g)))) % 4294967296) + (List.getD ks i 0)) % 4294967296) + (List.getD (words b 64) i 0)) % 4294967296) + (((((rr 2 ((rounds (words b 64) s i).a)) ^^^ (rr 13 ((rounds (words b 64) s i).a))) ^^^ (rr 22 ((rounds (words b 64) s i).a))) + (((((rounds (words b 64) s i).a) &&& ((rounds (words b 64) s i).b)) ||| (((rounds (words b 64) s i).a) &&& ((rounds (words b 64) s i).c))) ||| (((rounds (words b 64) s i).b) &&& ((rounds (words b 64) s i).c)))) % 4294967296)) % 4294967296, (rounds (words b 64) s i).a, (rounds (words b 64) s i).b, (rounds (words b 64) s i).c, (((rounds (words b 64) s i).d) + ((((((((((rounds (words b 64) s i).h) + (((rr 6 ((rounds (words b 64) s i).e)) ^^^ (rr 11 ((rounds (words b 64) s i).e))) ^^^ (rr 25 ((rounds (words b 64) s i).e)))) % 4294967296) + ((((rounds (words b 64) s i).e) &&& ((rounds (words b 64) s i).f)) ||| ((((rounds (words b 64) s i).e) ^^^ 4294967295) &&& ((rounds (words b 64) s i).g)))) % 4294967296) + (List.getD ks i 0)) % 4294967296) + (List.getD (words b 64) i 0)) % 4294967296)) % 4294967296, (rounds (words b 64) s i).e, (rounds (words b 64) s i).f, (rounds (words b 64) s i).g]) c32_one) rfl (by decide) rfl rfl) ?_
        clear hH
        rintro y3 w20 ⟨hH, hx⟩
        replace hH : Heap (newN w) w w20 [oRow c32 65 1 y1 (words b 64), oRow c32 65 1 yv ((rounds (words b 64) s i).list), oRow c32 65 1 y3 [(((((((((((rounds (words b 64) s i).h) + (((rr 6 ((rounds (words b 64) s i).e)) ^^^ (rr 11 ((rounds (words b 64) s i).e))) ^^^ (rr 25 ((rounds (words b 64) s i).e)))) % 4294967296) + ((((rounds (words b 64) s i).e) &&& ((rounds (words b 64) s i).f)) ||| ((((rounds (words b 64) s i).e) ^^^ 4294967295) &&& ((rounds (words b 64) s i).g)))) % 4294967296) + (List.getD ks i 0)) % 4294967296) + (List.getD (words b 64) i 0)) % 4294967296) + (((((rr 2 ((rounds (words b 64) s i).a)) ^^^ (rr 13 ((rounds (words b 64) s i).a))) ^^^ (rr 22 ((rounds (words b 64) s i).a))) + (((((rounds (words b 64) s i).a) &&& ((rounds (words b 64) s i).b)) ||| (((rounds (words b 64) s i).a) &&& ((rounds (words b 64) s i).c))) ||| (((rounds (words b 64) s i).b) &&& ((rounds (words b 64) s i).c)))) % 4294967296)) % 4294967296, (rounds (words b 64) s i).a, (rounds (words b 64) s i).b, (rounds (words b 64) s i).c, (((rounds (words b 64) s i).d) + ((((((((((rounds (words b 64) s i).h) + (((rr 6 ((rounds (words b 64) s i).e)) ^^^ (rr 11 ((rounds (words b 64) s i).e))) ^^^ (rr 25 ((rounds (words b 64) s i).e)))) % 4294967296) + ((((rounds (words b 64) s i).e) &&& ((rounds (words b 64) s i).f)) ||| ((((rounds (words b 64) s i).e) ^^^ 4294967295) &&& ((rounds (words b 64) s i).g)))) % 4294967296) + (List.getD ks i 0)) % 4294967296) + (List.getD (words b 64) i 0)) % 4294967296)) % 4294967296, (rounds (words b 64) s i).e, (rounds (words b 64) s i).f, (rounds (words b 64) s i).g]] := hH
        clear hx
        refine lf_val (v := y3) (wantAll rfl) (rv_assign rfl (fr_eval rfl rfl)) ?_
        refine lf_nil ?_
        refine then_n ?_
        refine wp_gen (fun F' => F' 0 = vh ∧ F' 1 = vk ∧ F' 2 = v ∧ F' 6 = .slice none 0 0 ∧ F' 7 = y1 ∧ F' 8 = .int .i64 ((64 : Nat) : Int) ∧ F' 11 = yv ∧ F' 12 = .int .i64 ((8 : Nat) : Int) ∧ F' 13 = .int .i64 ((i : Nat) : Int) ∧ F' 14 = .int .u32 (((((rounds (words b 64) s i).e) &&& ((rounds (words b 64) s i).f)) ||| ((((rounds (words b 64) s i).e) ^^^ 4294967295) &&& ((rounds (words b 64) s i).g)) : Nat) : Int) ∧ F' 15 = .int .u32 ((((((rounds (words b 64) s i).a) &&& ((rounds (words b 64) s i).b)) ||| (((rounds (words b 64) s i).a) &&& ((rounds (words b 64) s i).c))) ||| (((rounds (words b 64) s i).b) &&& ((rounds (words b 64) s i).c)) : Nat) : Int) ∧ F' 16 = .int .u32 (((((((((((rounds (words b 64) s i).h) + (((rr 6 ((rounds (words b 64) s i).e)) ^^^ (rr 11 ((rounds (words b 64) s i).e))) ^^^ (rr 25 ((rounds (words b 64) s i).e)))) % 4294967296) + ((((rounds (words b 64) s i).e) &&& ((rounds (words b 64) s i).f)) ||| ((((rounds (words b 64) s i).e) ^^^ 4294967295) &&& ((rounds (words b 64) s i).g)))) % 4294967296) + (List.getD ks i 0)) % 4294967296) + (List.getD (words b 64) i 0)) % 4294967296 : Nat) : Int) ∧ F' 17 = .int .u32 ((((((rr 2 ((rounds (words b 64) s i).a)) ^^^ (rr 13 ((rounds (words b 64) s i).a))) ^^^ (rr 22 ((rounds (words b 64) s i).a))) + (((((rounds (words b 64) s i).a) &&& ((rounds (words b 64) s i).b)) ||| (((rounds (words b 64) s i).a) &&& ((rounds (words b 64) s i).c))) ||| (((rounds (words b 64) s i).b) &&& ((rounds (words b 64) s i).c)))) % 4294967296 : Nat) : Int) ∧ F' 18 = y3 ∧ F' 23 = .bool false ∧ F' 108 = .bool false ∧ F' 119 = .bool true) ⟨e0, e1, e2, e6, e7, e8, e11, e12, e13, e14, e15, e16, e17, rfl, e23, e108, e119⟩ ?_
        clear e0 e1 e2 e6 e7 e8 e11 e12 e13 e14 e15 e16 e17 e23 e108 e119
        clear F
        rintro F ⟨e0, e1, e2, e6, e7, e8, e11, e12, e13, e14, e15, e16, e17, e18, e23, e108, e119⟩
        refine wp_regionF ?_
        refine lf_val (v := y3) (wantAll rfl) (rv_move rfl (fr_eval rfl e18)) ?_
        refine lf_val (v := y3) (wantAll rfl) (rv_assign rfl (fr_eval rfl rfl)) ?_
        refine lf_nil ?_
        refine blk_n ?_
        refine then_n ?_
        replace hH : Heap (newN w) w w20 [oRow c32 65 1 y1 (words b 64), oRow c32 65 1 y3 [(((((((((((rounds (words b 64) s i).h) + (((rr 6 ((rounds (words b 64) s i).e)) ^^^ (rr 11 ((rounds (words b 64) s i).e))) ^^^ (rr 25 ((rounds (words b 64) s i).e)))) % 4294967296) + ((((rounds (words b 64) s i).e) &&& ((rounds (words b 64) s i).f)) ||| ((((rounds (words b 64) s i).e) ^^^ 4294967295) &&& ((rounds (words b 64) s i).g)))) % 4294967296) + (List.getD ks i 0)) % 4294967296) + (List.getD (words b 64) i 0)) % 4294967296) + (((((rr 2 ((rounds (words b 64) s i).a)) ^^^ (rr 13 ((rounds (words b 64) s i).a))) ^^^ (rr 22 ((rounds (words b 64) s i).a))) + (((((rounds (words b 64) s i).a) &&& ((rounds (words b 64) s i).b)) ||| (((rounds (words b 64) s i).a) &&& ((rounds (words b 64) s i).c))) ||| (((rounds (words b 64) s i).b) &&& ((rounds (words b 64) s i).c)))) % 4294967296)) % 4294967296, (rounds (words b 64) s i).a, (rounds (words b 64) s i).b, (rounds (words b 64) s i).c, (((rounds (words b 64) s i).d) + ((((((((((rounds (words b 64) s i).h) + (((rr 6 ((rounds (words b 64) s i).e)) ^^^ (rr 11 ((rounds (words b 64) s i).e))) ^^^ (rr 25 ((rounds (words b 64) s i).e)))) % 4294967296) + ((((rounds (words b 64) s i).e) &&& ((rounds (words b 64) s i).f)) ||| ((((rounds (words b 64) s i).e) ^^^ 4294967295) &&& ((rounds (words b 64) s i).g)))) % 4294967296) + (List.getD ks i 0)) % 4294967296) + (List.getD (words b 64) i 0)) % 4294967296)) % 4294967296, (rounds (words b 64) s i).e, (rounds (words b 64) s i).f, (rounds (words b 64) s i).g]] := hH.drop (.cons_cons _ (.cons _ (.cons_cons _ .slnil)))
        refine wp_gen (fun F' => F' 0 = vh ∧ F' 1 = vk ∧ F' 2 = v ∧ F' 6 = .slice none 0 0 ∧ F' 7 = y1 ∧ F' 8 = .int .i64 ((64 : Nat) : Int) ∧ F' 11 = y3 ∧ F' 12 = .int .i64 ((8 : Nat) : Int) ∧ F' 13 = .int .i64 ((i : Nat) : Int) ∧ F' 14 = .int .u32 (((((rounds (words b 64) s i).e) &&& ((rounds (words b 64) s i).f)) ||| ((((rounds (words b 64) s i).e) ^^^ 4294967295) &&& ((rounds (words b 64) s i).g)) : Nat) : Int) ∧ F' 15 = .int .u32 ((((((rounds (words b 64) s i).a) &&& ((rounds (words b 64) s i).b)) ||| (((rounds (words b 64) s i).a) &&& ((rounds (words b 64) s i).c))) ||| (((rounds (words b 64) s i).b) &&& ((rounds (words b 64) s i).c)) : Nat) : Int) ∧ F' 16 = .int .u32 (((((((((((rounds (words b 64) s i).h) + (((rr 6 ((rounds (words b 64) s i).e)) ^^^ (rr 11 ((rounds (words b 64) s i).e))) ^^^ (rr 25 ((rounds (words b 64) s i).e)))) % 4294967296) + ((((rounds (words b 64) s i).e) &&& ((rounds (words b 64) s i).f)) ||| ((((rounds (words b 64) s i).e) ^^^ 4294967295) &&& ((rounds (words b 64) s i).g)))) % 4294967296) + (List.getD ks i 0)) % 4294967296) + (List.getD (words b 64) i 0)) % 4294967296 : Nat) : Int) ∧ F' 17 = .int .u32 ((((((rr 2 ((rounds (words b 64) s i).a)) ^^^ (rr 13 ((rounds (words b 64) s i).a))) ^^^ (rr 22 ((rounds (words b 64) s i).a))) + (((((rounds (words b 64) s i).a) &&& ((rounds (words b 64) s i).b)) ||| (((rounds (words b 64) s i).a) &&& ((rounds (words b 64) s i).c))) ||| (((rounds (words b 64) s i).b) &&& ((rounds (words b 64) s i).c)))) % 4294967296 : Nat) : Int) ∧ F' 18 = y3 ∧ F' 23 = .bool false ∧ F' 108 = .bool false ∧ F' 119 = .bool true) ⟨e0, e1, e2, e6, e7, e8, rfl, e12, e13, e14, e15, e16, e17, e18, e23, e108, e119⟩ ?_
        clear e0 e1 e2 e6 e7 e8 e11 e12 e13 e14 e15 e16 e17 e18 e23 e108 e119
        clear F
        rintro F ⟨e0, e1, e2, e6, e7, e8, e11, e12, e13, e14, e15, e16, e17, e18, e23, e108, e119⟩
        refine wp_regionF ?_
        refine lf_val (v := .int .i64 ((i : Nat) : Int)) (wantAll rfl) (rv_move rfl (fr_eval rfl e13)) ?_
        refine lf_val (v := .int .i64 ((i + 1 : Nat) : Int)) (wantAll rfl) (rv_add rfl (fr_eval rfl rfl) rfl (wrap_i64 (by omega) (by omega) (by omega))) ?_
        refine lf_val (v := .int .i64 ((i + 1 : Nat) : Int)) (wantAll rfl) (rv_assign rfl (fr_eval rfl rfl)) ?_
        refine lf_nil ?_
        refine then_n ?_
        replace hH : Heap (newN w) w w20 [oRow c32 65 1 y1 (words b 64), oRow c32 65 1 y3 ((rounds (words b 64) s (i + 1)).list)] := by have e : [(((((((((((rounds (words b 64) s i).h) + (((rr 6 ((rounds (words b 64) s i).e)) ^^^ (rr 11 ((rounds (words b 64) s i).e))) ^^^ (rr 25 ((rounds (words b 64) s i).e)))) % 4294967296) + ((((rounds (words b 64) s i).e) &&& ((rounds (words b 64) s i).f)) ||| ((((rounds (words b 64) s i).e) ^^^ 4294967295) &&& ((rounds (words b 64) s i).g)))) % 4294967296) + (List.getD ks i 0)) % 4294967296) + (List.getD (words b 64) i 0)) % 4294967296) + (((((rr 2 ((rounds (words b 64) s i).a)) ^^^ (rr 13 ((rounds (words b 64) s i).a))) ^^^ (rr 22 ((rounds (words b 64) s i).a))) + (((((rounds (words b 64) s i).a) &&& ((rounds (words b 64) s i).b)) ||| (((rounds (words b 64) s i).a) &&& ((rounds (words b 64) s i).c))) ||| (((rounds (words b 64) s i).b) &&& ((rounds (words b 64) s i).c)))) % 4294967296)) % 4294967296, (rounds (words b 64) s i).a, (rounds (words b 64) s i).b, (rounds (words b 64) s i).c, (((rounds (words b 64) s i).d) + ((((((((((rounds (words b 64) s i).h) + (((rr 6 ((rounds (words b 64) s i).e)) ^^^ (rr 11 ((rounds (words b 64) s i).e))) ^^^ (rr 25 ((rounds (words b 64) s i).e)))) % 4294967296) + ((((rounds (words b 64) s i).e) &&& ((rounds (words b 64) s i).f)) ||| ((((rounds (words b 64) s i).e) ^^^ 4294967295) &&& ((rounds (words b 64) s i).g)))) % 4294967296) + (List.getD ks i 0)) % 4294967296) + (List.getD (words b 64) i 0)) % 4294967296)) % 4294967296, (rounds (words b 64) s i).e, (rounds (words b 64) s i).f, (rounds (words b 64) s i).g] = (rounds (words b 64) s (i + 1)).list := rounds_next (ch_ref (hro i).e) maj_or; rw [← e]; exact hH
        exact ⟨_, _, (by omega), rfl, i + 1, _, rfl, (by omega), e0, e1, e2, e6, e7, e8, e11, e12, rfl, e23, e108, hH⟩
      · refine lf_val (v := .bool false) (wantAll rfl) (rv_lss rfl (fr_eval rfl rfl) rfl (decide_eq_false (by omega))) ?_
        refine lf_nil ?_
        refine then_n ?_
        refine wp_gen (fun F' => F' 0 = vh ∧ F' 1 = vk ∧ F' 2 = v ∧ F' 6 = .slice none 0 0 ∧ F' 7 = y1 ∧ F' 8 = .int .i64 ((64 : Nat) : Int) ∧ F' 11 = yv ∧ F' 12 = .int .i64 ((8 : Nat) : Int) ∧ F' 13 = .int .i64 ((i : Nat) : Int) ∧ F' 23 = .bool false ∧ F' 108 = .bool false ∧ F' 119 = .bool false) ⟨e0, e1, e2, e6, e7, e8, e11, e12, e13, e23, e108, rfl⟩ ?_
        clear e0 e1 e2 e6 e7 e8 e11 e12 e13 e23 e108
        clear F
        rintro F ⟨e0, e1, e2, e6, e7, e8, e11, e12, e13, e23, e108, e119⟩
        refine wp_cond_false (fr_eval rfl e119) ?_
        refine wp_exit ?_
        refine then_exit ?_
        refine then_exit ?_
        refine blk_exit ?_
        refine then_n ?_
        refine wp_seq ?_
        obtain rfl : i = 64 := by omega
        refine wp_regionF ?_
        refine lf_ex (wantAll rfl) (hx_make hH Try.st32 (n := 8) (nm := List.length (List.replicate 8 0)) (z1 := .int .u32 0) (xs := (List.replicate 8 0).flatMap c32) rfl (show _ = Value.int _ ((8 : Nat) : Int) from rfl) (show _ = Value.int _ ((8 : Nat) : Int) from rfl) (by omega) rfl (zeros_f (f := c32) (d := 0) (sz := 1) rfl _) (List.length_replicate ..).symm) ?_
        clear hH
        rintro y4 w21 ⟨hH, hx⟩
        replace hH : Heap (newN w) w w21 [oRow c32 65 1 y1 (words b 64), oRow c32 65 1 yv ((rounds (words b 64) s 64).list), oRow c32 65 1 y4 (List.replicate 8 0)] := hH
        clear hx
        refine lf_val (v := y4) (wantAll rfl) (rv_assign rfl (fr_eval rfl rfl)) ?_
        refine lf_nil ?_
        refine then_n ?_
        refine wp_seq ?_
        refine wp_seq ?_
        refine wp_gen (fun F' => F' 0 = vh ∧ F' 1 = vk ∧ F' 2 = v ∧ F' 6 = .slice none 0 0 ∧ F' 7 = y1 ∧ F' 8 = .int .i64 ((64 : Nat) : Int) ∧ F' 11 = yv ∧ F' 12 = .int .i64 ((8 : Nat) : Int) ∧ F' 13 = .int .i64 ((64 : Nat) : Int) ∧ F' 19 = y4 ∧ F' 23 = .bool false ∧ F' 108 = .bool false ∧ F' 119 = .bool false) ⟨e0, e1, e2, e6, e7, e8, e11, e12, e13, rfl, e23, e108, e119⟩ ?_
        clear e0 e1 e2 e6 e7 e8 e11 e12 e13 e23 e108 e119
        clear F
        rintro F ⟨e0, e1, e2, e6, e7, e8, e11, e12, e13, e19, e23, e108, e119⟩
        refine wp_regionF ?_
        refine lf_val (v := .int .i64 0) (wantAll rfl) (rv_assign rfl rfl) ?_
        refine lf_nil ?_
        refine then_n ?_
        refine wp_block ?_
        replace hH : Heap (newN w) w w21 [oRow c32 65 1 y1 (words b 64), oRow c32 65 1 yv ((rounds (words b 64) s 64).list), oRow c32 65 1 y4 (outL s (rounds (words b 64) s 64) 0)] := by have e : List.replicate 8 0 = outL s (rounds (words b 64) s 64) 0 := rfl; rw [← e]; exact hH
        refine wp_gen (fun F' => F' 0 = vh ∧ F' 1 = vk ∧ F' 2 = v ∧ F' 6 = .slice none 0 0 ∧ F' 7 = y1 ∧ F' 8 = .int .i64 ((64 : Nat) : Int) ∧ F' 11 = yv ∧ F' 12 = .int .i64 ((8 : Nat) : Int) ∧ F' 13 = .int .i64 ((64 : Nat) : Int) ∧ F' 19 = y4 ∧ F' 20 = .int .i64 0 ∧ F' 23 = .bool false ∧ F' 108 = .bool false ∧ F' 119 = .bool false) ⟨e0, e1, e2, e6, e7, e8, e11, e12, e13, e19, rfl, e23, e108, e119⟩ ?_
        clear e0 e1 e2 e6 e7 e8 e11 e12 e13 e19 e23 e108 e119
        clear F
        rintro F ⟨e0, e1, e2, e6, e7, e8, e11, e12, e13, e19, e20, e23, e108, e119⟩
        refine wp_loopF (fun m F wr => ∃ j : Nat, m = 8 - j ∧ j ≤ 8 ∧ F 0 = vh ∧ F 1 = vk ∧ F 2 = v ∧ F 6 = .slice none 0 0 ∧ F 7 = y1 ∧ F 8 = .int .i64 ((64 : Nat) : Int) ∧ F 11 = yv ∧ F 12 = .int .i64 ((8 : Nat) : Int) ∧ F 13 = .int .i64 ((64 : Nat) : Int) ∧ F 19 = y4 ∧ F 20 = .int .i64 ((j : Nat) : Int) ∧ F 23 = .bool false ∧ F 108 = .bool false ∧ F 119 = .bool false ∧ Heap (newN w) w wr [oRow c32 65 1 y1 (words b 64), oRow c32 65 1 yv ((rounds (words b 64) s 64).list), oRow c32 65 1 y4 (outL s (rounds (words b 64) s 64) j)]) ⟨0, rfl, (by decide), e0, e1, e2, e6, e7, e8, e11, e12, e13, e19, e20, e23, e108, e119, hH⟩ ?_
        clear e0 e1 e2 e6 e7 e8 e11 e12 e13 e19 e20 e23 e108 e119 hH
        clear F
        rintro m F w22 ⟨j, rfl, pj0, e0, e1, e2, e6, e7, e8, e11, e12, e13, e19, e20, e23, e108, e119, hH⟩
        refine wp_seq ?_
        refine wp_seq ?_
        refine wp_regionF ?_
        refine lf_val (v := .int .i64 ((j : Nat) : Int)) (wantAll rfl) (rv_move rfl (fr_eval rfl e20)) ?_
        by_cases hc5 : j < 8
        · refine lf_val (v := .bool true) (wantAll rfl) (rv_lss rfl (fr_eval rfl rfl) rfl (decide_eq_true (by omega))) ?_
          refine lf_nil ?_
          refine then_n ?_
          refine wp_gen (fun F' => F' 0 = vh ∧ F' 1 = vk ∧ F' 2 = v ∧ F' 6 = .slice none 0 0 ∧ F' 7 = y1 ∧ F' 8 = .int .i64 ((64 : Nat) : Int) ∧ F' 11 = yv ∧ F' 12 = .int .i64 ((8 : Nat) : Int) ∧ F' 13 = .int .i64 ((64 : Nat) : Int) ∧ F' 19 = y4 ∧ F' 20 = .int .i64 ((j : Nat) : Int) ∧ F' 23 = .bool false ∧ F' 108 = .bool false ∧ F' 119 = .bool false ∧ F' 237 = .bool true) ⟨e0, e1, e2, e6, e7, e8, e11, e12, e13, e19, e20, e23, e108, e119, rfl⟩ ?_
          clear e0 e1 e2 e6 e7 e8 e11 e12 e13 e19 e20 e23 e108 e119
          clear F
          rintro F ⟨e0, e1, e2, e6, e7, e8, e11, e12, e13, e19, e20, e23, e108, e119, e237⟩
          refine wp_cond_true (fr_eval rfl e237) ?_
          refine wp_skip ?_
          refine then_n ?_
          refine wp_seq ?_
          refine wp_block ?_
          refine wp_regionX (fun _ => False) 11 (by kernel_rfl) (by kernel_rfl) ?_
          refine xl_take (i := 0) (v := y4) rfl (by kernel_rfl) (by kernel_rfl) (by kernel_rfl) (by kernel_rfl) (yx_val (wantAll rfl) (fun w' hx' => rv_move rfl (fr_eval rfl e19))) ?_
          refine xl_take (i := 1) (v := .int .i64 ((j : Nat) : Int)) rfl (by kernel_rfl) (by kernel_rfl) (by kernel_rfl) (by kernel_rfl) (yx_val (wantAll rfl) (fun w' hx' => rv_move rfl (fr_eval rfl e20))) ?_
          refine xl_take (i := 2) (v := vh) rfl (by kernel_rfl) (by kernel_rfl) (by kernel_rfl) (by kernel_rfl) (yx_val (wantAll rfl) (fun w' hx' => rv_move rfl (fr_eval rfl e0))) ?_
          refine xl_take (i := 3) (v := .int .i64 ((j : Nat) : Int)) rfl (by kernel_rfl) (by kernel_rfl) (by kernel_rfl) (by kernel_rfl) (yx_val (wantAll rfl) (fun w' hx' => rv_move rfl (fr_eval rfl e20))) ?_
          refine xl_take (i := 4) (v := .pointer (some (elemA vh (j * 1)))) rfl (by kernel_rfl) (by kernel_rfl) (by kernel_rfl) (by kernel_rfl) (yx_val (wantAll rfl) (fun w' hx' => rv_index rfl (fr_eval rfl rfl) (fr_eval rfl rfl) (rdN (hh.rd _ (hH.chg.trans (Ext.any hx'))) rfl) (show j < 8 from (by omega)) Try.underlying74 Try.sz65 (by decide))) ?_
          refine xl_take (i := 5) (v := .int .u32 ((List.getD s.list j 0 : Nat) : Int)) rfl (by kernel_rfl) (by kernel_rfl) (by kernel_rfl) (by kernel_rfl) (yx_val (wantAll rfl) (fun w' hx' => rv_loadCell rfl (fr_eval rfl rfl) (Nat.mul_one _) (hh.rd _ (hH.chg.trans (Ext.any hx'))) (flat_get1 0 c32_len (show j < 8 from (by omega)) rfl) Try.underlying65 rfl Try.sz65)) ?_
          refine xl_take (i := 6) (v := yv) rfl (by kernel_rfl) (by kernel_rfl) (by kernel_rfl) (by kernel_rfl) (yx_val (wantAll rfl) (fun w' hx' => rv_move rfl (fr_eval rfl e11))) ?_
          refine xl_take (i := 7) (v := .int .i64 ((j : Nat) : Int)) rfl (by kernel_rfl) (by kernel_rfl) (by kernel_rfl) (by kernel_rfl) (yx_val (wantAll rfl) (fun w' hx' => rv_move rfl (fr_eval rfl e20))) ?_
          refine xl_take (i := 8) (v := .pointer (some (elemA yv (j * 1)))) rfl (by kernel_rfl) (by kernel_rfl) (by kernel_rfl) (by kernel_rfl) (yx_val (wantAll rfl) (fun w' hx' => rv_index rfl (fr_eval rfl rfl) (fr_eval rfl rfl) (rdN (Own.rd ((hH.ext hx').own (i := 1) rfl) (row_one c32_one)) rfl) (show j < 8 from (by omega)) Try.underlying74 Try.sz65 (by decide))) ?_
          refine xl_take (i := 9) (v := .int .u32 ((List.getD (rounds (words b 64) s 64).list j 0 : Nat) : Int)) rfl (by kernel_rfl) (by kernel_rfl) (by kernel_rfl) (by kernel_rfl) (yx_val (wantAll rfl) (fun w' hx' => rv_loadCell rfl (fr_eval rfl rfl) (Nat.mul_one _) (Own.rd ((hH.ext hx').own (i := 1) rfl) (row_one c32_one)) (flat_get1 0 c32_len (show j < 8 from (by omega)) rfl) Try.underlying65 rfl Try.sz65)) ?_
          refine xl_take (i := 10) (v := .int .u32 ((((List.getD s.list j 0) + (List.getD (rounds (words b 64) s 64).list j 0)) % 4294967296 : Nat) : Int)) rfl (by kernel_rfl) (by kernel_rfl) (by kernel_rfl) (by kernel_rfl) (yx_val (wantAll rfl) (fun w' hx' => rv_add rfl (fr_eval rfl rfl) (fr_eval rfl rfl) (add32 _ _))) ?_
          refine xl_tail (s := 11) rfl ?_
          intro w23 hx
          replace hH := hH.ext hx
          clear hx
          refine lf_val (v := .pointer (some (elemA y4 (j * 1)))) (wantAll rfl) (rv_index rfl (fr_eval rfl rfl) (fr_eval rfl rfl) (rdN (Own.rd (hH.own (i := 2) rfl) (row_one c32_one)) (outL_len s (rounds (words b 64) s 64) pj0)) (show j < 8 from (by omega)) Try.underlying74 Try.sz65 (by decide)) ?_
          refine lf_sk (wantAll rfl) (hx_setC hH (i := 2) (nm := List.length (List.set (outL s (rounds (words b 64) s 64) j) j (((List.getD s.list j 0) + (List.getD (rounds (words b 64) s 64).list j 0)) % 4294967296))) (j := j) (xs' := (List.set (outL s (rounds (words b 64) s 64) j) j (((List.getD s.list j 0) + (List.getD (rounds (words b 64) s 64).list j 0)) % 4294967296)).flatMap c32) rfl rfl rfl (List.length_set ..).symm (Nat.lt_of_lt_of_eq (by omega) ((outL_len s (rounds (words b 64) s 64) pj0)).symm) (flat_set1 c32_len rfl (Nat.lt_of_lt_of_eq (by omega) ((outL_len s (rounds (words b 64) s 64) pj0)).symm)) (fr_eval rfl rfl) (fr_eval rfl rfl) Try.sz65 rfl) ?_
          clear hH
          rintro w25 ⟨hH, hx⟩
          replace hH : Heap (newN w) w w25 [oRow c32 65 1 y1 (words b 64), oRow c32 65 1 yv ((rounds (words b 64) s 64).list), oRow c32 65 1 y4 (List.set (outL s (rounds (words b 64) s 64) j) j (((List.getD s.list j 0) + (List.getD (rounds (words b 64) s 64).list j 0)) % 4294967296))] := hH
          replace hH : Heap (newN w) w w25 [oRow c32 65 1 y1 (words b 64), oRow c32 65 1 yv ((rounds (words b 64) s 64).list), oRow c32 65 1 y4 (outL s (rounds (words b 64) s 64) (j + 1))] := by have e : List.set (outL s (rounds (words b 64) s 64) j) j (((List.getD s.list j 0) + (List.getD (rounds (words b 64) s 64).list j 0)) % 4294967296) = outL s (rounds (words b 64) s 64) (j + 1) := outL_set s _ (by omega); rw [e] at hH; exact hH
          clear hx
          refine lf_nil ?_
          refine blk_n ?_
          refine then_n ?_
          refine wp_gen (fun F' => F' 0 = vh ∧ F' 1 = vk ∧ F' 2 = v ∧ F' 6 = .slice none 0 0 ∧ F' 7 = y1 ∧ F' 8 = .int .i64 ((64 : Nat) : Int) ∧ F' 11 = yv ∧ F' 12 = .int .i64 ((8 : Nat) : Int) ∧ F' 13 = .int .i64 ((64 : Nat) : Int) ∧ F' 19 = y4 ∧ F' 20 = .int .i64 ((j : Nat) : Int) ∧ F' 23 = .bool false ∧ F' 108 = .bool false ∧ F' 119 = .bool false ∧ F' 237 = .bool true) ⟨e0, e1, e2, e6, e7, e8, e11, e12, e13, e19, e20, e23, e108, e119, e237⟩ ?_
          clear e0 e1 e2 e6 e7 e8 e11 e12 e13 e19 e20 e23 e108 e119 e237
          clear F
          rintro F ⟨e0, e1, e2, e6, e7, e8, e11, e12, e13, e19, e20, e23, e108, e119, e237⟩
          refine wp_regionF ?_
          refine lf_val (v := .int .i64 ((j : Nat) : Int)) (wantAll rfl) (rv_move rfl (fr_eval rfl e20)) ?_
          refine lf_val (v := .int .i64 ((j + 1 : Nat) : Int)) (wantAll rfl) (rv_add rfl (fr_eval rfl rfl) rfl (wrap_i64 (by omega) (by omega) (by omega))) ?_
          refine lf_val (v := .int .i64 ((j + 1 : Nat) : Int)) (wantAll rfl) (rv_assign rfl (fr_eval rfl rfl)) ?_
          refine lf_nil ?_
          refine then_n ?_
          exact ⟨_, _, (by omega), rfl, j + 1, rfl, (by omega), e0, e1, e2, e6, e7, e8, e11, e12, e13, e19, rfl, e23, e108, e119, hH⟩
        · refine lf_val (v := .bool false) (wantAll rfl) (rv_lss rfl (fr_eval rfl rfl) rfl (decide_eq_false (by omega))) ?_
          refine lf_nil ?_
          refine then_n ?_
          refine wp_gen (fun F' => F' 0 = vh ∧ F' 1 = vk ∧ F' 2 = v ∧ F' 6 = .slice none 0 0 ∧ F' 7 = y1 ∧ F' 8 = .int .i64 ((64 : Nat) : Int) ∧ F' 11 = yv ∧ F' 12 = .int .i64 ((8 : Nat) : Int) ∧ F' 13 = .int .i64 ((64 : Nat) : Int) ∧ F' 19 = y4 ∧ F' 20 = .int .i64 ((j : Nat) : Int) ∧ F' 23 = .bool false ∧ F' 108 = .bool false ∧ F' 119 = .bool false ∧ F' 237 = .bool false) ⟨e0, e1, e2, e6, e7, e8, e11, e12, e13, e19, e20, e23, e108, e119, rfl⟩ ?_
          clear e0 e1 e2 e6 e7 e8 e11 e12 e13 e19 e20 e23 e108 e119
          clear F
          rintro F ⟨e0, e1, e2, e6, e7, e8, e11, e12, e13, e19, e20, e23, e108, e119, e237⟩
          refine wp_cond_false (fr_eval rfl e237) ?_
          refine wp_exit ?_
          refine then_exit ?_
          refine then_exit ?_
          refine blk_exit ?_
          refine then_n ?_
          refine wp_seq ?_
          obtain rfl : j = 8 := by omega
          replace hH : Heap (newN w) w w22 [oRow c32 65 1 y1 (words b 64), oRow c32 65 1 yv ((rounds (words b 64) s 64).list), oRow c32 65 1 y4 ((comp s b).list)] := by have e : outL s (rounds (words b 64) s 64) 8 = (comp s b).list := rfl; rw [← e]; exact hH
          refine wp_regionF ?_
          refine lf_val (v := y4) (wantAll rfl) (rv_move rfl (fr_eval rfl e19)) ?_
          refine lf_val (v := y4) (wantAll rfl) (rv_assign rfl (fr_eval rfl rfl)) ?_
          refine lf_nil ?_
          refine then_n ?_
          refine wp_gen (fun F' => F' 0 = vh ∧ F' 1 = vk ∧ F' 2 = v ∧ F' 6 = y4 ∧ F' 7 = y1 ∧ F' 8 = .int .i64 ((64 : Nat) : Int) ∧ F' 11 = yv ∧ F' 12 = .int .i64 ((8 : Nat) : Int) ∧ F' 13 = .int .i64 ((64 : Nat) : Int) ∧ F' 19 = y4 ∧ F' 20 = .int .i64 ((8 : Nat) : Int) ∧ F' 23 = .bool false ∧ F' 108 = .bool false ∧ F' 119 = .bool false ∧ F' 237 = .bool false) ⟨e0, e1, e2, rfl, e7, e8, e11, e12, e13, e19, e20, e23, e108, e119, e237⟩ ?_
          clear e0 e1 e2 e6 e7 e8 e11 e12 e13 e19 e20 e23 e108 e119 e237
          clear F
          rintro F ⟨e0, e1, e2, e6, e7, e8, e11, e12, e13, e19, e20, e23, e108, e119, e237⟩
          refine wp_ret ?_
          exact bodyPost_ret (v := y4) (res1 rfl (ro_tmp rfl e6)) rfl (⟨⟨_, rfl, hH.own (i := 2) rfl, hH.ge (i := 2) rfl⟩, hH.done⟩)

end Go.Proofs.Yticaefnpapppoaa
