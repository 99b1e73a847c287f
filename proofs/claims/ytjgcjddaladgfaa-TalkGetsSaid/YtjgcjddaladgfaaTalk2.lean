/- What is read of bytes as a message, in plain Lean. -/
import Derived.Test.YtjgcjddaladgfaaTalk
namespace Go.Bz.Talk
open Go.Bz Go.Bz.Wire Go.Bz.Rcpt
abbrev AM : Int := 1125899906842624
/-- What is read as a job. -/
structure JobOk (b : List UInt8) (c s : Int) (h : S32) (bl : List UInt8) (e : Int) : Prop where
  one : ∀ (c' s' : Int) (h' : S32) (bl' : List UInt8), 0 ≤ c' → c' ≤ 1048576 → 0 ≤ s' → s' ≤ 1048576 → bl'.length ≤ 65536 → b = textJ c' s' h' bl' → e = 0
  good : e = 0 → (0 ≤ c ∧ c ≤ 1048576 ∧ 0 ≤ s ∧ s ≤ 1048576) ∧ b = textJ c s h bl ∧ bl.length ≤ 65536
  bad : ¬ e = 0 → c = 0 ∧ s = 0 ∧ h = zS ∧ bl = []
section
variable {b R1 R2 R3 R4 : List UInt8} {K1 K2 K3 K4 : Int}
theorem job_fwd (hR1 : R1 = numR b 0) (hK1 : K1 = uptoE b 0 1048576) (hR2 : R2 = numR R1 K1) (hK2 : K2 = uptoE R1 K1 1048576) (hR3 : R3 = rawR R2 K2 32) (hK3 : K3 = rawE R2 K2 32)
    (hR4 : R4 = rawR (numR R3 K3) (uptoE R3 K3 65536) ((uptoV R3 K3 65536 : Nat) : Int)) (hK4 : K4 = rawE (numR R3 K3) (uptoE R3 K3 65536) ((uptoV R3 K3 65536 : Nat) : Int))
    {c s : Int} {h : S32} {bl : List UInt8} (h1 : 0 ≤ c) (h2 : c ≤ 1048576) (h3 : 0 ≤ s) (h4 : s ≤ 1048576) (h5 : bl.length ≤ 65536) (hb : b = textJ c s h bl) : doneE R4 K4 = 0 := by
  subst hR1 hK1 hR2 hK2 hR3 hK3 hR4 hK4
  have hb' : b = put c ++ (put s ++ (h.1 ++ (put (bl.length : Int) ++ (bl ++ [])))) := by rw [hb]; simp [textJ]
  obtain ⟨a1, a2, a3⟩ := upto_of (e := 0) (m := 1048576) rfl hb' h1 h2 (by omega)
  obtain ⟨b1, b2, b3⟩ := upto_of (m := 1048576) a3 a2 h3 h4 (by omega)
  obtain ⟨c1, c2, c3⟩ := sum_of b3 b2 h.2
  obtain ⟨d1, d2, d3⟩ := text_of (m := 65536) c3 c2 (by omega) (by omega)
  exact done_of d3 d2
theorem job_ok (hR1 : R1 = numR b 0) (hK1 : K1 = uptoE b 0 1048576) (hR2 : R2 = numR R1 K1) (hK2 : K2 = uptoE R1 K1 1048576) (hR3 : R3 = rawR R2 K2 32) (hK3 : K3 = rawE R2 K2 32)
    (hR4 : R4 = rawR (numR R3 K3) (uptoE R3 K3 65536) ((uptoV R3 K3 65536 : Nat) : Int)) (hK4 : K4 = rawE (numR R3 K3) (uptoE R3 K3 65536) ((uptoV R3 K3 65536 : Nat) : Int)) (hd : doneE R4 K4 = 0) :
    JobOk b ((uptoV b 0 1048576 : Nat) : Int) ((uptoV R1 K1 1048576 : Nat) : Int) ⟨sumV R2 K2, sumV_len⟩ (rawV (numR R3 K3) (uptoE R3 K3 65536) ((uptoV R3 K3 65536 : Nat) : Int)) 0 := by
  refine ⟨fun _ _ _ _ _ _ _ _ _ _ => rfl, fun _ => ?_, fun h => absurd rfl h⟩
  obtain ⟨f1, f2⟩ := done_form hd
  rw [hK4] at f1
  obtain ⟨d1, d2, d3⟩ := text_form f1
  rw [hK3] at d1
  obtain ⟨c1, c2⟩ := sum_form d1
  rw [hK2] at c1
  obtain ⟨b1, b2, b3⟩ := upto_form c1
  rw [hK1] at b1
  obtain ⟨_, a2, a3⟩ := upto_form b1
  refine ⟨⟨by omega, a3, by omega, b3⟩, ?_, by omega⟩
  rw [← hR1] at a2
  rw [← hR2] at b2
  rw [← hR3] at c2
  rw [← hR4, f2] at d2
  rw [textJ]
  simp only [List.append_assoc]
  conv => lhs; rw [a2, b2, c2, d2]
  rw [List.append_nil]
theorem job_no (hR1 : R1 = numR b 0) (hK1 : K1 = uptoE b 0 1048576) (hR2 : R2 = numR R1 K1) (hK2 : K2 = uptoE R1 K1 1048576) (hR3 : R3 = rawR R2 K2 32) (hK3 : K3 = rawE R2 K2 32)
    (hR4 : R4 = rawR (numR R3 K3) (uptoE R3 K3 65536) ((uptoV R3 K3 65536 : Nat) : Int)) (hK4 : K4 = rawE (numR R3 K3) (uptoE R3 K3 65536) ((uptoV R3 K3 65536 : Nat) : Int)) (hd : ¬ doneE R4 K4 = 0) :
    JobOk b 0 0 zS [] (doneE R4 K4) :=
  ⟨fun _ _ _ _ h1 h2 h3 h4 h5 hb => absurd (job_fwd hR1 hK1 hR2 hK2 hR3 hK3 hR4 hK4 h1 h2 h3 h4 h5 hb) hd, fun h => absurd h hd, fun _ => ⟨rfl, rfl, rfl, rfl⟩⟩
end
/-- What is read as a message. -/
structure GetM (b : List UInt8) (u : Ms) (bl sg : List UInt8) (e : Int) : Prop where
  one : ∀ (q : Ms) (bl' sg' : List UInt8), inM q → plainM q → bl'.length ≤ 10000 → sg'.length ≤ 10000 → b = textM q bl' sg' → e = 0
  good : e = 0 → inM u ∧ plainM u ∧ b = textM u bl sg ∧ bl.length ≤ 65536 ∧ sg.length ≤ 65536
  bad : ¬ e = 0 → u = zM ∧ bl = [] ∧ sg = []
/-- Behind the switch: u is what was read, e what went wrong, R is left. -/
structure Mid (b : List UInt8) (u : Ms) (bl sg : List UInt8) (e : Int) (R : List UInt8) (K : Int) : Prop where
  hd : ∀ (q : Ms) (bl' sg' : List UInt8), inM q → b = textM q bl' sg' → u.k = q.k ∧ u.a = q.a ∧ u.b = q.b
  fwd : ∀ (q : Ms) (bl' sg' : List UInt8), inM q → plainM q → bl'.length ≤ 10000 → sg'.length ≤ 10000 → b = textM q bl' sg' → R = [] ∧ K = 0 ∧ e = 0
  bwd : R = [] → K = 0 → e = 0 → inM u → plainM u ∧ b = textM u bl sg ∧ bl.length ≤ 65536 ∧ sg.length ≤ 65536
section
variable {b : List UInt8} {u : Ms} {bl sg : List UInt8} {e : Int} {R : List UInt8} {K : Int}
theorem Mid.done (h : Mid b u bl sg e R K) (hd : ¬ doneE R K = 0) : GetM b zM [] [] (doneE R K) :=
  ⟨fun q bl' sg' h1 h2 h3 h4 h5 => by obtain ⟨a, c, _⟩ := h.fwd q bl' sg' h1 h2 h3 h4 h5; exact absurd (done_of c a) hd, fun h => absurd h hd, fun _ => ⟨rfl, rfl, rfl⟩⟩
theorem Mid.err (h : Mid b u bl sg e R K) (hd : ¬ e = 0) : GetM b zM [] [] e :=
  ⟨fun q bl' sg' h1 h2 h3 h4 h5 => (h.fwd q bl' sg' h1 h2 h3 h4 h5).2.2, fun h => absurd h hd, fun _ => ⟨rfl, rfl, rfl⟩⟩
theorem Mid.no (h : Mid b u bl sg e R K) (hd : ¬ inM u) : GetM b zM [] [] 4 :=
  ⟨fun q bl' sg' h1 h2 h3 h4 h5 => by
    obtain ⟨a1, a2, a3⟩ := h.hd q bl' sg' h1 h5
    exact absurd (by unfold inM at h1 ⊢; omega) hd, fun h => absurd h (by decide), fun _ => ⟨rfl, rfl, rfl⟩⟩
theorem Mid.ok (h : Mid b u bl sg e R K) (hd : doneE R K = 0) (he : e = 0) (hu : inM u) : GetM b u bl sg 0 :=
  ⟨fun _ _ _ _ _ _ _ _ => rfl, fun _ => ⟨hu, h.bwd (done_form hd).2 (done_form hd).1 he hu⟩, fun h => absurd rfl h⟩
end
section
variable {b R1 R2 R3 : List UInt8} {K1 K2 K3 : Int}
theorem head_fwd (hR1 : R1 = numR b 0) (hK1 : K1 = uptoE b 0 5) (hR2 : R2 = numR R1 K1) (hK2 : K2 = uptoE R1 K1 255) (hR3 : R3 = numR R2 K2) (hK3 : K3 = uptoE R2 K2 255)
    {q : Ms} {bl sg : List UInt8} (hq : inM q) (hb : b = textM q bl sg) : ((uptoV b 0 5 : Nat) : Int) = q.k ∧ ((uptoV R1 K1 255 : Nat) : Int) = q.a ∧ ((uptoV R2 K2 255 : Nat) : Int) = q.b ∧ R3 = restM q bl sg ∧ K3 = 0 := by
  subst hR1 hK1 hR2 hK2 hR3 hK3
  obtain ⟨h1, h2, h3, h4, h5, h6, h7⟩ := hq
  have hb' : b = put q.k ++ (put q.a ++ (put q.b ++ restM q bl sg)) := by rw [hb]; simp [textM]
  obtain ⟨a1, a2, a3⟩ := upto_of (e := 0) (m := 5) rfl hb' (by omega) h2 (by omega)
  obtain ⟨b1, b2, b3⟩ := upto_of (m := 255) a3 a2 h3 h4 (by omega)
  obtain ⟨c1, c2, c3⟩ := upto_of (m := 255) b3 b2 h5 h6 (by omega)
  exact ⟨a1, b1, c1, c2, c3⟩
theorem head_bwd (hR1 : R1 = numR b 0) (hK1 : K1 = uptoE b 0 5) (hR2 : R2 = numR R1 K1) (hK2 : K2 = uptoE R1 K1 255) (hR3 : R3 = numR R2 K2) (hK3 : K3 = uptoE R2 K2 255) (h : K3 = 0) :
    b = put ((uptoV b 0 5 : Nat) : Int) ++ (put ((uptoV R1 K1 255 : Nat) : Int) ++ (put ((uptoV R2 K2 255 : Nat) : Int) ++ R3)) := by
  rw [hK3] at h
  obtain ⟨c1, c2, _⟩ := upto_form h
  rw [hK2] at c1
  obtain ⟨b1, b2, _⟩ := upto_form c1
  rw [hK1] at b1
  obtain ⟨_, a2, _⟩ := upto_form b1
  rw [← hR1] at a2
  rw [← hR2] at b2
  rw [← hR3] at c2
  rw [← c2, ← b2]; exact a2
variable {R4 R5 R6 R7 R8 R9 R10 : List UInt8} {K4 K5 K6 K7 K8 K9 K10 : Int}
theorem mid_state (hR1 : R1 = numR b 0) (hK1 : K1 = uptoE b 0 5) (hR2 : R2 = numR R1 K1) (hK2 : K2 = uptoE R1 K1 255) (hR3 : R3 = numR R2 K2) (hK3 : K3 = uptoE R2 K2 255)
    (hR4 : R4 = numR R3 K3) (hK4 : K4 = uptoE R3 K3 1048576) (hR5 : R5 = numR R4 K4) (hK5 : K5 = uptoE R4 K4 1125899906842624) (hR6 : R6 = numR R5 K5) (hK6 : K6 = uptoE R5 K5 1125899906842624)
    (hR7 : R7 = rawR R6 K6 32) (hK7 : K7 = rawE R6 K6 32) (hR8 : R8 = rawR R7 K7 32) (hK8 : K8 = rawE R7 K7 32) (hR9 : R9 = numR R8 K8) (hK9 : K9 = uptoE R8 K8 255) (hR10 : R10 = rawR R9 K9 32) (hK10 : K10 = rawE R9 K9 32) (hk : uptoV b 0 5 = 1) :
    Mid b ⟨((uptoV b 0 5 : Nat) : Int), ((uptoV R1 K1 255 : Nat) : Int), ((uptoV R2 K2 255 : Nat) : Int), ((uptoV R3 K3 1048576 : Nat) : Int), ((uptoV R4 K4 1125899906842624 : Nat) : Int), ((uptoV R5 K5 1125899906842624 : Nat) : Int), ⟨sumV R6 K6, sumV_len⟩, ⟨sumV R7 K7, sumV_len⟩, ((uptoV R8 K8 255 : Nat) : Int), ⟨sumV R9 K9, sumV_len⟩, 0, zS, 0, 0, zS, zR⟩ [] [] 0 R10 K10 := by
  refine ⟨fun q bl' sg' hq hb => ?_, fun q bl' sg' hq hp _ _ hb => ?_, fun h1 h2 _ hu => ?_⟩
  · obtain ⟨a1, a2, a3, _⟩ := head_fwd hR1 hK1 hR2 hK2 hR3 hK3 hq hb; exact ⟨a1, a2, a3⟩
  · obtain ⟨a1, a2, a3, a4, a5⟩ := head_fwd hR1 hK1 hR2 hK2 hR3 hK3 hq hb
    have hqk : q.k = 1 := by omega
    obtain ⟨p1, p2, p3, p4, p5, p6, p7, p8, _⟩ := hp
    have a4' : R3 = put q.c0 ++ (put q.c1 ++ (put q.c2 ++ (q.h0.1 ++ (q.h1.1 ++ (put q.g ++ (q.o.1 ++ [])))))) := by rw [a4, restM, if_pos hqk]; simp
    subst hR4 hK4 hR5 hK5 hR6 hK6 hR7 hK7 hR8 hK8 hR9 hK9 hR10 hK10
    obtain ⟨_, b2, b3⟩ := upto_of (m := 1048576) a5 a4' p1 p2 (by omega)
    obtain ⟨_, c2, c3⟩ := upto_of (m := 1125899906842624) b3 b2 p3 p4 (by omega)
    obtain ⟨_, d2, d3⟩ := upto_of (m := 1125899906842624) c3 c2 p5 p6 (by omega)
    obtain ⟨_, f2, f3⟩ := sum_of d3 d2 q.h0.2
    obtain ⟨_, g2, g3⟩ := sum_of f3 f2 q.h1.2
    obtain ⟨_, i2, i3⟩ := upto_of (m := 255) g3 g2 p7 (by omega) (by omega)
    obtain ⟨_, j2, j3⟩ := sum_of i3 i2 q.o.2
    exact ⟨j2, j3, rfl⟩
  · rw [hK10] at h2
    obtain ⟨i1, i2⟩ := sum_form h2
    rw [hK9] at i1
    obtain ⟨g1, g2, g3⟩ := upto_form i1
    rw [hK8] at g1
    obtain ⟨f1, f2⟩ := sum_form g1
    rw [hK7] at f1
    obtain ⟨d1, d2⟩ := sum_form f1
    rw [hK6] at d1
    obtain ⟨c1, c2, c3⟩ := upto_form d1
    rw [hK5] at c1
    obtain ⟨b1, b2, b3⟩ := upto_form c1
    rw [hK4] at b1
    obtain ⟨a1, a2, a3⟩ := upto_form b1
    have hb := head_bwd hR1 hK1 hR2 hK2 hR3 hK3 a1
    rw [← hR4] at a2
    rw [← hR5] at b2
    rw [← hR6] at c2
    rw [← hR7] at d2
    rw [← hR8] at f2
    rw [← hR9] at g2
    rw [← hR10, h1] at i2
    refine ⟨?_, ?_, Nat.zero_le _, Nat.zero_le _⟩
    · simp only [plainM, zR, inR]; omega
    · have hk' : ((uptoV b 0 5 : Nat) : Int) = 1 := by omega
      rw [textM, restM]
      simp only [hk', if_true]
      simp only [List.append_assoc]
      rw [hk'] at hb
      conv => lhs; rw [hb, a2, b2, c2, d2, f2, g2, i2]
      rw [List.append_nil]
theorem mid_revoke (hR1 : R1 = numR b 0) (hK1 : K1 = uptoE b 0 5) (hR2 : R2 = numR R1 K1) (hK2 : K2 = uptoE R1 K1 255) (hR3 : R3 = numR R2 K2) (hK3 : K3 = uptoE R2 K2 255)
    (hR4 : R4 = numR R3 K3) (hK4 : K4 = uptoE R3 K3 1048576) (hR5 : R5 = rawR R4 K4 32) (hK5 : K5 = rawE R4 K4 32) (hR6 : R6 = numR R5 K5) (hK6 : K6 = uptoE R5 K5 255)
    (hR7 : R7 = rawR R6 K6 32) (hK7 : K7 = rawE R6 K6 32) (hk : uptoV b 0 5 = 2) :
    Mid b ⟨((uptoV b 0 5 : Nat) : Int), ((uptoV R1 K1 255 : Nat) : Int), ((uptoV R2 K2 255 : Nat) : Int), 0, 0, 0, zS, zS, ((uptoV R5 K5 255 : Nat) : Int), ⟨sumV R6 K6, sumV_len⟩, ((uptoV R3 K3 1048576 : Nat) : Int), ⟨sumV R4 K4, sumV_len⟩, 0, 0, zS, zR⟩ [] [] 0 R7 K7 := by
  refine ⟨fun q bl' sg' hq hb => ?_, fun q bl' sg' hq hp _ _ hb => ?_, fun h1 h2 _ hu => ?_⟩
  · obtain ⟨a1, a2, a3, _⟩ := head_fwd hR1 hK1 hR2 hK2 hR3 hK3 hq hb; exact ⟨a1, a2, a3⟩
  · obtain ⟨a1, a2, a3, a4, a5⟩ := head_fwd hR1 hK1 hR2 hK2 hR3 hK3 hq hb
    have hqk : q.k = 2 := by omega
    obtain ⟨_, _, _, _, _, _, p7, p8, p9, p10, _⟩ := hp
    have a4' : R3 = put q.n ++ (q.x.1 ++ (put q.g ++ (q.o.1 ++ []))) := by rw [a4, restM, if_neg (by omega), if_pos hqk]; simp
    subst hR4 hK4 hR5 hK5 hR6 hK6 hR7 hK7
    obtain ⟨_, b2, b3⟩ := upto_of (m := 1048576) a5 a4' p9 p10 (by omega)
    obtain ⟨_, f2, f3⟩ := sum_of b3 b2 q.x.2
    obtain ⟨_, i2, i3⟩ := upto_of (m := 255) f3 f2 p7 (by omega) (by omega)
    obtain ⟨_, j2, j3⟩ := sum_of i3 i2 q.o.2
    exact ⟨j2, j3, rfl⟩
  · rw [hK7] at h2
    obtain ⟨i1, i2⟩ := sum_form h2
    rw [hK6] at i1
    obtain ⟨g1, g2, g3⟩ := upto_form i1
    rw [hK5] at g1
    obtain ⟨f1, f2⟩ := sum_form g1
    rw [hK4] at f1
    obtain ⟨a1, a2, a3⟩ := upto_form f1
    have hb := head_bwd hR1 hK1 hR2 hK2 hR3 hK3 a1
    rw [← hR4] at a2
    rw [← hR5] at f2
    rw [← hR6] at g2
    rw [← hR7, h1] at i2
    refine ⟨?_, ?_, Nat.zero_le _, Nat.zero_le _⟩
    · simp only [plainM, zR, inR]; omega
    · have hk' : ((uptoV b 0 5 : Nat) : Int) = 2 := by omega
      rw [textM, restM]
      simp only [hk', if_true, show ¬ (2 : Int) = 1 by omega, if_false]
      simp only [List.append_assoc]
      rw [hk'] at hb
      conv => lhs; rw [hb, a2, f2, g2, i2]
      rw [List.append_nil]
theorem mid_secret (hR1 : R1 = numR b 0) (hK1 : K1 = uptoE b 0 5) (hR2 : R2 = numR R1 K1) (hK2 : K2 = uptoE R1 K1 255) (hR3 : R3 = numR R2 K2) (hK3 : K3 = uptoE R2 K2 255)
    (hR4 : R4 = numR R3 K3) (hK4 : K4 = uptoE R3 K3 1048576) (hR5 : R5 = rawR R4 K4 32) (hK5 : K5 = rawE R4 K4 32) (hk : uptoV b 0 5 = 3) :
    Mid b ⟨((uptoV b 0 5 : Nat) : Int), ((uptoV R1 K1 255 : Nat) : Int), ((uptoV R2 K2 255 : Nat) : Int), 0, 0, 0, zS, zS, 0, zS, ((uptoV R3 K3 1048576 : Nat) : Int), ⟨sumV R4 K4, sumV_len⟩, 0, 0, zS, zR⟩ [] [] 0 R5 K5 := by
  refine ⟨fun q bl' sg' hq hb => ?_, fun q bl' sg' hq hp _ _ hb => ?_, fun h1 h2 _ hu => ?_⟩
  · obtain ⟨a1, a2, a3, _⟩ := head_fwd hR1 hK1 hR2 hK2 hR3 hK3 hq hb; exact ⟨a1, a2, a3⟩
  · obtain ⟨a1, a2, a3, a4, a5⟩ := head_fwd hR1 hK1 hR2 hK2 hR3 hK3 hq hb
    have hqk : q.k = 3 := by omega
    obtain ⟨_, _, _, _, _, _, _, _, p9, p10, _⟩ := hp
    have a4' : R3 = put q.n ++ (q.x.1 ++ []) := by rw [a4, restM, if_neg (by omega), if_neg (by omega), if_pos hqk]; simp
    subst hR4 hK4 hR5 hK5
    obtain ⟨_, b2, b3⟩ := upto_of (m := 1048576) a5 a4' p9 p10 (by omega)
    obtain ⟨_, f2, f3⟩ := sum_of b3 b2 q.x.2
    exact ⟨f2, f3, rfl⟩
  · rw [hK5] at h2
    obtain ⟨f1, f2⟩ := sum_form h2
    rw [hK4] at f1
    obtain ⟨a1, a2, a3⟩ := upto_form f1
    have hb := head_bwd hR1 hK1 hR2 hK2 hR3 hK3 a1
    rw [← hR4] at a2
    rw [← hR5, h1] at f2
    refine ⟨?_, ?_, Nat.zero_le _, Nat.zero_le _⟩
    · simp only [plainM, zR, inR]; omega
    · have hk' : ((uptoV b 0 5 : Nat) : Int) = 3 := by omega
      rw [textM, restM]
      simp only [hk', if_true, show ¬ (3 : Int) = 1 by omega, show ¬ (3 : Int) = 2 by omega, if_false]
      simp only [List.append_assoc]
      rw [hk'] at hb
      conv => lhs; rw [hb, a2, f2]
      rw [List.append_nil]
theorem mid_job (hR1 : R1 = numR b 0) (hK1 : K1 = uptoE b 0 5) (hR2 : R2 = numR R1 K1) (hK2 : K2 = uptoE R1 K1 255) (hR3 : R3 = numR R2 K2) (hK3 : K3 = uptoE R2 K2 255)
    (hR4 : R4 = rawR (numR R3 K3) (uptoE R3 K3 65536) ((uptoV R3 K3 65536 : Nat) : Int)) (hK4 : K4 = rawE (numR R3 K3) (uptoE R3 K3 65536) ((uptoV R3 K3 65536 : Nat) : Int)) {c s : Int} {h : S32} {bl : List UInt8} {e : Int}
    (hj : JobOk (rawV (numR R3 K3) (uptoE R3 K3 65536) ((uptoV R3 K3 65536 : Nat) : Int)) c s h bl e) (hk : uptoV b 0 5 = 4) :
    Mid b ⟨((uptoV b 0 5 : Nat) : Int), ((uptoV R1 K1 255 : Nat) : Int), ((uptoV R2 K2 255 : Nat) : Int), 0, 0, 0, zS, zS, 0, zS, 0, zS, c, s, h, zR⟩ bl [] e R4 K4 := by
  refine ⟨fun q bl' sg' hq hb => ?_, fun q bl' sg' hq hp hl1 hl2 hb => ?_, fun h1 h2 he hu => ?_⟩
  · obtain ⟨a1, a2, a3, _⟩ := head_fwd hR1 hK1 hR2 hK2 hR3 hK3 hq hb; exact ⟨a1, a2, a3⟩
  · obtain ⟨a1, a2, a3, a4, a5⟩ := head_fwd hR1 hK1 hR2 hK2 hR3 hK3 hq hb
    have hqk : q.k = 4 := by omega
    obtain ⟨_, _, _, _, _, _, _, _, _, _, p11, p12, p13, p14, _⟩ := hp
    have a4' : R3 = put ((textJ q.jc q.js q.jh bl').length : Int) ++ (textJ q.jc q.js q.jh bl' ++ []) := by rw [a4, restM, if_neg (by omega), if_neg (by omega), if_neg (by omega), if_pos hqk]; simp
    have hjl := textJ_len q.jc q.js q.jh bl'
    obtain ⟨d1, d2, d3⟩ := text_of (m := 65536) a5 a4' (by omega) (by omega)
    rw [← hR4] at d2
    rw [← hK4] at d3
    exact ⟨d2, d3, hj.one _ _ _ _ p11 p12 p13 p14 (by omega) d1⟩
  · rw [hK4] at h2
    obtain ⟨d1, d2, d3⟩ := text_form h2
    have hb := head_bwd hR1 hK1 hR2 hK2 hR3 hK3 d1
    obtain ⟨g1, g2, g3⟩ := hj.good he
    rw [← hR4, h1, List.append_nil] at d2
    refine ⟨?_, ?_, g3, Nat.zero_le _⟩
    · simp only [plainM, zR, inR]; omega
    · have hk' : ((uptoV b 0 5 : Nat) : Int) = 4 := by omega
      rw [textM, restM]
      simp only [hk', if_true, show ¬ (4 : Int) = 1 by omega, show ¬ (4 : Int) = 2 by omega, show ¬ (4 : Int) = 3 by omega, if_false]
      simp only [List.append_assoc]
      rw [hk'] at hb
      conv => lhs; rw [hb, d2]
      rw [g2]
theorem mid_receipt (hR1 : R1 = numR b 0) (hK1 : K1 = uptoE b 0 5) (hR2 : R2 = numR R1 K1) (hK2 : K2 = uptoE R1 K1 255) (hR3 : R3 = numR R2 K2) (hK3 : K3 = uptoE R2 K2 255)
    (hR4 : R4 = rawR (numR R3 K3) (uptoE R3 K3 65536) ((uptoV R3 K3 65536 : Nat) : Int)) (hK4 : K4 = rawE (numR R3 K3) (uptoE R3 K3 65536) ((uptoV R3 K3 65536 : Nat) : Int)) {r : Rc} {sg : List UInt8} {e : Int}
    (hj : Go.Proofs.Ytjgcjddaladgfaa.GetOk (rawV (numR R3 K3) (uptoE R3 K3 65536) ((uptoV R3 K3 65536 : Nat) : Int)) r sg e) (hk : uptoV b 0 5 = 5) :
    Mid b ⟨((uptoV b 0 5 : Nat) : Int), ((uptoV R1 K1 255 : Nat) : Int), ((uptoV R2 K2 255 : Nat) : Int), 0, 0, 0, zS, zS, 0, zS, 0, zS, 0, 0, zS, r⟩ [] sg e R4 K4 := by
  refine ⟨fun q bl' sg' hq hb => ?_, fun q bl' sg' hq hp hl1 hl2 hb => ?_, fun h1 h2 he hu => ?_⟩
  · obtain ⟨a1, a2, a3, _⟩ := head_fwd hR1 hK1 hR2 hK2 hR3 hK3 hq hb; exact ⟨a1, a2, a3⟩
  · obtain ⟨a1, a2, a3, a4, a5⟩ := head_fwd hR1 hK1 hR2 hK2 hR3 hK3 hq hb
    have hqk : q.k = 5 := by omega
    obtain ⟨_, _, _, _, _, _, _, _, _, _, _, _, _, _, p15⟩ := hp
    have a4' : R3 = put ((Go.Proofs.Ytjgcjddaladgfaa.textS q.r sg').length : Int) ++ (Go.Proofs.Ytjgcjddaladgfaa.textS q.r sg' ++ []) := by rw [a4, restM, if_neg (by omega), if_neg (by omega), if_neg (by omega), if_neg (by omega)]; simp
    have hjl := Go.Proofs.Ytjgcjddaladgfaa.textS_len q.r sg'
    obtain ⟨d1, d2, d3⟩ := text_of (m := 65536) a5 a4' (by omega) (by omega)
    rw [← hR4] at d2
    rw [← hK4] at d3
    exact ⟨d2, d3, (hj.one _ _ p15 (by omega) d1).1⟩
  · rw [hK4] at h2
    obtain ⟨d1, d2, d3⟩ := text_form h2
    have hb := head_bwd hR1 hK1 hR2 hK2 hR3 hK3 d1
    obtain ⟨g1, g2, g3⟩ := hj.good he
    rw [← hR4, h1, List.append_nil] at d2
    refine ⟨?_, ?_, Nat.zero_le _, g3⟩
    · simp only [plainM]; refine ⟨by omega, by omega, by omega, by omega, by omega, by omega, by omega, by omega, by omega, by omega, by omega, by omega, by omega, by omega, g1⟩
    · have hk' : ((uptoV b 0 5 : Nat) : Int) = 5 := by omega
      rw [textM, restM]
      simp only [hk', show ¬ (5 : Int) = 1 by omega, show ¬ (5 : Int) = 2 by omega, show ¬ (5 : Int) = 3 by omega, show ¬ (5 : Int) = 4 by omega, if_false]
      simp only [List.append_assoc]
      rw [hk'] at hb
      conv => lhs; rw [hb, d2]
      rw [g2]
theorem mid_none (hR1 : R1 = numR b 0) (hK1 : K1 = uptoE b 0 5) (hR2 : R2 = numR R1 K1) (hK2 : K2 = uptoE R1 K1 255) (hR3 : R3 = numR R2 K2) (hK3 : K3 = uptoE R2 K2 255)
    (h1 : ¬ uptoV b 0 5 = 1) (h2 : ¬ uptoV b 0 5 = 2) (h3 : ¬ uptoV b 0 5 = 3) (h4 : ¬ uptoV b 0 5 = 4) (h5 : ¬ uptoV b 0 5 = 5) :
    Mid b ⟨((uptoV b 0 5 : Nat) : Int), ((uptoV R1 K1 255 : Nat) : Int), ((uptoV R2 K2 255 : Nat) : Int), 0, 0, 0, zS, zS, 0, zS, 0, zS, 0, 0, zS, zR⟩ [] [] 0 R3 K3 := by
  refine ⟨fun q bl' sg' hq hb => ?_, fun q bl' sg' hq hp hl1 hl2 hb => ?_, fun _ _ _ hu => ?_⟩
  · obtain ⟨a1, a2, a3, _⟩ := head_fwd hR1 hK1 hR2 hK2 hR3 hK3 hq hb; exact ⟨a1, a2, a3⟩
  · obtain ⟨a1, _⟩ := head_fwd hR1 hK1 hR2 hK2 hR3 hK3 hq hb
    obtain ⟨g1, g2, _⟩ := hq
    omega
  · unfold inM at hu; simp only at hu; omega
end
theorem put_inj {a c : Int} {r s : List UInt8} (h : put a ++ r = put c ++ s) (ha : 0 ≤ a) (ha2 : a ≤ 9223372036854775807) (hc : 0 ≤ c) (hc2 : c ≤ 9223372036854775807) : a = c ∧ r = s := by
  obtain ⟨a1, a2, _⟩ := upto_of (e := 0) (m := 9223372036854775807) (r := put a ++ r) rfl rfl ha ha2 (by omega)
  obtain ⟨b1, b2, _⟩ := upto_of (e := 0) (m := 9223372036854775807) (r := put a ++ r) rfl h hc hc2 (by omega)
  exact ⟨a1.symm.trans b1, a2.symm.trans b2⟩
/-- The same bytes: the same head. -/
theorem textM_head {u q : Ms} {bl sg bl' sg' : List UInt8} (hu : inM u) (hq : inM q) (h : textM u bl sg = textM q bl' sg') : u.k = q.k ∧ u.a = q.a ∧ u.b = q.b ∧ restM u bl sg = restM q bl' sg' := by
  simp only [textM, List.append_assoc] at h
  obtain ⟨u1, u2, u3, u4, u5, u6, _⟩ := hu
  obtain ⟨q1, q2, q3, q4, q5, q6, _⟩ := hq
  obtain ⟨a1, h⟩ := put_inj h (by omega) (by omega) (by omega) (by omega)
  obtain ⟨a2, h⟩ := put_inj h (by omega) (by omega) (by omega) (by omega)
  obtain ⟨a3, h⟩ := put_inj h (by omega) (by omega) (by omega) (by omega)
  exact ⟨a1, a2, a3, h⟩
theorem textM_n3 {u q : Ms} {bl sg bl' sg' : List UInt8} (hu : inM u) (hq : inM q) (hpu : plainM u) (hpq : plainM q) (h : textM u bl sg = textM q bl' sg') (h3 : q.k = 3) : u.n = q.n := by
  obtain ⟨a1, _, _, h⟩ := textM_head hu hq h
  obtain ⟨_, _, _, _, _, _, _, _, p9, p10, _⟩ := hpu
  obtain ⟨_, _, _, _, _, _, _, _, q9, q10, _⟩ := hpq
  rw [restM, restM, if_neg (by omega), if_neg (by omega), if_pos (by omega), if_neg (by omega), if_neg (by omega), if_pos h3] at h
  exact (put_inj h p9 (by omega) q9 (by omega)).1
end Go.Bz.Talk
