/- The root and the path of a row, by halves; in plain Lean. -/
import Derived.Test.YtokddhidcjkadaaMerkle
namespace Go.Bz.Merkle
open Go.Bz Go.Bz.Sha
theorem upL_app : ∀ (a b : List S32), a.length % 2 = 0 → upL (a ++ b) = upL a ++ upL b
  | [], b, _ => by simp [upL]
  | [x], b, h => by simp at h
  | x :: y :: a, b, h => by
    have := upL_app a b (by simp at h; omega)
    simp only [List.cons_append, upL, this]
theorem upL_one {b : List S32} (h : b.length = 1) : upL b = b := by
  match b, h with
  | [x], _ => simp [upL]
theorem top_upL {b : List S32} : top (upL b) = top b := by
  by_cases h : b.length ≤ 1
  · match b, h with
    | [], _ => simp [upL]
    | [x], _ => simp [upL]
  · exact (top_up h).symm
theorem top_split : ∀ (k : Nat) (a b : List S32), a.length = 2 ^ k → 0 < b.length → b.length ≤ 2 ^ k → top (a ++ b) = pairS (top a) (top b) := by
  intro k
  induction k with
  | zero =>
    intro a b ha hb hb2
    match a, b, ha, hb, hb2 with
    | [x], [y], _, _, _ =>
      rw [top_up (by simp), top_one (by simp [upL]), top_one (by simp), top_one (by simp)]; rfl
  | succ k ih =>
    intro a b ha hb hb2
    rw [Nat.pow_succ] at ha hb2
    have hp : 0 < 2 ^ k := Nat.pow_pos (by decide)
    rw [top_up (by rw [List.length_append]; omega), upL_app a b (by omega), ih (upL a) (upL b) (by rw [upL_len]; omega) (by rw [upL_len]; omega) (by rw [upL_len]; omega), top_upL, top_upL]
theorem rootS_split {k : Nat} {a b : List S32} (ha : a.length = 2 ^ k) (hb : 0 < b.length) (hb2 : b.length ≤ 2 ^ k) : rootS (a ++ b) = pairS (rootS a) (rootS b) := by
  have hp : 0 < 2 ^ k := Nat.pow_pos (by decide)
  unfold rootS
  rw [if_neg (fun h => by have := congrArg List.length h; rw [List.length_append] at this; simp only [List.length_nil] at this; omega), if_neg (fun h => by rw [h] at ha; simp only [List.length_nil] at ha; omega), if_neg (fun h => by rw [h] at hb; simp at hb), List.map_append]
  exact top_split k _ _ (by simpa using ha) (by simpa using hb) (by simpa using hb2)
/-- What stands beside the way up. -/
def pathT (row : List S32) (a : Nat) : List S32 := if h : row.length ≤ 1 then [] else (if beside a < row.length then [row.getD (beside a) zS] else []) ++ pathT (upL row) (a / 2)
termination_by row.length
decreasing_by rw [upL_len]; omega
theorem pathT_end {row : List S32} {a : Nat} (h : row.length ≤ 1) : pathT row a = [] := by rw [pathT, dif_pos h]
theorem pathT_go {row : List S32} {a : Nat} (h : ¬ row.length ≤ 1) : pathT row a = (if beside a < row.length then [row.getD (beside a) zS] else []) ++ pathT (upL row) (a / 2) := by rw [pathT, dif_neg h]
theorem getD_app_l {a b : List S32} {i : Nat} (h : i < a.length) : (a ++ b).getD i zS = a.getD i zS := by
  simp [List.getD_eq_getElem?_getD, List.getElem?_append_left h]
theorem getD_app_r {a b : List S32} {i : Nat} : (a ++ b).getD (a.length + i) zS = b.getD i zS := by
  rw [List.getD_eq_getElem?_getD, List.getElem?_append_right (by omega), List.getD_eq_getElem?_getD]; simp
theorem path_l : ∀ (k : Nat) (a b : List S32) (i : Nat), a.length = 2 ^ k → 0 < b.length → b.length ≤ 2 ^ k → i < a.length → pathT (a ++ b) i = pathT a i ++ [top b] := by
  intro k
  induction k with
  | zero =>
    intro a b i ha hb hb2 hi
    match a, b, ha, hb, hb2 with
    | [x], [y], _, _, _ =>
      obtain rfl : i = 0 := by simpa using hi
      rw [pathT_go (by simp), pathT_end (by simp [upL]), pathT_end (by simp), top_one (by simp)]
      rfl
  | succ k ih =>
    intro a b i ha hb hb2 hi
    rw [Nat.pow_succ] at ha hb2
    have hbe : beside i < a.length := by unfold beside; omega
    rw [pathT_go (by rw [List.length_append]; omega), if_pos (by rw [List.length_append]; omega), getD_app_l hbe, upL_app a b (by omega),
      ih (upL a) (upL b) (i / 2) (by rw [upL_len]; omega) (by rw [upL_len]; omega) (by rw [upL_len]; omega) (by rw [upL_len]; omega), top_upL,
      pathT_go (row := a) (by omega), if_pos hbe, List.append_assoc]
theorem path_r : ∀ (k : Nat) (a b : List S32) (j : Nat), a.length = 2 ^ k → 0 < b.length → b.length ≤ 2 ^ k → j < b.length → pathT (a ++ b) (a.length + j) = pathT b j ++ [top a] := by
  intro k
  induction k with
  | zero =>
    intro a b j ha hb hb2 hj
    match a, b, ha, hb, hb2 with
    | [x], [y], _, _, _ =>
      obtain rfl : j = 0 := by simpa using hj
      rw [pathT_go (by simp), pathT_end (by simp [upL]), pathT_end (by simp), top_one (by simp)]
      rfl
  | succ k ih =>
    intro a b j ha hb hb2 hj
    rw [Nat.pow_succ] at ha hb2
    have hev : a.length % 2 = 0 := by omega
    have hbe : beside (a.length + j) = a.length + beside j := by unfold beside; omega
    have hdiv : (a.length + j) / 2 = (upL a).length + j / 2 := by rw [upL_len]; omega
    rw [pathT_go (by rw [List.length_append]; omega), hbe, getD_app_r, upL_app a b hev, hdiv,
      ih (upL a) (upL b) (j / 2) (by rw [upL_len]; omega) (by rw [upL_len]; omega) (by rw [upL_len]; omega) (by rw [upL_len]; omega), top_upL]
    by_cases h1 : b.length ≤ 1
    · obtain rfl : j = 0 := by omega
      rw [if_neg (by rw [List.length_append]; unfold beside; omega), upL_one (by omega), pathT_end h1]; rfl
    · rw [pathT_go (row := b) h1]
      by_cases h2 : beside j < b.length
      · rw [if_pos (by rw [List.length_append]; omega), if_pos h2, List.append_assoc]
      · rw [if_neg (by rw [List.length_append]; omega), if_neg h2, List.append_assoc]
/-- A place is checked by its path, and what is behind it is left. -/
theorem chk_path : ∀ (n : Nat) (row : List S32) (a : Nat) (rest : List S32), row.length = n → a < row.length → chk (row.getD a zS) a row.length (pathT row a ++ rest) = some (top row, rest) := by
  intro n
  induction n using Nat.strongRecOn with
  | _ n ih =>
    intro row a rest hn ha
    by_cases h1 : row.length ≤ 1
    · rw [chk_end h1, pathT_end h1, top_one h1]
      obtain rfl : a = 0 := by omega
      cases row <;> rfl
    · have hu : (upL row).length = (row.length + 1) / 2 := upL_len row
      have hh := ih (upL row).length (by omega) (upL row) (a / 2) rest rfl (by omega)
      rw [hu] at hh
      rw [pathT_go h1, top_up h1]
      by_cases h2 : beside a < row.length
      · rw [if_pos h2, List.append_assoc, List.singleton_append, chk_go h1 h2 (by simp)]
        have e : (if a % 2 = 0 then pairS (row.getD a zS) (List.getD (row.getD (beside a) zS :: (pathT (upL row) (a / 2) ++ rest)) 0 zS) else pairS (List.getD (row.getD (beside a) zS :: (pathT (upL row) (a / 2) ++ rest)) 0 zS) (row.getD a zS)) = (upL row).getD (a / 2) zS := by
          unfold beside at h2
          rw [upL_get row (a / 2) (by omega)]
          by_cases h3 : a % 2 = 0
          · rw [if_pos h3, show 2 * (a / 2) = a by omega]
            show pairS _ (row.getD (beside a) zS) = _
            rw [show beside a = a + 1 by unfold beside; omega]
          · rw [if_neg h3, show 2 * (a / 2) + 1 = a by omega]
            show pairS (row.getD (beside a) zS) _ = _
            rw [show beside a = 2 * (a / 2) by unfold beside; omega]
        rw [e]; exact hh
      · rw [if_neg h2, List.nil_append, chk_skip h1 h2]
        have e : row.getD a zS = (upL row).getD (a / 2) zS := by
          unfold beside at h2
          have := upL_last row (by omega)
          rw [show row.length / 2 = a / 2 by omega, show row.length - 1 = a by omega] at this
          exact this.symm
        rw [e]; exact hh
/-- How many stand beside the way. -/
def cnt (a m : Nat) : Nat := if h : m ≤ 1 then 0 else (if beside a < m then 1 else 0) + cnt (a / 2) ((m + 1) / 2)
termination_by m
decreasing_by omega
theorem chk_cnt : ∀ (n : Nat) (now : S32) (a m : Nat) (p : List S32) (t : S32) (q : List S32), m = n → chk now a m p = some (t, q) → p.length = cnt a m + q.length := by
  intro n
  induction n using Nat.strongRecOn with
  | _ n ih =>
    intro now a m p t q hm h
    rw [cnt]
    by_cases h1 : m ≤ 1
    · rw [chk_end h1] at h
      rw [dif_pos h1]; injection h with h; injection h with _ h; subst h; omega
    · rw [dif_neg h1]
      by_cases h2 : beside a < m
      · rw [if_pos h2]
        cases p with
        | nil => rw [chk_none h1 h2 rfl] at h; cases h
        | cons x p =>
          rw [chk_go h1 h2 (by simp)] at h
          have := ih ((m + 1) / 2) (by omega) _ _ _ _ _ _ rfl h
          simp only [List.drop_succ_cons, List.drop_zero] at this
          rw [List.length_cons]; omega
      · rw [if_neg h2]
        rw [chk_skip h1 h2] at h
        have := ih ((m + 1) / 2) (by omega) _ _ _ _ _ _ rfl h
        omega
theorem chk_short {now t : S32} {a m : Nat} {p : List S32} (h : chk now a m p = some (t, [])) (hp : 0 < p.length) : chk now a m (p.drop 1) = none := by
  have h1 := chk_cnt m now a m p t [] rfl h
  cases hc : chk now a m (p.drop 1) with
  | none => rfl
  | some x =>
    have h2 := chk_cnt m now a m (p.drop 1) x.1 x.2 rfl hc
    rw [List.length_drop] at h2
    simp at h1; omega
theorem map_getD {l : List S32} {i : Nat} (h : i < l.length) : (l.map leafS).getD i zS = leafS (l.getD i zS) := by simp [List.getD_eq_getElem?_getD, h]
/-- The checks of a list's own paths. -/
theorem path_ok {l : List S32} {i : Nat} (h : i < l.length) (rest : List S32) : chk (leafS (l.getD i zS)) i l.length (pathT (l.map leafS) i ++ rest) = some (rootS l, rest) := by
  have := chk_path _ (l.map leafS) i rest rfl (by simpa using h)
  rw [map_getD h, List.length_map] at this
  rw [this]; unfold rootS
  rw [if_neg (fun e => by rw [e] at h; simp at h)]
theorem pow_next {h : Nat} (hk : ∃ k, h = 2 ^ k) : ∃ k, h * 2 = 2 ^ k := by
  obtain ⟨k, rfl⟩ := hk; exact ⟨k + 1, by rw [Nat.pow_succ]⟩
/-- As the law's functions cut. -/
theorem root_cut {l : List S32} {h n : Nat} (hn : l.length = n) (hk : ∃ k, h = 2 ^ k) (h1 : h < n) (h2 : n ≤ h * 2) : pairS (rootS ((l.drop 0).take (h - 0))) (rootS ((l.drop h).take (n - h))) = rootS l := by
  obtain ⟨k, rfl⟩ := hk
  rw [List.drop_zero, Nat.sub_zero, List.take_of_length_le (l := l.drop (2 ^ k)) (by simp; omega), ← rootS_split (k := k) (by simp; omega) (by simp; omega) (by simp; omega), List.take_append_drop]
theorem path_cutL {l : List S32} {h n i : Nat} (hn : l.length = n) (hk : ∃ k, h = 2 ^ k) (h1 : h < n) (h2 : n ≤ h * 2) (hi : i < h) : pathT (((l.drop 0).take (h - 0)).map leafS) i ++ [rootS ((l.drop h).take (n - h))] = pathT (l.map leafS) i := by
  obtain ⟨k, rfl⟩ := hk
  rw [List.drop_zero, Nat.sub_zero, List.take_of_length_le (l := l.drop (2 ^ k)) (by simp; omega)]
  have := path_l k ((l.take (2 ^ k)).map leafS) ((l.drop (2 ^ k)).map leafS) i (by simp; omega) (by simp; omega) (by simp; omega) (by simp; omega)
  rw [← List.map_append, List.take_append_drop] at this
  rw [this]; unfold rootS
  rw [if_neg (fun e => by have := congrArg List.length e; simp at this; omega)]
theorem path_cutR {l : List S32} {h n i : Nat} (hn : l.length = n) (hk : ∃ k, h = 2 ^ k) (h1 : h < n) (h2 : n ≤ h * 2) (hi : ¬ i < h) (hi2 : i < n) : pathT (((l.drop h).take (n - h)).map leafS) (i - h) ++ [rootS ((l.drop 0).take (h - 0))] = pathT (l.map leafS) i := by
  obtain ⟨k, rfl⟩ := hk
  rw [List.drop_zero, Nat.sub_zero, List.take_of_length_le (l := l.drop (2 ^ k)) (by simp; omega)]
  have hl : ((l.take (2 ^ k)).map leafS).length = 2 ^ k := by rw [List.length_map, List.length_take]; omega
  have hr : ((l.drop (2 ^ k)).map leafS).length = n - 2 ^ k := by rw [List.length_map, List.length_drop, hn]
  have := path_r k ((l.take (2 ^ k)).map leafS) ((l.drop (2 ^ k)).map leafS) (i - 2 ^ k) hl (by rw [hr]; omega) (by rw [hr]; omega) (by rw [hr]; omega)
  rw [← List.map_append, List.take_append_drop, hl, show 2 ^ k + (i - 2 ^ k) = i by omega] at this
  rw [this]; unfold rootS
  have hp : 0 < 2 ^ k := Nat.pow_pos (by decide)
  rw [if_neg (fun e => by have := congrArg List.length e; rw [List.length_take, List.length_nil] at this; omega)]
end Go.Bz.Merkle
