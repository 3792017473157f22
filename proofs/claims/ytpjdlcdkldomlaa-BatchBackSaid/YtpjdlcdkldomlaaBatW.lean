/- BatchBack: the plain law: a batch's bytes tell it. -/
import Derived.Test.YtpjdlcdkldomlaaBatR2
namespace Go.Proofs.Ytpjdlcdkldomlaa
open Go.RowKit

theorem rdNum_at (pre post : List Int) (x : Nat) (hx : x < 18446744073709551616) : rdNum (pre ++ (numEnc x ++ post)) pre.length 0 = (x, pre.length + (numEnc x).length, 0) := by
  rw [rdNum, if_neg (by simp), List.drop_left, shortOf_num x post hx]
theorem rdFix_at (pre post : List Int) (c : Int) : rdFix (pre ++ (c :: post)) pre.length 0 1 = ([c], pre.length + 1, 0) := by
  rw [rdFix, if_neg (by simp), if_neg (by simp), List.drop_left]
  rfl
theorem rdPiece_at (pre post zs : List Int) (hz : zs.length ≤ 1048576) : rdPiece (pre ++ (pieEnc zs ++ post)) pre.length 0 = (zs, pre.length + (pieEnc zs).length, 0) := by
  have hs : shortOf ((pre ++ (pieEnc zs ++ post)).drop pre.length) = (zs.length, (numEnc zs.length).length, 0) := by
    rw [List.drop_left, pieEnc, List.append_assoc]
    exact shortOf_num zs.length _ (by omega)
  have hp : pre ++ (pieEnc zs ++ post) = (pre ++ numEnc zs.length) ++ (zs ++ post) := by simp [pieEnc]
  rw [rdPiece, if_neg (by simp), hs]
  simp only [ne_eq, not_true_eq_false, if_false]
  rw [if_neg (by omega), if_neg (by simp [pieEnc]; omega)]
  have hd : (pre ++ (pieEnc zs ++ post)).drop (pre.length + (numEnc zs.length).length) = zs ++ post := by
    rw [hp, ← List.length_append, List.drop_left]
  rw [hd, List.take_left]
  simp [pieEnc, Nat.add_assoc]
theorem rdPiece_cut (pre zs : List Int) (hz : zs.length ≤ 1048576) : (rdPiece (pre ++ (pieEnc zs).dropLast) pre.length 0).2.2 = 12 := by
  by_cases h0 : zs = []
  · subst h0
    have : (pieEnc ([] : List Int)).dropLast = [] := by decide +kernel
    rw [this, List.append_nil]
    have hs : shortOf (pre.drop pre.length) = (0, 0, 12) := by rw [List.drop_length]; decide +kernel
    rw [rdPiece, if_neg (by simp), hs]
    simp
  · have hd : (pieEnc zs).dropLast = numEnc zs.length ++ zs.dropLast := by
      rw [pieEnc, List.dropLast_append_of_ne_nil h0]
    have hs : shortOf ((pre ++ (pieEnc zs).dropLast).drop pre.length) = (zs.length, (numEnc zs.length).length, 0) := by
      rw [List.drop_left, hd]
      exact shortOf_num zs.length _ (by omega)
    have hpos : 0 < zs.length := by cases zs with | nil => exact absurd rfl h0 | cons => simp
    rw [rdPiece, if_neg (by simp), hs]
    simp only [ne_eq, not_true_eq_false, if_false]
    rw [if_neg (by omega), if_pos (by rw [hd]; simp; omega)]
/-- A write that may be in a batch. -/
def WrOk (x : Wr) : Prop := ((x.kind = 1) ∨ (x.kind = 2 ∧ x.val = [])) ∧ x.key ≠ [] ∧ x.key.length ≤ 1048576 ∧ x.val.length ≤ 1048576
theorem rdLoop_step (pre post : List Int) (x : Wr) (hx : WrOk x) (k : Nat) (acc : List Wr) :
    rdLoop (pre ++ (wrEnc x ++ post)) (k + 1) acc pre.length 0 = rdLoop (pre ++ (wrEnc x ++ post)) k (acc ++ [x]) (pre ++ wrEnc x).length 0 := by
  obtain ⟨kd, key, val⟩ := x
  obtain ⟨hk, hne, hl1, hl2⟩ := hx
  simp only at hk hne hl1 hl2
  rcases hk with rfl | ⟨rfl, rfl⟩
  · have e1 : pre ++ (wrEnc ⟨1, key, val⟩ ++ post) = pre ++ ((1 : Int) :: (pieEnc key ++ (pieEnc val ++ post))) := by simp [wrEnc]
    have f1 := rdFix_at pre (pieEnc key ++ (pieEnc val ++ post)) 1
    have e2 : pre ++ ((1 : Int) :: (pieEnc key ++ (pieEnc val ++ post))) = (pre ++ [1]) ++ (pieEnc key ++ (pieEnc val ++ post)) := by simp
    have f2 := rdPiece_at (pre ++ [1]) (pieEnc val ++ post) key hl1
    have e3 : (pre ++ [1]) ++ (pieEnc key ++ (pieEnc val ++ post)) = (pre ++ [1] ++ pieEnc key) ++ (pieEnc val ++ post) := by simp
    have f3 := rdPiece_at (pre ++ [1] ++ pieEnc key) post val hl2
    have l1 : (pre ++ [(1 : Int)]).length = pre.length + 1 := by simp
    have l2 : (pre ++ [(1 : Int)] ++ pieEnc key).length = (pre ++ [(1 : Int)]).length + (pieEnc key).length := List.length_append
    rw [← e2, l1] at f2
    rw [← e3, ← e2, l2, l1] at f3
    rw [← e1] at f1 f2 f3
    rw [rdLoop, if_neg (by simp), f1]
    simp only [ne_eq, not_true_eq_false, if_false, List.getD_cons_zero, false_and, if_true]
    rw [f2]
    simp only
    rw [f3]
    simp only
    congr 1
    simp [wrEnc]
    omega
  · have e1 : pre ++ (wrEnc ⟨2, key, []⟩ ++ post) = pre ++ ((2 : Int) :: (pieEnc key ++ post)) := by simp [wrEnc]
    have f1 := rdFix_at pre (pieEnc key ++ post) 2
    have e2 : pre ++ ((2 : Int) :: (pieEnc key ++ post)) = (pre ++ [2]) ++ (pieEnc key ++ post) := by simp
    have f2 := rdPiece_at (pre ++ [2]) post key hl1
    have l1 : (pre ++ [(2 : Int)]).length = pre.length + 1 := by simp
    rw [← e2, l1] at f2
    rw [← e1] at f1 f2
    rw [rdLoop, if_neg (by simp), f1]
    simp only [ne_eq, not_true_eq_false, if_false, List.getD_cons_zero, and_false, show ((2 : Int) = 1) = False from by simp, not_false_eq_true]
    rw [f2]
    simp only
    congr 1
    simp [wrEnc]
    omega
theorem rdLoop_all : ∀ (ws : List Wr) (pre post : List Int) (acc : List Wr), (∀ x ∈ ws, WrOk x) →
    rdLoop (pre ++ (wsEnc ws ++ post)) ws.length acc pre.length 0 = (true, acc ++ ws, (pre ++ wsEnc ws).length, 0)
  | [], pre, post, acc, _ => by simp [rdLoop, wsEnc]
  | x :: ws, pre, post, acc, h => by
    have e : pre ++ (wsEnc (x :: ws) ++ post) = pre ++ (wrEnc x ++ (wsEnc ws ++ post)) := by simp [wsEnc]
    have e2 : pre ++ (wrEnc x ++ (wsEnc ws ++ post)) = (pre ++ wrEnc x) ++ (wsEnc ws ++ post) := by simp
    have ih := rdLoop_all ws (pre ++ wrEnc x) post (acc ++ [x]) (fun y hy => h y (List.mem_cons_of_mem _ hy))
    rw [e, List.length_cons, rdLoop_step pre _ x (h x (List.mem_cons_self ..)), e2, ih]
    simp [wsEnc]
theorem wsEnc_ne {ws : List Wr} (h : ws ≠ []) : wsEnc ws ≠ [] := by
  cases ws with
  | nil => exact absurd rfl h
  | cons x ws => simp [wsEnc, wrEnc]
theorem rdLoop_err (zs : List Int) (k : Nat) (acc : List Wr) (p e : Nat) (he : e ≠ 0) : rdLoop zs k acc p e = (true, acc, p, e) := by
  cases k with
  | zero => rfl
  | succ k => rw [rdLoop, if_pos he]
theorem rdLoop_cut : ∀ (ws : List Wr) (pre : List Int) (acc : List Wr), (∀ x ∈ ws, WrOk x) → ws ≠ [] →
    (rdLoop (pre ++ (wsEnc ws).dropLast) ws.length acc pre.length 0).1 = true ∧ (rdLoop (pre ++ (wsEnc ws).dropLast) ws.length acc pre.length 0).2.2.2 = 12
  | [], _, _, _, h => absurd rfl h
  | x :: y :: ws, pre, acc, h, _ => by
    have e : pre ++ (wsEnc (x :: y :: ws)).dropLast = pre ++ (wrEnc x ++ (wsEnc (y :: ws)).dropLast) := by
      rw [show wsEnc (x :: y :: ws) = wrEnc x ++ wsEnc (y :: ws) from by simp [wsEnc], List.dropLast_append_of_ne_nil (wsEnc_ne (by simp))]
    have e2 : pre ++ (wrEnc x ++ (wsEnc (y :: ws)).dropLast) = (pre ++ wrEnc x) ++ (wsEnc (y :: ws)).dropLast := by simp
    have ih := rdLoop_cut (y :: ws) (pre ++ wrEnc x) (acc ++ [x]) (fun z hz => h z (List.mem_cons_of_mem _ hz)) (by simp)
    rw [e, List.length_cons, rdLoop_step pre _ x (h x (List.mem_cons_self ..)), e2]
    exact ih
  | [x], pre, acc, h, _ => by
    obtain ⟨kd, key, val⟩ := x
    obtain ⟨hk, hne, hl1, hl2⟩ := h _ (List.mem_cons_self ..)
    simp only at hk hne hl1 hl2
    have pne : ∀ l : List Int, pieEnc l ≠ [] := fun l e => by have h1 := congrArg List.length e; have h2 := numEnc_pos l.length; rw [pieEnc, List.length_append, List.length_nil] at h1; omega
    rcases hk with rfl | ⟨rfl, rfl⟩
    · have e1 : pre ++ (wsEnc [⟨1, key, val⟩]).dropLast = pre ++ ((1 : Int) :: (pieEnc key ++ (pieEnc val).dropLast)) := by
        rw [show wsEnc [⟨1, key, val⟩] = ((1 : Int) :: pieEnc key) ++ pieEnc val from by simp [wsEnc, wrEnc], List.dropLast_append_of_ne_nil (pne val)]
        simp
      have f1 := rdFix_at pre (pieEnc key ++ (pieEnc val).dropLast) 1
      have e2 : pre ++ ((1 : Int) :: (pieEnc key ++ (pieEnc val).dropLast)) = (pre ++ [1]) ++ (pieEnc key ++ (pieEnc val).dropLast) := by simp
      have f2 := rdPiece_at (pre ++ [1]) (pieEnc val).dropLast key hl1
      have e3 : (pre ++ [1]) ++ (pieEnc key ++ (pieEnc val).dropLast) = (pre ++ [1] ++ pieEnc key) ++ (pieEnc val).dropLast := by simp
      have f3 := rdPiece_cut (pre ++ [1] ++ pieEnc key) val hl2
      have l1 : (pre ++ [(1 : Int)]).length = pre.length + 1 := by simp
      have l2 : (pre ++ [(1 : Int)] ++ pieEnc key).length = (pre ++ [(1 : Int)]).length + (pieEnc key).length := List.length_append
      rw [← e2, l1] at f2
      rw [← e3, ← e2, l2, l1] at f3
      rw [← e1] at f1 f2 f3
      rw [show ([⟨1, key, val⟩] : List Wr).length = 0 + 1 from rfl, rdLoop, if_neg (by simp), f1]
      simp only [ne_eq, not_true_eq_false, if_false, List.getD_cons_zero, false_and, if_true]
      rw [f2]
      simp only
      rw [rdLoop_err _ _ _ _ _ (by rw [f3]; simp)]
      exact ⟨rfl, f3⟩
    · have e1 : pre ++ (wsEnc [⟨2, key, []⟩]).dropLast = pre ++ ((2 : Int) :: (pieEnc key).dropLast) := by
        rw [show wsEnc [⟨2, key, []⟩] = [(2 : Int)] ++ pieEnc key from by simp [wsEnc, wrEnc], List.dropLast_append_of_ne_nil (pne key)]
        simp
      have f1 := rdFix_at pre (pieEnc key).dropLast 2
      have e2 : pre ++ ((2 : Int) :: (pieEnc key).dropLast) = (pre ++ [2]) ++ (pieEnc key).dropLast := by simp
      have f2 := rdPiece_cut (pre ++ [2]) key hl1
      have l1 : (pre ++ [(2 : Int)]).length = pre.length + 1 := by simp
      rw [← e2, l1] at f2
      rw [← e1] at f1 f2
      rw [show ([⟨2, key, []⟩] : List Wr).length = 0 + 1 from rfl, rdLoop, if_neg (by simp), f1]
      simp only [ne_eq, not_true_eq_false, if_false, List.getD_cons_zero, and_false, show ((2 : Int) = 1) = False from by simp, not_false_eq_true]
      rw [rdLoop_err _ _ _ _ _ (by rw [f2]; simp)]
      exact ⟨rfl, f2⟩
theorem chk_ok {seq : Nat} {ws : List Wr} (h : batChk seq ws = 0) : ws ≠ [] ∧ (∀ x ∈ ws, WrOk x) ∧ ws.length ≤ 1024 ∧ (batEnc seq ws).length ≤ 1048576 := by
  have hb := chk0 h
  have ha : ¬ (ws = [] ∨ seq = 0 ∨ ws.any (fun x => !wrRight x) = true) := by
    intro ha
    unfold batChk at h
    rw [if_pos ha] at h
    cases h
  simp only [not_or] at ha hb
  refine ⟨ha.1, fun x hx => ?_, by omega, by omega⟩
  have h1 := ha.2.2
  rw [Bool.not_eq_true, List.any_eq_false] at h1
  have h1 := h1 x hx
  have h2 := (chk0' h).1 x hx
  simp only [wrRight, wrShort, Bool.not_eq_true', Bool.not_eq_false, Bool.and_eq_true, Bool.or_eq_true, decide_eq_true_eq] at h1 h2
  refine ⟨?_, fun e => by rw [e] at h1; simp at h1, by omega, by omega⟩
  rcases h1.2 with h3 | ⟨h3, h4⟩
  · exact .inl h3
  · exact .inr ⟨h3, List.eq_nil_of_length_eq_zero h4⟩
/-- The numbers of a batch's bytes, whatever stands behind them. -/
theorem par_head (seq n : Nat) (hs : seq < 18446744073709551616) (hn : n < 18446744073709551616) (post : List Int) :
    parSeq (numEnc seq ++ numEnc n ++ post) = seq ∧ parNum (numEnc seq ++ numEnc n ++ post) = (n, (numEnc seq ++ numEnc n).length, 0) := by
  have h1 := rdNum_at [] (numEnc n ++ post) seq hs
  have h2 := rdNum_at (numEnc seq) post n hn
  simp only [List.nil_append, List.length_nil, Nat.zero_add] at h1
  have e : numEnc seq ++ numEnc n ++ post = numEnc seq ++ (numEnc n ++ post) := by simp
  rw [e]
  refine ⟨by rw [parSeq, h1], ?_⟩
  rw [parNum, h1]
  simp only
  rw [h2, List.length_append]
theorem par_full {seq : Nat} {ws : List Wr} (h : batChk seq ws = 0) (hs : seq < 18446744073709551616) :
    parOf (batEnc seq ws) = 0 ∧ parSeq (batEnc seq ws) = seq ∧ (parLoop (batEnc seq ws)).2.1 = ws ∧ (parNum (batEnc seq ws)).1 ≤ 1024 := by
  obtain ⟨_, hok, hl, _⟩ := chk_ok h
  have hh := par_head seq ws.length hs (by omega) (wsEnc ws)
  have ha := rdLoop_all ws (numEnc seq ++ numEnc ws.length) [] [] hok
  rw [List.append_nil, List.nil_append] at ha
  have e : batEnc seq ws = numEnc seq ++ numEnc ws.length ++ wsEnc ws := rfl
  rw [← e] at hh ha
  have hp : parLoop (batEnc seq ws) = (true, ws, (batEnc seq ws).length, 0) := by rw [parLoop, hh.2]; exact ha
  refine ⟨?_, hh.1, by rw [hp], by rw [hh.2]; exact hl⟩
  rw [parOf, hp, hh.1, parErr_true]
  simp [h]
theorem par_more {seq : Nat} {ws : List Wr} (h : batChk seq ws = 0) (hs : seq < 18446744073709551616) :
    parOf (batEnc seq ws ++ [0]) = 4 ∧ (parNum (batEnc seq ws ++ [0])).1 ≤ 1024 := by
  obtain ⟨_, hok, hl, _⟩ := chk_ok h
  have hh := par_head seq ws.length hs (by omega) (wsEnc ws ++ [0])
  have ha := rdLoop_all ws (numEnc seq ++ numEnc ws.length) [0] [] hok
  rw [List.nil_append] at ha
  have e : batEnc seq ws ++ [0] = numEnc seq ++ numEnc ws.length ++ (wsEnc ws ++ [0]) := by simp [batEnc]
  rw [← e] at hh ha
  have hp : parLoop (batEnc seq ws ++ [0]) = (true, ws, (batEnc seq ws).length, 0) := by rw [parLoop, hh.2]; exact ha
  refine ⟨?_, by rw [hh.2]; exact hl⟩
  rw [parOf, hp, hh.1, parErr_true]
  simp
theorem par_less {seq : Nat} {ws : List Wr} (h : batChk seq ws = 0) (hs : seq < 18446744073709551616) :
    parOf (batEnc seq ws).dropLast = 12 ∧ (parNum (batEnc seq ws).dropLast).1 ≤ 1024 := by
  obtain ⟨hne, hok, hl, _⟩ := chk_ok h
  have hh := par_head seq ws.length hs (by omega) (wsEnc ws).dropLast
  have ha := rdLoop_cut ws (numEnc seq ++ numEnc ws.length) [] hok hne
  have e : (batEnc seq ws).dropLast = numEnc seq ++ numEnc ws.length ++ (wsEnc ws).dropLast := by
    rw [batEnc, List.dropLast_append_of_ne_nil (wsEnc_ne hne)]
  rw [← e] at hh ha
  have hp : parLoop (batEnc seq ws).dropLast = rdLoop (batEnc seq ws).dropLast ws.length [] (numEnc seq ++ numEnc ws.length).length 0 := by rw [parLoop, hh.2]
  refine ⟨?_, by rw [hh.2]; exact hl⟩
  rw [← hp] at ha
  rw [parOf, parErr, if_neg (by rw [ha.1]; simp), if_pos (by rw [ha.2]; simp), ha.2]
end Go.Proofs.Ytpjdlcdkldomlaa
