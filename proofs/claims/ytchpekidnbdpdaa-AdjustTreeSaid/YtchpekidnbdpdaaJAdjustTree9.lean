/- Texts of the proof of AdjustTreeSaid, joined: RaR RaA RaV RaS RaM SrA SrB RaJ. -/
import Derived.Test.YtchpekidnbdpdaaJAdjustTree8
import Derived.Test.YtchpekidnbdpdaaJAdjustTree6
import Derived.Test.YtchpekidnbdpdaaJAdjustTree7
import Derived.BigRegion
import Derived.Deep.RegionHeld3
import Derived.Deep.QuietTactic
import Derived.BigQuiet
import Derived.Laws.OwnMore
import Derived.Test.YtchpekidnbdpdaaJAdjustTree1
import Derived.Deep.Cut
import Derived.Test.YtchpekidnbdpdaaJAdjustTree4
/- Rows of adjusted spans of the call's own. (Turned out of SoR.) -/
namespace Go.Proofs.Ytchpekidnbdpdaa
open Go.RowKit

/-- A row of adjusted spans that is the walk's own; their tags lie elsewhere. -/
structure RowA (w : World) (base : Nat) (v : Value) (n : Nat) (l : List AE) : Prop where
  own : w.ownsRow base 47 14 v n (aes l)
  len : l.length = n
  ok : ∀ e ∈ l, AeOk w w.heap.size e
  far : ∀ e ∈ l, e.a.s.tags ≠ [] → ∀ a, e.A = some a → v.ownBlock ≠ some a.block
theorem adinfo : (Try.prog.info? 47).map (fun i => (i.zero, i.size, i.bytes)) = some (some (.agg zadC), 14, 144) := by kernel_rfl
theorem aes_append (a b : List AE) : aes (a ++ b) = aes a ++ aes b := by simp [flatR]
theorem aes_length (l : List AE) : (aes l).length = l.length * 14 := flatR_length aeC_length l
theorem aes_one (l : List AE) : ∀ u ∈ aes l, u.oneCell' = true := by
  intro u hu
  obtain ⟨e, _, he⟩ := List.mem_flatMap.1 hu
  exact aeC_one e u he
/-- append of adjusted spans. -/
theorem wpList_appAd (w : World) {ops : Array Oper} {rest : List Oper} {o : Oper} {a : Act} {Q : Exit → Act → World → Prop} (hgd : o.guard = none) (s x : Operand)
    (ho : o.op = .call { callee := .builtin .append, args := #[s, x], argTypes := #[23, 23] })
    (base : Nat) (v : Value) (n : Nat) (l : List AE) (hs : a.eval s = v) (hown : w.ownsRow base 47 14 v n (aes l))
    (B : Nat) (A : Option Addr) (m c : Nat) (news : List AE) (hx : a.eval x = .slice A m c) (hl : news.length = m) (hr : Rd w B A (aes news))
    (hbytes : n + m ≤ 1048576) (hbase : base ≤ w.heap.size)
    (h : ∀ A' c' w', App base 47 14 w v w' (.slice A' (n + m) c') (n + m) (aes (l ++ news)) → (A' = none → v = .slice none 0 0 ∧ m = 0) → wpList Try.prog ops Q rest (a.put o.dst (.slice A' (n + m) c')) w') :
    wpList Try.prog ops Q (o :: rest) a w := by
  obtain ⟨i0, hi0, hz0, hz1, hz2⟩ := info_parts adinfo
  refine wpList_app w hgd s x _ ho base 47 i0 _ 14 144 Try.underlying23 hi0 hz0 hz1 hz2 rfl (by omega) v n (aes l) hs hown B A m c (aes news) hx (by rw [aes_length]; omega) hr (aes_one news) (by simp only [maxLen]; omega) (by omega) hbase ?_
  intro A' c' w' h1 h2 h3 h4
  rw [← aes_append] at h1
  exact h A' c' w' ((App.refl hown).step h1 h2 h3) h4
theorem RowA.app {w w' : World} {base j : Nat} {v v' : Value} {l es : List AE} (h : RowA w base v j l) (hap : App base 47 14 w v w' v' (j + es.length) (aes (l ++ es)))
    (hes : ∀ e ∈ es, AeOk w w.heap.size e) (hfe : ∀ e ∈ es, e.a.s.tags ≠ [] → ∀ a, e.A = some a → v.ownBlock ≠ some a.block) : RowA w' base v' (j + es.length) (l ++ es) := by
  have hall : ∀ e ∈ l ++ es, AeOk w w.heap.size e ∧ (e.a.s.tags ≠ [] → ∀ a, e.A = some a → v.ownBlock ≠ some a.block) := fun e he => by
    rcases List.mem_append.1 he with he | he
    · exact ⟨h.ok e he, h.far e he⟩
    · exact ⟨hes e he, hfe e he⟩
  refine ⟨hap.own, by simp [h.len], fun e he => ?_, fun e he ht a ha => ?_⟩
  · obtain ⟨h1, h2⟩ := hall e he
    refine ⟨?_, h1.len, h1.max, h1.ok⟩
    by_cases ht : e.a.s.tags = []
    · rw [ht]
      exact Rd.nil
    · exact h1.rd.grownS hap.grown fun a ha => h2 ht a ha
  · obtain ⟨h1, h2⟩ := hall e he
    rcases hap.block with hb | ⟨k, hb, hk⟩
    · rw [hb]
      exact h2 ht a ha
    · rw [hb]
      intro e1
      have e2 := Option.some.inj e1
      obtain ⟨b, o, hA, hlt, _⟩ := h1.rd (by intro e0; have := tgs_length e.a.s.tags; rw [e0] at this; exact ht (List.eq_nil_of_length_eq_zero (by simp at this; omega)))
      rw [ha] at hA
      have e3 := Option.some.inj hA
      subst e3
      simp only at e2
      omega
theorem RowA.bS {w w' : World} {base n : Nat} {v : Value} {l : List AE} (h : RowA w base v n l) (hb : Below w.heap.size w w') : RowA w' base v n l :=
  ⟨((App.refl h.own).later hb).own, h.len, fun e he => ((h.ok e he).below hb).more hb.size, h.far⟩
theorem RowA.own_lt {w : World} {base n : Nat} {v : Value} {l : List AE} (h : RowA w base v n l) : ∀ k, v.ownBlock = some k → k < w.heap.size ∧ base ≤ k := fun k hk => by
  rcases h.own.2 with ⟨h1, _⟩ | ⟨g, cap, cur, h1, hbase, hb, _⟩
  · rw [h1] at hk
    cases hk
  · rw [h1] at hk
    have e := Option.some.inj hk
    simp only at e
    subst e
    exact ⟨(Array.getElem?_eq_some_iff.1 hb).1, hbase⟩
theorem RowA.nil (w : World) (base : Nat) : RowA w base (.slice none 0 0) 0 [] := ⟨World.ownsRow_nil _ _ _ _, rfl, fun _ h => absurd h (by simp), fun _ h => absurd h (by simp)⟩
theorem RowA.rba {w : World} {base n c : Nat} {A : Option Addr} {l : List AE} (h : RowA w base (.slice A n c) n l) : RbA w w.heap.size A l := ⟨Rd.of_own h.own, h.ok⟩
theorem aes_single (e : AE) : aes [e] = aeC e := by simp [flatR]
theorem rd_adj {w : World} {g : Nat} (hg : w.heap.size = g) (e : AE) : Rd (w.alloc (.cells (adC e.a e.A e.n e.c) 47)) (g + 1) (some ⟨g, 0, none⟩) (aes [e]) := by
  rw [aes_single]
  exact Rd.lit' hg
theorem RowA.cap {w : World} {base n c : Nat} {A : Option Addr} {l : List AE} (h : RowA w base (.slice A n c) n l) : n ≤ c := by
  rcases h.own.2 with ⟨h1, h2⟩ | ⟨g, cap, cur, h1, _, _, hn, _⟩
  · omega
  · injection h1 with _ _ e3
    omega
end Go.Proofs.Ytchpekidnbdpdaa


/- The document's layer 21, plain: what Unique, Up, Adjust answer. -/
namespace Go.Proofs.Ytchpekidnbdpdaa
open Go.RowKit

def upOf (u : List Sp) (i : Nat) (x : Sp) : Ad :=
  if x.parent = 0 then ⟨x, 0, 0, 0⟩ else if plc u x.parent < 0 then ⟨x, 0, 0, 1⟩ else if cyc u i x = true then ⟨x, 0, 0, 2⟩ else ⟨x, x.parent, 0, 0⟩
/-- What Up has of the first i. -/
def upsTo (u : List Sp) : Nat → List Ad
  | 0 => []
  | i + 1 => match u[i]? with
    | some x => upsTo u i ++ [upOf u i x]
    | none => upsTo u i
def ups (l : List Sp) : List Ad := upsTo (uniq l) (uniq l).length
/-- How far a span is moved below another one. -/
def shiftS (c : Sp) (p : Ad) : Int :=
  if c.service = p.s.service then p.shift
  else if p.s.length < c.length then (if c.start < p.s.start then p.s.start - c.start else 0)
  else if p.s.start ≤ c.start ∧ c.start + c.length ≤ p.s.start + p.s.length then 0
  else p.s.start + (p.s.length - c.length) / 2 - c.start
/-- x moved below y. -/
def mvAd (x y : Ad) : Ad :=
  ⟨{ x.s with start := min (max 0 (x.s.start + shiftS x.s y)) (4611686018427387903 - x.s.length) }, x.up, shiftS x.s y, x.flag⟩
/-- Adjust's state: the spans, and which are done. -/
structure AjS where
  o : List Ad
  d : List Bool
def ajK (i : Nat) (st : AjS) (k : Nat) : AjS :=
  match st.o[k]?, st.o[i]?, st.d[k]? with
  | some y, some x, some true => if y.s.id = x.up then ⟨st.o.set i (mvAd x y), st.d.set i true⟩ else st
  | _, _, _ => st
def ajI (n : Nat) (st : AjS) (i : Nat) : AjS :=
  match st.o[i]?, st.d[i]? with
  | some x, some false => if x.up = 0 then ⟨st.o, st.d.set i true⟩ else (List.range n).foldl (ajK i) st
  | _, _ => st
def ajN (n : Nat) (st : AjS) (_ : Nat) : AjS := (List.range n).foldl (ajI n) st
def ajAll (o : List Ad) : AjS := (List.range o.length).foldl (ajN o.length) ⟨o, List.replicate o.length false⟩
/-- The first error of some spans. -/
def spErr : List Sp → Nat
  | [] => 0
  | x :: l => if spChk x ≠ 0 then spChk x else spErr l
/-- Are all of the first one's trace? -/
def oneTr : List Sp → Bool
  | [] => true
  | x :: l => (x :: l).all fun y => decide (y.hi = x.hi) && decide (y.lo = x.lo)
/-- What Adjust answers. -/
def adjS (l : List Sp) : List Ad × Nat :=
  if l.length = 0 then ([], 2) else if 64 < l.length then ([], 3) else if spErr l ≠ 0 then ([], spErr l) else if oneTr l = false then ([], 2) else ((ajAll (ups l)).o, 0)
end Go.Proofs.Ytchpekidnbdpdaa


/- The document's layer 21: Up. -/
namespace Go.Proofs.Ytchpekidnbdpdaa
open Go.RowKit
theorem loadSp_shutV (a : Addr) : loadVar 32 a = loadK 32 a := rfl
attribute [local go_sem ↓] loadSp_shutV
theorem loadAd_shutV (a : Addr) : loadVar 47 a = loadK 47 a := rfl
attribute [local go_sem ↓] loadAd_shutV

theorem upsTo_step {u : List Sp} {i : Nat} {x : Sp} (h : u[i]? = some x) : upsTo u (i + 1) = upsTo u i ++ [upOf u i x] := by
  rw [upsTo, h]
theorem own_baseA {w : World} {b b' size n : Nat} {e : TypeId} {v : Value} {xs : List Value} (h : w.ownsRow b e size v n xs) (hb : b' ≤ b) : w.ownsRow b' e size v n xs :=
  ⟨h.1, h.2.imp id fun ⟨g, cap, cur, h1, h2, h3⟩ => ⟨g, cap, cur, h1, Nat.le_trans hb h2, h3⟩⟩
theorem upOf_s (u : List Sp) (i : Nat) (x : Sp) : (upOf u i x).s = x := by
  unfold upOf
  split
  · rfl
  · split
    · rfl
    · split <;> rfl
theorem upOf_ok {u : List Sp} {i : Nat} {x : Sp} (h : x.U64) : (upOf u i x).Ok := by
  have h4 := h.2.2.2
  unfold upOf
  split
  · exact ⟨h, by show (0 : Nat) < _; omega, by show (_ : Int) ≤ 0; omega, by show (0 : Int) ≤ _; omega⟩
  · split
    · exact ⟨h, by show (0 : Nat) < _; omega, by show (_ : Int) ≤ 0; omega, by show (0 : Int) ≤ _; omega⟩
    · split
      · exact ⟨h, by show (0 : Nat) < _; omega, by show (_ : Int) ≤ 0; omega, by show (0 : Int) ≤ _; omega⟩
      · exact ⟨h, h4, by show (_ : Int) ≤ 0; omega, by show (0 : Int) ≤ _; omega⟩
/-- One more adjusted span in a row. -/
theorem upRow {w1 W w5 : World} {i c' c5 : Nat} {A' A5 : Option Addr} {l' : List AE} {e : El} {a : Ad} (hra : RowA W w1.heap.size (.slice A' i c') i l') (hok : ElOk w1 w1.heap.size e) (hW : Below w1.heap.size w1 W) (ha : a.Ok) (hs : a.s = e.s)
    (hap : App w1.heap.size 47 14 W (.slice A' i c') w5 (.slice A5 (i + 1) c5) (i + 1) (aes (l' ++ [⟨a, e.A, e.n, e.c⟩]))) : RowA w5 w1.heap.size (.slice A5 (i + 1) c5) (i + 1) (l' ++ [⟨a, e.A, e.n, e.c⟩]) := by
  refine RowA.app (es := [⟨a, e.A, e.n, e.c⟩]) hra hap (fun x hx => ?_) (fun x hx ht q hq => ?_)
  · rw [List.mem_singleton] at hx
    subst hx
    have h1 := (hok.below hW).more hW.size
    exact ⟨by show RbT _ _ _ a.s.tags; rw [hs]; exact h1.rd, by show a.s.tags.length = _; rw [hs]; exact h1.len, h1.max, ha⟩
  · rw [List.mem_singleton] at hx
    subst hx
    have ht' : e.s.tags ≠ [] := by rw [← hs]; exact ht
    obtain ⟨b, o, hA, hlt, _⟩ := hok.rd (by intro e0; have := tgs_length e.s.tags; rw [e0] at this; exact ht' (List.eq_nil_of_length_eq_zero (by simp at this; omega)))
    have hq' : e.A = some q := hq
    rw [hA] at hq'
    have e3 := Option.some.inj hq'
    subst e3
    intro e1
    have h2 := (hra.own_lt _ e1).2
    simp only at h2
    omega
/-- What Up hands back. -/
def UpsPost (w : World) (ads : List Ad) (e : Ending) (w' : World) : Prop :=
  ∃ A' c' n' l', e = .returned (.slice A' n' c') ∧ l'.map (·.a) = ads ∧ RowA w' w.heap.size (.slice A' n' c') n' l' ∧ Below w.heap.size w w'
set_option maxRecDepth 100000 in
set_option maxHeartbeats 4000000 in
theorem raUp {A : Option Addr} {c n B : Nat} {l : List El} (w : World) (hf : RbS w B A l) (hn : l.length = n) (hB : B ≤ w.heap.size) (hnl : n ≤ 100000) (hsm : ∀ e ∈ l, e.n ≤ 1000000) (hu : ∀ s ∈ uniq (sps l), s.U64) :
    Calls Try.prog 18 #[.slice A n c] w (UpsPost w (ups (sps l))) := by
  have cu := raUnique (c := c) w hf hn hB hnl hsm
  have hul := uniqTo_len (sps l) (sps l).length
  rw [sps_length, hn] at hul
  obtain ⟨U, hU⟩ : ∃ U, uniq (sps l) = U := ⟨_, rfl⟩
  have hups : ups (sps l) = upsTo U U.length := by rw [ups, hU]
  have hul2 : U.length ≤ n := by rw [← hU, uniq, sps_length, hn]; exact hul
  rw [hU] at cu hu
  rw [hups]
  have HU := Lib.hid hu
  clear hU hups hul hu hsm hf
  go_enter Try.func18, Try.ntmps18
  go_wp2_with fail
  refine cu.mono ?_
  rintro en w1 ⟨Au, uc, m, ul, rfl, hus, hrow, hb1⟩
  have hml : ul.length = m := hrow.len
  have hmU : U.length = m := by rw [← hus, sps_length, hml]
  have HS := Lib.hid hus
  have HM := Lib.hid hml
  have HMU := Lib.hid hmU
  have HROW := Lib.hid hrow
  have HB1 := Lib.hid hb1
  have hmn : m ≤ n := by omega
  rw [hmU]
  clear hus hml hmU hrow cu hb1
  go_wp2_with fail
  go_loopw [4, 5] (fun v iv_ wr => ∃ (i : Nat) (A' : Option Addr) (c' : Nat) (l' : List AE), i ≤ m ∧ v = .slice A' i c' ∧ iv_ = .int .i64 i ∧ Hid (l'.map (·.a) = upsTo U i) ∧ RowA wr w1.heap.size (.slice A' i c') i l' ∧ Below w1.heap.size w1 wr) (fun _ i _ => m - (intOf i).toNat)
  case atStart => exact ⟨0, none, 0, [], by omega, rfl, rfl, Lib.hid rfl, RowA.nil _ _, Below.refl _ _⟩
  case round =>
    obtain ⟨i, A', c', l', hi, rfl, rfl, HL, hra, hbr⟩ := hrel
    by_cases hlt : i < m
    · have hlt' : (i : Int) < (m : Int) := by omega
      obtain ⟨e, he⟩ : ∃ e, ul[i]? = some e := ⟨_, List.getElem?_eq_getElem (by rw [HM.out]; exact hlt)⟩
      have hrs := HROW.out.rbs
      obtain ⟨b, o, e1, hbb, -, hok⟩ := hrs.get he
      subst e1
      have HLE : Hid (∀ W, Below w1.heap.size w1 W → (loadK 32 ⟨b, o + i * 11, none⟩).run Try.prog W = .ok (spV e.s e.A e.n e.c) W ∧ W.cell? ⟨b, o + i * 11 + 3, none⟩ = some (.int .u64 e.s.parent)) := Lib.hid fun W hW => by
        obtain ⟨b', o', e', -, hc', -⟩ := (hrs.below hW).get he
        cases e'
        exact ⟨loadK_el hc', hc' 3 (by omega)⟩
      obtain ⟨pa, hpa⟩ : ∃ pa, e.s.parent = pa := ⟨_, rfl⟩
      have HP : Hid (∀ W, Below w1.heap.size w1 W → (loadK 32 ⟨b, o + i * 11, none⟩).run Try.prog W = .ok (spV e.s e.A e.n e.c) W ∧ W.cell? ⟨b, o + i * 11 + 3, none⟩ = some (.int .u64 pa)) := Lib.hid fun W hW => by rw [← hpa]; exact HLE.out W hW
      have hbd := below_drewN hbr 1
      have BD : Hid (Below w1.heap.size w1 wr.drew) := Lib.hid hbd
      have BA : Hid (∀ o, Below w1.heap.size w1 (wr.drew.alloc o)) := Lib.hid fun o => hbd.alloc hbd.size o
      obtain ⟨ld, pd⟩ := HP.out _ BD.out
      have HE := Lib.hid he
      have HOK := Lib.hid hok
      have HPA := Lib.hid hpa
      clear he hok hpa hrs hbd
      go_wp2_with fail
      go_region_held3 (fun w' => (loadK 32 ⟨b, o + i * 11, none⟩).run Try.prog w' = .ok (spV e.s e.A e.n e.c) w' ∧ w'.cell? ⟨b, o + i * 11 + 3, none⟩ = some (.int .u64 pa))
        (first | exact HP.out _ BD.out | exact HP.out _ (BA.out _)) (fail)
      have bk0 := (Bk.new wr 47 (adC ⟨e.s, pa, 0, 0⟩ e.A e.n e.c)).drew
      have hb0 : Below wr.heap.size wr (wr.alloc (.cells (adC ⟨e.s, pa, 0, 0⟩ e.A e.n e.c) 47)).drew := ((Below.refl _ wr).alloc (Nat.le_refl _) _).drew
      obtain ⟨g, hg⟩ : ∃ g, wr.heap.size = g := ⟨_, rfl⟩
      obtain ⟨W2, hW2⟩ : ∃ W2, (wr.alloc (.cells (adC ⟨e.s, pa, 0, 0⟩ e.A e.n e.c) 47)).drew = W2 := ⟨_, rfl⟩
      rw [hW2] at bk0 hb0 ⊢
      have HGg := Lib.hid hg
      rw [hg] at bk0 ⊢
      clear hW2 hg ld pd BD BA
      have BAL : Hid (∀ (W : World) (o : Obj), Below W.heap.size W (W.alloc o)) := Lib.hid fun W o => (Below.refl _ W).alloc (Nat.le_refl _) o
      have HSX : Hid (U[i]? = some e.s) := Lib.hid (by rw [← HS.out]; exact sps_get HE.out)
      have HU64 : Hid e.s.U64 := Lib.hid (HU.out _ (List.mem_of_getElem? HSX.out))
      have hb02 := hbr.trans (hb0.mono hbr.size)
      have pd := (HP.out W2 hb02).2
      have BK0 := Lib.hid bk0
      clear bk0
      by_cases hp0 : pa = 0
      · have hq : upOf U i e.s = ⟨e.s, pa, 0, 0⟩ := by rw [upOf, HPA.out, if_pos hp0, hp0]
        have HQ := Lib.hid hq.symm
        subst hp0
        have BK3 := BK0.out
        have hb3 := hb0
        obtain ⟨W3, hW3⟩ : ∃ W3, W3 = W2 := ⟨_, rfl⟩
        subst hW3
        clear hq
        have hra3 := hra.bS hb3
        have lx := loadK_ad BK3
        clear BK3
        go_wp2_with (at_builtin; go_loud (refine wpList_appAd _ rfl (.tmp 49) (.tmp 51) rfl w1.heap.size _ i l' rfl (hra3.bS (BAL.out W3 _)).own (W3.heap.size + 1) _ 1 1 [⟨⟨e.s, 0, 0, 0⟩, e.A, e.n, e.c⟩] rfl rfl (rd_adj rfl _) (by omega) (by have h1 := hbr.size; have h2 := hb3.size; simp; omega) ?_))
        intro A5 c5 w5 hap _
        have hr5 := upRow (hra3.bS (BAL.out W3 _)) HOK.out ((hbr.trans (hb3.mono hbr.size)).trans ((BAL.out W3 _).mono (Nat.le_trans hbr.size hb3.size))) (a := ⟨e.s, 0, 0, 0⟩) (by rw [HQ.out]; exact upOf_ok HU64.out) (by rw [HQ.out]; exact upOf_s _ _ _) hap
        have hb5 : Below w1.heap.size w1 w5 := ((hbr.trans (hb3.mono hbr.size)).trans ((BAL.out W3 _).mono (Nat.le_trans hbr.size hb3.size))).trans (hap.below (by have h1 := hbr.size; have h2 := hb3.size; simp; omega) (fun k hk => (hra3.own_lt k hk).2))
        have HR5 := Lib.hid hr5
        clear hr5 hap hra3 lx
        go_wp2_with fail
        exact ⟨⟨i + 1, A5, c5, _, by omega, rfl, by go_num, Lib.hid (by rw [List.map_append, HL.out, upsTo_step HSX.out]; exact congrArg (fun q => upsTo U i ++ [q]) HQ.out), HR5.out, hb5⟩, by simp only [intOf]; omega⟩
      have hp0' : ((pa : Int) == 0) = false := by simp; omega
      have cp := raPlace (c := uc) ul pa W2 (HROW.out.rbs.below hb02) HM.out (by omega)
      rw [HS.out] at cp
      obtain ⟨pz, hpz⟩ : ∃ pz, plc U pa = pz := ⟨_, rfl⟩
      rw [hpz] at cp
      have HPZ := Lib.hid hpz
      clear hpz
      by_cases hneg : pz < 0
      · have hneg' : decide (pz < 0) = true := by simp [hneg]
        have HQ : Hid ((⟨e.s, 0, 0, 1⟩ : Ad) = upOf U i e.s) := Lib.hid (by rw [upOf, HPA.out, if_neg hp0, HPZ.out, if_pos hneg])
        have bk0 := BK0.out
        have f11 : W2.cell? ⟨g, 11, none⟩ = some (.int .u64 pa) := bk0.cell 11
        have z11 := bk0.frozen 11
        have bk1 := bk0.set 11 (.int .u64 0)
        have f13 := bk1.cell 13
        have z13 := bk1.frozen 13
        have bk2 := bk1.set 13 (.int .i64 1)
        have BK3 : Bk ((W2.setCell ⟨g, 11, none⟩ (.int .u64 0)).setCell ⟨g, 13, none⟩ (.int .i64 1)) g 47 (adC ⟨e.s, 0, 0, 1⟩ e.A e.n e.c) := bk2
        have hb3 := (hb0.setCell (p := ⟨g, 11, none⟩) (by show wr.heap.size ≤ g; rw [HGg.out]; exact Nat.le_refl _) (.int .u64 0)).setCell (p := ⟨g, 13, none⟩) (by show wr.heap.size ≤ g; rw [HGg.out]; exact Nat.le_refl _) (.int .i64 1)
        clear bk1 bk2 bk0
        go_wp2_with fail
        refine cp.mono ?_
        rintro en w3 ⟨rfl, hw3⟩
        rw [hw3]
        clear hw3
        obtain ⟨W3, hW3⟩ : ∃ W3, (W2.setCell ⟨g, 11, none⟩ (.int .u64 0)).setCell ⟨g, 13, none⟩ (.int .i64 1) = W3 := ⟨_, rfl⟩
        rw [hW3] at BK3 hb3
        have hra3 := hra.bS hb3
        have lx := loadK_ad BK3
        clear BK3
        go_wp2_with (at_builtin; go_loud (refine wpList_appAd _ rfl (.tmp 49) (.tmp 51) rfl w1.heap.size _ i l' rfl (hra3.bS (BAL.out W3 _)).own (W3.heap.size + 1) _ 1 1 [⟨⟨e.s, 0, 0, 1⟩, e.A, e.n, e.c⟩] rfl rfl (rd_adj rfl _) (by omega) (by have h1 := hbr.size; have h2 := hb3.size; simp; omega) ?_))
        intro A5 c5 w5 hap _
        have hr5 := upRow (hra3.bS (BAL.out W3 _)) HOK.out ((hbr.trans (hb3.mono hbr.size)).trans ((BAL.out W3 _).mono (Nat.le_trans hbr.size hb3.size))) (a := ⟨e.s, 0, 0, 1⟩) (by rw [HQ.out]; exact upOf_ok HU64.out) (by rw [HQ.out]; exact upOf_s _ _ _) hap
        have hb5 : Below w1.heap.size w1 w5 := ((hbr.trans (hb3.mono hbr.size)).trans ((BAL.out W3 _).mono (Nat.le_trans hbr.size hb3.size))).trans (hap.below (by have h1 := hbr.size; have h2 := hb3.size; simp; omega) (fun k hk => (hra3.own_lt k hk).2))
        have HR5 := Lib.hid hr5
        clear hr5 hap hra3 lx
        go_wp2_with fail
        exact ⟨⟨i + 1, A5, c5, _, by omega, rfl, by go_num, Lib.hid (by rw [List.map_append, HL.out, upsTo_step HSX.out]; exact congrArg (fun q => upsTo U i ++ [q]) HQ.out), HR5.out, hb5⟩, by simp only [intOf]; omega⟩
      have hneg' : decide (pz < 0) = false := by simp; omega
      have cc := raCycle (c := uc) ul e W2 (HROW.out.rbs.below hb02) HM.out (by omega) HE.out
      rw [HS.out] at cc
      obtain ⟨cy, hcy⟩ : ∃ cy, cyc U i e.s = cy := ⟨_, rfl⟩
      rw [hcy] at cc
      have HCY := Lib.hid hcy
      clear hcy
      cases cy with
      | true =>
        have HQ : Hid ((⟨e.s, 0, 0, 2⟩ : Ad) = upOf U i e.s) := Lib.hid (by rw [upOf, HPA.out, if_neg hp0, HPZ.out, if_neg hneg, HCY.out, if_pos rfl])
        go_wp2_with fail
        refine cp.mono ?_
        rintro en w3 ⟨rfl, hw3⟩
        rw [hw3]
        clear hw3
        go_wp2_with fail
        refine cc.mono ?_
        rintro en w4 ⟨rfl, d, hw4⟩
        rw [hw4]
        clear hw4 pd
        have hbd := hb0.trans (below_drewN (Below.refl _ W2) d)
        obtain ⟨W4, hW4⟩ : ∃ W4, W2.drewN d = W4 := ⟨_, rfl⟩
        have bk0 : Bk W4 g 47 (adC ⟨e.s, pa, 0, 0⟩ e.A e.n e.c) := by rw [← hW4]; exact BK0.out
        rw [hW4] at hbd ⊢
        have f11 : W4.cell? ⟨g, 11, none⟩ = some (.int .u64 pa) := bk0.cell 11
        have z11 := bk0.frozen 11
        have bk1 := bk0.set 11 (.int .u64 0)
        have f13 := bk1.cell 13
        have z13 := bk1.frozen 13
        have bk2 := bk1.set 13 (.int .i64 2)
        have BK3 : Bk ((W4.setCell ⟨g, 11, none⟩ (.int .u64 0)).setCell ⟨g, 13, none⟩ (.int .i64 2)) g 47 (adC ⟨e.s, 0, 0, 2⟩ e.A e.n e.c) := bk2
        have hb3 := (hbd.setCell (p := ⟨g, 11, none⟩) (by show wr.heap.size ≤ g; rw [HGg.out]; exact Nat.le_refl _) (.int .u64 0)).setCell (p := ⟨g, 13, none⟩) (by show wr.heap.size ≤ g; rw [HGg.out]; exact Nat.le_refl _) (.int .i64 2)
        clear bk1 bk2 bk0 hW4
        obtain ⟨W3, hW3⟩ : ∃ W3, (W4.setCell ⟨g, 11, none⟩ (.int .u64 0)).setCell ⟨g, 13, none⟩ (.int .i64 2) = W3 := ⟨_, rfl⟩
        rw [hW3] at BK3 hb3
        have hra3 := hra.bS hb3
        have lx := loadK_ad BK3
        clear BK3
        go_wp2_with (at_builtin; go_loud (refine wpList_appAd _ rfl (.tmp 49) (.tmp 51) rfl w1.heap.size _ i l' rfl (hra3.bS (BAL.out W3 _)).own (W3.heap.size + 1) _ 1 1 [⟨⟨e.s, 0, 0, 2⟩, e.A, e.n, e.c⟩] rfl rfl (rd_adj rfl _) (by omega) (by have h1 := hbr.size; have h2 := hb3.size; simp; omega) ?_))
        intro A5 c5 w5 hap _
        have hr5 := upRow (hra3.bS (BAL.out W3 _)) HOK.out ((hbr.trans (hb3.mono hbr.size)).trans ((BAL.out W3 _).mono (Nat.le_trans hbr.size hb3.size))) (a := ⟨e.s, 0, 0, 2⟩) (by rw [HQ.out]; exact upOf_ok HU64.out) (by rw [HQ.out]; exact upOf_s _ _ _) hap
        have hb5 : Below w1.heap.size w1 w5 := ((hbr.trans (hb3.mono hbr.size)).trans ((BAL.out W3 _).mono (Nat.le_trans hbr.size hb3.size))).trans (hap.below (by have h1 := hbr.size; have h2 := hb3.size; simp; omega) (fun k hk => (hra3.own_lt k hk).2))
        have HR5 := Lib.hid hr5
        clear hr5 hap hra3 lx
        go_wp2_with fail
        exact ⟨⟨i + 1, A5, c5, _, by omega, rfl, by go_num, Lib.hid (by rw [List.map_append, HL.out, upsTo_step HSX.out]; exact congrArg (fun q => upsTo U i ++ [q]) HQ.out), HR5.out, hb5⟩, by simp only [intOf]; omega⟩
      | false =>
        have HQ : Hid ((⟨e.s, pa, 0, 0⟩ : Ad) = upOf U i e.s) := Lib.hid (by rw [upOf, HPA.out, if_neg hp0, HPZ.out, if_neg hneg, HCY.out, if_neg (by simp)])
        go_wp2_with fail
        refine cp.mono ?_
        rintro en w3 ⟨rfl, hw3⟩
        rw [hw3]
        clear hw3
        go_wp2_with fail
        refine cc.mono ?_
        rintro en w4 ⟨rfl, d, hw4⟩
        rw [hw4]
        clear hw4 pd
        have hb3 := hb0.trans (below_drewN (Below.refl _ W2) d)
        obtain ⟨W3, hW3⟩ : ∃ W3, W2.drewN d = W3 := ⟨_, rfl⟩
        have BK3 : Bk W3 g 47 (adC ⟨e.s, pa, 0, 0⟩ e.A e.n e.c) := by rw [← hW3]; exact BK0.out
        rw [hW3] at hb3 ⊢
        have hra3 := hra.bS hb3
        have lx := loadK_ad BK3
        clear BK3
        go_wp2_with (at_builtin; go_loud (refine wpList_appAd _ rfl (.tmp 49) (.tmp 51) rfl w1.heap.size _ i l' rfl (hra3.bS (BAL.out W3 _)).own (W3.heap.size + 1) _ 1 1 [⟨⟨e.s, pa, 0, 0⟩, e.A, e.n, e.c⟩] rfl rfl (rd_adj rfl _) (by omega) (by have h1 := hbr.size; have h2 := hb3.size; simp; omega) ?_))
        intro A5 c5 w5 hap _
        have hr5 := upRow (hra3.bS (BAL.out W3 _)) HOK.out ((hbr.trans (hb3.mono hbr.size)).trans ((BAL.out W3 _).mono (Nat.le_trans hbr.size hb3.size))) (a := ⟨e.s, pa, 0, 0⟩) (by rw [HQ.out]; exact upOf_ok HU64.out) (by rw [HQ.out]; exact upOf_s _ _ _) hap
        have hb5 : Below w1.heap.size w1 w5 := ((hbr.trans (hb3.mono hbr.size)).trans ((BAL.out W3 _).mono (Nat.le_trans hbr.size hb3.size))).trans (hap.below (by have h1 := hbr.size; have h2 := hb3.size; simp; omega) (fun k hk => (hra3.own_lt k hk).2))
        have HR5 := Lib.hid hr5
        clear hr5 hap hra3 lx
        go_wp2_with fail
        exact ⟨⟨i + 1, A5, c5, _, by omega, rfl, by go_num, Lib.hid (by rw [List.map_append, HL.out, upsTo_step HSX.out]; exact congrArg (fun q => upsTo U i ++ [q]) HQ.out), HR5.out, hb5⟩, by simp only [intOf]; omega⟩
    · have hlt' : decide ((i : Int) < (m : Int)) = false := by simp; omega
      obtain rfl : i = m := by omega
      go_wp2_with fail
      go_ret
      have hra0 : RowA wr w.heap.size (.slice A' i c') i l' := ⟨own_baseA hra.own HB1.out.size, hra.len, hra.ok, hra.far⟩
      exact ⟨A', c', i, l', rfl, HL.out.trans (by rw [HMU.out]), hra0, HB1.out.trans (hbr.mono HB1.out.size)⟩
end Go.Proofs.Ytchpekidnbdpdaa


/- The document's layer 21: shift. -/
namespace Go.Proofs.Ytchpekidnbdpdaa
open Go.RowKit

/-- A span whose times may be. -/
structure Sp.Tim (s : Sp) : Prop where
  s0 : 0 ≤ s.start
  l0 : 0 ≤ s.length
  sum : s.start + s.length ≤ 4611686018427387903
set_option maxRecDepth 100000 in
set_option maxHeartbeats 4000000 in
theorem raShift {A1 A2 : Option Addr} {n1 c1 n2 c2 : Nat} (s : Sp) (p : Ad) (w : World) (hs : s.Tim) (hp : p.s.Tim) :
    Calls Try.prog 31 #[spV s A1 n1 c1, adV p A2 n2 c2] w fun e w' => e = .returned (.int .i64 (shiftS s p)) ∧ Below w.heap.size w w' := by
  have hb0 : Below w.heap.size w ((w.alloc (.cells (spC s A1 n1 c1) 32)).alloc (.cells (adC p A2 n2 c2) 47)) := ((Below.refl _ w).alloc (Nat.le_refl _) _).alloc (by simp) _
  have bk1 := (Bk.new w 32 (spC s A1 n1 c1)).alloc (.cells (adC p A2 n2 c2) 47)
  have bk2 := Bk.new (w.alloc (.cells (spC s A1 n1 c1) 32)) 47 (adC p A2 n2 c2)
  rw [World.size_alloc] at bk2
  obtain ⟨w1, hw1⟩ : ∃ w1, (w.alloc (.cells (spC s A1 n1 c1) 32)).alloc (.cells (adC p A2 n2 c2) 47) = w1 := ⟨_, rfl⟩
  obtain ⟨g, hg⟩ : ∃ g, w.heap.size = g := ⟨_, rfl⟩
  rw [hw1] at hb0 bk1 bk2
  rw [hg] at bk1 bk2
  have k4 : w1.cell? ⟨g, 4, none⟩ = some (.string s.service) := bk1.cell 4
  have k7 : w1.cell? ⟨g, 7, none⟩ = some (.int .i64 s.start) := bk1.cell 7
  have k8 : w1.cell? ⟨g, 8, none⟩ = some (.int .i64 s.length) := bk1.cell 8
  have j4 : w1.cell? ⟨g + 1, 4, none⟩ = some (.string p.s.service) := bk2.cell 4
  have j7 : w1.cell? ⟨g + 1, 7, none⟩ = some (.int .i64 p.s.start) := bk2.cell 7
  have j8 : w1.cell? ⟨g + 1, 8, none⟩ = some (.int .i64 p.s.length) := bk2.cell 8
  have j12 : w1.cell? ⟨g + 1, 12, none⟩ = some (.int .i64 p.shift) := bk2.cell 12
  obtain ⟨hs1, hs2, hs3⟩ := hs
  obtain ⟨hp1, hp2, hp3⟩ := hp
  obtain ⟨r, hr⟩ : ∃ r, shiftS s p = r := ⟨_, rfl⟩
  rw [hr]
  unfold shiftS at hr
  obtain ⟨sv, hsv⟩ : ∃ sv, s.service = sv := ⟨_, rfl⟩
  obtain ⟨pv, hpv⟩ : ∃ pv, p.s.service = pv := ⟨_, rfl⟩
  obtain ⟨a, ha⟩ : ∃ a, s.start = a := ⟨_, rfl⟩
  obtain ⟨b, hb⟩ : ∃ b, s.length = b := ⟨_, rfl⟩
  obtain ⟨x, hx⟩ : ∃ x, p.s.start = x := ⟨_, rfl⟩
  obtain ⟨y, hy⟩ : ∃ y, p.s.length = y := ⟨_, rfl⟩
  rw [hsv] at k4 hr
  rw [hpv] at j4 hr
  rw [ha] at k7 hr hs1 hs3
  rw [hb] at k8 hr hs2 hs3
  rw [hx] at j7 hr hp1 hp3
  rw [hy] at j8 hr hp2 hp3
  have HW := Lib.hid hw1
  have HG := Lib.hid hg
  have HR := Lib.hid hr
  clear hw1 hg hr bk1 bk2 hsv hpv ha hb hx hy
  go_enter Try.func31, Try.ntmps31
  go_upto_region 1 with fail
  rw [HW.out, HG.out]
  by_cases h1 : sv = pv
  · subst h1
    have hr := HR.out
    rw [if_pos rfl] at hr
    subst hr
    go_wp2_with fail
    go_ret
    exact ⟨rfl, hb0⟩
  have hr := HR.out
  rw [if_neg h1] at hr
  have HR2 := Lib.hid hr
  clear hr HR
  have h1' : (sv.toList == pv.toList) = false := by rw [strEq_of', decide_eq_false h1]
  go_wp2_with fail
  go_quiet (fail)
  go_wp2_with fail
  all_goals go_ret
  all_goals
    refine ⟨congrArg (fun v => Ending.returned (Value.int .i64 v)) ?_, below_drewN hb0 _⟩
    have h := HR2.out
    repeat' split at h
    all_goals omega
end Go.Proofs.Ytchpekidnbdpdaa


/- The document's layer 21: Adjust's memory; what moving keeps. -/
namespace Go.Proofs.Ytchpekidnbdpdaa
open Go.RowKit

/-- An adjusted span as Adjust keeps it. -/
structure AdGood (a : Ad) : Prop where
  tim : a.s.Tim
  lo : -4611686018427387904 ≤ a.shift
  hi : a.shift ≤ 4611686018427387904
  ok : a.Ok
theorem shiftS_rng {s : Sp} {p : Ad} (hs : s.Tim) (hp : AdGood p) : -4611686018427387904 ≤ shiftS s p ∧ shiftS s p ≤ 4611686018427387904 := by
  obtain ⟨h1, h2, h3⟩ := hs
  obtain ⟨⟨p1, p2, p3⟩, p4, p5, -⟩ := hp
  unfold shiftS
  split
  · exact ⟨p4, p5⟩
  · split
    · split <;> omega
    · split <;> omega
theorem AdGood.shift {x : Ad} (hx : AdGood x) {v : Int} (h0 : -4611686018427387904 ≤ v) (h1 : v ≤ 4611686018427387904) : AdGood ⟨x.s, x.up, v, x.flag⟩ :=
  ⟨hx.tim, h0, h1, hx.ok.1, hx.ok.2.1, by show (-9223372036854775808 : Int) ≤ v; omega, by show v ≤ (9223372036854775807 : Int); omega⟩
theorem AdGood.start {x : Ad} (hx : AdGood x) {v : Int} (h0 : 0 ≤ v) (h1 : v ≤ 4611686018427387903 - x.s.length) : AdGood ⟨{ x.s with start := v }, x.up, x.shift, x.flag⟩ :=
  ⟨⟨h0, hx.tim.l0, by show v + x.s.length ≤ _; omega⟩, hx.lo, hx.hi, hx.ok.1, hx.ok.2.1, hx.ok.2.2⟩
theorem mvAd_rng {x : Ad} (hx : AdGood x) (t : Int) : 0 ≤ min (max 0 t) (4611686018427387903 - x.s.length) ∧ min (max 0 t) (4611686018427387903 - x.s.length) ≤ 4611686018427387903 - x.s.length := by
  have h1 := hx.tim.l0
  have h2 := hx.tim.s0
  have h3 := hx.tim.sum
  omega
theorem mvAd_good {x y : Ad} (hx : AdGood x) (hy : AdGood y) : AdGood (mvAd x y) :=
  ((hx.shift (shiftS_rng hx.tim hy).1 (shiftS_rng hx.tim hy).2).start (mvAd_rng hx _).1 (mvAd_rng hx _).2)
theorem flatR_set {α : Type} {f : α → List Value} {k : Nat} (hf : ∀ x, (f x).length = k) {x x' : α} {j : Nat} {u : Value} (hj : j < k) (hx : f x' = (f x).set j u) :
    ∀ {l : List α} {i : Nat}, l[i]? = some x → (flatR f l).set (i * k + j) u = flatR f (l.set i x')
  | [], i, h => by simp at h
  | a :: l, 0, h => by
    simp at h
    subst h
    have e : flatR f (a :: l) = f a ++ flatR f l := rfl
    have e2 : flatR f ((a :: l).set 0 x') = f x' ++ flatR f l := rfl
    rw [e, e2, hx, Nat.zero_mul, Nat.zero_add, List.set_append_left _ _ (by rw [hf]; exact hj)]
  | a :: l, i + 1, h => by
    have ih := flatR_set hf hj hx (l := l) (i := i) (by simpa using h)
    have e : flatR f (a :: l) = f a ++ flatR f l := rfl
    have e2 : flatR f ((a :: l).set (i + 1) x') = f a ++ flatR f (l.set i x') := rfl
    have hk : (i + 1) * k = i * k + k := Nat.succ_mul _ _
    rw [e, e2, ← ih, List.set_append_right _ _ (by rw [hf]; omega), hf, show (i + 1) * k + j - k = i * k + j from by omega]
theorem own_besideA {w w' : World} {base n size : Nat} {e : TypeId} {v : Value} {xs : List Value} {row : Option Nat} (h : w.ownsRow base e size v n xs) (hg : w.grownBy w' row) (hne : ∀ k, v.ownBlock = some k → row ≠ some k) : w'.ownsRow base e size v n xs := by
  refine ⟨h.1, ?_⟩
  rcases h.2 with h0 | ⟨g, cap, cur, h1, h2, h3, h4⟩
  · exact .inl h0
  · refine .inr ⟨g, cap, cur, h1, h2, ?_, h4⟩
    rw [hg.block g (Array.getElem?_eq_some_iff.1 h3).1 (Ne.symm (hne g (by rw [h1]; rfl)))]
    exact h3
/-- Adjust's memory. -/
structure AjM (w W : World) (Ao : Option Addr) (co m D : Nat) (l : List AE) (ds : List Bool) : Prop where
  row : RowA W w.heap.size (.slice Ao m co) m l
  don : W.ownsRow w.heap.size 4 1 (.slice (some ⟨D, 0, none⟩) m m) m (ds.map Value.bool)
  ne : ∀ k, (Value.slice Ao m co).ownBlock = some k → k ≠ D
  far : ∀ e ∈ l, e.a.s.tags ≠ [] → ∀ a, e.A = some a → a.block ≠ D
  good : ∀ e ∈ l, AdGood e.a
  bel : Below w.heap.size w W
section
variable {w W W' : World} {Ao : Option Addr} {co m D : Nat} {l : List AE} {ds : List Bool}
theorem AjM.later (h : AjM w W Ao co m D l ds) (hb : Below W.heap.size W W') : AjM w W' Ao co m D l ds :=
  ⟨h.row.bS hb, ((App.refl h.don).later hb).own, h.ne, h.far, h.good, h.bel.trans (hb.mono h.bel.size)⟩
theorem AjM.dl (h : AjM w W Ao co m D l ds) : ds.length = m := by have := h.don.1; simpa using this
theorem AjM.base (h : AjM w W Ao co m D l ds) : w.heap.size ≤ D ∧ D < W.heap.size := by
  rcases h.don.2 with ⟨h1, _⟩ | ⟨g, cap, cur, h1, h2, h3, -⟩
  · cases h1
  · injection h1 with h4
    injection h4 with h5
    injection h5 with h6
    subst h6
    exact ⟨h2, (Array.getElem?_eq_some_iff.1 h3).1⟩
/-- One more is done. -/
theorem AjM.done (h : AjM w W Ao co m D l ds) (i : Nat) : AjM w (W.setCell ⟨D, i, none⟩ (.bool true)) Ao co m D l (ds.set i true) := by
  obtain ⟨h1, h2⟩ := h.don.stored i (.bool true)
  refine ⟨⟨own_besideA h.row.own h2 (fun k hk e => h.ne k hk (Option.some.inj e).symm), h.row.len, fun e he => ?_, h.row.far⟩, ?_, h.ne, h.far, h.good, h.bel.setCell (p := ⟨D, i, none⟩) h.base.1 _⟩
  · have ho := h.row.ok e he
    refine ⟨?_, ho.len, ho.max, ho.ok⟩
    by_cases ht : e.a.s.tags = []
    · rw [ht]; exact Rd.nil
    · exact ho.rd.grownS h2 fun a ha e1 => h.far e he ht a ha (Option.some.inj e1).symm
  · rw [List.map_set]
    exact h1
/-- One cell of a span is put. -/
theorem AjM.put {g co' i j : Nat} {e e' : AE} {u : Value} (h : AjM w W (some ⟨g, 0, none⟩) co' m D l ds) (hi : l[i]? = some e) (hj : j < 14) (hC : aeC e' = (aeC e).set j u) (hs : e'.a.s.tags = e.a.s.tags) (hA : e'.A = e.A) (hn : e'.n = e.n) (hg : AdGood e'.a) :
    AjM w (W.setCell ⟨g, i * 14 + j, none⟩ u) (some ⟨g, 0, none⟩) co' m D (l.set i e') ds := by
  obtain ⟨h1, h2⟩ := h.row.own.stored (i * 14 + j) u
  rw [flatR_set aeC_length hj hC hi] at h1
  have hgD := h.ne g rfl
  have hgb := (h.row.own_lt g rfl).2
  have hmem : ∀ x ∈ l.set i e', ∃ y ∈ l, x.a.s.tags = y.a.s.tags ∧ x.A = y.A ∧ x.n = y.n ∧ AdGood x.a := fun x hx => by
    rcases List.mem_or_eq_of_mem_set hx with hx | rfl
    · exact ⟨x, hx, rfl, rfl, rfl, h.good x hx⟩
    · exact ⟨e, List.mem_of_getElem? hi, hs, hA, hn, hg⟩
  refine ⟨⟨h1, by rw [List.length_set]; exact h.row.len, fun x hx => ?_, fun x hx ht a ha => ?_⟩, own_besideA h.don h2 (fun k hk e1 => hgD (by rw [Option.some.inj e1]; exact (Option.some.inj hk).symm)), h.ne, fun x hx ht a ha => ?_, fun x hx => ?_, h.bel.setCell (p := ⟨g, i * 14 + j, none⟩) hgb _⟩
  · obtain ⟨y, hy, e1, e2, e3, e4⟩ := hmem x hx
    have ho := h.row.ok y hy
    refine ⟨?_, by rw [e1, e3]; exact ho.len, by rw [e3]; exact ho.max, e4.ok⟩
    rw [e1, e2]
    by_cases ht : y.a.s.tags = []
    · rw [ht]; exact Rd.nil
    · exact ho.rd.grownS h2 fun a ha => h.row.far y hy ht a ha
  · obtain ⟨y, hy, e1, e2, e3, e4⟩ := hmem x hx
    exact h.row.far y hy (by rw [← e1]; exact ht) a (by rw [← e2]; exact ha)
  · obtain ⟨y, hy, e1, e2, e3, e4⟩ := hmem x hx
    exact h.far y hy (by rw [← e1]; exact ht) a (by rw [← e2]; exact ha)
  · obtain ⟨y, hy, e1, e2, e3, e4⟩ := hmem x hx
    exact e4
end
set_option maxRecDepth 100000 in
theorem loadK_tr {w : World} {b o : Nat} {e : El} (h : ∀ j, j < 11 → w.cell? ⟨b, o + j, none⟩ = (elC e)[j]?) : (loadK 29 ⟨b, o, none⟩).run Try.prog w = .ok (.agg #[.int .u64 e.s.hi, .int .u64 e.s.lo]) w :=
  run_loadVar_cells w _ _ ⟨b, o, none⟩ [.int .u64 e.s.hi, .int .u64 e.s.lo] Try.underlying29 rfl (by rfl) (fun j v hv => by
    have hj : j < 2 := (List.getElem?_eq_some_iff.1 hv).1
    rw [Addr.add_lit, h j (by omega)]
    match j, hj, hv with
    | 0, _, hv => exact hv
    | 1, _, hv => exact hv)
theorem neqTrc (W : World) (h1 l1 h2 l2 : Nat) : (binOp .neq 29 (.agg #[.int .u64 h1, .int .u64 l1]) (.agg #[.int .u64 h2, .int .u64 l2])).run Try.prog W = .ok (.bool (!(decide (h1 = h2) && decide (l1 = l2)))) W := by
  by_cases e1 : h1 = h2
  · subst e1
    by_cases e2 : l1 = l2
    · subst e2
      simp only [decide_true, Bool.and_self, Bool.not_true]
      have e : ((h1 : Int) == (h1 : Int)) = true := by simp
      have e' : ((l1 : Int) == (l1 : Int)) = true := by simp
      go_simp
    · have e : ((l1 : Int) == (l2 : Int)) = false := by simp; omega
      simp only [e2, decide_false, Bool.and_false, Bool.not_false]
      go_simp
  · have e : ((h1 : Int) == (h2 : Int)) = false := by simp; omega
    simp only [e1, decide_false, Bool.false_and, Bool.not_false]
    go_simp
end Go.Proofs.Ytchpekidnbdpdaa


/- Spans, the document's answer: plain, Text, Check. -/
namespace Go.Proofs.Ytchpekidnbdpdaa
open Go.RowKit

set_option maxHeartbeats 400000 in
theorem rPlain (w : World) (s : ByteArray) (hm : s.size ≤ 1000000) :
    Calls Try.prog 54 #[.string s] w fun e w' => e = .returned (.bool (plainB s)) ∧ w' = w := by
  obtain ⟨q, hq⟩ : ∃ q, plainB s = q := ⟨_, rfl⟩
  rw [hq]
  have HQ := Lib.hid hq
  clear hq
  go_enter Try.func54, Try.ntmps54
  go_wp2
  go_loop [3] (fun iv_ => ∃ k : Nat, k ≤ s.size ∧ iv_ = .int .i64 k ∧ ((nums s).take k).all (fun x => decide (32 ≤ x) && decide (x ≤ 126)) = true) (fun i => s.size - (intOf i).toNat)
  case atStart => exact ⟨0, by omega, rfl, rfl⟩
  case round =>
    obtain ⟨k, hk, rfl, hall⟩ := hrel
    have HA := Lib.hid hall
    clear hall
    by_cases hlt : k < s.size
    · have hlt' : (k : Int) < (s.size : Int) := by omega
      obtain ⟨z, hz⟩ : ∃ z : Int, z = ((s[k]'hlt).toNat : Int) := ⟨_, rfl⟩
      have hzz : ((s[k]'hlt).toNat : Int) = z := hz.symm
      have HZ : Hid ((nums s)[k]? = some z) := by rw [hz]; exact nums_get hlt
      clear hz
      by_cases h1 : z < 32
      · go_wp2
        go_ret
        have : q = false := by
          rw [← HQ.out, plainB, List.all_eq_false]
          exact ⟨z, List.mem_of_getElem? HZ.out, by simp; omega⟩
        exact ⟨by rw [this]; rfl, rfl⟩
      have h1' : decide (z < 32) = false := by simp; omega
      by_cases h2 : 126 < z
      · go_wp2
        go_ret
        have : q = false := by
          rw [← HQ.out, plainB, List.all_eq_false]
          exact ⟨z, List.mem_of_getElem? HZ.out, by simp; omega⟩
        exact ⟨by rw [this]; rfl, rfl⟩
      have h2' : decide (126 < z) = false := by simp; omega
      go_wp2
      go_round
      case rel => exact ⟨k + 1, by omega, by go_num, by rw [take_snoc HZ.out, List.all_append, HA.out]; simp; omega⟩
      case measure => simp [intOf]; omega
    · have hlt' : decide ((k : Int) < (s.size : Int)) = false := by simp; omega
      go_wp2
      go_ret
      have : q = true := by
        rw [← HQ.out, plainB]
        have h1 := HA.out
        rwa [List.take_of_length_le (by rw [nums_len]; omega)] at h1
      exact ⟨by rw [this]; rfl, rfl⟩

/-- The head's ways, in the order of the document's answer. -/
def HeadWays (s : Sp) : Prop :=
  (headB s = false ∧ ((s.hi = 0 ∧ s.lo = 0) ∨ ((s.hi ≠ 0 ∨ s.lo ≠ 0) ∧ (s.id = 0 ∨ s.id ≠ 0 ∧ (s.service.size = 0 ∨ 0 < s.service.size ∧ (s.name.size = 0 ∨ 0 < s.name.size ∧ (plainB s.service = false ∨ plainB s.service = true ∧ (plainB s.name = false ∨ plainB s.name = true ∧
    (s.kind < 0 ∨ 0 ≤ s.kind ∧ (5 < s.kind ∨ s.kind ≤ 5 ∧ (s.start < 0 ∨ 0 ≤ s.start ∧ (s.length < 0 ∨ 0 ≤ s.length ∧ (4611686018427387903 < s.start ∨ s.start ≤ 4611686018427387903 ∧ 4611686018427387903 - s.start < s.length))))))))))))) ∨
  (headB s = true ∧ (s.hi ≠ 0 ∨ s.lo ≠ 0) ∧ s.id ≠ 0 ∧ 0 < s.service.size ∧ 0 < s.name.size ∧ plainB s.service = true ∧ plainB s.name = true ∧ 0 ≤ s.kind ∧ s.kind ≤ 5 ∧ 0 ≤ s.start ∧ 0 ≤ s.length ∧ s.start ≤ 4611686018427387903 ∧ s.length ≤ 4611686018427387903 - s.start)
theorem headWays (s : Sp) (h1 : s.service.size ≤ 128) (h2 : s.name.size ≤ 128) : HeadWays s := by
  have e1 : nameB s.service = (decide (0 < s.service.size) && plainB s.service) := by simp [nameB, txtB, h1]
  have e2 : nameB s.name = (decide (0 < s.name.size) && plainB s.name) := by simp [nameB, txtB, h2]
  unfold HeadWays
  cases hh : headB s with
  | true =>
    rw [headB, e1, e2] at hh
    simp only [Bool.and_eq_true, Bool.or_eq_true, decide_eq_true_eq, ne_eq] at hh
    obtain ⟨⟨⟨⟨⟨⟨⟨⟨⟨a0, a1⟩, a2, a3⟩, a4, a5⟩, a6⟩, a7⟩, a8⟩, a9⟩, a10⟩, a11⟩ := hh
    exact .inr ⟨rfl, a0, a1, a2, a4, a3, a5, a6, a7, a8, a9, a10, a11⟩
  | false =>
    refine .inl ⟨rfl, ?_⟩
    by_cases a0 : s.hi = 0 ∧ s.lo = 0
    · exact .inl a0
    refine .inr ⟨by omega, ?_⟩
    by_cases a1 : s.id = 0
    · exact .inl a1
    refine .inr ⟨a1, ?_⟩
    by_cases a2 : s.service.size = 0
    · exact .inl a2
    refine .inr ⟨by omega, ?_⟩
    by_cases a3 : s.name.size = 0
    · exact .inl a3
    refine .inr ⟨by omega, ?_⟩
    cases a4 : plainB s.service with
    | false => exact .inl rfl
    | true =>
    refine .inr ⟨rfl, ?_⟩
    cases a5 : plainB s.name with
    | false => exact .inl rfl
    | true =>
    refine .inr ⟨rfl, ?_⟩
    by_cases a6 : s.kind < 0
    · exact .inl a6
    refine .inr ⟨by omega, ?_⟩
    by_cases a7 : 5 < s.kind
    · exact .inl a7
    refine .inr ⟨by omega, ?_⟩
    by_cases a8 : s.start < 0
    · exact .inl a8
    refine .inr ⟨by omega, ?_⟩
    by_cases a9 : s.length < 0
    · exact .inl a9
    refine .inr ⟨by omega, ?_⟩
    by_cases a10 : 4611686018427387903 < s.start
    · exact .inl a10
    refine .inr ⟨by omega, ?_⟩
    by_cases a11 : 4611686018427387903 - s.start < s.length
    · exact a11
    rw [headB, e1, e2] at hh
    have : (decide (s.hi ≠ 0) || decide (s.lo ≠ 0)) = true := by simp; omega
    rw [this, a4, a5] at hh
    simp at hh
    omega
theorem tagsOk_false {l : List Tg} {j n : Nat} (h : tagOk l j = false) (hj : j < n) : tagsOk l n = false := by
  rw [tagsOk, List.all_eq_false]
  exact ⟨j, List.mem_range.2 hj, by simp [h]⟩
end Go.Proofs.Ytchpekidnbdpdaa


/- Spans, the document's answer: Check. -/
namespace Go.Proofs.Ytchpekidnbdpdaa
open Go.RowKit

set_option maxRecDepth 100000 in
set_option maxHeartbeats 8000000 in
/-- Check. -/
theorem rSpCheck {A : Option Addr} {c n B : Nat} (s : Sp) (w : World) (hf : RbT w B A s.tags) (hn : s.tags.length = n) (hB : B ≤ w.heap.size) (hnl : n ≤ 9223372036854775807) :
    Calls Try.prog 30 #[spV s A n c] w fun e w' => e = .returned (.int .i64 (spChk s)) ∧ Below w.heap.size w w' := by
  have hb0 : Below w.heap.size w (w.alloc (.cells (spC s A n c) 32)) := (Below.refl _ w).alloc (Nat.le_refl _) _
  have hf1 := Rd.alloc hf hB (.cells (spC s A n c) 32)
  have bk := Bk.new w 32 (spC s A n c)
  obtain ⟨w1, hw1⟩ : ∃ w1, w.alloc (.cells (spC s A n c) 32) = w1 := ⟨_, rfl⟩
  rw [hw1] at hb0 hf1 bk
  have HW := Lib.hid hw1
  obtain ⟨g, hg⟩ : ∃ g, w.heap.size = g := ⟨_, rfl⟩
  rw [hg] at bk
  have HG := Lib.hid hg
  obtain ⟨q, hq⟩ : ∃ q, spChk s = q := ⟨_, rfl⟩
  rw [hq]
  have HQ := Lib.hid hq
  have HN := Lib.hid hn
  have HB0 := Lib.hid hb0
  have HF1 := Lib.hid hf1
  have k0 : w1.cell? ⟨g, 0, none⟩ = some (.int .u64 s.hi) := bk.cell 0
  have k1 : w1.cell? ⟨g, 1, none⟩ = some (.int .u64 s.lo) := bk.cell 1
  have k2 : w1.cell? ⟨g, 2, none⟩ = some (.int .u64 s.id) := bk.cell 2
  have k4 : w1.cell? ⟨g, 4, none⟩ = some (.string s.service) := bk.cell 4
  have k5 : w1.cell? ⟨g, 5, none⟩ = some (.string s.name) := bk.cell 5
  have k6 : w1.cell? ⟨g, 6, none⟩ = some (.int .i64 s.kind) := bk.cell 6
  have k7 : w1.cell? ⟨g, 7, none⟩ = some (.int .i64 s.start) := bk.cell 7
  have k8 : w1.cell? ⟨g, 8, none⟩ = some (.int .i64 s.length) := bk.cell 8
  have k10 : w1.cell? ⟨g, 10, none⟩ = some (.slice A n c) := bk.cell 10
  obtain ⟨h0, hh0⟩ : ∃ h0, (decide (128 < s.service.size) || decide (128 < s.name.size) || decide (16 < n)) = h0 := ⟨_, rfl⟩
  have hlb : longB s = (h0 || s.tags.any tgLong) := by rw [longB, hn, hh0]
  have HLB := Lib.hid hlb
  have HH0 := Lib.hid hh0
  have HKK := Lib.hid (And.intro k0 (And.intro k1 (And.intro k2 (And.intro k4 (And.intro k5 (And.intro k6 (And.intro k7 k8)))))))
  have hsplit : (128 < s.service.size ∧ h0 = true) ∨ (s.service.size ≤ 128 ∧ 128 < s.name.size ∧ h0 = true) ∨ (s.service.size ≤ 128 ∧ s.name.size ≤ 128 ∧ 16 < n ∧ h0 = true) ∨ (s.service.size ≤ 128 ∧ s.name.size ≤ 128 ∧ n ≤ 16 ∧ h0 = false) := by
    rw [← hh0]
    by_cases a1 : 128 < s.service.size
    · exact .inl ⟨a1, by simp [a1]⟩
    by_cases a2 : 128 < s.name.size
    · exact .inr (.inl ⟨by omega, a2, by simp [a2]⟩)
    by_cases a3 : 16 < n
    · exact .inr (.inr (.inl ⟨by omega, by omega, a3, by simp [a3]⟩))
    · exact .inr (.inr (.inr ⟨by omega, by omega, by omega, by simp; omega⟩))
  clear hw1 hg hq hn hb0 hf1 hf bk hh0 hlb k0 k1 k2 k6 k7 k8
  rcases hsplit with ⟨a1, a0⟩ | ⟨a1, a2, a0⟩ | ⟨a1, a2, a3, a0⟩ | ⟨a1, a2, a3, a0⟩
  case inr.inr.inr =>
    subst a0
    have b1 : decide ((128 : Int) < (s.service.size : Int)) = false := by simp; omega
    have b2 : decide ((128 : Int) < (s.name.size : Int)) = false := by simp; omega
    have b3 : decide ((16 : Int) < (n : Int)) = false := by simp; omega
    go_enter Try.func30, Try.ntmps30
    go_upto_region 1 with fail
    rw [HW.out, HG.out]
    go_wp2
    go_loop [3, 4] (fun lv_ iv_ => ∃ j : Nat, j ≤ n ∧ iv_ = .int .i64 j ∧ lv_ = .bool ((s.tags.take j).any tgLong)) (fun _ i => n - (intOf i).toNat)
    case atStart => exact ⟨0, by omega, rfl, rfl⟩
    case round =>
      obtain ⟨j, hj, rfl, rfl⟩ := hrel
      obtain ⟨f, hf⟩ : ∃ f, (s.tags.take j).any tgLong = f := ⟨_, rfl⟩
      rw [hf]
      have HF := Lib.hid hf
      clear hf
      by_cases hlt : j < n
      · have hlt' : (j : Int) < (n : Int) := by omega
        obtain ⟨x, hx⟩ : ∃ x, s.tags[j]? = some x := ⟨_, List.getElem?_eq_getElem (by rw [HN.out]; exact hlt)⟩
        obtain ⟨b, o, rfl, hbb, c1, c2⟩ := RbT.get HF1.out hx
        have hst : (s.tags.take (j + 1)).any tgLong = (f || tgLong x) := by rw [take_snoc hx, List.any_append, HF.out]; simp
        clear hx
        cases f with
        | true =>
          have h9 : (s.tags.take (j + 1)).any tgLong = true := by rw [hst]; rfl
          have HST := Lib.hid h9
          clear hst h9
          go_wp2
          go_round
          case rel => exact ⟨j + 1, by omega, by go_num, by rw [HST.out]⟩
          case measure => simp [intOf]; omega
        | false =>
          by_cases e1 : 128 < x.key.size
          · have e1' : (128 : Int) < (x.key.size : Int) := by omega
            have h9 : (s.tags.take (j + 1)).any tgLong = true := by rw [hst, tgLong, decide_eq_true e1]; simp
            have HST := Lib.hid h9
            clear hst h9
            go_wp2
            go_round
            case rel => exact ⟨j + 1, by omega, by go_num, by rw [HST.out]⟩
            case measure => simp [intOf]; omega
          have e1' : decide ((128 : Int) < (x.key.size : Int)) = false := by simp; omega
          by_cases e2 : 128 < x.val.size
          · have e2' : (128 : Int) < (x.val.size : Int) := by omega
            have h9 : (s.tags.take (j + 1)).any tgLong = true := by rw [hst, tgLong, decide_eq_true e2]; simp
            have HST := Lib.hid h9
            clear hst h9
            go_wp2
            go_round
            case rel => exact ⟨j + 1, by omega, by go_num, by rw [HST.out]⟩
            case measure => simp [intOf]; omega
          have e2' : decide ((128 : Int) < (x.val.size : Int)) = false := by simp; omega
          have h9 : (s.tags.take (j + 1)).any tgLong = false := by rw [hst, tgLong, decide_eq_false e1, decide_eq_false e2]; rfl
          have HST := Lib.hid h9
          clear hst h9
          go_wp2
          go_round
          case rel => exact ⟨j + 1, by omega, by go_num, by rw [HST.out]⟩
          case measure => simp [intOf]; omega
      · have hlt' : decide ((j : Int) < (n : Int)) = false := by simp; omega
        obtain rfl : j = n := by omega
        have hf := HF.out
        rw [List.take_of_length_le (by rw [HN.out]; omega)] at hf
        have hlb : longB s = f := by rw [HLB.out, hf]; rfl
        clear HF
        cases f with
        | true =>
          have hq3 : q = 3 := by rw [← HQ.out, spChk, if_pos hlb]
          have HQ3 := Lib.hid hq3
          clear hlb hq3 hf
          go_wp2
          go_ret
          exact ⟨by rw [HQ3.out]; rfl, HB0.out⟩
        | false =>
          obtain ⟨k0, k1, k2, k4', k5', k6, k7, k8⟩ := HKK.out
          have hq2 : q = if headB s && tagsOk s.tags j then 0 else 2 := by rw [← HQ.out, spChk, if_neg (by rw [hlb]; simp), HN.out]
          have HQ2 := Lib.hid hq2
          have hw := headWays s a1 a2
          clear hlb hq2
          rcases hw with ⟨hh, hw⟩ | ⟨hh, a0, a1', a2', a3', a4, a5, a6, a7, a8, a9, a10, a11⟩
          · have hq2 : q = 2 := by rw [HQ2.out, hh]; rfl
            have HQ3 := Lib.hid hq2
            clear hh hq2 HQ2 hf
            rcases hw with ⟨a0, a0'⟩ | ⟨a0, a1' | ⟨a1', a2' | ⟨a2', a3' | ⟨a3', a4 | ⟨a4, a5 | ⟨a5, a6 | ⟨a6, a7 | ⟨a7, a8 | ⟨a8, a9 | ⟨a9, a10 | ⟨a10, a11⟩⟩⟩⟩⟩⟩⟩⟩⟩⟩⟩
            all_goals first
              | (have d1 : ((s.id : Int) == 0) = false := by rw [beq_eq_false_iff_ne]; omega)
              | (have d1 : ((s.id : Int) == 0) = true := by rw [a1']; rfl)
              | skip
            all_goals first
              | (have d2 : (s.service.toList == []) = false := by rw [str_empty, decide_eq_false_iff_not]; omega)
              | (have d2 : (s.service.toList == []) = true := by rw [str_empty, decide_eq_true_iff]; omega)
              | skip
            all_goals first
              | (have d3 : (s.name.toList == []) = false := by rw [str_empty, decide_eq_false_iff_not]; omega)
              | (have d3 : (s.name.toList == []) = true := by rw [str_empty, decide_eq_true_iff]; omega)
              | skip
            all_goals
              go_wp2_with (go_at_call 54; refine (rPlain _ _ (by omega)).mono ?_; rintro e w' ⟨rfl, hw⟩; rw [hw]; clear hw w'; first | rw [a4] | rw [a5])
              all_goals go_ret
              all_goals exact ⟨by rw [HQ3.out]; rfl, HB0.out⟩
          · have hq2 : q = if tagsOk s.tags j = true then 0 else 2 := by rw [HQ2.out, hh]; rfl
            have HQ3 := Lib.hid hq2
            have hlg : ∀ x ∈ s.tags, x.key.size ≤ 128 ∧ x.val.size ≤ 128 := fun x hx => by
              have := List.any_eq_false.1 hf x hx
              simp only [tgLong, Bool.or_eq_true, decide_eq_true_eq, not_or] at this
              omega
            have HLG := Lib.hid hlg
            have d1 : ((s.id : Int) == 0) = false := by rw [beq_eq_false_iff_ne]; omega
            have d2 : (s.service.toList == []) = false := by rw [str_empty, decide_eq_false_iff_not]; omega
            have d3 : (s.name.toList == []) = false := by rw [str_empty, decide_eq_false_iff_not]; omega
            clear hh hq2 HQ2 hlg hf
            go_wp2_with (go_at_call 54; refine (rPlain _ _ (by omega)).mono ?_; rintro e w' ⟨rfl, hw⟩; rw [hw]; clear hw w'; first | rw [a4] | rw [a5])
            all_goals
              clear k0 k1 k2 k4 k5 k6 k7 k8 k4' k5' d1 d2 d3 a0 a1' a2' a3' a4 a5 a6 a7 a8 a9 a10 a11
              go_loopw [5] (fun iv_ wr => ∃ i : Nat, i ≤ j ∧ iv_ = .int .i64 i ∧ tagsOk s.tags i = true ∧ ∃ d, wr = w1.drewN d) (fun i _ => j - (intOf i).toNat)
              case atStart => exact ⟨0, by omega, rfl, rfl, 0, rfl⟩
              case round =>
                obtain ⟨i, hi, rfl, hall, d, rfl⟩ := hrel
                have HA := Lib.hid hall
                clear hall
                have k10' : (w1.drewN d).cell? ⟨g, 10, none⟩ = some (.slice A j c) := k10
                by_cases hlt : i < j
                · have hlt' : (i : Int) < (j : Int) := by omega
                  obtain ⟨x, hx⟩ : ∃ x, s.tags[i]? = some x := ⟨_, List.getElem?_eq_getElem (by rw [HN.out]; exact hlt)⟩
                  obtain ⟨b, o, rfl, hbb, c1, c2⟩ := RbT.get HF1.out hx
                  have c1' : (w1.drewN d).cell? ⟨b, o + i * 2, none⟩ = some (.string x.key) := c1
                  have c2' : (w1.drewN d).cell? ⟨b, o + i * 2 + 1, none⟩ = some (.string x.val) := c2
                  go_wp2_with fail
                  have hlg := HLG.out x (List.mem_of_getElem? hx)
                  have hat := tagOk_at hx
                  have hsucc := tagsOk_succ s.tags i
                  rw [HA.out, hat] at hsucc
                  have hbad : tagOk s.tags i = false → q = 2 := fun h => by rw [HQ3.out, tagsOk_false h hlt]; rfl
                  rw [hat] at hbad
                  have en : nameB x.key = (decide (0 < x.key.size) && plainB x.key) := by simp [nameB, txtB, hlg.1]
                  have et : txtB x.val = plainB x.val := by simp [txtB, hlg.2]
                  rw [en, et] at hsucc hbad
                  clear hat en et
                  have hlg1 := hlg.1
                  have hlg2 := hlg.2
                  by_cases z0 : x.key.size = 0
                  · have d2 : (x.key.toList == []) = true := by rw [str_empty, decide_eq_true_iff]; omega
                    have hq2 := hbad (by rw [decide_eq_false (by omega)]; rfl)
                    have HQ4 := Lib.hid hq2
                    clear hq2 hbad hsucc hx hlg z0
                    go_quiet (fail)
                    go_wp2
                    go_ret
                    exact ⟨by rw [HQ4.out]; rfl, below_drewN (below_drewN HB0.out d) _⟩
                  have d2 : (x.key.toList == []) = false := by rw [str_empty, decide_eq_false_iff_not]; omega
                  rw [decide_eq_true (show 0 < x.key.size by omega), Bool.true_and] at hsucc hbad
                  obtain ⟨n1, hn1⟩ : ∃ n1, plainB x.key = n1 := ⟨_, rfl⟩
                  have cN : ∀ W', Calls Try.prog 54 #[.string x.key] W' fun e w' => e = .returned (.bool n1) ∧ w' = W' := by intro W'; have := rPlain W' x.key (by omega); rwa [hn1] at this
                  obtain ⟨n2, hn2⟩ : ∃ n2, plainB x.val = n2 := ⟨_, rfl⟩
                  have cT : ∀ W', Calls Try.prog 54 #[.string x.val] W' fun e w' => e = .returned (.bool n2) ∧ w' = W' := by intro W'; have := rPlain W' x.val (by omega); rwa [hn2] at this
                  rw [hn1, hn2] at hsucc hbad
                  clear hn1 hn2
                  cases n1 with
                  | false =>
                    have hq2 := hbad rfl
                    have HQ4 := Lib.hid hq2
                    clear hq2 hbad hsucc hx hlg z0
                    go_quiet ((go_at_call_of 54 (Value.string x.key); go_loud (exact (cN _).mono (fun _ _ h => ⟨h.1, _, h.2⟩))))
                    go_wp2
                    go_ret
                    exact ⟨by rw [HQ4.out]; rfl, below_drewN (below_drewN HB0.out d) _⟩
                  | true =>
                  cases n2 with
                  | false =>
                    have hq2 := hbad rfl
                    have HQ4 := Lib.hid hq2
                    clear hq2 hbad hsucc hx hlg z0
                    go_quiet (first
                      | (go_at_call_of 54 (Value.string x.key); go_loud (exact (cN _).mono (fun _ _ h => ⟨h.1, _, h.2⟩)))
                      | (go_at_call_of 54 (Value.string x.val); go_loud (exact (cT _).mono (fun _ _ h => ⟨h.1, _, h.2⟩))))
                    go_wp2
                    go_ret
                    exact ⟨by rw [HQ4.out]; rfl, below_drewN (below_drewN HB0.out d) _⟩
                  | true =>
                  cases i with
                  | zero =>
                    have HST := Lib.hid (show tagsOk s.tags (0 + 1) = true from hsucc)
                    have z1 : (0 : Int) < (j : Int) := by omega
                    have z2 : 0 < j := by omega
                    have c3 : w1.cell? ⟨b, o, none⟩ = some (.string x.key) := by simpa using c1
                    have c4 : w1.cell? ⟨b, o + 1, none⟩ = some (.string x.val) := by simpa using c2
                    have c3' : (w1.drewN d).cell? ⟨b, o, none⟩ = some (.string x.key) := c3
                    have c4' : (w1.drewN d).cell? ⟨b, o + 1, none⟩ = some (.string x.val) := c4
                    clear hbad hsucc hx hlg z0
                    go_quiet (first
                      | (go_at_call_of 54 (Value.string x.key); go_loud (exact (cN _).mono (fun _ _ h => ⟨h.1, _, h.2⟩)))
                      | (go_at_call_of 54 (Value.string x.val); go_loud (exact (cT _).mono (fun _ _ h => ⟨h.1, _, h.2⟩))))
                    go_wp2
                    go_roundw
                    case rel => exact ⟨0 + 1, by omega, by go_num, HST.out, _, rfl⟩
                    case measure => simp [intOf]; omega
                  | succ k =>
                    obtain ⟨u, hu⟩ : ∃ u, s.tags[k]? = some u := ⟨_, List.getElem?_eq_getElem (by rw [HN.out]; omega)⟩
                    obtain ⟨b', o', e', _, p1, _⟩ := RbT.get HF1.out hu
                    cases e'
                    have p1' : (w1.drewN d).cell? ⟨b, o + k * 2, none⟩ = some (.string u.key) := p1
                    have e1 : (k : Int) + 1 - 1 = (k : Int) := by omega
                    have e2 : ((k : Int) + 1 == 0) = false := by rw [beq_eq_false_iff_ne]; omega
                    have e3 : (0 : Int) < (k : Int) + 1 := by omega
                    have hkn : (k : Int) < (j : Int) := by omega
                    have hkn' : k < j := by omega
                    rw [show k + 1 - 1 = k from rfl, hu] at hsucc hbad
                    have hway := strLt_ways x.key u.key
                    clear hu hlg z0 hx
                    rcases hway with ⟨l1, -⟩ | ⟨l1, l2, -⟩ | ⟨l1, l2, -⟩
                    · have l2 : strLt u.key x.key = false := by
                        cases h2 : strLt u.key x.key with
                        | false => rfl
                        | true =>
                          rw [stw_ltb] at l1 h2
                          have := stw_tr _ _ _ l1 h2
                          rw [stw_irr] at this
                          cases this
                      have hq2 := hbad (by simp [l2])
                      have l3 : (x.key.toList == u.key.toList) = false := by
                        rw [strEq_of', decide_eq_false_iff_not]
                        intro e
                        rw [e] at l1
                        rw [e, l1] at l2
                        cases l2
                      unfold strLt at l1
                      clear l2
                      have HQ4 := Lib.hid hq2
                      clear hq2 hbad hsucc
                      go_quiet (first
                        | (go_at_call_of 54 (Value.string x.key); go_loud (exact (cN _).mono (fun _ _ h => ⟨h.1, _, h.2⟩)))
                        | (go_at_call_of 54 (Value.string x.val); go_loud (exact (cT _).mono (fun _ _ h => ⟨h.1, _, h.2⟩))))
                      go_wp2
                      go_ret
                      exact ⟨by rw [HQ4.out]; rfl, below_drewN (below_drewN HB0.out d) _⟩
                    · have l3 : (x.key.toList == u.key.toList) = false := by
                        rw [strEq_of', decide_eq_false_iff_not]
                        intro e
                        rw [e] at l1 l2
                        rw [l1] at l2
                        cases l2
                      have HST := Lib.hid (show tagsOk s.tags (k + 1 + 1) = true by rw [hsucc]; simp [l2])
                      unfold strLt at l1
                      clear hbad hsucc l2
                      go_quiet (first
                        | (go_at_call_of 54 (Value.string x.key); go_loud (exact (cN _).mono (fun _ _ h => ⟨h.1, _, h.2⟩)))
                        | (go_at_call_of 54 (Value.string x.val); go_loud (exact (cT _).mono (fun _ _ h => ⟨h.1, _, h.2⟩))))
                      go_wp2
                      go_roundw
                      case rel => exact ⟨k + 1 + 1, by omega, by go_num, HST.out, _, rfl⟩
                      case measure => simp [intOf]; omega
                    · have hq2 := hbad (by simp [l2])
                      have l3 : (x.key.toList == u.key.toList) = true := by
                        rw [strEq_of', decide_eq_true_iff]
                        rw [stw_ltb] at l1 l2
                        exact nums_inj (stw_tri _ _ l1 l2)
                      unfold strLt at l1
                      clear l2
                      have HQ4 := Lib.hid hq2
                      clear hq2 hbad hsucc
                      go_quiet (first
                        | (go_at_call_of 54 (Value.string x.key); go_loud (exact (cN _).mono (fun _ _ h => ⟨h.1, _, h.2⟩)))
                        | (go_at_call_of 54 (Value.string x.val); go_loud (exact (cT _).mono (fun _ _ h => ⟨h.1, _, h.2⟩))))
                      go_wp2
                      go_ret
                      exact ⟨by rw [HQ4.out]; rfl, below_drewN (below_drewN HB0.out d) _⟩
                · have hlt' : decide ((i : Int) < (j : Int)) = false := by simp; omega
                  obtain rfl : i = j := by omega
                  go_wp2
                  go_ret
                  exact ⟨by rw [HQ3.out, if_pos HA.out]; rfl, below_drewN HB0.out _⟩
  all_goals
    subst a0
    have hq3 : q = 3 := by rw [← HQ.out, spChk, if_pos (by rw [HLB.out]; rfl)]
    first
      | (have e1 : (128 : Int) < (s.service.size : Int) := by omega)
      | (have e1 : decide ((128 : Int) < (s.service.size : Int)) = false := by simp; omega)
    first
      | (have e2 : (128 : Int) < (s.name.size : Int) := by omega)
      | (have e2 : decide ((128 : Int) < (s.name.size : Int)) = false := by simp; omega)
      | skip
    first
      | (have e3 : (16 : Int) < (n : Int) := by omega)
      | skip
    have HQ3 := Lib.hid hq3
    clear hq3
    go_enter Try.func30, Try.ntmps30
    go_upto_region 1 with fail
    rw [HW.out, HG.out]
    go_wp2
    go_loop [3, 4] (fun lv_ iv_ => ∃ j : Nat, j ≤ n ∧ iv_ = .int .i64 j ∧ lv_ = .bool true) (fun _ i => n - (intOf i).toNat)
    case atStart => exact ⟨0, by omega, rfl, rfl⟩
    case round =>
      obtain ⟨j, hj, rfl, rfl⟩ := hrel
      by_cases hlt : j < n
      · have hlt' : (j : Int) < (n : Int) := by omega
        go_wp2
        go_round
        case rel => exact ⟨j + 1, by omega, by go_num, rfl⟩
        case measure => simp [intOf]; omega
      · have hlt' : decide ((j : Int) < (n : Int)) = false := by simp; omega
        go_wp2
        go_ret
        exact ⟨by rw [HQ3.out]; rfl, HB0.out⟩
end Go.Proofs.Ytchpekidnbdpdaa


/- The document's layer 21: Adjust. -/
namespace Go.Proofs.Ytchpekidnbdpdaa
open Go.RowKit
theorem loadSp_shutJ (a : Addr) : loadVar 32 a = loadK 32 a := rfl
attribute [local go_sem ↓] loadSp_shutJ
theorem loadAd_shutJ (a : Addr) : loadVar 47 a = loadK 47 a := rfl
attribute [local go_sem ↓] loadAd_shutJ
theorem loadTr_shutJ (a : Addr) : loadVar 29 a = loadK 29 a := rfl
attribute [local go_sem ↓] loadTr_shutJ

/-- What Adjust hands back. -/
def AdjPost (w : World) (r : List Ad × Nat) (e : Ending) (w' : World) : Prop :=
  ∃ A' c' l', e = .returned (.tuple #[.slice A' r.1.length c', .int .i64 r.2]) ∧ l'.map (·.a) = r.1 ∧ RbA w' w'.heap.size A' l' ∧ Below w.heap.size w w' ∧ r.1.length ≤ c'
theorem AdjPost.no {w w' : World} {q : Nat} (hb : Below w.heap.size w w') : AdjPost w ([], q) (.returned (.tuple #[.slice none 0 0, .int .i64 q])) w' := ⟨none, 0, [], rfl, rfl, RbA.nil, hb, Nat.le_refl _⟩
theorem spErr_drop {l : List Sp} {k : Nat} {x : Sp} (h : l[k]? = some x) : spErr (l.drop k) = if spChk x ≠ 0 then spChk x else spErr (l.drop (k + 1)) := by
  obtain ⟨hk, rfl⟩ := List.getElem?_eq_some_iff.1 h
  rw [List.drop_eq_getElem_cons hk, spErr]
theorem spErr_zero : ∀ {l : List Sp}, spErr l = 0 → ∀ x ∈ l, spChk x = 0
  | [], _, x, h => by cases h
  | y :: l, h, x, hx => by
    rw [spErr] at h
    by_cases h0 : spChk y ≠ 0
    · rw [if_pos h0] at h; exact absurd h h0
    · rw [if_neg h0] at h
      rcases List.mem_cons.1 hx with rfl | hx
      · exact Decidable.not_not.1 h0
      · exact spErr_zero h x hx
theorem spChk_parts {s : Sp} (h : spChk s = 0) : s.Tim ∧ s.tags.length ≤ 16 ∧ s.id ≠ 0 := by
  unfold spChk at h
  by_cases h1 : longB s = true
  · rw [if_pos h1] at h; omega
  rw [if_neg h1] at h
  cases h2 : (headB s && tagsOk s.tags s.tags.length) with
  | false => rw [h2] at h; simp at h
  | true =>
  rw [Bool.and_eq_true] at h2
  have hh := h2.1
  unfold headB at hh
  simp only [Bool.and_eq_true, Bool.or_eq_true, decide_eq_true_eq] at hh
  simp only [longB, Bool.or_eq_true, decide_eq_true_eq, not_or, Bool.not_eq_true] at h1
  obtain ⟨⟨⟨⟨⟨⟨⟨⟨⟨-, b0⟩, -⟩, -⟩, -⟩, -⟩, b1⟩, b2⟩, b3⟩, b4⟩ := hh
  exact ⟨⟨b1, b2, by omega⟩, by omega, b0⟩
theorem uniqTo_mem (l : List Sp) : ∀ i, ∀ x ∈ uniqTo l i, x ∈ l
  | 0, x, h => by simp [uniqTo] at h
  | i + 1, x, h => by
    rw [uniqTo] at h
    cases hl : l[i]? with
    | none => rw [hl] at h; exact uniqTo_mem l i x h
    | some y =>
      rw [hl] at h
      simp only at h
      split at h
      · rw [insAt] at h
        rcases List.mem_append.1 h with h | h
        · exact uniqTo_mem l i x (List.mem_of_mem_take h)
        · rcases List.mem_cons.1 h with rfl | h
          · exact List.mem_of_getElem? hl
          · exact uniqTo_mem l i x (List.mem_of_mem_drop h)
      · exact uniqTo_mem l i x h
theorem upsTo_len (u : List Sp) : ∀ i, i ≤ u.length → (upsTo u i).length = i
  | 0, _ => rfl
  | i + 1, h => by
    rw [upsTo_step (List.getElem?_eq_getElem (show i < u.length by omega)), List.length_append, upsTo_len u i (by omega)]
    rfl
theorem upsTo_mem (u : List Sp) : ∀ i, ∀ a ∈ upsTo u i, ∃ j x, u[j]? = some x ∧ a = upOf u j x
  | 0, a, h => by simp [upsTo] at h
  | i + 1, a, h => by
    rw [upsTo] at h
    cases hl : u[i]? with
    | none => rw [hl] at h; exact upsTo_mem u i a h
    | some y =>
      rw [hl] at h
      rcases List.mem_append.1 h with h | h
      · exact upsTo_mem u i a h
      · rw [List.mem_singleton] at h
        exact ⟨i, y, hl, h⟩
theorem upOf_shift (u : List Sp) (i : Nat) (x : Sp) : (upOf u i x).shift = 0 := by
  unfold upOf
  split
  · rfl
  · split
    · rfl
    · split <;> rfl
theorem oneTr_iff {l : List Sp} {h : Sp} (h0 : l[0]? = some h) : oneTr l = l.all fun y => decide (y.hi = h.hi) && decide (y.lo = h.lo) := by
  cases l with
  | nil => simp at h0
  | cons x l =>
    simp at h0
    subst h0
    rfl
theorem range_foldl_succ {α : Type} (f : α → Nat → α) (s : α) (k : Nat) : (List.range (k + 1)).foldl f s = f ((List.range k).foldl f s) k := by
  rw [List.range_succ, List.foldl_append]
  rfl
set_option maxRecDepth 100000 in
theorem loadK_aeSp {w : World} {b o : Nat} {e : AE} (h : ∀ j, j < 14 → w.cell? ⟨b, o + j, none⟩ = (aeC e)[j]?) : (loadK 32 ⟨b, o, none⟩).run Try.prog w = .ok (spV e.a.s e.A e.n e.c) w :=
  run_loadVar_cells w _ _ ⟨b, o, none⟩ (spC e.a.s e.A e.n e.c).toList Try.underlying32 rfl (by rfl) (fun j v hv => by
    have hj : j < 11 := (List.getElem?_eq_some_iff.1 hv).1
    rw [Addr.add_lit, h j (by omega), ← hv]
    have h14 : ∀ j, j < 11 → (aeC e)[j]? = (spC e.a.s e.A e.n e.c).toList[j]? := by
      intro j hj
      have : j = 0 ∨ j = 1 ∨ j = 2 ∨ j = 3 ∨ j = 4 ∨ j = 5 ∨ j = 6 ∨ j = 7 ∨ j = 8 ∨ j = 9 ∨ j = 10 := by omega
      rcases this with rfl | rfl | rfl | rfl | rfl | rfl | rfl | rfl | rfl | rfl | rfl <;> rfl
    exact h14 j hj)
theorem loadK_ae0 {w : World} {g k : Nat} {e : AE} (h : ∀ j, j < 14 → w.cell? ⟨g, k * 14 + j, none⟩ = (aeC e)[j]?) : (loadK 47 ⟨g, k * 14, none⟩).run Try.prog w = .ok (adV e.a e.A e.n e.c) w := by
  have h1 := loadK_ae (w := w) (b := g) (o := 0) (i := k) (e := e) (fun j hj => by rw [Nat.zero_add]; exact h j hj)
  rwa [Nat.zero_add] at h1
theorem boolinfo : (Try.prog.info? 4).map (fun i => (i.zero, i.size, i.bytes)) = some (some (.bool false), 1, 1) := by kernel_rfl
theorem ajK_skip {i k : Nat} {l : List AE} {ds : List Bool} {x y : AE} {dk : Bool} (hx : l[i]? = some x) (hy : l[k]? = some y) (hd : ds[k]? = some dk) (h : y.a.s.id ≠ x.a.up ∨ dk = false) : ajK i ⟨l.map (·.a), ds⟩ k = ⟨l.map (·.a), ds⟩ := by
  have h1 : (l.map (·.a))[i]? = some x.a := by simp [hx]
  have h2 : (l.map (·.a))[k]? = some y.a := by simp [hy]
  unfold ajK
  simp only [h1, h2, hd]
  cases dk with
  | false => rfl
  | true =>
    rcases h with h | h
    · simp only []
      rw [if_neg h]
    · cases h
theorem ajK_move {i k : Nat} {l : List AE} {ds : List Bool} {x y : AE} (hx : l[i]? = some x) (hy : l[k]? = some y) (hd : ds[k]? = some true) (h : y.a.s.id = x.a.up) : ajK i ⟨l.map (·.a), ds⟩ k = ⟨(l.set i ⟨mvAd x.a y.a, x.A, x.n, x.c⟩).map (·.a), ds.set i true⟩ := by
  have h1 : (l.map (·.a))[i]? = some x.a := by simp [hx]
  have h2 : (l.map (·.a))[k]? = some y.a := by simp [hy]
  unfold ajK
  simp only [h1, h2, hd]
  rw [if_pos h, List.map_set]
theorem ajI_skip {m i : Nat} {l : List AE} {ds : List Bool} {x : AE} (hx : l[i]? = some x) (hd : ds[i]? = some true) : ajI m ⟨l.map (·.a), ds⟩ i = ⟨l.map (·.a), ds⟩ := by
  have h1 : (l.map (·.a))[i]? = some x.a := by simp [hx]
  unfold ajI
  simp only [h1, hd]
theorem ajI_root {m i : Nat} {l : List AE} {ds : List Bool} {x : AE} (hx : l[i]? = some x) (hd : ds[i]? = some false) (h : x.a.up = 0) : ajI m ⟨l.map (·.a), ds⟩ i = ⟨l.map (·.a), ds.set i true⟩ := by
  have h1 : (l.map (·.a))[i]? = some x.a := by simp [hx]
  unfold ajI
  simp only [h1, hd]
  rw [if_pos h]
theorem ajI_look {m i : Nat} {l : List AE} {ds : List Bool} {x : AE} (hx : l[i]? = some x) (hd : ds[i]? = some false) (h : x.a.up ≠ 0) : ajI m ⟨l.map (·.a), ds⟩ i = (List.range m).foldl (ajK i) ⟨l.map (·.a), ds⟩ := by
  have h1 : (l.map (·.a))[i]? = some x.a := by simp [hx]
  unfold ajI
  simp only [h1, hd]
  rw [if_neg h]
theorem AjM.cells {w W : World} {g co m D i : Nat} {l : List AE} {ds : List Bool} {x : AE} (h : AjM w W (some ⟨g, 0, none⟩) co m D l ds) (hx : l[i]? = some x) :
    (∀ j, j < 14 → W.cell? ⟨g, i * 14 + j, none⟩ = (aeC x)[j]?) ∧ AeOk W W.heap.size x ∧ AdGood x.a := by
  obtain ⟨b, o, e1, -, hc, hok⟩ := h.row.rba.get hx
  cases e1
  refine ⟨fun j hj => ?_, hok, h.good x (List.mem_of_getElem? hx)⟩
  have h1 := hc j hj
  rwa [Nat.zero_add] at h1
theorem AjM.doneAt {w W : World} {Ao : Option Addr} {co m D i : Nat} {l : List AE} {ds : List Bool} {d : Bool} (h : AjM w W Ao co m D l ds) (hd : ds[i]? = some d) : W.cell? ⟨D, i, none⟩ = some (.bool d) ∧ W.frozen? ⟨D, i, none⟩ = false := by
  have hi : i < m := by rw [← h.dl]; exact (List.getElem?_eq_some_iff.1 hd).1
  refine ⟨?_, h.don.frozenAt i⟩
  rw [h.don.cellAt i (by omega), List.getElem?_map, hd]
  rfl
set_option maxRecDepth 100000 in
set_option maxHeartbeats 8000000 in
theorem raAdjustM {A : Option Addr} {c n B : Nat} (l : List El) (w : World) (hf : RbS w B A l) (hn : l.length = n) (hB : B ≤ w.heap.size) (hn1 : 1 ≤ n) (hnl : n ≤ 64) (hu : ∀ e ∈ l, e.s.U64) :
    Calls Try.prog 12 #[.slice A n c] w (AdjPost w (adjS (sps l))) := by
  obtain ⟨r, hr⟩ : ∃ r, adjS (sps l) = r := ⟨_, rfl⟩
  rw [hr]
  have hr1 : r = if spErr (sps l) ≠ 0 then ([], spErr (sps l)) else if oneTr (sps l) = false then ([], 2) else ((ajAll (ups (sps l))).o, 0) := by
    rw [← hr, adjS, if_neg (by rw [sps_length]; omega), if_neg (by rw [sps_length]; omega)]
  have HR := Lib.hid hr1
  have HN := Lib.hid hn
  have HU := Lib.hid hu
  obtain ⟨e0, he0⟩ : ∃ e, l[0]? = some e := ⟨_, List.getElem?_eq_getElem (by omega)⟩
  obtain ⟨b, o, eA, hbb, -, -⟩ := hf.get he0
  subst eA
  have HE0 := Lib.hid he0
  have HLE : Hid (∀ {W : World} {k : Nat} {e : El}, Below w.heap.size w W → l[k]? = some e → (loadK 32 ⟨b, o + k * 11, none⟩).run Try.prog W = .ok (spV e.s e.A e.n e.c) W ∧ ElOk W B e ∧ (loadK 29 ⟨b, o + k * 11, none⟩).run Try.prog W = .ok (.agg #[.int .u64 e.s.hi, .int .u64 e.s.lo]) W) := fun {W k e} hW he => by
    obtain ⟨b', o', e', -, hc', hok'⟩ := (hf.below (hW.mono hB)).get he
    cases e'
    exact ⟨loadK_el hc', hok', loadK_tr hc'⟩
  clear hr hr1 hn hu he0
  go_enter Try.func12, Try.ntmps12
  have hn0 : ((n : Int) == 0) = false := by simp; omega
  have hn64 : decide ((64 : Int) < (n : Int)) = false := by simp; omega
  go_wp2_with fail
  go_loopw [4] (fun i_ wr => ∃ i : Nat, i ≤ n ∧ i_ = .int .i64 i ∧ Hid (spErr (sps l) = spErr ((sps l).drop i)) ∧ Below w.heap.size w wr) (fun i _ => n - (intOf i).toNat)
  case atStart => exact ⟨0, by omega, rfl, Lib.hid rfl, Below.refl _ _⟩
  case round =>
    obtain ⟨i, hi, rfl, HG, hb⟩ := hrel
    by_cases hlt : i < n
    · have hlt' : (i : Int) < (n : Int) := by omega
      obtain ⟨e, he⟩ : ∃ e, l[i]? = some e := ⟨_, List.getElem?_eq_getElem (by rw [HN.out]; exact hlt)⟩
      obtain ⟨ld, hok, -⟩ := HLE.out hb he
      have hst := spErr_drop (sps_get he)
      have cc := rSpCheck (c := e.c) e.s wr hok.rd hok.len (Nat.le_trans hB hb.size) hok.max
      obtain ⟨ck, hck⟩ : ∃ ck, spChk e.s = ck := ⟨_, rfl⟩
      rw [hck] at cc hst
      rw [← HG.out] at hst
      have HST := Lib.hid hst
      clear hst hck hok he HG
      go_wp2_with fail
      refine cc.mono ?_
      rintro en w3 ⟨rfl, hb3⟩
      have hb4 := hb.trans (hb3.mono hb.size)
      by_cases h0 : ck = 0
      · subst h0
        go_wp2_with fail
        exact ⟨⟨i + 1, by omega, by go_num, Lib.hid (by rw [HST.out]; simp), hb4⟩, by simp only [intOf]; omega⟩
      · have h0' : ((ck : Int) != 0) = true := by simp; omega
        have hre : r = ([], ck) := by rw [HR.out, HST.out, if_pos h0, if_pos h0]
        subst hre
        go_wp2_with fail
        go_ret2
        exact AdjPost.no hb4
    · have hlt' : decide ((i : Int) < (n : Int)) = false := by simp; omega
      have hz : spErr (sps l) = 0 := by rw [HG.out, List.drop_eq_nil_of_le (by rw [sps_length, HN.out]; omega)]; rfl
      have HZ := Lib.hid hz
      clear hz HG
      go_wp2_with fail
      have HBO := Lib.hid hb
      obtain ⟨wO, hwO⟩ : ∃ wO, wO = wr := ⟨_, rfl⟩
      subst hwO
      clear hb hlt hlt' hi
      go_loopw [6] (fun i_ wr2 => ∃ i : Nat, i ≤ n ∧ i_ = .int .i64 i ∧ Hid (((sps l).take i).all (fun y => decide (y.hi = e0.s.hi) && decide (y.lo = e0.s.lo)) = true) ∧ Below w.heap.size w wr2) (fun i _ => n - (intOf i).toNat)
      case atStart => exact ⟨0, by omega, rfl, Lib.hid (by simp), HBO.out⟩
      case round =>
        obtain ⟨j, hj, rfl, HG, hb⟩ := hrel
        by_cases hlt : j < n
        · have hlt' : (j : Int) < (n : Int) := by omega
          have hn0' : (0 : Int) < (n : Int) := by omega
          have hn0n : 0 < n := by omega
          obtain ⟨e, he⟩ : ∃ e, l[j]? = some e := ⟨_, List.getElem?_eq_getElem (by rw [HN.out]; exact hlt)⟩
          have hbd := below_drewN hb 1
          have lt1 := (HLE.out (W := wr.drew) hbd he).2.2
          have lt0 := (HLE.out (W := wr.drew) hbd HE0.out).2.2
          rw [Nat.zero_mul, Nat.add_zero] at lt0
          have hst : ((sps l).take (j + 1)).all (fun y => decide (y.hi = e0.s.hi) && decide (y.lo = e0.s.lo)) = (decide (e.s.hi = e0.s.hi) && decide (e.s.lo = e0.s.lo)) := by
            rw [take_snoc (sps_get he), List.all_append, HG.out]
            simp
          obtain ⟨tb, htb⟩ : ∃ tb, (decide (e.s.hi = e0.s.hi) && decide (e.s.lo = e0.s.lo)) = tb := ⟨_, rfl⟩
          have nq := fun W => neqTrc W e.s.hi e.s.lo e0.s.hi e0.s.lo
          rw [htb] at hst
          simp only [htb] at nq
          have HST := Lib.hid hst
          have HE := Lib.hid he
          clear hst he htb HG
          go_wp2_with fail
          go_region_held3 (fun w' => (loadK 29 ⟨b, o + j * 11, none⟩).run Try.prog w' = .ok (.agg #[.int .u64 e.s.hi, .int .u64 e.s.lo]) w' ∧ (loadK 29 ⟨b, o, none⟩).run Try.prog w' = .ok (.agg #[.int .u64 e0.s.hi, .int .u64 e0.s.lo]) w')
            (exact ⟨lt1, lt0⟩) (fail)
          cases tb with
          | true =>
            go_wp2_with fail
            exact ⟨⟨j + 1, by omega, by go_num, Lib.hid HST.out, hbd⟩, by simp only [intOf]; omega⟩
          | false =>
            have hot : oneTr (sps l) = false := by
              rw [oneTr_iff (sps_get HE0.out), List.all_eq_false]
              have h1 := HST.out
              rw [List.all_eq_false] at h1
              obtain ⟨y, hy, hy2⟩ := h1
              exact ⟨y, List.mem_of_mem_take hy, hy2⟩
            have hre : r = ([], 2) := by rw [HR.out, HZ.out, if_neg (by simp), if_pos hot]
            subst hre
            go_wp2_with fail
            go_ret2
            exact AdjPost.no hbd
        · have hlt' : decide ((j : Int) < (n : Int)) = false := by simp; omega
          have hot : oneTr (sps l) = true := by
            have h1 := HG.out
            rw [List.take_of_length_le (by rw [sps_length, HN.out]; omega)] at h1
            rw [oneTr_iff (sps_get HE0.out)]
            exact h1
          have hre : r = ((ajAll (ups (sps l))).o, 0) := by rw [HR.out, HZ.out, if_neg (by simp), if_neg (by rw [hot]; simp)]
          have hck := spErr_zero HZ.out
          have hsm : ∀ e ∈ l, e.n ≤ 1000000 := fun e he => by
            have h1 := (spChk_parts (hck e.s (List.mem_map.2 ⟨e, he, rfl⟩))).2.1
            obtain ⟨k, hk⟩ := List.getElem?_of_mem he
            have h2 := (HLE.out hb hk).2.1.len
            omega
          have hum : ∀ s ∈ uniq (sps l), s ∈ sps l := fun s hs => uniqTo_mem _ _ s hs
          have hfr : RbS wr B (some ⟨b, o, none⟩) l := hf.below (hb.mono hB)
          have cu := raUp (c := c) wr hfr HN.out (Nat.le_trans hB hb.size) (by omega) hsm (fun s hs => by
            obtain ⟨e, he, rfl⟩ := List.mem_map.1 (hum s hs)
            exact HU.out e he)
          obtain ⟨st0, hst0⟩ : ∃ st0, ups (sps l) = st0 := ⟨_, rfl⟩
          have hgood : ∀ a ∈ st0, a.s.Tim ∧ a.shift = 0 := fun a ha => by
            rw [← hst0] at ha
            obtain ⟨k, x, hx, rfl⟩ := upsTo_mem _ _ a ha
            rw [upOf_s, upOf_shift]
            exact ⟨(spChk_parts (hck x (hum x (List.mem_of_getElem? hx)))).1, rfl⟩
          have hlen : st0.length ≤ 64 := by
            rw [← hst0, ups, upsTo_len _ _ (Nat.le_refl _)]
            have h1 := uniqTo_len (sps l) (sps l).length
            rw [sps_length, HN.out] at h1
            show (uniqTo (sps l) (sps l).length).length ≤ 64
            rw [sps_length, HN.out]
            omega
          rw [hst0] at cu hre
          have HRE := Lib.hid hre
          have HGOOD := Lib.hid hgood
          have HLEN := Lib.hid hlen
          clear hre hot hck hsm hum hst0 hgood hlen HG HU HZ HR
          go_wp2_with fail
          refine cu.mono ?_
          rintro en w1 ⟨Ao, co, m, la, rfl, hla, hra, hb1⟩
          have hb01 := hb.trans (hb1.mono hb.size)
          have hml : la.length = m := hra.len
          have hm64 : m ≤ 64 := by
            have h1 := HLEN.out
            rw [← hla, List.length_map, hml] at h1
            exact h1
          obtain ⟨ib, hib, hz0, hz1, hz2⟩ := info_parts boolinfo
          have hmk := run_makeSlice_full (P := Try.prog) w1 w.heap.size 60 4 ib (.bool false) 1 Try.underlying60 hib hz0 hz1 .i64 .i64 m (by omega) (by rw [hz2]; omega) (by simp only [maxLen]; omega) hb01.size
          obtain ⟨w2, hmk1, hmk2, hmk3⟩ := hmk
          go_wp2_with fail
          have hbm : Below w1.heap.size w1 w2 := (Below.refl _ w1).grown hmk3 (Nat.le_refl _) (fun k hk => by cases hk)
          have hds : (madeCells (Value.cells (.bool false)) (m * 1)).toList = (List.replicate m false).map Value.bool := by
            show (madeCells #[Value.bool false] (m * 1)).toList = _
            rw [toList_madeCells_one, Nat.mul_one, List.map_replicate]
          rw [hds] at hmk2
          have hm0 : AjM w w2 Ao co m w1.heap.size la (List.replicate m false) := by
            refine ⟨?_, hmk2, fun k hk e => ?_, fun e he ht q hq e1 => ?_, fun e he => ?_, hb01.trans (hbm.mono hb01.size)⟩
            · have h1 := hra.bS hbm
              exact ⟨own_baseA h1.own hb.size, h1.len, h1.ok, h1.far⟩
            · have := (hra.own_lt k hk).1
              omega
            · obtain ⟨b', o', hA', hlt', _⟩ := (hra.ok e he).rd (by intro e0; have := tgs_length e.a.s.tags; rw [e0] at this; exact ht (List.eq_nil_of_length_eq_zero (by simp at this; omega)))
              rw [hq] at hA'
              have e3 := Option.some.inj hA'
              subst e3
              simp only at e1
              omega
            · have h1 := HGOOD.out e.a (by rw [← hla]; exact List.mem_map.2 ⟨e, he, rfl⟩)
              exact ⟨h1.1, by rw [h1.2]; omega, by rw [h1.2]; omega, (hra.ok e he).ok⟩
          obtain ⟨D, hD⟩ : ∃ D, w1.heap.size = D := ⟨_, rfl⟩
          rw [hD] at hm0 ⊢
          have HM0 := Lib.hid hm0
          have HLA := Lib.hid hla
          have hst0l : st0.length = m := by rw [← hla, List.length_map, hml]
          have HS0 := Lib.hid hst0l
          clear hm0 hla hmk1 hmk2 hmk3 hbm hds hra hml hD hb1 hb01 cu HLE hfr hz0 hz1 hz2 hib hst0l
          go_loopw [9] (fun n_ wr3 => ∃ (nn : Nat) (l' : List AE) (ds : List Bool), nn ≤ m ∧ n_ = .int .i64 nn ∧ AjM w wr3 Ao co m D l' ds ∧ Hid ((⟨l'.map (·.a), ds⟩ : AjS) = (List.range nn).foldl (ajN m) ⟨st0, List.replicate m false⟩)) (fun n_ _ => m - (intOf n_).toNat)
          case atStart => exact ⟨0, la, _, by omega, rfl, HM0.out, Lib.hid (by rw [HLA.out]; rfl)⟩
          case round =>
            obtain ⟨nn, l1, d1, hnn, rfl, hm1, HN1⟩ := hrel
            by_cases hnm : nn < m
            · have hnm' : (nn : Int) < (m : Int) := by omega
              have HM1 := Lib.hid hm1
              clear hm1
              obtain ⟨wN, hwN⟩ : ∃ wN, wN = wr := ⟨_, rfl⟩
              subst hwN
              go_wp2_with fail
              go_loopw [10] (fun i_ wr4 => ∃ (i : Nat) (l' : List AE) (ds : List Bool), i ≤ m ∧ i_ = .int .i64 i ∧ AjM w wr4 Ao co m D l' ds ∧ Hid ((⟨l'.map (·.a), ds⟩ : AjS) = (List.range i).foldl (ajI m) ⟨l1.map (·.a), d1⟩)) (fun i_ _ => m - (intOf i_).toNat)
              case atStart => exact ⟨0, l1, d1, by omega, rfl, HM1.out, Lib.hid rfl⟩
              case round =>
                obtain ⟨q, l2, d2, hq, rfl, hm2, HN2⟩ := hrel
                by_cases hqm : q < m
                · have hqm' : (q : Int) < (m : Int) := by omega
                  obtain ⟨x, hx⟩ : ∃ x, l2[q]? = some x := ⟨_, List.getElem?_eq_getElem (by rw [hm2.row.len]; exact hqm)⟩
                  obtain ⟨dq, hdq⟩ : ∃ dq, d2[q]? = some dq := ⟨_, List.getElem?_eq_getElem (by rw [hm2.dl]; exact hqm)⟩
                  have hg : ∃ g, Ao = some ⟨g, 0, none⟩ := by
                    rcases hm2.row.own.2 with ⟨-, h0⟩ | ⟨g, cap, cur, h1, -⟩
                    · omega
                    · injection h1 with h2
                      exact ⟨g, h2⟩
                  obtain ⟨g, rfl⟩ := hg
                  obtain ⟨cd, fd⟩ := hm2.doneAt hdq
                  obtain ⟨hcx, -, -⟩ := hm2.cells hx
                  have cup : wr.cell? ⟨g, q * 14 + 11, none⟩ = some (.int .u64 x.a.up) := hcx 11 (by omega)
                  obtain ⟨up, hup⟩ : ∃ up, x.a.up = up := ⟨_, rfl⟩
                  rw [hup] at cup
                  have hm2d := hm2.done q
                  have hstp : ∀ st, st = ajI m ⟨l2.map (·.a), d2⟩ q → st = (List.range (q + 1)).foldl (ajI m) ⟨l1.map (·.a), d1⟩ := fun st h => by
                    rw [range_foldl_succ, ← HN2.out]; exact h
                  have HSTP := Lib.hid hstp
                  have HM2 := Lib.hid hm2
                  have HM2D := Lib.hid hm2d
                  have HX := Lib.hid hx
                  have HDQ := Lib.hid hdq
                  have HUP := Lib.hid hup
                  clear hstp hm2 hm2d hx hdq hup hcx
                  cases dq with
                  | true =>
                    go_wp2_with fail
                    exact ⟨⟨q + 1, l2, d2, by omega, by go_num, HM2.out, Lib.hid (HSTP.out _ (ajI_skip HX.out HDQ.out).symm)⟩, by simp only [intOf]; omega⟩
                  | false =>
                    by_cases hup0 : up = 0
                    · subst hup0
                      go_wp2_with fail
                      exact ⟨⟨q + 1, l2, _, by omega, by go_num, HM2D.out, Lib.hid (HSTP.out _ (ajI_root HX.out HDQ.out HUP.out).symm)⟩, by simp only [intOf]; omega⟩
                    · have hup0' : ((up : Int) == 0) = false := by simp; omega
                      have hlk := ajI_look (m := m) HX.out HDQ.out (by rw [HUP.out]; exact hup0)
                      have HLK := Lib.hid hlk
                      clear hlk
                      go_wp2_with fail
                      clear cd fd cup HDQ HX HUP hup0 hup0'
                      obtain ⟨wQ, hwQ⟩ : ∃ wQ, wQ = wr := ⟨_, rfl⟩
                      subst hwQ
                      go_loopw [11] (fun k_ wr5 => ∃ (k : Nat) (l' : List AE) (ds : List Bool), k ≤ m ∧ k_ = .int .i64 k ∧ AjM w wr5 (some ⟨g, 0, none⟩) co m D l' ds ∧ Hid ((⟨l'.map (·.a), ds⟩ : AjS) = (List.range k).foldl (ajK q) ⟨l2.map (·.a), d2⟩)) (fun k_ _ => m - (intOf k_).toNat)
                      case atStart => exact ⟨0, l2, d2, by omega, rfl, HM2.out, Lib.hid rfl⟩
                      case round =>
                        obtain ⟨k, l3, d3, hk, rfl, hm3, HN3⟩ := hrel
                        by_cases hkm : k < m
                        · have hkm' : (k : Int) < (m : Int) := by omega
                          obtain ⟨x, hx⟩ : ∃ x, l3[q]? = some x := ⟨_, List.getElem?_eq_getElem (by rw [hm3.row.len]; exact hqm)⟩
                          obtain ⟨y, hy⟩ : ∃ y, l3[k]? = some y := ⟨_, List.getElem?_eq_getElem (by rw [hm3.row.len]; exact hkm)⟩
                          obtain ⟨dq, hdq⟩ : ∃ dq, d3[q]? = some dq := ⟨_, List.getElem?_eq_getElem (by rw [hm3.dl]; exact hqm)⟩
                          obtain ⟨dk, hdk⟩ : ∃ dk, d3[k]? = some dk := ⟨_, List.getElem?_eq_getElem (by rw [hm3.dl]; exact hkm)⟩
                          obtain ⟨cdk, -⟩ := hm3.doneAt hdk
                          have cup : wr.cell? ⟨g, q * 14 + 11, none⟩ = some (.int .u64 x.a.up) := (hm3.cells hx).1 11 (by omega)
                          have cid : wr.cell? ⟨g, k * 14 + 2, none⟩ = some (.int .u64 y.a.s.id) := (hm3.cells hy).1 2 (by omega)
                          obtain ⟨up, hup⟩ : ∃ up, x.a.up = up := ⟨_, rfl⟩
                          obtain ⟨yid, hyid⟩ : ∃ yid, y.a.s.id = yid := ⟨_, rfl⟩
                          rw [hup] at cup
                          rw [hyid] at cid
                          have hstp : ∀ st, st = ajK q ⟨l3.map (·.a), d3⟩ k → st = (List.range (k + 1)).foldl (ajK q) ⟨l2.map (·.a), d2⟩ := fun st h => by
                            rw [range_foldl_succ, ← HN3.out]; exact h
                          have HSTP := Lib.hid hstp
                          have HM3 := Lib.hid hm3
                          have HX := Lib.hid hx
                          have HY := Lib.hid hy
                          have HDQ := Lib.hid hdq
                          have HDK := Lib.hid hdk
                          have HUP := Lib.hid hup
                          have HYID := Lib.hid hyid
                          clear hstp hm3 hx hy hdq hdk hup hyid
                          by_cases hie : yid = up
                          · have hie' : ((yid : Int) == (up : Int)) = true := by simp; omega
                            cases dk with
                            | false =>
                              go_wp2_with fail
                              go_quiet (fail)
                              go_wp2_with fail
                              exact ⟨⟨k + 1, l3, d3, by omega, by go_num, HM3.out.later (below_drewN (Below.refl _ _) _), Lib.hid (HSTP.out _ (ajK_skip HX.out HY.out HDK.out (.inr rfl)).symm)⟩, by simp only [intOf]; omega⟩
                            | true =>
                              go_wp2_with fail
                              go_quiet (fail)
                              have hmv := HSTP.out _ (ajK_move HX.out HY.out HDK.out (by rw [HYID.out, HUP.out]; exact hie)).symm
                              have HMV := Lib.hid hmv
                              clear hmv hie hie' cup cid cdk HYID HUP
                              have hm4 := HM3.out.later (below_drewN (Below.refl wr.heap.size wr) nq)
                              obtain ⟨W0, hW0⟩ : ∃ W0, wr.drewN nq = W0 := ⟨_, rfl⟩
                              rw [hW0] at hm4 ⊢
                              clear hW0 HM3
                              obtain ⟨cdq, fdq⟩ := hm4.doneAt HDQ.out
                              have hm5 := hm4.done q
                              go_upto_region 32 with fail
                              obtain ⟨W1, hW1⟩ : ∃ W1, W0.setCell ⟨D, q, none⟩ (.bool true) = W1 := ⟨_, rfl⟩
                              rw [hW1] at hm5 ⊢
                              clear hW1 hm4 cdq fdq
                              have hm6 := hm5.later (below_drewN (Below.refl W1.heap.size W1) 1)
                              obtain ⟨hcx, hokx, hgx⟩ := hm6.cells HX.out
                              obtain ⟨hcy, hoky, hgy⟩ := hm6.cells HY.out
                              have lsx : (loadK 32 ⟨g, q * 14, none⟩).run Try.prog W1.drew = .ok (spV x.a.s x.A x.n x.c) W1.drew := loadK_aeSp hcx
                              have lay : (loadK 47 ⟨g, k * 14, none⟩).run Try.prog W1.drew = .ok (adV y.a y.A y.n y.c) W1.drew := loadK_ae0 hcy
                              have csh := raShift (A1 := x.A) (n1 := x.n) (c1 := x.c) (A2 := y.A) (n2 := y.n) (c2 := y.c) x.a.s y.a W1.drew hgx.tim hgy.tim
                              obtain ⟨v, hv⟩ : ∃ v, shiftS x.a.s y.a = v := ⟨_, rfl⟩
                              have hvr := shiftS_rng hgx.tim hgy
                              rw [hv] at csh hvr
                              have HV := Lib.hid hv
                              have HM6 := Lib.hid hm6
                              have HGX := Lib.hid hgx
                              have HCS := Lib.hid csh
                              clear hm5 hm6 hokx hgx hoky hgy hcx hcy hv csh
                              go_region_with
                                (first
                                  | (go_at_call 31
                                     refine HCS.out.mono ?_
                                     rintro en w5 ⟨rfl, hb5⟩
                                     have hm7 := HM6.out.later hb5
                                     have c12 : w5.cell? ⟨g, q * 14 + 12, none⟩ = some (.int .i64 x.a.shift) := (hm7.cells HX.out).1 12 (by omega)
                                     have z12 : w5.frozen? ⟨g, q * 14 + 12, none⟩ = false := hm7.row.own.frozenAt _
                                     have HM7 := Lib.hid hm7
                                     clear hm7)
                                  | fail)
                              all_goals
                                have hm8 := HM7.out.put (j := 12) (e' := ⟨⟨x.a.s, x.a.up, v, x.a.flag⟩, x.A, x.n, x.c⟩) (u := .int .i64 v) HX.out (by omega) rfl rfl rfl rfl (HGX.out.shift hvr.1 hvr.2)
                                obtain ⟨W2, hW2⟩ : ∃ W2, w5.setCell ⟨g, q * 14 + 12, none⟩ (.int .i64 v) = W2 := ⟨_, rfl⟩
                                rw [hW2] at hm8 ⊢
                                have hx8 : (l3.set q ⟨⟨x.a.s, x.a.up, v, x.a.flag⟩, x.A, x.n, x.c⟩)[q]? = some ⟨⟨x.a.s, x.a.up, v, x.a.flag⟩, x.A, x.n, x.c⟩ := List.getElem?_set_self (by have := (List.getElem?_eq_some_iff.1 HX.out).1; exact this)
                                obtain ⟨hc8, -, -⟩ := hm8.cells hx8
                                have c7 : W2.cell? ⟨g, q * 14 + 7, none⟩ = some (.int .i64 x.a.s.start) := hc8 7 (by omega)
                                have c8 : W2.cell? ⟨g, q * 14 + 8, none⟩ = some (.int .i64 x.a.s.length) := hc8 8 (by omega)
                                have d12 : W2.cell? ⟨g, q * 14 + 12, none⟩ = some (.int .i64 v) := hc8 12 (by omega)
                                have z7 : W2.frozen? ⟨g, q * 14 + 7, none⟩ = false := hm8.row.own.frozenAt _
                                have hrg := mvAd_rng HGX.out (x.a.s.start + v)
                                have ht1 := HGX.out.tim.s0
                                have ht2 := HGX.out.tim.l0
                                have ht3 := HGX.out.tim.sum
                                obtain ⟨sa, hsa⟩ : ∃ sa, x.a.s.start = sa := ⟨_, rfl⟩
                                obtain ⟨sl, hsl⟩ : ∃ sl, x.a.s.length = sl := ⟨_, rfl⟩
                                rw [hsa] at c7 ht1 ht3 hrg
                                rw [hsl] at c8 ht2 ht3 hrg
                                have HM8 := Lib.hid hm8
                                have HX8 := Lib.hid hx8
                                have HSA := Lib.hid hsa
                                have HSL := Lib.hid hsl
                                have HRG := Lib.hid hrg
                                have hw1 : IntKind.i64.wrap (sa + v) = sa + v := IntWalk.i64_in _ ⟨by omega, by omega⟩
                                have hw2 : IntKind.i64.wrap (4611686018427387903 - sl) = 4611686018427387903 - sl := IntWalk.i64_in _ ⟨by omega, by omega⟩
                                clear hc8 hm8 hx8 hsa hsl hW2 c12 z12 HM7 HM6 HCS lsx lay hrg
                                go_wp2_with fail
                                go_region_held3 (fun w' => w'.cell? ⟨g, q * 14 + 7, none⟩ = some (.int .i64 sa) ∧ w'.cell? ⟨g, q * 14 + 12, none⟩ = some (.int .i64 v)) (go_keep) (fail)
                                obtain ⟨tt, htt⟩ : ∃ tt, (if 0 < sa + v then sa + v else 0) = tt := ⟨_, rfl⟩
                                have htm : tt = max 0 (sa + v) := by rw [← htt]; split <;> omega
                                rw [htt]
                                have HTM := Lib.hid htm
                                have hm9 := HM8.out.later (below_drewN (Below.refl W2.heap.size W2) 1)
                                obtain ⟨W3, hW3⟩ : ∃ W3, W2.drew = W3 := ⟨_, rfl⟩
                                have hm9' : AjM w W3 (some ⟨g, 0, none⟩) co m D (l3.set q ⟨⟨x.a.s, x.a.up, v, x.a.flag⟩, x.A, x.n, x.c⟩) (d3.set q true) := by rw [← hW3]; exact hm9
                                have c8' : W3.cell? ⟨g, q * 14 + 8, none⟩ = some (.int .i64 sl) := by rw [← hW3]; exact c8
                                have c7' : W3.cell? ⟨g, q * 14 + 7, none⟩ = some (.int .i64 sa) := by rw [← hW3]; exact c7
                                have z7' : W3.frozen? ⟨g, q * 14 + 7, none⟩ = false := by rw [← hW3]; exact z7
                                rw [hW3]
                                have HM9 := Lib.hid hm9'
                                clear hm9 hm9' hW3 htt htm c7 c8 z7 d12 hw1
                                go_wp2_with fail
                                have hR : (if 4611686018427387903 - sl < tt then 4611686018427387903 - sl else tt) = min (max 0 (sa + v)) (4611686018427387903 - sl) := by rw [HTM.out]; split <;> omega
                                rw [hR]
                                have heq : (⟨⟨{ x.a.s with start := min (max 0 (sa + v)) (4611686018427387903 - sl) }, x.a.up, v, x.a.flag⟩, x.A, x.n, x.c⟩ : AE) = ⟨mvAd x.a y.a, x.A, x.n, x.c⟩ := by
                                  unfold mvAd
                                  rw [HV.out, HSA.out, HSL.out]
                                have hm10 := HM9.out.put (j := 7) (e' := ⟨⟨{ x.a.s with start := min (max 0 (sa + v)) (4611686018427387903 - sl) }, x.a.up, v, x.a.flag⟩, x.A, x.n, x.c⟩) (u := .int .i64 (min (max 0 (sa + v)) (4611686018427387903 - sl))) HX8.out (by omega) rfl rfl rfl rfl ((HGX.out.shift hvr.1 hvr.2).start HRG.out.1 (by show _ ≤ 4611686018427387903 - x.a.s.length; rw [HSL.out]; exact HRG.out.2))
                                exact ⟨⟨k + 1, _, _, by omega, by go_num, hm10, Lib.hid (by rw [List.set_set, heq]; exact HMV.out)⟩, by simp only [intOf]; omega⟩
                          · have hie' : ((yid : Int) == (up : Int)) = false := by simp; omega
                            go_wp2_with fail
                            go_quiet (fail)
                            go_wp2_with fail
                            exact ⟨⟨k + 1, l3, d3, by omega, by go_num, HM3.out.later (below_drewN (Below.refl _ _) _), Lib.hid (HSTP.out _ (ajK_skip HX.out HY.out HDK.out (.inl (by rw [HYID.out, HUP.out]; exact hie))).symm)⟩, by simp only [intOf]; omega⟩
                        · have hkm' : decide ((k : Int) < (m : Int)) = false := by simp; omega
                          obtain rfl : k = m := by omega
                          go_wp2_with fail
                          exact ⟨⟨q + 1, l3, d3, by omega, by go_num, hm3, Lib.hid (HSTP.out _ (by rw [HLK.out]; exact HN3.out))⟩, by simp only [intOf]; omega⟩
                · have hqm' : decide ((q : Int) < (m : Int)) = false := by simp; omega
                  obtain rfl : q = m := by omega
                  go_wp2_with fail
                  exact ⟨⟨nn + 1, l2, d2, by omega, by go_num, hm2, Lib.hid (by rw [range_foldl_succ, ← HN1.out]; exact HN2.out)⟩, by simp only [intOf]; omega⟩
            · have hnm' : decide ((nn : Int) < (m : Int)) = false := by simp; omega
              obtain rfl : nn = m := by omega
              go_wp2_with fail
              go_ret2
              have hfin : l1.map (·.a) = (ajAll st0).o := by
                rw [ajAll, HS0.out, ← HN1.out]
              have hll : l1.length = nn := hm1.row.len
              have hre := HRE.out
              rw [← hfin] at hre
              subst hre
              refine ⟨Ao, co, l1, ?_, rfl, hm1.row.rba, hm1.bel, ?_⟩
              · show _ = Ending.returned (.tuple #[.slice Ao (l1.map (·.a)).length co, .int .i64 0])
                rw [List.length_map, hll]
                rfl
              · rw [List.length_map, hll]
                exact hm1.row.cap
end Go.Proofs.Ytchpekidnbdpdaa

