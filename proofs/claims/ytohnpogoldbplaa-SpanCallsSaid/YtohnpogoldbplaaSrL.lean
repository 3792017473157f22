/- Spans: what SpanCalls carries from call to call. -/
import Derived.Test.YtohnpogoldbplaaSrE
import Derived.Test.YtohnpogoldbplaaSrF
import Derived.Test.YtohnpogoldbplaaSrI
import Derived.Test.YtohnpogoldbplaaSrK
import Derived.Test.YtohnpogoldbplaaSpF2
namespace Go.Proofs.Ytohnpogoldbplaa
open Go.RowKit

/-- '[]byte(s)': what it hands back and lays, behind letters; and that the row is the call's own. -/
theorem conv_str2 : ∃ (cp : World → ByteArray → Nat) (ce : World → ByteArray → Array Value) (fa : World → ByteArray → Nat × Nat),
    (∀ (s : ByteArray) (W : World), (convert 9 28 (.string s)).run Try.prog W = .ok (.slice (some ⟨W.heap.size, 0, none⟩) s.size (cp W s)) (W.drew.alloc (.cells (ce W s) 5 (fa W s)))) ∧
    (∀ (s : ByteArray) (W : World), s.size ≤ maxLen → ownsT (W.alloc (.cells (ce W s) 5 (fa W s))) W.heap.size 5 1 (.slice (some ⟨W.heap.size, 0, none⟩) s.size (cp W s)) s.size (bv (nums s))) := by
  refine ⟨fun W s => grownCap W s.size 0 5, fun W s => bytesRow s (grownCap W s.size 0 5), fun W s => ((bytesRow s (grownCap W s.size 0 5)).size, (bytesRow s (grownCap W s.size 0 5)).size + 1),
    fun s W => run_bytes_of_string W _ _ _ s Try.underlying9 Try.underlying28 Try.underlying5, fun s W hs => ?_⟩
  have hge := grownCap_ge W s.size 0 5
  have hcm := grownCap_le_maxLen W s.size 0 5 hs
  have hsz : (bytesRow s (grownCap W s.size 0 5)).size = grownCap W s.size 0 5 := by
    rw [bytesRow, Array.size_append, Array.size_map, Array.size_replicate]
    have : s.data.size = s.size := rfl
    omega
  refine ⟨by rw [bv_length, nums_len, Nat.mul_one], .inr ⟨_, _, _, _, rfl, Nat.le_refl _, heap_alloc_new W _, .inl (Nat.le_refl _), hge, hcm, by rw [hsz, Nat.mul_one], ?_⟩⟩
  show (bytesRow s (grownCap W s.size 0 5)).toList.take (s.size * 1) = _
  rw [bytesRow, Array.toList_append, Nat.mul_one, List.take_left' (by rw [Array.toList_map, List.length_map]; rfl)]
  simp [bv, nums]

/-- What either Append tells of a text's bytes. -/
def appX (zs : List Int) (s : Sp) : List Int := if spChk s = 0 then zs ++ spEnc s else []
def AppX (B : Nat) (w : World) (zs : List Int) (s : Sp) (e : Ending) (w' : World) : Prop :=
  ∃ A' c', e = .returned (.tuple #[.slice A' (appX zs s).length c', .int .i64 (spChk s)]) ∧ Rb w' w'.heap.size A' (appX zs s) ∧ Below B w w'
theorem spAppendX {A0 At : Option Addr} {c0 ct B n nt : Nat} {zs : List Int} (s : Sp) (w : World) (ha : Rb w B A0 zs) (hB : B ≤ w.heap.size) (hz : zs.length ≤ 1099511627776) (hc : A0 = none → zs = [] ∧ c0 = 0) (hn : zs.length = n)
    (hf : RbT w B At s.tags) (hnt : s.tags.length = nt) (hnl : nt ≤ 9223372036854775807) (hu : s.U64) :
    Calls Try.prog 9 #[.slice A0 n c0, spV s At nt ct] w (AppX w.heap.size w zs s) := by
  refine (spAppend (ct := ct) s w ha hB hz hc hn hf hnt hnl hu).mono ?_
  rintro e w' ⟨hb, ⟨h0, rfl⟩ | ⟨h0, A', c', rfl, hr, _⟩⟩
  · have e1 : appX zs s = [] := by rw [appX, if_neg h0]
    exact ⟨none, 0, by rw [e1]; rfl, by rw [e1]; exact Rd.nil, hb⟩
  · have e1 : appX zs s = zs ++ spEnc s := by rw [appX, if_pos h0]
    exact ⟨A', c', by rw [e1, h0]; rfl, by rw [e1]; exact hr, hb⟩
theorem rAppendX {A0 At : Option Addr} {c0 ct B n nt base : Nat} {zs : List Int} (s : Sp) (w : World) (ho : ownsT w base 5 1 (.slice A0 n c0) n (bv zs)) (hbase : base ≤ w.heap.size) (hz : n ≤ 1099511627776) (hB : B ≤ base)
    (hf : RbT w B At s.tags) (hnt : s.tags.length = nt) (hnl : nt ≤ 9223372036854775807) (hu : s.U64) :
    Calls Try.prog 15 #[.slice A0 n c0, spV s At nt ct] w (AppX base w zs s) := by
  refine (rAppend (ct := ct) s w ho hbase hz hB hf hnt hnl hu).mono ?_
  rintro e w' (⟨h0, rfl, hb⟩ | ⟨h0, A', c', m, rfl, hm, happ⟩)
  · have e1 : appX zs s = [] := by rw [appX, if_neg h0]
    exact ⟨none, 0, by rw [e1]; rfl, by rw [e1]; exact Rd.nil, hb.mono hbase⟩
  · have e1 : appX zs s = zs ++ spEnc s := by rw [appX, if_pos h0]
    refine ⟨A', c', by rw [e1, h0, hm]; rfl, ?_, ?_⟩
    · rw [e1]; exact happ.own.rd
    · exact happ.below hbase (fun k hk => (ho.lt k hk).1)

/-- What SpanCalls carries from call to call. -/
structure Sc (w0 W : World) (B g : Nat) (a b : Sp) (A1 : Option Addr) (n c1 : Nat) (A2 : Option Addr) (m c2 : Nat) : Prop where
  bel : Below w0.heap.size w0 W
  ra : RbT W B A1 a.tags
  rb : RbT W B A2 b.tags
  ba : Bk W g 27 (spC a A1 n c1)
  bb : Bk W (g + 1) 27 (spC b A2 m c2)
  hB : B ≤ W.heap.size
section
variable {w0 W W' : World} {B g n c1 m c2 : Nat} {a b : Sp} {A1 A2 : Option Addr}
theorem Sc.belowB {K : Nat} (h : Sc w0 W B g a b A1 n c1 A2 m c2) (hb : Below K W W') (h0 : w0.heap.size ≤ K) (h1 : B ≤ K) (h2 : g + 1 < K) : Sc w0 W' B g a b A1 n c1 A2 m c2 :=
  ⟨h.bel.trans (hb.mono h0), Rd.below h.ra (hb.mono h1), Rd.below h.rb (hb.mono h1), h.ba.below hb (by omega), h.bb.below hb h2, Nat.le_trans h.hB hb.size⟩
theorem Sc.below (h : Sc w0 W B g a b A1 n c1 A2 m c2) (hb : Below W.heap.size W W') : Sc w0 W' B g a b A1 n c1 A2 m c2 :=
  h.belowB hb h.bel.size h.hB h.bb.lt
theorem Sc.alloc (h : Sc w0 W B g a b A1 n c1 A2 m c2) (o : Obj) : Sc w0 (W.alloc o) B g a b A1 n c1 A2 m c2 := h.below ((Below.refl _ W).alloc (Nat.le_refl _) o)
theorem Sc.drew (h : Sc w0 W B g a b A1 n c1 A2 m c2) : Sc w0 W.drew B g a b A1 n c1 A2 m c2 := h.below (below_drewN (Below.refl _ W) 1)
end
theorem Rd.bS {w w' : World} {A : Option Addr} {xs : List Value} (h : Rd w w.heap.size A xs) (hb : Below w.heap.size w w') : Rd w' w'.heap.size A xs := (h.below hb).more hb.size
theorem Bk.bS {w w' : World} {g : Nat} {t : TypeId} {cs : Array Value} (h : Bk w g t cs) (hb : Below w.heap.size w w') : Bk w' g t cs := h.below hb h.lt
/-- The load of a variable, shut: what a walk through a drawn region is told of it by equations. -/
def loadK (t : TypeId) (a : Addr) : Sem Value := loadVar t a
theorem loadK_shut (t : TypeId) (a : Addr) : loadVar t a = loadK t a := rfl
set_option maxRecDepth 100000 in
theorem loadK_sp {w : World} {g n c : Nat} {s : Sp} {A : Option Addr} (h : Bk w g 27 (spC s A n c)) : (loadK 27 ⟨g, 0, none⟩).run Try.prog w = .ok (spV s A n c) w :=
  run_loadVar_row w g _ _ (spC s A n c) (0, 0) _ h Try.underlying27 rfl (by rfl)
set_option maxRecDepth 100000 in
theorem loadK_trc {w : World} {g : Nat} {t u : Value} (h : Bk w g 24 #[t, u]) : (loadK 24 ⟨g, 0, none⟩).run Try.prog w = .ok (.agg #[t, u]) w :=
  run_loadVar_row w g _ _ #[t, u] (0, 0) _ h Try.underlying24 rfl (by rfl)
theorem loadK_trc0 {w : World} {g n c : Nat} {s : Sp} {A : Option Addr} (h : Bk w g 27 (spC s A n c)) : (loadK 24 ⟨g, 0, none⟩).run Try.prog w = .ok (.agg #[.int .u64 s.hi, .int .u64 s.lo]) w := by
  have k0 : w.cell? ⟨g, 0, none⟩ = some (.int .u64 s.hi) := h.cell 0
  have k1 : w.cell? ⟨g, 1, none⟩ = some (.int .u64 s.lo) := h.cell 1
  unfold loadK
  simp only [loadVar, Sem.run_bind, Try.isAgg24, Try.sizeOf24, Result.andThen_ok, if_true]
  rw [show (2 : Nat) = [Value.int .u64 s.hi, Value.int .u64 s.lo].length from rfl, run_loadCells_list w ⟨g, 0, none⟩ [Value.int .u64 s.hi, Value.int .u64 s.lo] (fun j v hv => by
    match j, hv with
    | 0, hv => cases hv; exact k0
    | 1, hv => cases hv; exact k1)]
  rfl
theorem loadK_id {w : World} {g n c : Nat} {s : Sp} {A : Option Addr} (h : Bk w g 27 (spC s A n c)) : (loadK 22 ⟨g, 2, none⟩).run Try.prog w = .ok (.int .u64 s.id) w := by
  have k2 : w.cell? ⟨g, 2, none⟩ = some (.int .u64 s.id) := h.cell 2
  unfold loadK
  have a3 := Try.isAgg22
  simp only [loadVar]
  go_simp
theorem cells2 {w : World} {g : Nat} {t : TypeId} {u v : Value} (h : Bk w g t #[u, v]) : w.cell? ⟨g, 0, none⟩ = some u ∧ w.cell? ⟨g, 1, none⟩ = some v := ⟨h.cell 0, h.cell 1⟩
/-- The same, with what SpanCalls has made besides. -/
structure Se (w0 W : World) (B g : Nat) (a b : Sp) (A1 : Option Addr) (n c1 : Nat) (A2 : Option Addr) (m c2 : Nat) (Ax Ay : Option Addr) (X : List Int) (gt gu : Nat) (t u : Value) : Prop where
  sc : Sc w0 W B g a b A1 n c1 A2 m c2
  rx : Rb W W.heap.size Ax X
  ry : Rb W W.heap.size Ay X
  bt : Bk W gt 24 #[t, u]
  bu : Bk W gu 24 #[t, u]
section
variable {w0 W W' : World} {B g n c1 m c2 gt gu : Nat} {a b : Sp} {A1 A2 Ax Ay : Option Addr} {X : List Int} {t u : Value}
theorem Se.below (h : Se w0 W B g a b A1 n c1 A2 m c2 Ax Ay X gt gu t u) (hb : Below W.heap.size W W') : Se w0 W' B g a b A1 n c1 A2 m c2 Ax Ay X gt gu t u :=
  ⟨h.sc.below hb, h.rx.bS hb, h.ry.bS hb, h.bt.bS hb, h.bu.bS hb⟩
theorem Se.drew (h : Se w0 W B g a b A1 n c1 A2 m c2 Ax Ay X gt gu t u) : Se w0 W.drew B g a b A1 n c1 A2 m c2 Ax Ay X gt gu t u := h.below (below_drewN (Below.refl _ W) 1)
theorem Se.loads (h : Se w0 W B g a b A1 n c1 A2 m c2 Ax Ay X gt gu t u) :
    (loadK 27 ⟨g, 0, none⟩).run Try.prog W = .ok (spV a A1 n c1) W ∧ (loadK 27 ⟨g + 1, 0, none⟩).run Try.prog W = .ok (spV b A2 m c2) W ∧ (loadK 24 ⟨g, 0, none⟩).run Try.prog W = .ok (.agg #[.int .u64 a.hi, .int .u64 a.lo]) W ∧ (loadK 22 ⟨g, 2, none⟩).run Try.prog W = .ok (.int .u64 a.id) W ∧
    (loadK 24 ⟨gt, 0, none⟩).run Try.prog W = .ok (.agg #[t, u]) W ∧ (loadK 24 ⟨gu, 0, none⟩).run Try.prog W = .ok (.agg #[t, u]) W :=
  ⟨loadK_sp h.sc.ba, loadK_sp h.sc.bb, loadK_trc0 h.sc.ba, loadK_id h.sc.ba, loadK_trc h.bt, loadK_trc h.bu⟩
theorem Se.conv (h : Se w0 W B g a b A1 n c1 A2 m c2 Ax Ay X gt gu t u) (cx cy : Nat) : (convert 28 9 (.slice Ax X.length cx)).run Try.prog W = .ok (.string (strOfNums X)) W ∧ (convert 28 9 (.slice Ay X.length cy)).run Try.prog W = .ok (.string (strOfNums X)) W :=
  ⟨Rb.str h.rx Try.underlying28 Try.underlying5 Try.underlying9 cx, Rb.str h.ry Try.underlying28 Try.underlying5 Try.underlying9 cy⟩
end
end Go.Proofs.Ytohnpogoldbplaa
