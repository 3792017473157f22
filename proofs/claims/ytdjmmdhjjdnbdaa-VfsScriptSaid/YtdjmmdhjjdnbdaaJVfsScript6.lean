/- Texts of the proof of VfsScriptSaid, joined: VfV VfW VfX VfY VfZ VgA VgB VgC. -/
import Derived.Test.YtdjmmdhjjdnbdaaJVfsScript5
import Derived.Deep.RegionHeld3
/- Layer 4: a file system that is not there, or that nobody made. -/
namespace Go.Proofs.Ytdjmmdhjjdnbdaa
open Go.RowKit

/-- nil, or a block whose made is false. -/
def Nob (w : World) (p : Option Addr) : Prop := p = none ∨ ∃ F, p = some ⟨F, 0, none⟩ ∧ F < w.heap.size ∧ w.cell? ⟨F, 0, none⟩ = some (.bool false)
theorem Nob.fr {w w' : World} {K : Nat → Prop} {p : Option Addr} (h : Nob w p) (hf : FrK w w' K) (hk : ∀ a, p = some a → ¬K a.block) : Nob w' p := by
  rcases h with rfl | ⟨F, rfl, h1, h2⟩
  · exact .inl rfl
  · exact .inr ⟨F, rfl, Nat.lt_of_lt_of_le h1 hf.size, (World.cell?_of_block (a := ⟨F, 0, none⟩) (hf.block F h1 (hk _ rfl))).trans h2⟩
theorem vfNoneNob {w : World} {p : Option Addr} (h : Nob w p) : Calls Try.prog 44 #[.pointer p] w fun e w' => e = .returned (.bool true) ∧ w' = w := by
  rcases h with rfl | ⟨F, rfl, h1, h2⟩
  · exact vfNoneNil w
  · exact vfNoneZero w h2
set_option maxRecDepth 100000 in
theorem vfOpNob {w : World} {p : Option Addr} (h : Nob w p) (r : Bool) (g l : Value) : Calls Try.prog 36 #[.pointer p, .bool r, g, l] w fun e w' => e = .returned (.int .i64 1) ∧ w' = w := by
  have cN := vfNoneNob h
  clear h
  go_enter Try.func36, Try.ntmps36
  go_wp2_with fail
  refine cN.mono ?_
  rintro e w' ⟨rfl, rfl⟩
  go_wp2_with fail
  go_ret
  exact ⟨rfl, rfl⟩
set_option maxRecDepth 100000 in
set_option maxHeartbeats 1000000 in
theorem vfOnNob {w : World} {p : Option Addr} (h : Nob w p) (r : Bool) (s : ByteArray) (g : Nat) (lb : Array Value) : Calls Try.prog 39 #[.pointer p, .bool r, .string s, .func (.func g) #[] lb] w fun e w' => e = .returned (.int .i64 1) ∧ FrK w w' Kno := by
  have b1 := Bk.new w 25 #[.pointer p]
  have hw1 := (FrK.refl w Kno).alloc (.cells #[.pointer p] 25)
  obtain ⟨w1, e1⟩ : ∃ w1, w.alloc (.cells #[.pointer p] 25) = w1 := ⟨_, rfl⟩
  rw [e1] at b1 hw1
  have s1 : w1.heap.size = w.heap.size + 1 := by rw [← e1]; simp
  have b2 := Bk.new w1 9 #[.string s]
  have b12 := b1.alloc (.cells #[.string s] 9)
  have hw2 := hw1.alloc (.cells #[.string s] 9)
  obtain ⟨w2, e2⟩ : ∃ w2, w1.alloc (.cells #[.string s] 9) = w2 := ⟨_, rfl⟩
  rw [e2] at b2 b12 hw2
  have s2 : w2.heap.size = w1.heap.size + 1 := by rw [← e2]; simp
  have b13 := b12.alloc (.cells #[.func (.func g) #[] lb] 72)
  have b23 := b2.alloc (.cells #[.func (.func g) #[] lb] 72)
  have hw3 := hw2.alloc (.cells #[.func (.func g) #[] lb] 72)
  obtain ⟨w3, e3⟩ : ∃ w3, w2.alloc (.cells #[.func (.func g) #[] lb] 72) = w3 := ⟨_, rfl⟩
  rw [e3] at b13 b23 hw3
  have s3 : w3.heap.size = w2.heap.size + 1 := by rw [← e3]; simp
  have hw4 := hw3.alloc (.cells #[.string s] 9)
  have c1 : w3.cell? ⟨w.heap.size, 0, none⟩ = some (.pointer p) := by rw [b13.cell 0]; rfl
  have c2 : w3.cell? ⟨w1.heap.size, 0, none⟩ = some (.string s) := by rw [b23.cell 0]; rfl
  obtain ⟨w4, e4⟩ : ∃ w4, w3.alloc (.cells #[.string s] 9) = w4 := ⟨_, rfl⟩
  rw [e4] at hw4
  have C := vfOpNob (h.fr hw4 fun _ _ e => e) r (.func (.func 70) #[] #[ptV w.heap.size, ptV w1.heap.size, ptV w2.heap.size]) (.slice (some ⟨w3.heap.size, 0, none⟩) 1 1)
  rw [s3, s2, s1] at C
  have E1 := Lib.hid e1
  have E2 := Lib.hid e2
  have E3 := Lib.hid e3
  have E4 := Lib.hid e4
  have HF := Lib.hid hw4
  clear h hw1 hw2 hw3 b1 b2 b12 b13 b23 hw4 e1 e2 e3 e4 s1 s2 s3
  have hmf : ∀ (fn : Fn) (first cap : Array Value) (w : World), (Instr.makeFunc fn first cap).run Try.prog w = .ok (.func fn first cap) w := fun _ _ _ _ => rfl
  go_enter Try.func39, Try.ntmps39
  go_wp2_with fail
  rw [E1.out, E2.out, E3.out, E4.out]
  refine C.mono ?_
  rintro e w' ⟨rfl, rfl⟩
  go_wp2_with fail
  go_ret
  exact ⟨rfl, HF.out⟩
end Go.Proofs.Ytdjmmdhjjdnbdaa

/- Layer 4: a file system that is not there, or that nobody made: the calls that ask none themselves. -/
namespace Go.Proofs.Ytdjmmdhjjdnbdaa
open Go.RowKit

set_option maxRecDepth 100000 in
theorem nobFuse {w : World} {p : Option Addr} (h : Nob w p) (n : Int) : Calls Try.prog 24 #[.pointer p, .int .i64 n] w fun e w' => e = .returned (.int .i64 1) ∧ w' = w := by
  have cN := vfNoneNob h
  clear h
  go_enter Try.func24, Try.ntmps24
  go_wp2_with fail
  refine cN.mono ?_
  rintro e w' ⟨rfl, rfl⟩
  go_wp2_with fail
  go_ret
  exact ⟨rfl, rfl⟩
set_option maxRecDepth 100000 in
theorem nobFault {w : World} {p : Option Addr} (h : Nob w p) (n e : Int) : Calls Try.prog 26 #[.pointer p, .int .i64 n, .int .i64 e] w fun e w' => e = .returned (.int .i64 1) ∧ w' = w := by
  have cN := vfNoneNob h
  clear h
  go_enter Try.func26, Try.ntmps26
  go_wp2_with fail
  refine cN.mono ?_
  rintro e w' ⟨rfl, rfl⟩
  go_wp2_with fail
  go_ret
  exact ⟨rfl, rfl⟩
set_option maxRecDepth 100000 in
theorem nobCrash {w : World} {p : Option Addr} (h : Nob w p) (d : Int) (A : Option Addr) (n c : Nat) : Calls Try.prog 17 #[.pointer p, .int .i64 d, .slice A n c] w fun e w' => e = .returned (.int .i64 1) ∧ FrK w w' Kno := by
  have hf := (FrK.refl w Kno).alloc (.cells #[.slice A n c] 34)
  have cN := vfNoneNob (h.fr hf fun _ _ e => e)
  have HF := Lib.hid hf
  clear h hf
  go_enter Try.func17, Try.ntmps17
  go_wp2_with fail
  refine cN.mono ?_
  rintro e w' ⟨rfl, rfl⟩
  go_wp2_with fail
  go_ret
  exact ⟨rfl, HF.out⟩
set_option maxRecDepth 100000 in
theorem nobTurn {w : World} {p : Option Addr} (h : Nob w p) (s : ByteArray) (n b : Int) : Calls Try.prog 33 #[.pointer p, .string s, .int .i64 n, .int .u8 b] w fun e w' => e = .returned (.int .i64 1) ∧ w' = w := by
  have cN := vfNoneNob h
  clear h
  go_enter Try.func33, Try.ntmps33
  go_wp2_with fail
  refine cN.mono ?_
  rintro e w' ⟨rfl, rfl⟩
  go_wp2_with fail
  go_ret
  exact ⟨rfl, rfl⟩
set_option maxRecDepth 100000 in
theorem nobSize {w : World} {p : Option Addr} (h : Nob w p) (s : ByteArray) : Calls Try.prog 18 #[.pointer p, .string s] w fun e w' => e = .returned (.int .i64 0) ∧ w' = w := by
  have cN := vfNoneNob h
  clear h
  go_enter Try.func18, Try.ntmps18
  go_wp2_with fail
  refine cN.mono ?_
  rintro e w' ⟨rfl, rfl⟩
  go_wp2_with fail
  go_ret
  exact ⟨rfl, rfl⟩
set_option maxRecDepth 100000 in
theorem nobNames {w : World} {p : Option Addr} (h : Nob w p)  : Calls Try.prog 19 #[.pointer p] w fun e w' => e = .returned (.slice none 0 0) ∧ w' = w := by
  have cN := vfNoneNob h
  clear h
  go_enter Try.func19, Try.ntmps19
  go_wp2_with fail
  refine cN.mono ?_
  rintro e w' ⟨rfl, rfl⟩
  go_wp2_with fail
  go_ret
  exact ⟨rfl, rfl⟩
set_option maxRecDepth 100000 in
theorem nobUsed {w : World} {p : Option Addr} (h : Nob w p)  : Calls Try.prog 34 #[.pointer p] w fun e w' => e = .returned (.int .i64 0) ∧ w' = w := by
  have cN := vfNoneNob h
  clear h
  go_enter Try.func34, Try.ntmps34
  go_wp2_with fail
  refine cN.mono ?_
  rintro e w' ⟨rfl, rfl⟩
  go_wp2_with fail
  go_ret
  exact ⟨rfl, rfl⟩
set_option maxRecDepth 100000 in
theorem nobOn {w : World} {p : Option Addr} (h : Nob w p)  : Calls Try.prog 25 #[.pointer p] w fun e w' => e = .returned (.bool false) ∧ w' = w := by
  have cN := vfNoneNob h
  clear h
  go_enter Try.func25, Try.ntmps25
  go_wp2_with fail
  refine cN.mono ?_
  rintro e w' ⟨rfl, rfl⟩
  go_wp2_with fail
  go_ret
  exact ⟨rfl, rfl⟩
set_option maxRecDepth 100000 in
theorem nobOps {w : World} {p : Option Addr} (h : Nob w p)  : Calls Try.prog 35 #[.pointer p] w fun e w' => e = .returned (.int .i64 0) ∧ w' = w := by
  have cN := vfNoneNob h
  clear h
  go_enter Try.func35, Try.ntmps35
  go_wp2_with fail
  refine cN.mono ?_
  rintro e w' ⟨rfl, rfl⟩
  go_wp2_with fail
  go_ret
  exact ⟨rfl, rfl⟩
end Go.Proofs.Ytdjmmdhjjdnbdaa

/- Layer 4: a file system that is not there, or that nobody made: the operations. -/
namespace Go.Proofs.Ytdjmmdhjjdnbdaa
open Go.RowKit

set_option maxRecDepth 100000 in
theorem nobSync {w : World} {p : Option Addr} (h : Nob w p) (s : ByteArray) : Calls Try.prog 15 #[.pointer p, .string s] w fun e w' => e = .returned (.int .i64 1) ∧ FrK w w' Kno := by
  have HN := Lib.hid h
  clear h
  have hmf : ∀ (fn : Fn) (first cap : Array Value) (w : World), (Instr.makeFunc fn first cap).run Try.prog w = .ok (.func fn first cap) w := fun _ _ _ _ => rfl
  go_enter Try.func15, Try.ntmps15
  go_wp2_with fail
  refine (vfOnNob (HN.out.fr (FrK.refl w Kno) fun _ _ e => e) true s _ _).mono ?_
  rintro e w' ⟨rfl, hf⟩
  go_wp2_with fail
  go_ret
  exact ⟨rfl, (FrK.refl w Kno).trans hf fun _ _ e => e⟩
set_option maxRecDepth 100000 in
theorem nobRemove {w : World} {p : Option Addr} (h : Nob w p) (s : ByteArray) : Calls Try.prog 32 #[.pointer p, .string s] w fun e w' => e = .returned (.int .i64 1) ∧ FrK w w' Kno := by
  have HN := Lib.hid h
  clear h
  have hmf : ∀ (fn : Fn) (first cap : Array Value) (w : World), (Instr.makeFunc fn first cap).run Try.prog w = .ok (.func fn first cap) w := fun _ _ _ _ => rfl
  go_enter Try.func32, Try.ntmps32
  go_wp2_with fail
  refine (vfOnNob (HN.out.fr (((FrK.refl w Kno).alloc _).alloc _) fun _ _ e => e) true s _ _).mono ?_
  rintro e w' ⟨rfl, hf⟩
  go_wp2_with fail
  go_ret
  exact ⟨rfl, (((FrK.refl w Kno).alloc _).alloc _).trans hf fun _ _ e => e⟩
set_option maxRecDepth 100000 in
theorem nobAppend {w : World} {p : Option Addr} (h : Nob w p) (s : ByteArray) (A : Option Addr) (n c : Nat) : Calls Try.prog 13 #[.pointer p, .string s, .slice A n c] w fun e w' => e = .returned (.int .i64 1) ∧ FrK w w' Kno := by
  have HN := Lib.hid h
  clear h
  have hmf : ∀ (fn : Fn) (first cap : Array Value) (w : World), (Instr.makeFunc fn first cap).run Try.prog w = .ok (.func fn first cap) w := fun _ _ _ _ => rfl
  go_enter Try.func13, Try.ntmps13
  go_wp2_with fail
  refine (vfOnNob (HN.out.fr (((FrK.refl w Kno).alloc _).alloc _) fun _ _ e => e) true s _ _).mono ?_
  rintro e w' ⟨rfl, hf⟩
  go_wp2_with fail
  go_ret
  exact ⟨rfl, (((FrK.refl w Kno).alloc _).alloc _).trans hf fun _ _ e => e⟩
set_option maxRecDepth 100000 in
theorem nobCreate {w : World} {p : Option Addr} (h : Nob w p) (s : ByteArray) : Calls Try.prog 12 #[.pointer p, .string s] w fun e w' => e = .returned (.int .i64 1) ∧ FrK w w' Kno := by
  have HN := Lib.hid h
  clear h
  have hmf : ∀ (fn : Fn) (first cap : Array Value) (w : World), (Instr.makeFunc fn first cap).run Try.prog w = .ok (.func fn first cap) w := fun _ _ _ _ => rfl
  go_enter Try.func12, Try.ntmps12
  go_wp2_with fail
  refine (vfOpNob (HN.out.fr ((((FrK.refl w Kno).alloc _).alloc _).alloc _) fun _ _ e => e) true _ _).mono ?_
  rintro e w' ⟨rfl, rfl⟩
  go_wp2_with fail
  go_ret
  exact ⟨rfl, (((FrK.refl w Kno).alloc _).alloc _).alloc _⟩
set_option maxRecDepth 100000 in
theorem nobSyncDir {w : World} {p : Option Addr} (h : Nob w p)  : Calls Try.prog 16 #[.pointer p] w fun e w' => e = .returned (.int .i64 1) ∧ FrK w w' Kno := by
  have HN := Lib.hid h
  clear h
  have hmf : ∀ (fn : Fn) (first cap : Array Value) (w : World), (Instr.makeFunc fn first cap).run Try.prog w = .ok (.func fn first cap) w := fun _ _ _ _ => rfl
  go_enter Try.func16, Try.ntmps16
  go_wp2_with fail
  refine (vfOpNob (HN.out.fr ((FrK.refl w Kno).alloc _) fun _ _ e => e) true _ _).mono ?_
  rintro e w' ⟨rfl, rfl⟩
  go_wp2_with fail
  go_ret
  exact ⟨rfl, (FrK.refl w Kno).alloc _⟩
set_option maxRecDepth 100000 in
theorem nobRename {w : World} {p : Option Addr} (h : Nob w p) (s t : ByteArray) : Calls Try.prog 22 #[.pointer p, .string s, .string t] w fun e w' => e = .returned (.int .i64 1) ∧ FrK w w' Kno := by
  have HN := Lib.hid h
  clear h
  have hmf : ∀ (fn : Fn) (first cap : Array Value) (w : World), (Instr.makeFunc fn first cap).run Try.prog w = .ok (.func fn first cap) w := fun _ _ _ _ => rfl
  go_enter Try.func22, Try.ntmps22
  go_wp2_with fail
  refine (vfOpNob (HN.out.fr (((((FrK.refl w Kno).alloc _).alloc _).alloc _).alloc _) fun _ _ e => e) true _ _).mono ?_
  rintro e w' ⟨rfl, rfl⟩
  go_wp2_with fail
  go_ret
  exact ⟨rfl, ((((FrK.refl w Kno).alloc _).alloc _).alloc _).alloc _⟩
end Go.Proofs.Ytdjmmdhjjdnbdaa

/- Layer 4: Read of a file system that nobody made. -/
namespace Go.Proofs.Ytdjmmdhjjdnbdaa
open Go.RowKit

set_option maxRecDepth 100000 in
theorem nobRead {w : World} {p : Option Addr} (h : Nob w p) (s : ByteArray) (a n : Int) : Calls Try.prog 20 #[.pointer p, .string s, .int .i64 a, .int .i64 n] w fun e w' => e = .returned (.tuple #[.slice none 0 0, .int .i64 1]) ∧ FrK w w' Kno := by
  have b3 := Bk.new ((w.alloc (.cells #[.int .i64 a] 3)).alloc (.cells #[.int .i64 n] 3)) 24 #[.slice none 0 0]
  have hf3 := (((FrK.refl w Kno).alloc (.cells #[.int .i64 a] 3)).alloc (.cells #[.int .i64 n] 3)).alloc (.cells #[.slice none 0 0] 24)
  obtain ⟨w3, e3⟩ : ∃ w3, ((w.alloc (.cells #[.int .i64 a] 3)).alloc (.cells #[.int .i64 n] 3)).alloc (.cells #[.slice none 0 0] 24) = w3 := ⟨_, rfl⟩
  rw [e3] at b3 hf3
  have hsz : ((w.alloc (.cells #[.int .i64 a] 3)).alloc (.cells #[.int .i64 n] 3)).heap.size = w.heap.size + 1 + 1 := by simp
  rw [hsz] at b3
  have hN := h.fr hf3 fun _ _ e => e
  have HN := Lib.hid hN
  have B3 := Lib.hid b3
  have HF := Lib.hid hf3
  have E3 := Lib.hid e3
  clear h hN b3 hf3 e3 hsz
  have hmf : ∀ (fn : Fn) (first cap : Array Value) (w : World), (Instr.makeFunc fn first cap).run Try.prog w = .ok (.func fn first cap) w := fun _ _ _ _ => rfl
  by_cases ha : 0 ≤ a
  · have ha' : decide (0 ≤ a) = true := decide_eq_true ha
    go_enter Try.func20, Try.ntmps20
    go_wp2_with fail
    rw [E3.out]
    refine (vfOnNob HN.out _ s _ _).mono ?_
    rintro e w' ⟨rfl, hf⟩
    have b4 := hf.bk B3.out fun e => e
    have k0 : w'.cell? ⟨w.heap.size + 1 + 1, 0, none⟩ = some (.slice none 0 0) := by rw [b4.cell 0]; rfl
    go_wp2_with fail
    go_ret2
    exact ⟨rfl, HF.out.trans hf fun _ _ e => e⟩
  · have ha' : decide (0 ≤ a) = false := decide_eq_false ha
    go_enter Try.func20, Try.ntmps20
    go_wp2_with fail
    rw [E3.out]
    refine (vfOnNob HN.out _ s _ _).mono ?_
    rintro e w' ⟨rfl, hf⟩
    have b4 := hf.bk B3.out fun e => e
    have k0 : w'.cell? ⟨w.heap.size + 1 + 1, 0, none⟩ = some (.slice none 0 0) := by rw [b4.cell 0]; rfl
    go_wp2_with fail
    go_ret2
    exact ⟨rfl, HF.out.trans hf fun _ _ e => e⟩
end Go.Proofs.Ytdjmmdhjjdnbdaa

/- Layer 4, plain: each call keeps what is always so. -/
namespace Go.Proofs.Ytdjmmdhjjdnbdaa
open Go.RowKit

theorem mgPut_vals {κ ν : Type} [DecidableEq κ] {k : κ} {v : ν} : ∀ {L : List (κ × ν)}, (L.map (·.1)).Nodup → (L.map (·.2)).Nodup → (∀ p ∈ L, p.1 ≠ k → p.2 ≠ v) → ((mgPut k v L).map (·.2)).Nodup
  | [], _, _, _ => by simp [mgPut]
  | p :: l, hk0, hn, hv => by
    obtain ⟨k1, k2⟩ := List.nodup_cons.1 hk0
    obtain ⟨h1, h2⟩ := List.nodup_cons.1 hn
    rw [mgPut]
    by_cases hp : p.1 = k
    · rw [if_pos hp]
      by_cases hvl : v ∈ l.map (·.2)
      · obtain ⟨q, hq, e⟩ := List.mem_map.1 hvl
        by_cases hqk : q.1 = k
        · exact absurd (List.mem_map.2 ⟨q, hq, hqk.trans hp.symm⟩) k1
        · exact absurd e (hv q (List.mem_cons_of_mem _ hq) hqk)
      · exact List.nodup_cons.2 ⟨hvl, h2⟩
    · rw [if_neg hp]
      refine List.nodup_cons.2 ⟨fun hm => ?_, mgPut_vals k2 h2 fun q hq => hv q (List.mem_cons_of_mem _ hq)⟩
      obtain ⟨q, hq, e⟩ := List.mem_map.1 hm
      rcases mgPut_mem hq with hq | hq
      · exact hv p (List.mem_cons_self ..) hp (by rw [hq] at e; exact e.symm)
      · exact h1 (List.mem_map.2 ⟨q, hq, e⟩)
theorem dirN_more {S : VSt} {c : VChg} {f : List VFile} (n : Nat) : ({ S with chg := S.chg ++ [c], fs := f } : VSt).dirN n = if n ≤ S.chg.length then S.dirN n else chgOn S.now c := by
  unfold VSt.now VSt.dirN
  split
  · rename_i h
    simp only
    rw [List.take_append_of_le_length h]
  · rename_i h
    simp only
    rw [List.take_of_length_le (by simp; omega), List.foldl_append, List.take_length]
    rfl
theorem keys_on {L : List (ByteArray × Nat)} {c : VChg} (h : (L.map (·.1)).Nodup) : ((chgOn L c).map (·.1)).Nodup := by
  have hd : ((if c.gone = noT then L else dDel c.gone L).map (·.1)).Nodup := by
    split
    · exact h
    · exact mgDel_nodup h
  unfold chgOn
  split
  · exact mgPut_nodup hd
  · exact hd
theorem fold_keys : ∀ (l : List VChg) {L : List (ByteArray × Nat)}, (L.map (·.1)).Nodup → ((l.foldl chgOn L).map (·.1)).Nodup
  | [], _, h => h
  | c :: l, _, h => fold_keys l (keys_on h)
theorem VSt.Ok.keys {S : VSt} (h : S.Ok) (n : Nat) : ((S.dirN n).map (·.1)).Nodup := fold_keys _ h.synN
/-- A change more keeps all, if the directory's files stay distinct. -/
theorem VSt.Ok.chgd {S : VSt} (h : S.Ok) {c : VChg} {f : List VFile} (hc : c.Ok (S.fs ++ f).length) (hi : ((chgOn S.now c).map (·.2)).Nodup) (hf : ∀ x ∈ f, Byt x.b ∧ x.s ≤ x.b.length) : ({ S with chg := S.chg ++ [c], fs := S.fs ++ f } : VSt).Ok where
  syn p hp := by
    have := h.syn p hp
    rw [List.length_append]
    omega
  synN := h.synN
  chg c' hc' := by
    rcases List.mem_append.1 hc' with h1 | h1
    · refine ⟨fun i e => ⟨?_, ((h.chg c' h1).1 i e).2⟩, (h.chg c' h1).2⟩
      have := ((h.chg c' h1).1 i e).1
      simp only [List.length_append]
      omega
    · rw [List.mem_singleton] at h1
      subst h1
      exact hc
  inj n := by
    rw [dirN_more]
    split
    · exact h.inj n
    · exact hi
  byt x hx := by
    rcases List.mem_append.1 hx with h1 | h1
    · exact h.byt x h1
    · exact hf x h1
  fuse := h.fuse
  fault := h.fault
theorem VSt.Ok.now_inj {S : VSt} (h : S.Ok) : (S.now.map (·.2)).Nodup := h.inj _
theorem VSt.Ok.now_keys {S : VSt} (h : S.Ok) : (S.now.map (·.1)).Nodup := h.keys _
theorem op_ok {S : VSt} {r : Bool} {d : VSt → VSt × Nat} (h : S.Ok) (hd : ∀ T : VSt, r = true → T.Ok → (d T).1.Ok) : (S.op r d).1.Ok := by
  unfold VSt.op
  split
  · exact h
  · rename_i hr
    split
    · exact h.strike
    · exact hd _ (by simpa using hr) h.strike
theorem create_ok {S : VSt} (h : S.Ok) (s : ByteArray) : (S.create s).1.Ok := by
  refine op_ok h fun T hn hT => ?_
  cases hg : T.get s with
  | some i => exact hT
  | none =>
    refine hT.chgd (c := ⟨s, some T.fs.length, noT⟩) (f := [⟨[], 0⟩]) ⟨fun i e => ⟨?_, fun e2 => vName_ne hn e2.symm⟩, fun e => by cases e⟩ ?_ fun x hx => ?_
    · injection e with e
      rw [List.length_append]
      simp
      omega
    · show ((mgPut s T.fs.length T.now).map (·.2)).Nodup
      refine mgPut_vals hT.now_keys hT.now_inj fun p hp _ e => ?_
      have := hT.dirN_lt (n := T.chg.length) hp
      omega
    · rw [List.mem_singleton] at hx
      subst hx
      exact ⟨(fun z hz => by cases hz), Nat.le_refl _⟩
theorem remove_ok {S : VSt} (h : S.Ok) (s : ByteArray) : (S.remove s).1.Ok := by
  refine op_ok h fun T hn hT => ?_
  cases hg : T.get s with
  | none => exact hT
  | some i =>
    have h1 := hT.chgd (c := ⟨noT, none, s⟩) (f := []) ⟨(fun i e => by cases e), fun _ => vName_ne hn⟩ (by
      have e1 : chgOn T.now ⟨noT, none, s⟩ = dDel s T.now := by
        unfold chgOn
        simp only
        rw [if_neg (vName_ne hn)]
      rw [e1]
      exact (List.filter_sublist.map _).nodup hT.now_inj) fun x hx => by cases hx
    simpa using h1
theorem VSt.Ok.setFile {S : VSt} (h : S.Ok) (i : Nat) {x : VFile} (hx : Byt x.b ∧ x.s ≤ x.b.length) : (S.setFile i x).Ok where
  syn p hp := by
    have := h.syn p hp
    simpa [VSt.setFile] using this
  synN := h.synN
  chg c hc := by
    have := h.chg c hc
    simpa [VSt.setFile] using this
  inj n := h.inj n
  byt y hy := by
    rcases List.mem_or_eq_of_mem_set (show y ∈ S.fs.set i x from hy) with h1 | h1
    · exact h.byt y h1
    · exact h1 ▸ hx
  fuse := h.fuse
  fault := h.fault
theorem VSt.Ok.file {S : VSt} (h : S.Ok) {i : Nat} (hi : i < S.fs.length) : Byt (S.file i).b ∧ (S.file i).s ≤ (S.file i).b.length := h.byt _ (List.mem_of_getElem? (file_at hi))
theorem sync_ok {S : VSt} (h : S.Ok) (s : ByteArray) : (S.sync s).1.Ok := by
  refine op_ok h fun T hn hT => ?_
  cases hg : T.get s with
  | none => exact hT
  | some i => exact hT.setFile i ⟨(hT.file (hT.get_lt hg)).1, Nat.le_refl _⟩
theorem append_ok {S : VSt} (h : S.Ok) (s : ByteArray) {zs : List Int} (hz : Byt zs) : (S.append s zs).1.Ok := by
  refine op_ok h fun T hn hT => ?_
  cases hg : T.get s with
  | none => exact hT
  | some i =>
    simp only
    split
    · exact hT
    · have hf := hT.file (hT.get_lt hg)
      refine hT.setFile i ⟨fun z hz' => ?_, ?_⟩
      · rcases List.mem_append.1 hz' with h1 | h1
        · exact hf.1 z h1
        · exact hz z h1
      · simp only [List.length_append]
        omega
theorem rename_ok {S : VSt} (h : S.Ok) (s t : ByteArray) : (S.rename s t).1.Ok := by
  refine op_ok h fun T hn hT => ?_
  have hs : vName s = true := (Bool.and_eq_true _ _ ▸ hn).1
  cases hg : T.get s with
  | none => exact hT
  | some i =>
    simp only
    split
    · exact hT
    · rename_i hst
      have hi := hT.get_lt hg
      have h1 := hT.chgd (c := ⟨t, some i, s⟩) (f := []) ⟨(fun j e => by
        injection e with e
        subst e
        exact ⟨by simpa using hi, hst⟩), (fun e => by cases e)⟩ (by
        have e1 : chgOn T.now ⟨t, some i, s⟩ = mgPut t i (dDel s T.now) := by
          unfold chgOn
          simp only
          rw [if_neg (vName_ne hs)]
        rw [e1]
        refine mgPut_vals (mgDel_nodup hT.now_keys) ((List.filter_sublist.map _).nodup hT.now_inj) fun p hp _ e => ?_
        have hp2 := List.mem_filter.1 hp
        have h2 : p = (s, i) := inj_of_nodup hT.now_inj hp2.1 (mgGet_mem hg) e
        have h3 := hp2.2
        rw [h2] at h3
        simp at h3) fun x hx => by cases hx
      simpa using h1
theorem fuse_ok {S : VSt} (h : S.Ok) {n : Int} (hn : n ≤ 9223372036854775807) : (S.setFuse n).Ok := h.of rfl rfl rfl (by simp only [VSt.setFuse]; omega) h.fault
theorem fault_ok {S : VSt} (h : S.Ok) {n e : Int} (hn : n ≤ 9223372036854775807) : (S.setFault n e).1.Ok := by
  unfold VSt.setFault
  split
  · exact h
  · exact h.of rfl rfl rfl h.fuse (by simp only; omega)
theorem read_ok {S : VSt} (h : S.Ok) (s : ByteArray) (a n : Int) : (S.read s a n).1.Ok := by
  unfold VSt.read
  split
  · exact h
  · split
    · exact h.strike
    · split <;> exact h.strike
theorem syncDir_ok {S : VSt} (h : S.Ok) : S.syncDir.1.Ok := by
  refine op_ok h fun T hn hT => ⟨fun p hp => hT.dirN_lt (n := T.chg.length) hp, hT.now_keys, (fun c hc => by cases hc), fun n => ?_, hT.byt, hT.fuse, hT.fault⟩
  have e1 : ({ T with syn := T.now, chg := [] } : VSt).dirN n = T.now := by
    unfold VSt.dirN
    simp
  rw [e1]
  exact hT.now_inj
end Go.Proofs.Ytdjmmdhjjdnbdaa

/- Layer 4: Rename. -/
namespace Go.Proofs.Ytdjmmdhjjdnbdaa
open Go.RowKit

theorem strEqV {s t : ByteArray} : (s.toList == t.toList) = decide (s = t) := by
  by_cases h : s = t
  · subst h
    simp
  · rw [decide_eq_false h, beq_eq_false_iff_ne]
    intro e
    apply h
    rw [ByteArray.toList_eq, ByteArray.toList_eq] at e
    exact ByteArray.ext (Array.ext' e)
/-- A new map of two names, made in either order. -/
theorem mh_two {vv : Option Nat → Value} {w : World} {b : Nat} (h0 : Mh strV vv w b []) {s t : ByteArray} (hst : s ≠ t) (i : Option Nat) (j : Option Nat) :
    ∃ w2 w3, (Instr.mapUpdate 70 (.map (some b)) (.string s) (vv i)).run Try.prog w = .ok () w2 ∧ (Instr.mapUpdate 70 (.map (some b)) (.string t) (vv j)).run Try.prog w2 = .ok () w3 ∧
      Mh strV vv w3 b [(s, i), (t, j)] ∧ w.grownBy w2 (some b) ∧ w.grownBy w3 (some b) ∧ w3.heap.size = w.heap.size := by
  obtain ⟨es, c, h1, h2⟩ := run_mhPut (P := Try.prog) (strRun Try.underlying9) Try.underlying70 h0 s i
  obtain ⟨es', c', h3, h4⟩ := run_mhPut (P := Try.prog) (strRun Try.underlying9) Try.underlying70 h2 t j
  refine ⟨_, _, h1, h3, ?_, putObj_grown w b _, (putObj_grown w b _).trans (putObj_grown _ b _), by simp⟩
  have e : mgPut t j (mgPut s i []) = [(s, i), (t, j)] := by
    simp [mgPut, hst]
  rw [← e]
  exact h4
set_option maxRecDepth 100000 in
set_option maxHeartbeats 2000000 in
theorem vfRename1 {base F bF bN bT : Nat} {w : World} {K : Nat → Prop} {S : VSt} {m : VMem} (h : Vf base w K F S m) (hok : S.Ok) {s t : ByteArray} (hs : s ≠ noT) (ht : t ≠ noT)
    (hF : Bk w bF 25 #[ptV F]) (hN : Bk w bN 9 #[.string s]) (hT : Bk w bT 9 #[.string t]) (kF : ¬K bF) (kN : ¬K bN) (kT : ¬K bT) (hlen : S.chg.length ≤ 1000000) (R : VSt × Nat)
    (hR : R = match S.get s with | none => (S, 6) | some i => if s = t then (S, 0) else ({ S with chg := S.chg ++ [⟨t, some i, s⟩] }, 0)) :
    Calls Try.prog 50 #[ptV bF, ptV bN, ptV bT] w (VPost base w K F R) := by
  have c0 : w.cell? ⟨bF, 0, none⟩ = some (ptV F) := by rw [hF.cell 0]; rfl
  have c1 : w.cell? ⟨bN, 0, none⟩ = some (.string s) := by rw [hN.cell 0]; rfl
  have c2 : w.cell? ⟨bT, 0, none⟩ = some (.string t) := by rw [hT.cell 0]; rfl
  have c3 : w.cell? ⟨F, 2, none⟩ = some (maV m.db) := by rw [h.blk.cell 2]; rfl
  have hlk := h.drew.look s true
  simp only [if_true] at hlk
  have hmm := @run_makeMap Try.prog
  cases hg : S.get s with
  | none =>
    rw [hg] at hlk hR
    simp only [Option.map_none, Option.getD_none, Option.isSome_none] at hlk
    subst hR
    have H := Lib.hid h
    clear h hok hF hN hT hg
    go_enter Try.func50, Try.ntmps50
    go_wp2_with fail
    go_region
    go_wp2_with fail
    go_ret
    exact VPost.of H.out rfl H.out.drew (FrK.refl w Kno).drew fun _ e => e.elim
  | some i =>
    rw [hg] at hlk hR
    simp only [Option.map_some, Option.getD_some, Option.isSome_some] at hlk
    simp only at hR
    by_cases hst : s = t
    · subst hst
      rw [if_pos rfl] at hR
      subst hR
      have H := Lib.hid h
      clear h hok hF hN hT hg
      go_enter Try.func50, Try.ntmps50
      go_wp2_with fail
      go_region
      go_wp2_with fail
      go_ret
      exact VPost.of H.out rfl H.out.drew (FrK.refl w Kno).drew fun _ e => e.elim
    · rw [if_neg hst] at hR
      have hne : (s.toList == t.toList) = false := by
        rw [strEqV]
        exact decide_eq_false hst
      have m1 : Mh strV (fiO m.fb) (w.alloc (.map #[] 0)).drew.drew w.heap.size [] := (Mh.new w).drew.drew
      obtain ⟨w2, w3, r1, r2, m2, g1, g2, z1⟩ := mh_two m1 hst none (some i)
      obtain ⟨w4, w5, r3, r4, m3, g3, g4, z2⟩ := mh_two m1 (Ne.symm hst) (some i) none
      have lF := hF.lt
      have lN := hN.lt
      have lT := hT.lt
      have near : ∀ {x : World} {b : Nat}, (w.alloc (.map #[] 0)).drew.drew.grownBy x (some w.heap.size) → b < w.heap.size → x.cell? ⟨b, 0, none⟩ = w.cell? ⟨b, 0, none⟩ := fun {x b} hg hb => by
        refine World.cell?_of_block (a := ⟨b, 0, none⟩) ?_
        refine (hg.block b (by show b < (w.alloc (.map #[] 0)).heap.size; simp; omega) (fun e => ?_)).trans ?_
        · have := Option.some.inj e
          omega
        · exact Below.heap_alloc w _ b hb
      have a0 := (near g1 lF).trans c0
      have a1 := (near g1 lN).trans c1
      have a2 := (near g1 lT).trans c2
      have b0 := (near g2 lF).trans c0
      have b1 := (near g2 lN).trans c1
      have b2 := (near g2 lT).trans c2
      have d0 := (near g3 lF).trans c0
      have d1 := (near g3 lN).trans c1
      have d2 := (near g3 lT).trans c2
      have e0 := (near g4 lF).trans c0
      have e1 := (near g4 lN).trans c1
      have e2 := (near g4 lT).trans c2
      have f0 := World.new_ne w _ c0
      have f1 := World.new_ne w _ c1
      have f2 := World.new_ne w _ c2
      have fr1 : FrK w (w.alloc (.map #[] 0)).drew.drew Kno := ((FrK.refl w Kno).alloc _).drew.drew
      have frg : ∀ {x : World}, (w.alloc (.map #[] 0)).drew.drew.grownBy x (some w.heap.size) → FrK w x Kno := fun {x} hg => fr1.trans (FrK.of_grown (K := fun b => b = w.heap.size) hg fun b _ e => (Option.some.inj e).symm) fun b hb e => by omega
      have hz : (w.alloc (.map #[] 0)).drew.drew.heap.size = w.heap.size + 1 := by show (w.alloc (.map #[] 0)).heap.size = _; simp
      have hi := hok.get_lt hg
      have hcOk : (⟨t, some i, s⟩ : VChg).Ok S.fs.length := ⟨(fun k e => ⟨by injection e with e; omega, hst⟩), fun e => by cases e⟩
      have hcg : chgL ⟨t, some i, s⟩ = [(s, none), (t, some i)] := by simp [chgL, hs]
      have post : ∀ {e : Ending} {w' : World}, (e = .returned (.tuple #[]) ∧ (∃ m', m'.fb = m.fb ∧ m'.bv = m.bv ∧ Vf base w' (Kn K w.heap.size w'.heap.size) F { S with chg := S.chg ++ [⟨t, some i, s⟩] } m') ∧ FrK w w' K) → VPost base w K F R (.returned (.int .i64 (0 : Nat))) w' ∧ w'.cell? ⟨bF, 0, none⟩ = some (ptV F) ∧ w'.cell? ⟨bN, 0, none⟩ = some (.string s) ∧ w'.cell? ⟨bT, 0, none⟩ = some (.string t) := fun {e w'} ⟨_, ⟨m', _, _, hv⟩, hf⟩ => by
        subst hR
        refine ⟨⟨rfl, m', hv, hf⟩, ?_, ?_, ?_⟩
        · rw [(hf.bk hF kF).cell 0]; rfl
        · rw [(hf.bk hN kN).cell 0]; rfl
        · rw [(hf.bk hT kT).cell 0]; rfl
      have C1 := (vfNoteNew h (frg g2) (cb := w.heap.size) ⟨Nat.le_refl _, by rw [z1, hz]; omega⟩ hcOk m2 (by rw [hcg]) hlen).mono fun e w' he => And.intro he.1 (post he)
      have C2 := (vfNoteNew h (frg g4) (cb := w.heap.size) ⟨Nat.le_refl _, by rw [z2, hz]; omega⟩ hcOk m3 (by rw [hcg]; exact List.Perm.swap ..) hlen).mono fun e w' he => And.intro he.1 (post he)
      simp only [fiO] at r1 r2 r3 r4
      have HC1 := Lib.hid C1
      have HC2 := Lib.hid C2
      clear h hok hF hN hT hg kF kN kT m1 m2 m3 g1 g2 g3 g4 z1 z2 lF lN lT fr1 hz hi hcOk hcg hst hs ht hR C1 C2 hlen
      go_enter Try.func50, Try.ntmps50
      go_wp2_with fail
      go_region
      go_wp2_with fail
      go_region_held3 (fun w' => w'.cell? ⟨bF, 0, none⟩ = some (ptV F) ∧ w'.cell? ⟨bN, 0, none⟩ = some (.string s) ∧ w'.cell? ⟨bT, 0, none⟩ = some (.string t)) (first | go_keep | (rename_i hp; exact hp)) (first | (refine HC1.out.mono ?_; rintro e w' ⟨rfl, hp, hq⟩) | (refine HC2.out.mono ?_; rintro e w' ⟨rfl, hp, hq⟩))
      all_goals go_wp2_with fail
      all_goals go_ret
      all_goals assumption
end Go.Proofs.Ytdjmmdhjjdnbdaa

/- Layer 4: Rename, called. -/
namespace Go.Proofs.Ytdjmmdhjjdnbdaa
open Go.RowKit

set_option maxRecDepth 100000 in
set_option maxHeartbeats 1000000 in
theorem vfRename {base F : Nat} {w : World} {K : Nat → Prop} {S : VSt} {m : VMem} (h : Vf base w K F S m) (hok : S.Ok) (hops : S.ops ≤ 4611686018427387904) (s t : ByteArray) (hs : s.size ≤ 9223372036854775806) (ht : t.size ≤ 9223372036854775806) (hlen : S.chg.length ≤ 1000000) :
    Calls Try.prog 22 #[ptV F, .string s, .string t] w (VPost base w K F (S.rename s t)) := by
  have hb := h.baseLe
  have hlo := h.lo
  have hFlt := (h.lo F h.kF).2
  have b1 := Bk.new w 25 #[ptV F]
  have hw1 := (FrK.refl w Kno).alloc (.cells #[ptV F] 25)
  have v1 := h.alloc (.cells #[ptV F] 25)
  obtain ⟨w1, e1⟩ : ∃ w1, w.alloc (.cells #[ptV F] 25) = w1 := ⟨_, rfl⟩
  rw [e1] at b1 hw1 v1
  have s1 : w1.heap.size = w.heap.size + 1 := by rw [← e1]; simp
  have b2 := Bk.new w1 9 #[.string s]
  have b12 := b1.alloc (.cells #[.string s] 9)
  have hw2 := hw1.alloc (.cells #[.string s] 9)
  have v2 := v1.alloc (.cells #[.string s] 9)
  obtain ⟨w2, e2⟩ : ∃ w2, w1.alloc (.cells #[.string s] 9) = w2 := ⟨_, rfl⟩
  rw [e2] at b2 b12 hw2 v2
  have s2 : w2.heap.size = w1.heap.size + 1 := by rw [← e2]; simp
  have b3 := Bk.new w2 9 #[.string t]
  have b13 := b12.alloc (.cells #[.string t] 9)
  have b23 := b2.alloc (.cells #[.string t] 9)
  have hw3 := hw2.alloc (.cells #[.string t] 9)
  have v3 := v2.alloc (.cells #[.string t] 9)
  obtain ⟨w3, e3⟩ : ∃ w3, w2.alloc (.cells #[.string t] 9) = w3 := ⟨_, rfl⟩
  rw [e3] at b3 b13 b23 hw3 v3
  have s3 : w3.heap.size = w2.heap.size + 1 := by rw [← e3]; simp
  have b14 := b13.alloc (.cells #[.string s, .string t] 9)
  have b24 := b23.alloc (.cells #[.string s, .string t] 9)
  have b34 := b3.alloc (.cells #[.string s, .string t] 9)
  have hw4 := hw3.alloc (.cells #[.string s, .string t] 9)
  have v4 := v3.alloc (.cells #[.string s, .string t] 9)
  have rd4 : Rd (w3.alloc (.cells #[.string s, .string t] 9)) (w3.heap.size + 1) (some ⟨w3.heap.size, 0, none⟩) ([s, t].map strV) := Rd.lit w3 #[.string s, .string t] 9
  have c1 : w3.cell? ⟨w.heap.size, 0, none⟩ = some (ptV F) := by rw [b13.cell 0]; rfl
  have c2 : w3.cell? ⟨w1.heap.size, 0, none⟩ = some (.string s) := by rw [b23.cell 0]; rfl
  have c3 : w3.cell? ⟨w2.heap.size, 0, none⟩ = some (.string t) := by rw [b3.cell 0]; rfl
  obtain ⟨w4, e4⟩ : ∃ w4, w3.alloc (.cells #[.string s, .string t] 9) = w4 := ⟨_, rfl⟩
  rw [e4] at b14 b24 b34 hw4 v4 rd4
  have hK : ∀ {x : Nat}, w.heap.size ≤ x → ¬K x := fun {x} hx e => by
    have := (hlo x e).2
    omega
  have C := vfOpPost (n := 2) (c := 2) v4 hok hops [s, t] rd4 rfl (by omega) (fun u hu => by simp at hu; rcases hu with rfl | rfl; exact hs; exact ht) 50 #[ptV w.heap.size, ptV w1.heap.size, ptV w2.heap.size] (enters_of Try.func50 (by kernel_rfl) rfl)
    (fun T => match T.get s with | none => (T, 6) | some i => if s = t then (T, 0) else ({ T with chg := T.chg ++ [⟨t, some i, s⟩] }, 0))
    fun hn w5 hv hf ho => by
      have hn1 : vName s = true ∧ vName t = true := by simpa using hn
      exact vfRename1 hv ho (vName_ne hn1.1) (vName_ne hn1.2) (hf.bk b14 (by simp only [Kis]; omega)) (hf.bk b24 (by simp only [Kis]; omega)) (hf.bk b34 (by simp only [Kis]; omega)) (hK (Nat.le_refl _)) (hK (by omega)) (hK (by omega)) (by rw [(strike_same S).2.1]; exact hlen) _ rfl
  have hall : [s, t].all vName = (vName s && vName t) := by simp
  rw [hall] at C
  generalize hR : (S.op (vName s && vName t) fun T => match T.get s with | none => (T, 6) | some i => if s = t then (T, 0) else ({ T with chg := T.chg ++ [⟨t, some i, s⟩] }, 0)) = R at C
  have hR' : S.rename s t = R := hR
  rw [hR']
  have C' : Calls Try.prog 36 #[ptV F, .bool true, .func (.func 50) #[] #[ptV w.heap.size, ptV w1.heap.size, ptV w2.heap.size], .slice (some ⟨w3.heap.size, 0, none⟩) 2 2] w4 (VPost base w K F R) := C.mono fun e w' hp => hp.after hw4 (fun _ e => e.elim) hb
  rw [s3, s2, s1] at C'
  have E1 := Lib.hid e1
  have E2 := Lib.hid e2
  have E3 := Lib.hid e3
  have E4 := Lib.hid e4
  clear hR hR' C hall h hok b1 hw1 v1 e1 b2 b12 hw2 v2 e2 s1 s2 s3 b13 b23 b3 b14 b24 b34 hw3 v3 hw4 v4 rd4 e3 e4 hlo hK
  have hmf : ∀ (fn : Fn) (first cap : Array Value) (w : World), (Instr.makeFunc fn first cap).run Try.prog w = .ok (.func fn first cap) w := fun _ _ _ _ => rfl
  go_enter Try.func22, Try.ntmps22
  go_wp2_with fail
  rw [E1.out, E2.out, E3.out, E4.out]
  refine C'.mono ?_
  rintro e w' ⟨rfl, hQ⟩
  go_wp2_with fail
  go_ret
  exact ⟨rfl, hQ⟩
end Go.Proofs.Ytdjmmdhjjdnbdaa

/- Layer 4, plain: the files that count for the room, map by map. -/
namespace Go.Proofs.Ytdjmmdhjjdnbdaa
open Go.RowKit

/-- The files that the k-th map names. -/
def VSt.has (S : VSt) : Nat → Nat → Prop
  | 0, i => i ∈ S.now.map (·.2)
  | 1, i => i ∈ S.syn.map (·.2)
  | k + 2, i => ∃ c, S.chg[k]? = some c ∧ c.f = some i
def VMem.maps (m : VMem) : List Nat := m.db :: m.sb :: m.cms
theorem Mh.opt {κ : Type} {kv : κ → Value} {fb : Nat → Nat} {w : World} {b : Nat} {L : List (κ × Nat)} (h : Mh kv (fiV fb) w b L) : Mh kv (fiO fb) w b (L.map fun p => (p.1, some p.2)) := by
  obtain ⟨T, c, h1, rfl⟩ := h
  refine ⟨T.map fun t => ((t.1.1, some t.1.2), t.2), c, ⟨?_, ?_, ?_, fun t ht => ?_⟩, by simp⟩
  · have e : mhE kv (fiO fb) (T.map fun t => ((t.1.1, some t.1.2), t.2)) = mhE kv (fiV fb) T := by
      simp [mhE, fiO]
    rw [e]
    exact h1.at_
  · have e : (T.map fun t => ((t.1.1, some t.1.2), t.2)).map (fun t : (κ × Option Nat) × Nat => t.1.1) = T.map fun t => t.1.1 := by simp
    rw [e]
    exact h1.keys
  · have e : (T.map fun t => ((t.1.1, some t.1.2), t.2)).map (fun t : (κ × Option Nat) × Nat => t.2) = T.map (·.2) := by simp
    rw [e]
    exact h1.born
  · obtain ⟨u, hu, rfl⟩ := List.mem_map.1 ht
    exact h1.lt u hu
theorem chgL_has {c : VChg} {i : Nat} : (∃ s, (s, some i) ∈ chgL c) ↔ c.f = some i := by
  unfold chgL
  constructor
  · rintro ⟨s, hs⟩
    cases hf : c.f with
    | none => simp [hf] at hs
    | some j =>
      simp only [hf] at hs
      split at hs
      · simp at hs
        rw [hs.2]
      · simp at hs
        rw [hs.2]
  · intro hf
    simp only [hf]
    split
    · exact ⟨c.name, by simp⟩
    · exact ⟨c.name, by simp⟩
section
variable {base F : Nat} {w : World} {K : Nat → Prop} {S : VSt} {m : VMem}
theorem Vf.cmsLen (h : Vf base w K F S m) : m.cms.length = S.chg.length := by
  have := h.chg.1
  simpa using this
theorem Vf.kMaps (h : Vf base w K F S m) {b : Nat} (hb : b ∈ m.maps) : K b := by
  rcases List.mem_cons.1 hb with rfl | hb
  · exact h.kD
  · rcases List.mem_cons.1 hb with rfl | hb
    · exact h.kS
    · exact h.kM b hb
theorem Vf.mapAt (h : Vf base w K F S m) {k b : Nat} (hk : m.maps[k]? = some b) : ∃ C, Mh strV (fiO m.fb) w b C ∧ ∀ i, (∃ s, (s, some i) ∈ C) ↔ S.has k i := by
  match k, hk with
  | 0, hk =>
    cases Option.some.inj (show some m.db = some b from hk)
    refine ⟨_, h.dir.opt, fun i => ⟨?_, ?_⟩⟩
    · rintro ⟨s, hs⟩
      obtain ⟨p, hp, e⟩ := List.mem_map.1 hs
      injection e with e1 e2
      exact List.mem_map.2 ⟨p, h.dirP.mem_iff.1 hp, Option.some.inj e2⟩
    · intro hi
      obtain ⟨p, hp, e⟩ := List.mem_map.1 hi
      exact ⟨p.1, List.mem_map.2 ⟨p, h.dirP.mem_iff.2 hp, by rw [e]⟩⟩
  | 1, hk =>
    cases Option.some.inj (show some m.sb = some b from hk)
    refine ⟨_, h.syn.opt, fun i => ⟨?_, ?_⟩⟩
    · rintro ⟨s, hs⟩
      obtain ⟨p, hp, e⟩ := List.mem_map.1 hs
      injection e with e1 e2
      exact List.mem_map.2 ⟨p, h.synP.mem_iff.1 hp, Option.some.inj e2⟩
    · intro hi
      obtain ⟨p, hp, e⟩ := List.mem_map.1 hi
      exact ⟨p.1, List.mem_map.2 ⟨p, h.synP.mem_iff.2 hp, by rw [e]⟩⟩
  | k + 2, hk =>
    have hk' : m.cms[k]? = some b := hk
    have hl := (List.getElem?_eq_some_iff.1 hk').1
    rw [h.cmsLen] at hl
    obtain ⟨C, hp, hC⟩ := h.maps k b _ hk' (List.getElem?_eq_getElem hl)
    refine ⟨C, hC, fun i => ?_⟩
    have e1 : (∃ s, (s, some i) ∈ C) ↔ ∃ s, (s, some i) ∈ chgL (S.chg[k]) := ⟨fun ⟨s, hs⟩ => ⟨s, hp.mem_iff.1 hs⟩, fun ⟨s, hs⟩ => ⟨s, hp.mem_iff.2 hs⟩⟩
    rw [e1, chgL_has]
    constructor
    · intro hf
      exact ⟨_, List.getElem?_eq_getElem hl, hf⟩
    · rintro ⟨c, hc, hf⟩
      rw [List.getElem?_eq_getElem hl] at hc
      rw [Option.some.inj hc]
      exact hf
end
theorem VSt.has_lt {S : VSt} (hok : S.Ok) {k i : Nat} (h : S.has k i) : i < S.fs.length := by
  match k, h with
  | 0, h =>
    obtain ⟨p, hp, rfl⟩ := List.mem_map.1 h
    exact hok.dirN_lt (n := S.chg.length) hp
  | 1, h =>
    obtain ⟨p, hp, rfl⟩ := List.mem_map.1 h
    exact hok.syn p hp
  | k + 2, ⟨c, hc, hf⟩ => exact ((hok.chg c (List.mem_of_getElem? hc)).1 i hf).1
theorem counts_iff {S : VSt} {i : Nat} : S.counts i = true ↔ ∃ j, j < S.chg.length + 2 ∧ S.has j i := by
  unfold VSt.counts
  rw [Bool.or_eq_true, List.any_eq_true, List.any_eq_true]
  constructor
  · rintro (⟨p, hp, e⟩ | ⟨c, hc, e⟩)
    · exact ⟨1, by omega, List.mem_map.2 ⟨p, hp, of_decide_eq_true e⟩⟩
    · obtain ⟨k, hk, rfl⟩ := List.getElem_of_mem hc
      exact ⟨k + 2, by omega, _, List.getElem?_eq_getElem hk, of_decide_eq_true e⟩
  · rintro ⟨j, hj, h⟩
    match j, h with
    | 0, h =>
      obtain ⟨p, hp, rfl⟩ := List.mem_map.1 h
      rcases fold_mem hp with h1 | ⟨c, h1, h2⟩
      · exact .inl ⟨p, h1, decide_eq_true rfl⟩
      · exact .inr ⟨c, List.mem_of_mem_take h1, decide_eq_true h2⟩
    | 1, h =>
      obtain ⟨p, hp, rfl⟩ := List.mem_map.1 h
      exact .inl ⟨p, hp, decide_eq_true rfl⟩
    | k + 2, ⟨c, hc, hf⟩ => exact .inr ⟨c, List.mem_of_getElem? hc, decide_eq_true hf⟩
theorem used_of {S : VSt} (hok : S.Ok) {ks : List Nat} (hn : ks.Nodup) (hm : ∀ i, i ∈ ks ↔ ∃ j, j < S.chg.length + 2 ∧ S.has j i) : (ks.map fun i => (S.file i).b.length).sum = S.used := by
  unfold VSt.used
  refine List.Perm.sum_nat (List.Perm.map _ ((List.perm_ext_iff_of_nodup hn (List.nodup_range.filter _)).2 fun i => ?_))
  rw [hm, List.mem_filter, List.mem_range, counts_iff]
  constructor
  · rintro ⟨j, h1, h2⟩
    exact ⟨VSt.has_lt hok h2, j, h1, h2⟩
  · exact fun h => h.2
def insN (i : Nat) (ks : List Nat) : List Nat := if i ∈ ks then ks else ks ++ [i]
theorem mem_insN {i j : Nat} {ks : List Nat} : j ∈ insN i ks ↔ j ∈ ks ∨ j = i := by
  unfold insN
  split
  · rename_i h
    constructor
    · exact .inl
    · rintro (h1 | rfl)
      · exact h1
      · exact h
  · simp
theorem insN_nodup {i : Nat} {ks : List Nat} (h : ks.Nodup) : (insN i ks).Nodup := by
  unfold insN
  split
  · exact h
  · rename_i hi
    rw [List.nodup_append]
    refine ⟨h, by simp, fun a ha b hb e => ?_⟩
    simp at hb
    subst hb
    subst e
    exact hi ha
abbrev seenL (f : Nat → Nat) (ks : List Nat) : List (Nat × Bool) := ks.map fun j => (f j, true)
theorem mgPut_ins {f : Nat → Nat} {ks : List Nat} {i : Nat} (hinj : ∀ j ∈ ks, f j = f i → j = i) : mgPut (f i) true (seenL f ks) = seenL f (insN i ks) := by
  have hin : f i ∈ (seenL f ks).map (·.1) ↔ i ∈ ks := by
    rw [List.map_map]
    constructor
    · intro h
      obtain ⟨j, hj, e⟩ := List.mem_map.1 h
      exact hinj j hj e ▸ hj
    · intro h
      exact List.mem_map.2 ⟨i, h, rfl⟩
  unfold insN
  split
  · rename_i h
    clear hin
    induction ks with
    | nil => cases h
    | cons k l ih =>
      rw [seenL, List.map_cons, mgPut]
      by_cases hk : f k = f i
      · have := hinj k (List.mem_cons_self ..) hk
        subst this
        simp
      · rw [if_neg hk]
        rcases List.mem_cons.1 h with rfl | h
        · exact absurd rfl hk
        · have := ih (fun j hj => hinj j (List.mem_cons_of_mem _ hj)) h
          rw [seenL] at this
          rw [this]
  · rename_i h
    rw [mgPut_new (fun e => h (hin.1 e)), seenL, seenL, List.map_append]
    rfl
theorem sum_bound {f : Nat → Nat} {B : Nat} : ∀ {l : List Nat}, (∀ i ∈ l, f i ≤ B) → (l.map f).sum ≤ l.length * B
  | [], _ => by simp
  | x :: l, h => by
    have h1 := h x (List.mem_cons_self ..)
    have h2 := sum_bound (l := l) fun i hi => h i (List.mem_cons_of_mem _ hi)
    simp only [List.map_cons, List.sum_cons, List.length_cons]
    rw [Nat.succ_mul]
    omega
end Go.Proofs.Ytdjmmdhjjdnbdaa
