/- Spans: Parse. -/
import Derived.Deep.RegionWith
import Derived.Test.YtlamebbolioljaaSpP
namespace Go.Proofs.Ytlamebbolioljaa
open Go.RowKit
attribute [local go_sem ↓] appK_shut

theorem Bk.row {w : World} {g : Nat} {t : TypeId} {old : Array Value} (h : Bk w g t old) (cs : Array Value) : Bk (w.setRow g cs) g t cs := setRow_heap w g old cs t (0, 0) h
theorem only_row {w : World} (g : Nat) (cs : Array Value) : w.grownBy (w.setRow g cs) (some g) :=
  ⟨rfl, rfl, rfl, by simp [World.setRow], fun i hi hne => by simp [World.setRow, Array.getElem?_modify]; intro e; subst e; exact absurd rfl hne⟩
def ParsePost (w : World) (zs : List Int) (e : Ending) (w' : World) : Prop :=
  ∃ At ct, e = .returned (.tuple #[spV (prSp zs) At (prSp zs).tags.length ct, .int .i64 (prErr zs)]) ∧ RbT w' w'.heap.size At (prSp zs).tags ∧ Below w.heap.size w w' ∧ (prSp zs).tags.length ≤ ct ∧ (∀ a, At = some a → w.heap.size ≤ a.block)
theorem parsePost_bad {w W : World} {rb k : Nat} {zs : List Int} {e : Ending} (he : prErr zs = k) (hk : k ≠ 0) (hb : Below w.heap.size w W) (hrb : w.heap.size ≤ rb) (hr : e = .returned (.tuple #[.agg zspC, .int .i64 k])) :
    ParsePost w zs e (W.setRow rb zspC) := by
  have hs : prSp zs = zeroSp := by rw [prSp, if_neg (by omega)]
  have h1 := only_row (w := W) rb zspC
  rw [ParsePost, hs, he]
  exact ⟨none, 0, hr, Rd.nil, hb.trans ⟨h1.os, h1.tape, h1.output, h1.size, fun k hk => h1.block k (by have := hb.size; omega) (fun e => by injection e; omega)⟩, Nat.le_refl _, fun a ha => by cases ha⟩
theorem PS.good {w W : World} {h g sb rb lo : Nat} {A : Option Addr} {c : Nat} {zs : List Int} {st : RS} {s : Sp} {At : Option Addr} {i ct : Nat} {acc : List Tg} (q : PS w W h g sb rb lo A c zs st (spC s At i ct) At i ct acc)
    (he : prErr zs = 0) (ha : prAll zs = (s, st)) (hl : s.tags.length = i) (ht : s.tags = acc) (hrb : w.heap.size = rb) :
    ParsePost w zs (.returned (.tuple #[.agg (spC s At i ct), .int .i64 0])) (W.setRow rb (spC s At i ct)) := by
  have hs : prSp zs = s := by rw [prSp, if_pos he, ha]
  have h1 := only_row (w := W) rb (spC s At i ct)
  have e0 := q.hr
  have hown := q.own.kept h1 (.inr fun e => by have := (q.own.lt rb e).1; omega)
  rw [ParsePost, hs, he, hl]
  refine ⟨At, ct, rfl, by rw [ht]; exact Rd.of_own hown, q.bel.trans ⟨h1.os, h1.tape, h1.output, h1.size, fun k hk => h1.block k (by have := q.bel.size; omega) (fun e => by injection e; omega)⟩, ?_, fun a ha => ?_⟩
  · rcases q.own.2 with ⟨h1, h2⟩ | ⟨_, _, _, h1, _, _, h2, _⟩
    · omega
    · injection h1 with _ _ h3; omega
  · subst ha
    have := (q.own.lt a.block rfl).1
    have := q.hs
    omega
set_option maxRecDepth 100000 in
set_option maxHeartbeats 8000000 in
theorem spParse {A0 : Option Addr} {c0 B n : Nat} {zs : List Int} (w : World) (ha : Rb w B A0 zs) (hB : B ≤ w.heap.size) (hz : Byt zs) (hl : zs.length ≤ 140737488351232) (hc : A0 = none → zs = [] ∧ c0 = 0) (hn : zs.length = n) :
    Calls Try.prog 54 #[.slice A0 n c0] w (ParsePost w zs) := by
  obtain ⟨sp, nt, r0, hp⟩ : ∃ sp nt r0, prHead zs = (sp, nt, r0) := ⟨_, _, _, rfl⟩
  have hnt : nt ≤ 16 := by
    have h := congrArg (fun x => x.2.1) hp
    simp only [prHead] at h
    rw [← h]
    exact rShort_le
  have hall : prAll zs = ({ sp with tags := (prTags zs nt [] r0).1 }, (prTags zs nt [] r0).2) := by rw [prAll, hp]
  unfold prHead at hp
  obtain ⟨x1, s1, h1⟩ : ∃ x s, rEight zs ⟨0, 0, false⟩ = (x, s) := ⟨_, _, rfl⟩
  obtain ⟨x2, s2, h2⟩ : ∃ x s, rEight zs s1 = (x, s) := ⟨_, _, rfl⟩
  obtain ⟨x3, s3, h3⟩ : ∃ x s, rEight zs s2 = (x, s) := ⟨_, _, rfl⟩
  obtain ⟨x4, s4, h4⟩ : ∃ x s, rEight zs s3 = (x, s) := ⟨_, _, rfl⟩
  obtain ⟨t5, s5, h5⟩ : ∃ x s, rText zs s4 = (x, s) := ⟨_, _, rfl⟩
  obtain ⟨t6, s6, h6⟩ : ∃ x s, rText zs s5 = (x, s) := ⟨_, _, rfl⟩
  obtain ⟨x7, s7, h7⟩ : ∃ x s, rOne 255 zs s6 = (x, s) := ⟨_, _, rfl⟩
  obtain ⟨x8, s8, h8⟩ : ∃ x s, rShort 4611686018427387903 zs s7 = (x, s) := ⟨_, _, rfl⟩
  obtain ⟨x9, s9, h9⟩ : ∃ x s, rShort 4611686018427387903 zs s8 = (x, s) := ⟨_, _, rfl⟩
  obtain ⟨x10, s10, h10⟩ : ∃ x s, rOne 1 zs s9 = (x, s) := ⟨_, _, rfl⟩
  obtain ⟨x11, s11, h11⟩ : ∃ x s, rShort 16 zs s10 = (x, s) := ⟨_, _, rfl⟩
  have b7 := rOne_rng (most := 255) hz s6
  rw [h7] at b7
  have b10 := rOne_rng (most := 1) hz s9
  rw [h10] at b10
  simp only [h1, h2, h3, h4, h5, h6, h7, h8, h9, h10, h11] at hp b7 b10
  simp only [Prod.mk.injEq] at hp
  obtain ⟨hsp, hnt', hr0⟩ := hp
  subst hnt' hr0
  have H1 := Lib.hid h1
  have H2 := Lib.hid h2
  have H3 := Lib.hid h3
  have H4 := Lib.hid h4
  have H5 := Lib.hid h5
  have H6 := Lib.hid h6
  have H7 := Lib.hid h7
  have H8 := Lib.hid h8
  have H9 := Lib.hid h9
  have H10 := Lib.hid h10
  have H11 := Lib.hid h11
  have HSP := Lib.hid hsp
  have HALL := Lib.hid hall
  clear h1 h2 h3 h4 h5 h6 h7 h8 h9 h10 h11 hsp hall
  have hb0 : Below w.heap.size w (w.alloc (.cells zspC 43)) := (Below.refl _ w).alloc (Nat.le_refl _) _
  have hs0 : (w.alloc (.cells zspC 43)).heap.size = w.heap.size + 1 := by simp
  have ha0 := Rd.alloc ha hB (.cells zspC 43)
  have bk0 := Bk.new w 43 zspC
  go_enter Try.func54, Try.ntmps54
  go_wp2_with fail
  obtain ⟨w1, hw1⟩ : ∃ w1, w.alloc (.cells zspC 43) = w1 := ⟨_, rfl⟩
  rw [hw1]
  rw [hw1] at hb0 hs0 ha0 bk0
  clear hw1
  have HN := Lib.hid hn
  refine (rdrNewB w1 ha0 (by omega) hz hl hc hn).mono ?_
  rintro e w2 ⟨g, A, c, rfl, hR, hb2, hg2, hA2⟩
  have hs2 := hb2.size
  have hgl := hR.blk.lt
  have bk2 := bk0.below hb2 (by omega)
  have hb3 : Below w2.heap.size w2 ((w2.alloc (.cells #[.pointer (some ⟨g, 0, none⟩), .bool false] 124)).alloc (.cells zspC 43)) := ((Below.refl _ w2).alloc (Nat.le_refl _) _).alloc (by simp) _
  have ps : PS w ((w2.alloc (.cells #[.pointer (some ⟨g, 0, none⟩), .bool false] 124)).alloc (.cells zspC 43)) w2.heap.size g (w2.heap.size + 1) w.heap.size (w2.heap.size + 2) A c zs ⟨0, 0, false⟩ zspC none 0 0 [] := by
    refine ⟨⟨(Bk.new w2 _ _).alloc _, hR.below hb3, by omega, fun a ha => by have := (hA2 a ha).2; omega, by simp⟩, ?_, bk2.below hb3 (by omega), World.ownsRow_nil _ _ _ _, rfl, (hb0.trans (hb2.mono (by omega))).trans (hb3.mono (by omega)), by simp, by omega, by omega, by omega, by omega, by omega, fun a ha => by have := hA2 a ha; omega⟩
    have h := Bk.new (w2.alloc (.cells #[.pointer (some ⟨g, 0, none⟩), .bool false] 124)) 43 zspC
    simpa using h
  go_wp2_with fail
  obtain ⟨W, hW⟩ : ∃ W, ((w2.alloc (.cells #[.pointer (some ⟨g, 0, none⟩), .bool false] 124)).alloc (.cells zspC 43)) = W := ⟨_, rfl⟩
  rw [hW] at ps ⊢
  obtain ⟨h, hh⟩ : ∃ h, w2.heap.size = h := ⟨_, rfl⟩
  obtain ⟨sb, hsb⟩ : ∃ sb, h + 1 = sb := ⟨_, rfl⟩
  obtain ⟨lo, hlo⟩ : ∃ lo, h + 2 = lo := ⟨_, rfl⟩
  obtain ⟨rb, hrb⟩ : ∃ rb, w.heap.size = rb := ⟨_, rfl⟩
  rw [hh, hsb, hlo, hrb] at ps
  rw [hh, hsb, hrb]
  clear hW hh hsb hlo hb3 bk2 hR hb2 hg2 hA2 hs2 hgl bk0 ha0 hs0 hb0 ha w2
  have HRB := Lib.hid hrb
  clear hrb
  refine (spEight' W ps.rd H1.out).mono ?_
  rintro e V1 ⟨rfl, r1, o1⟩
  have ps1 := ps.call r1 o1
  clear ps r1 o1
  go_wp2_with fail
  refine (spEight' V1 ps1.rd H2.out).mono ?_
  rintro e V2 ⟨rfl, r2, o2⟩
  have ps2 := ps1.call r2 o2
  clear ps1 r2 o2
  have k0 : (V2).cell? ⟨sb, 0, none⟩ = some (.int .u64 0) := (ps2.facts 0).1
  have f0 : (V2).frozen? ⟨sb, 0, none⟩ = false := (ps2.facts 0).2
  have q0 : PS w ((V2).setCell ⟨sb, 0, none⟩ (.int .u64 x1)) h g sb rb lo A c zs s2 #[.int .u64 x1, .int .u64 0, .int .u64 0, .int .u64 0, .string ⟨#[]⟩, .string ⟨#[]⟩, .int .i64 0, .int .i64 0, .int .i64 0, .bool false, .slice none 0 0] none 0 0 [] := ps2.store 0 _
  have k1 : ((V2).setCell ⟨sb, 0, none⟩ (.int .u64 x1)).cell? ⟨sb, 1, none⟩ = some (.int .u64 0) := (q0.facts 1).1
  have f1 : ((V2).setCell ⟨sb, 0, none⟩ (.int .u64 x1)).frozen? ⟨sb, 1, none⟩ = false := (q0.facts 1).2
  have q1 : PS w (((V2).setCell ⟨sb, 0, none⟩ (.int .u64 x1)).setCell ⟨sb, 1, none⟩ (.int .u64 x2)) h g sb rb lo A c zs s2 #[.int .u64 x1, .int .u64 x2, .int .u64 0, .int .u64 0, .string ⟨#[]⟩, .string ⟨#[]⟩, .int .i64 0, .int .i64 0, .int .i64 0, .bool false, .slice none 0 0] none 0 0 [] := q0.store 1 _
  go_wp2_with fail
  obtain ⟨V3, hV⟩ : ∃ V, ((V2).setCell ⟨sb, 0, none⟩ (.int .u64 x1)).setCell ⟨sb, 1, none⟩ (.int .u64 x2) = V := ⟨_, rfl⟩
  rw [hV] at q1 ⊢
  clear hV k0 f0 k1 f1 q0 ps2
  have ps3 := q1
  clear q1
  refine (spEight' V3 ps3.rd H3.out).mono ?_
  rintro e V4 ⟨rfl, r4, o4⟩
  have ps4 := ps3.call r4 o4
  clear ps3 r4 o4
  go_wp2_with fail
  refine (spEight' V4 ps4.rd H4.out).mono ?_
  rintro e V5 ⟨rfl, r5, o5⟩
  have ps5 := ps4.call r5 o5
  clear ps4 r5 o5
  have k2 : (V5).cell? ⟨sb, 2, none⟩ = some (.int .u64 0) := (ps5.facts 2).1
  have f2 : (V5).frozen? ⟨sb, 2, none⟩ = false := (ps5.facts 2).2
  have q2 : PS w ((V5).setCell ⟨sb, 2, none⟩ (.int .u64 x3)) h g sb rb lo A c zs s4 #[.int .u64 x1, .int .u64 x2, .int .u64 x3, .int .u64 0, .string ⟨#[]⟩, .string ⟨#[]⟩, .int .i64 0, .int .i64 0, .int .i64 0, .bool false, .slice none 0 0] none 0 0 [] := ps5.store 2 _
  have k3 : ((V5).setCell ⟨sb, 2, none⟩ (.int .u64 x3)).cell? ⟨sb, 3, none⟩ = some (.int .u64 0) := (q2.facts 3).1
  have f3 : ((V5).setCell ⟨sb, 2, none⟩ (.int .u64 x3)).frozen? ⟨sb, 3, none⟩ = false := (q2.facts 3).2
  have q3 : PS w (((V5).setCell ⟨sb, 2, none⟩ (.int .u64 x3)).setCell ⟨sb, 3, none⟩ (.int .u64 x4)) h g sb rb lo A c zs s4 #[.int .u64 x1, .int .u64 x2, .int .u64 x3, .int .u64 x4, .string ⟨#[]⟩, .string ⟨#[]⟩, .int .i64 0, .int .i64 0, .int .i64 0, .bool false, .slice none 0 0] none 0 0 [] := q2.store 3 _
  go_wp2_with fail
  obtain ⟨V6, hV⟩ : ∃ V, ((V5).setCell ⟨sb, 2, none⟩ (.int .u64 x3)).setCell ⟨sb, 3, none⟩ (.int .u64 x4) = V := ⟨_, rfl⟩
  rw [hV] at q3 ⊢
  clear hV k2 f2 k3 f3 q2 ps5
  have ps6 := q3
  clear q3
  refine (spRText' V6 ps6.rd H5.out).mono ?_
  rintro e V7 ⟨rfl, r7, o7⟩
  have ps7 := ps6.call r7 o7
  clear ps6 r7 o7
  go_wp2_with fail
  refine (spRText' V7 ps7.rd H6.out).mono ?_
  rintro e V8 ⟨rfl, r8, o8⟩
  have ps8 := ps7.call r8 o8
  clear ps7 r8 o8
  have k4 : (V8).cell? ⟨sb, 4, none⟩ = some (.string ⟨#[]⟩) := (ps8.facts 4).1
  have f4 : (V8).frozen? ⟨sb, 4, none⟩ = false := (ps8.facts 4).2
  have q4 : PS w ((V8).setCell ⟨sb, 4, none⟩ (.string t5)) h g sb rb lo A c zs s6 #[.int .u64 x1, .int .u64 x2, .int .u64 x3, .int .u64 x4, .string t5, .string ⟨#[]⟩, .int .i64 0, .int .i64 0, .int .i64 0, .bool false, .slice none 0 0] none 0 0 [] := ps8.store 4 _
  have k5 : ((V8).setCell ⟨sb, 4, none⟩ (.string t5)).cell? ⟨sb, 5, none⟩ = some (.string ⟨#[]⟩) := (q4.facts 5).1
  have f5 : ((V8).setCell ⟨sb, 4, none⟩ (.string t5)).frozen? ⟨sb, 5, none⟩ = false := (q4.facts 5).2
  have q5 : PS w (((V8).setCell ⟨sb, 4, none⟩ (.string t5)).setCell ⟨sb, 5, none⟩ (.string t6)) h g sb rb lo A c zs s6 #[.int .u64 x1, .int .u64 x2, .int .u64 x3, .int .u64 x4, .string t5, .string t6, .int .i64 0, .int .i64 0, .int .i64 0, .bool false, .slice none 0 0] none 0 0 [] := q4.store 5 _
  go_wp2_with fail
  obtain ⟨V9, hV⟩ : ∃ V, ((V8).setCell ⟨sb, 4, none⟩ (.string t5)).setCell ⟨sb, 5, none⟩ (.string t6) = V := ⟨_, rfl⟩
  rw [hV] at q5 ⊢
  clear hV k4 f4 k5 f5 q4 ps8
  have ps9 := q5
  clear q5
  refine (spOne' V9 ps9.rd H7.out).mono ?_
  rintro e V10 ⟨rfl, r10, o10⟩
  have ps10 := ps9.call r10 o10
  clear ps9 r10 o10
  have k6 : (V10).cell? ⟨sb, 6, none⟩ = some (.int .i64 0) := (ps10.facts 6).1
  have f6 : (V10).frozen? ⟨sb, 6, none⟩ = false := (ps10.facts 6).2
  have q6 : PS w ((V10).setCell ⟨sb, 6, none⟩ (.int .i64 x7)) h g sb rb lo A c zs s7 #[.int .u64 x1, .int .u64 x2, .int .u64 x3, .int .u64 x4, .string t5, .string t6, .int .i64 x7, .int .i64 0, .int .i64 0, .bool false, .slice none 0 0] none 0 0 [] := ps10.store 6 _
  go_wp2_with fail
  obtain ⟨V11, hV⟩ : ∃ V, (V10).setCell ⟨sb, 6, none⟩ (.int .i64 x7) = V := ⟨_, rfl⟩
  rw [hV] at q6 ⊢
  clear hV k6 f6  ps10
  have ps11 := q6
  clear q6
  refine (spShort' (by rfl) (by omega) V11 ps11.rd H8.out).mono ?_
  rintro e V12 ⟨rfl, r12, o12⟩
  have ps12 := ps11.call r12 o12
  clear ps11 r12 o12
  go_wp2_with fail
  refine (spShort' (by rfl) (by omega) V12 ps12.rd H9.out).mono ?_
  rintro e V13 ⟨rfl, r13, o13⟩
  have ps13 := ps12.call r13 o13
  clear ps12 r13 o13
  have k7 : (V13).cell? ⟨sb, 7, none⟩ = some (.int .i64 0) := (ps13.facts 7).1
  have f7 : (V13).frozen? ⟨sb, 7, none⟩ = false := (ps13.facts 7).2
  have q7 : PS w ((V13).setCell ⟨sb, 7, none⟩ (.int .i64 x8)) h g sb rb lo A c zs s9 #[.int .u64 x1, .int .u64 x2, .int .u64 x3, .int .u64 x4, .string t5, .string t6, .int .i64 x7, .int .i64 x8, .int .i64 0, .bool false, .slice none 0 0] none 0 0 [] := ps13.store 7 _
  have k8 : ((V13).setCell ⟨sb, 7, none⟩ (.int .i64 x8)).cell? ⟨sb, 8, none⟩ = some (.int .i64 0) := (q7.facts 8).1
  have f8 : ((V13).setCell ⟨sb, 7, none⟩ (.int .i64 x8)).frozen? ⟨sb, 8, none⟩ = false := (q7.facts 8).2
  have q8 : PS w (((V13).setCell ⟨sb, 7, none⟩ (.int .i64 x8)).setCell ⟨sb, 8, none⟩ (.int .i64 x9)) h g sb rb lo A c zs s9 #[.int .u64 x1, .int .u64 x2, .int .u64 x3, .int .u64 x4, .string t5, .string t6, .int .i64 x7, .int .i64 x8, .int .i64 x9, .bool false, .slice none 0 0] none 0 0 [] := q7.store 8 _
  go_wp2_with fail
  obtain ⟨V14, hV⟩ : ∃ V, ((V13).setCell ⟨sb, 7, none⟩ (.int .i64 x8)).setCell ⟨sb, 8, none⟩ (.int .i64 x9) = V := ⟨_, rfl⟩
  rw [hV] at q8 ⊢
  clear hV k7 f7 k8 f8 q7 ps13
  have ps14 := q8
  clear q8
  refine (spOne' V14 ps14.rd H10.out).mono ?_
  rintro e V15 ⟨rfl, r15, o15⟩
  have ps15 := ps14.call r15 o15
  clear ps14 r15 o15
  have k9 : (V15).cell? ⟨sb, 9, none⟩ = some (.bool false) := (ps15.facts 9).1
  have f9 : (V15).frozen? ⟨sb, 9, none⟩ = false := (ps15.facts 9).2
  have q9 : PS w ((V15).setCell ⟨sb, 9, none⟩ (.bool (x10 == 1))) h g sb rb lo A c zs s10 #[.int .u64 x1, .int .u64 x2, .int .u64 x3, .int .u64 x4, .string t5, .string t6, .int .i64 x7, .int .i64 x8, .int .i64 x9, .bool (x10 == 1), .slice none 0 0] none 0 0 [] := ps15.store 9 _
  go_wp2_with fail
  obtain ⟨V16, hV⟩ : ∃ V, (V15).setCell ⟨sb, 9, none⟩ (.bool (x10 == 1)) = V := ⟨_, rfl⟩
  rw [hV] at q9 ⊢
  clear hV k9 f9  ps15
  have ps16 := q9
  clear q9
  refine (spShort' (by rfl) (by omega) V16 ps16.rd H11.out).mono ?_
  rintro e V17 ⟨rfl, r17, o17⟩
  have ps17 := ps16.call r17 o17
  clear ps16 r17 o17
  obtain ⟨fin, hfin⟩ : ∃ fin, prTags zs x11 [] s11 = fin := ⟨_, rfl⟩
  have HFIN := Lib.hid hfin
  clear hfin
  have p0 : PS w V17 h g sb rb lo A c zs s11 (spC sp none 0 0) none 0 0 [] := by rw [← HSP.out]; exact ps17
  clear ps17
  go_wp2_with fail
  go_loopw [47] (fun iv_ wr => ∃ (i : Nat) (acc : List Tg) (st : RS) (At : Option Addr) (ct : Nat), i ≤ x11 ∧ iv_ = .int .i64 i ∧ PS w wr h g sb rb lo A c zs st (spC sp At i ct) At i ct acc ∧ prTags zs (x11 - i) acc st = fin) (fun i _ => x11 - (intOf i).toNat)
  case atStart => exact ⟨0, [], s11, none, 0, by omega, rfl, p0, HFIN.out⟩
  case round =>
    obtain ⟨i, acc, st, At, ct, hi, rfl, p, htg⟩ := hrel
    clear p0
    have HTG := Lib.hid htg
    clear htg
    by_cases hlt : i < x11
    · have hlt' : (i : Int) < (x11 : Int) := by omega
      obtain ⟨u1, st1, e1⟩ : ∃ x s, rText zs st = (x, s) := ⟨_, _, rfl⟩
      obtain ⟨u2, st2, e2⟩ : ∃ x s, rText zs st1 = (x, s) := ⟨_, _, rfl⟩
      have hnext : prTags zs (x11 - (i + 1)) (acc ++ [⟨u1, u2⟩]) st2 = fin := by
        rw [← HTG.out, show x11 - i = (x11 - (i + 1)) + 1 from by omega, prTags, e1]
        simp only
        rw [e2]
      have E1 := Lib.hid e1
      have E2 := Lib.hid e2
      have HNX := Lib.hid hnext
      clear e1 e2 hnext
      have k10 : wr.cell? ⟨sb, 10, none⟩ = some (.slice At i ct) := (p.facts 10).1
      go_wp2_with fail
      have k10d : wr.drew.cell? ⟨sb, 10, none⟩ = some (.slice At i ct) := k10
      go_region_with
        (first
          | (go_at_call 79
             refine (spRText' _ p.drew.rd E1.out).mono ?_
             rintro e w5 ⟨rfl, r5, o5⟩
             have p5 := p.drew.call r5 o5
             have k10' : w5.cell? ⟨sb, 10, none⟩ = some (.slice At i ct) := (p5.facts 10).1)
          | (go_at_call 79
             refine (spRText' _ p5.rd E2.out).mono ?_
             rintro e w6 ⟨rfl, r6, o6⟩
             have p6 := p5.call r6 o6
             have k10b : w6.cell? ⟨sb, 10, none⟩ = some (.slice At i ct) := (p6.facts 10).1
             have p6a := p6.below ((Below.refl _ w6).alloc (Nat.le_refl _) (.cells #[.string u1, .string u2] 97))
             have k10e := (p6a.facts 10).1
             obtain ⟨A7, c7, w7, hrun, happ⟩ := run_appT _ lo (.slice At i ct) i acc p6a.own _ _ 1 1 [⟨u1, u2⟩] rfl (Rd.lit w6 _ _) (by omega) (by have := p6.hlo; simp; omega)
             have p7 := p6a.app happ
             have k10c : w7.cell? ⟨sb, 10, none⟩ = some (.slice At i ct) := (p7.facts 10).1
             have f10 : w7.frozen? ⟨sb, 10, none⟩ = false := (p7.facts 10).2)
          | fail)
      all_goals
        clear k10 k10d k10' k10b k10e hrun
        have p8 : PS w (w7.setCell ⟨sb, 10, none⟩ (.slice A7 (i + 1) c7)) h g sb rb lo A c zs st2 (spC sp A7 (i + 1) c7) A7 (i + 1) c7 (acc ++ [⟨u1, u2⟩]) := p7.store 10 _
        clear p7 happ k10c f10 p6a p6 p5 p
        go_wp2
        go_roundw
        case rel => exact ⟨i + 1, acc ++ [⟨u1, u2⟩], st2, A7, c7, by omega, by go_num, p8, HNX.out⟩
        case measure => simp [intOf]; omega
    · have hlt' : decide ((i : Int) < (x11 : Int)) = false := by simp; omega
      obtain rfl : i = x11 := by omega
      have hfin := HTG.out
      rw [Nat.sub_self, prTags] at hfin
      obtain ⟨s, hs⟩ : ∃ s : Sp, { sp with tags := acc } = s := ⟨_, rfl⟩
      have hall := HALL.out
      rw [HFIN.out, ← hfin] at hall
      simp only at hall
      rw [hs] at hall
      have herr : prErr zs = prErrOf zs s st := by rw [prErr, hall]
      have hst : s.tags = acc := by rw [← hs]
      have q : PS w wr h g sb rb lo A c zs st (spC s At i ct) At i ct acc := by rw [← hs]; exact p
      have hlen : s.tags.length = i := by rw [hst]; exact p.len
      clear p hs hfin
      have HERR := Lib.hid herr
      have HST := Lib.hid hst
      have HLEN := Lib.hid hlen
      have HAL := Lib.hid hall
      clear herr hst hlen hall HALL HFIN HTG HSP
      have c0 : wr.cell? ⟨h, 0, none⟩ = some (.pointer (some ⟨g, 0, none⟩)) := q.rd.blk.cell 0
      have c1 : wr.cell? ⟨h, 1, none⟩ = some (.bool st.bad) := q.rd.blk.cell 1
      have hE := Lib.hid (rdrErr wr q.rd.rdr)
      by_cases he : st.e = 0
      · have he1 : ((st.e : Int) == 0) = true := by rw [beq_iff_eq]; omega
        cases hbad : st.bad with
        | true =>
          rw [hbad] at c1
          have BKW := q.rs
          go_wp2_with (first
            | (go_at_call 82; refine hE.out.mono ?_; rintro en w' ⟨rfl, hw⟩; rw [hw]; clear hw w') | (refine wpList_store_row rfl 43 (.tmp 2) (.tmp 86) rfl rb zspC rfl rfl 43 zspC BKW (by rfl) rfl zspC_one ?_))
          try simp only [Exit.inBlock, Exit.then]
          refine bodyPost_ret (results_cell_row_tmp rfl _ _ rb 43 zspC _ rfl (BKW.row zspC) Try.underlying43 rfl (by rfl)) rfl ?_
          exact parsePost_bad (k := 4) (HERR.out.trans (by rw [prErrOf, if_neg (by omega), if_pos hbad])) (by omega) (q.bel) (q.hr.1) rfl
        | false =>
          rw [hbad] at c1
          have hEnd := Lib.hid (rdrEnd wr q.rd.rdr q.rd.err)
          by_cases hp : st.p < zs.length
          · rw [if_neg (by omega), if_pos hp] at hEnd
            have BKW := q.rs
            go_wp2_with (first
              | (go_at_call 82; refine hE.out.mono ?_; rintro en w' ⟨rfl, hw⟩; rw [hw]; clear hw w') | (go_at_call 83; refine hEnd.out.mono ?_; rintro en w' ⟨rfl, nd, hw⟩; rw [hw]; clear hw w') | (refine wpList_store_row rfl 43 (.tmp 2) (.tmp 86) rfl rb zspC rfl rfl 43 zspC BKW (by rfl) rfl zspC_one ?_))
            try simp only [Exit.inBlock, Exit.then]
            refine bodyPost_ret (results_cell_row_tmp rfl _ _ rb 43 zspC _ rfl (BKW.row zspC) Try.underlying43 rfl (by rfl)) rfl ?_
            exact parsePost_bad (k := 4) (HERR.out.trans (by rw [prErrOf, if_neg (by omega), if_neg (by rw [hbad]; simp), if_pos hp])) (by omega) (below_drewN q.bel _) (q.hr.1) rfl
          · rw [if_neg (by omega), if_neg hp] at hEnd
            have hchk := fun nd => Lib.hid (spCheck (c := ct) s (wr.drewN nd) (A := At) (n := i) (B := wr.heap.size) (by rw [HST.out]; exact Rd.drewN (Rd.of_own q.own) nd) HLEN.out (Nat.le_refl _) (by omega))
            obtain ⟨k, hk⟩ : ∃ k, spChk s = k := ⟨_, rfl⟩
            rw [hk] at hchk
            have hpe : prErr zs = k := HERR.out.trans (by rw [prErrOf, if_neg (by omega), if_neg (by rw [hbad]; simp), if_neg hp, hk])
            have HPE := Lib.hid hpe
            clear hk hpe
            have kb := fun nd => q.sp.drewN nd
            go_wp2_with (first
              | (go_at_call 82; refine hE.out.mono ?_; rintro en w' ⟨rfl, hw⟩; rw [hw]; clear hw w')
              | (go_at_call 83; refine hEnd.out.mono ?_; rintro en w' ⟨rfl, nd, hw⟩; rw [hw]; clear hw w')
              | (refine wpList_load_row rfl 43 (.tmp 5) rfl sb rfl 43 (spC s At i ct) (0, 0) _ (kb _) Try.underlying43 rfl (by rfl) ?_))
            refine (hchk _).out.mono ?_
            rintro en w9 ⟨rfl, hb9⟩
            have q9 := (q.below (below_drewN (Below.refl wr.heap.size wr) nd)).below hb9
            have BKW := q9.rs
            have BKS := q9.sp
            by_cases hk0 : k = 0
            · subst hk0
              go_wp2_with (first
                | (refine wpList_load_row rfl 43 (.tmp 5) rfl sb rfl 43 (spC s At i ct) (0, 0) _ BKS Try.underlying43 rfl (by rfl) ?_)
                | (refine wpList_store_row rfl 43 (.tmp 2) (.tmp 88) rfl rb (spC s At i ct) rfl rfl 43 zspC BKW (by rfl) rfl (spC_one _ _ _ _) ?_))
              try simp only [Exit.inBlock, Exit.then]
              refine bodyPost_ret (results_cell_row_tmp rfl _ _ rb 43 (spC s At i ct) _ rfl (BKW.row _) Try.underlying43 rfl (by rfl)) rfl ?_
              exact q9.good HPE.out HAL.out HLEN.out HST.out HRB.out
            · have hk1 : ((k : Int) != 0) = true := by rw [bne_iff_ne]; omega
              have hk2 : ((k : Int) == 0) = false := by rw [beq_eq_false_iff_ne]; omega
              go_wp2_with (first
                | (refine wpList_store_row rfl 43 (.tmp 2) (.tmp 86) rfl rb zspC rfl rfl 43 zspC BKW (by rfl) rfl zspC_one ?_))
              try simp only [Exit.inBlock, Exit.then]
              refine bodyPost_ret (results_cell_row_tmp rfl _ _ rb 43 zspC _ rfl (BKW.row zspC) Try.underlying43 rfl (by rfl)) rfl ?_
              exact parsePost_bad HPE.out hk0 q9.bel (q9.hr.1) rfl
      · have he1 : ((st.e : Int) == 0) = false := by rw [beq_eq_false_iff_ne]; omega
        have he2 : ((st.e : Int) != 0) = true := by rw [bne_iff_ne]; omega
        have BKW := q.rs
        go_wp2_with (first
          | (go_at_call 82; refine hE.out.mono ?_; rintro en w' ⟨rfl, hw⟩; rw [hw]; clear hw w') | (refine wpList_store_row rfl 43 (.tmp 2) (.tmp 86) rfl rb zspC rfl rfl 43 zspC BKW (by rfl) rfl zspC_one ?_))
        try simp only [Exit.inBlock, Exit.then]
        refine bodyPost_ret (results_cell_row_tmp rfl _ _ rb 43 zspC _ rfl (BKW.row zspC) Try.underlying43 rfl (by rfl)) rfl ?_
        exact parsePost_bad (HERR.out.trans (by rw [prErrOf, if_pos he])) (he) (q.bel) (q.hr.1) rfl
end Go.Proofs.Ytlamebbolioljaa
