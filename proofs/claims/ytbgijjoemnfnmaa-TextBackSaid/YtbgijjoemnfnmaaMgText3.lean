/- Texts of this claim, joined: CmdREnc AlEq TxtSame Bld Text Join RText AlMore AlRange AlMap AlTerr AlStruct. -/
import Derived.Test.YtbgijjoemnfnmaaMgText1
import Derived.Test.YtbgijjoemnfnmaaMgText2
import Derived.Lib.Builder
import Derived.Lib.UnsafeStr
import Derived.WalkKit
import Derived.Laws.Externs
import Derived.Lib.MakeNoZero
import Derived.Laws.IdiomCopy
/- The contract of the reference's Encode, over what is known of memory. -/
namespace Go.Proofs.Ytbgijjoemnfnmaa.Al
open Go Go.Al Go.Proofs Go.RowKit
set_option maxHeartbeats 8000000
set_option maxRecDepth 100000
set_option linter.unusedVariables false
set_option linter.unusedSimpArgs false
/-- A region, for whatever comes behind it. -/
theorem draw_cut {P : Program} {T : Tab} {ops : Array Oper} {K : Env → Heap → Prop} {env : Env} {F : Heap} (Post : Env → Heap → Prop) (h : ∀ K : Env → Heap → Prop, (∀ env' F', Post env' F' → K env' F') → DrawK P T ops K env F) (hk : ∀ env' F', Post env' F' → K env' F') : DrawK P T ops K env F := h K hk
theorem put1 (bs : List UInt8) (z : Int) (h0 : 0 ≤ z) (h1 : z < 256) : putM 1 bs z = bs ++ [byteAt z 0] := by
  unfold putM inM
  rw [show (Nat.beq 1 8) = false from rfl, cond_false, decide_eq_true h0, Bool.true_and, decide_eq_true (by simpa using h1)]
  rfl
theorem wrap_byte (z : Int) : IntKind.u8.wrap z = ((byteAt z 0).toNat : Int) := by
  rw [u8_wrap, byteAt_int z 0 (by decide)]
  simp
def rencH (c : CD) : List UInt8 := putAllM 8 (putAllM 1 (putAllM 4 (putAllM 2 [byteAt c.k 0] [c.y, c.x, c.f, c.o, c.n, c.p]) [c.d]) [c.l]) [c.a]
def rencM (c : CD) : List UInt8 := rencH c ++ [byteAt (if c.ab then 1 else 0) 0, byteAt (c.nm.length : Int) 0] ++ c.nm ++ [byteAt (c.ls.length : Int) 0]
theorem rencM_eq (c : CD) (h : mayB c = true) : rencM c = encM c := by
  obtain ⟨h1, h2, h3, _⟩ := (mayB_iff c).1 h
  unfold knownB at h1
  rw [Bool.and_eq_true, decide_eq_true_eq, decide_eq_true_eq] at h1
  have e1 : putAllM 1 [] [c.k] = [byteAt c.k 0] := by
    show putM 1 [] c.k = _
    rw [put1 _ _ (by omega) (by omega)]
    rfl
  have e2 : rencH c = encH c := by
    unfold rencH encH
    rw [e1]
  unfold rencM encM
  rw [e2]
  have e3 : ∀ bs : List UInt8, ∀ z w : Int, 0 ≤ z → z < 256 → 0 ≤ w → w < 256 → putAllM 1 bs [z, w] = bs ++ [byteAt z 0, byteAt w 0] := by
    intro bs z w z0 z1 w0 w1
    show putM 1 (putM 1 bs z) w = _
    rw [put1 _ _ z0 z1, put1 _ _ w0 w1, List.append_assoc]
    rfl
  have e4 : ∀ bs : List UInt8, ∀ z : Int, 0 ≤ z → z < 256 → putAllM 1 bs [z] = bs ++ [byteAt z 0] := by
    intro bs z z0 z1
    exact put1 bs z z0 z1
  rw [e3 _ _ _ (by split <;> omega) (by split <;> omega) (by omega) (by omega), e4 _ _ (by omega) (by omega)]
theorem u8_cmd : (5 : Nat) ≠ 25 := by decide
theorem rencode (k y x f o n p d l a : Int) (ab : Bool) (nm : List UInt8) (ls : List LD) (A : Option Addr) (c : Nat) (F : Heap) (hr : RowAt F A (linesV ls)) (hn : nm.length ≤ 100000) (hl : ls.length ≤ 10000) :
    FnK Try.prog 23 #[.agg (cmdC k y x f o n p d l a ab ⟨nm.toArray⟩ (.slice A ls.length c))] F (fun v F' => (∃ r, v = .tuple #[r, .int .i64 (if mayB ⟨k, y, x, f, o, n, p, d, l, a, ab, nm, ls⟩ then 0 else 1)] ∧ Bs F' r (if mayB ⟨k, y, x, f, o, n, p, d, l, a, ab, nm, ls⟩ then encB ⟨k, y, x, f, o, n, p, d, l, a, ab, nm, ls⟩ else [])) ∧ Ext F F') := by
  have hm := mayB_iff ⟨k, y, x, f, o, n, p, d, l, a, ab, nm, ls⟩
  have hreq := rencM_eq ⟨k, y, x, f, o, n, p, d, l, a, ab, nm, ls⟩
  have c1 := fun G hg => rmay k y x f o n p d l a ab nm ls A c G hg hn hl
  generalize mayB ⟨k, y, x, f, o, n, p, d, l, a, ab, nm, ls⟩ = q at hm c1 hreq ⊢
  (refine fn_walk tab_ok Try.func23 rfl rfl rfl rfl ?_; (conv => whnf))
  refine new_step (cmdO k y x f o n p d l a ab ⟨nm.toArray⟩ (.slice A ls.length c)) rfl fun b hb => ?_
  have hE := Ext.new hb (cmdO k y x f o n p d l a ab ⟨nm.toArray⟩ (.slice A ls.length c))
  have hB := Heap.put_same F b (cmdO k y x f o n p d l a ab ⟨nm.toArray⟩ (.slice A ls.length c))
  generalize F.put b _ = F1 at hE hB ⊢
  (conv => whnf)
  refine ⟨⟨_, _, _, hB, rfl, Nat.le_refl 13, ?_⟩⟩
  (conv => whnf)
  refine call_of (c1 F1 (hr.mono hE)) ?_
  rintro v F2 ⟨rfl, hE2⟩
  have hB2 := hE2 _ _ hB
  replace hE2 := hE.trans hE2
  cases q with
  | false =>
    (conv => whnf)
    exact ⟨⟨_, rfl, Bs.nil _⟩, hE2⟩
  | true =>
  obtain ⟨_, n255, l255, _⟩ := hm.1 rfl
  dsimp only at n255 l255
  replace hreq := hreq rfl
  clear hm c1
  have hr2 := hr.mono hE2
  have b2 := putAllM_len 2 [y, x, f, o, n, p] [byteAt k 0]
  have b3 := putAllM_len 4 [d] (putAllM 2 [byteAt k 0] [y, x, f, o, n, p])
  have b4 := putAllM_len 1 [l] (putAllM 4 (putAllM 2 [byteAt k 0] [y, x, f, o, n, p]) [d])
  have b5 := putAllM_len 8 [a] (putAllM 1 (putAllM 4 (putAllM 2 [byteAt k 0] [y, x, f, o, n, p]) [d]) [l])
  have b6 := encM_len ⟨k, y, x, f, o, n, p, d, l, a, ab, nm, ls⟩
  have hH : rencH ⟨k, y, x, f, o, n, p, d, l, a, ab, nm, ls⟩ = putAllM 8 (putAllM 1 (putAllM 4 (putAllM 2 [byteAt k 0] [y, x, f, o, n, p]) [d]) [l]) [a] := rfl
  have hM : rencM ⟨k, y, x, f, o, n, p, d, l, a, ab, nm, ls⟩ = rencH ⟨k, y, x, f, o, n, p, d, l, a, ab, nm, ls⟩ ++ [byteAt (if ab then 1 else 0) 0, byteAt (nm.length : Int) 0] ++ nm ++ [byteAt (ls.length : Int) 0] := rfl
  have hEB : encB ⟨k, y, x, f, o, n, p, d, l, a, ab, nm, ls⟩ = encL (encM ⟨k, y, x, f, o, n, p, d, l, a, ab, nm, ls⟩) ls := rfl
  generalize encB ⟨k, y, x, f, o, n, p, d, l, a, ab, nm, ls⟩ = eB at hEB ⊢
  rw [hreq] at hM
  generalize encM ⟨k, y, x, f, o, n, p, d, l, a, ab, nm, ls⟩ = eM at hM b6 hEB
  generalize rencH ⟨k, y, x, f, o, n, p, d, l, a, ab, nm, ls⟩ = eH at hM hH
  simp only [List.length_cons, List.length_nil] at b2 b3 b4 b5 b6
  clear hreq
  cases ab with
  | true =>
    have hM1 : eM = eH ++ [byteAt 1 0, byteAt (nm.length : Int) 0] ++ nm ++ [byteAt (ls.length : Int) 0] := hM
    clear hM
    have w1 : IntKind.u8.wrap 1 = ((byteAt 1 0).toNat : Int) := wrap_byte _
    have w2 : IntKind.u8.wrap (nm.length : Int) = ((byteAt (nm.length : Int) 0).toNat : Int) := wrap_byte _
    have w3 : IntKind.u8.wrap (ls.length : Int) = ((byteAt (ls.length : Int) 0).toNat : Int) := wrap_byte _
    have w0 : IntKind.u8.wrap k = ((byteAt k 0).toNat : Int) := wrap_byte _
    generalize byteAt 1 0 = y1 at w1 hM1
    generalize byteAt (nm.length : Int) 0 = y2 at w2 hM1
    generalize byteAt (ls.length : Int) 0 = y3 at w3 hM1
    generalize byteAt k 0 = y0 at w0 hH b2 b3 b4 b5
    (conv => whnf)
    refine load_blk hB2 rfl rfl ?_
    (conv => whnf)
    refine load_blk hB2 rfl rfl ?_
    (conv => whnf)
    refine new_step (.cells (bytesOf [y0]).toArray 5) (congrArg (fun z => Obj.cells #[Value.int .u8 z] 5) w0) fun u hu => ?_
    have hE3 := Ext.new hu (.cells (bytesOf [y0]).toArray 5)
    have hB3 := hE3 _ _ hB2
    have hU := Heap.put_same F2 u (.cells (bytesOf [y0]).toArray 5)
    generalize F2.put u _ = F3 at hE3 hB3 hU ⊢
    have hS0 : Bs F3 (.slice (some ⟨u, 0, none⟩) 1 1) [y0] := ⟨_, 1, rfl, Nat.le_refl 1, fun j v hj => ⟨_, rfl, by rw [add_plain, Heap.cell_at hU, Nat.zero_add]; simpa using hj⟩⟩
    (conv => whnf)
    refine load_blk hB3 rfl rfl ?_
    (conv => whnf)
    refine load_blk hB3 rfl rfl ?_
    (conv => whnf)
    refine load_blk hB3 rfl rfl ?_
    (conv => whnf)
    refine load_blk hB3 rfl rfl ?_
    (conv => whnf)
    refine load_blk hB3 rfl rfl ?_
    (conv => whnf)
    refine load_blk hB3 rfl rfl ?_
    (conv => whnf)
    refine new_step (.cells (([y, x, f, o, n, p] : List Int).map (Value.int .i64)).toArray 3) rfl fun g hg => ?_
    have hE4 := Ext.new hg (.cells (([y, x, f, o, n, p] : List Int).map (Value.int .i64)).toArray 3)
    have hB4 := hE4 _ _ hB3
    have hG := Heap.put_same F3 g (.cells (([y, x, f, o, n, p] : List Int).map (Value.int .i64)).toArray 3)
    replace hS0 := hS0.mono hE4
    generalize F3.put g _ = F4 at hE4 hB4 hG hS0 ⊢
    (conv => whnf)
    refine call_of (rputL 2 (.inr (.inl rfl)) [y0] (.slice (some ⟨u, 0, none⟩) 1 1) [y, x, f, o, n, p] (some ⟨g, 0, none⟩) 6 F4 hS0 (row_new hG) (by simp) (by simp only [List.length_cons, List.length_nil]; omega)) ?_
    rintro s0 F7 M0
    have hB7 := M0.ext _ _ hB4
    have hE7 : Ext F2 F7 := hE3.trans (hE4.trans M0.ext)
    have S0 := Bs.of_mine M0
    clear M0 hS0 hG hU hB3 hB4
    generalize putAllM 2 [y0] [y, x, f, o, n, p] = e2 at S0 b2 b3 b4 b5 hH
    refine short [1, 4, 30] [.pointer (some ⟨b, 0, none⟩), .int .i64 1, s0] rfl fun ρ => ?_
    (conv => whnf)
    refine draw_cut (fun env' F' => ∃ S', Mine F7 F' S' 5 1 eH.length (bytesOf eH) ∧ env' 1 = .pointer (some ⟨b, 0, none⟩) ∧ env' 4 = .int .i64 1 ∧ env' 5 = S') (fun K hK => ?_) ?_
    · rw [hH] at hK
      refine draw_tree tab_ok (by kernel_rfl) [2, 6, 10] (DT.row [0, 1, 2, 5, 6, 9, 10] (.fork (.cons 3 (.fork (.cons 4 (.fork (.cons 7 (.fork (.cons 8 (.cons 11 (.cons 12 (DT.row [13] .nil)))) (.cons 11 (.cons 8 (.cons 12 (DT.row [13] .nil)))))) (.cons 11 (.cons 7 (.cons 8 (.cons 12 (DT.row [13] .nil))))))) (.fork (.cons 7 (.fork (.cons 4 (.fork (.cons 8 (.cons 11 (.cons 12 (DT.row [13] .nil)))) (.cons 11 (.cons 8 (.cons 12 (DT.row [13] .nil)))))) (.cons 11 (.cons 4 (.cons 8 (.cons 12 (DT.row [13] .nil))))))) (.cons 11 (.fork (.cons 4 (.cons 7 (.cons 8 (.cons 12 (DT.row [13] .nil))))) (.cons 7 (.cons 4 (.cons 8 (.cons 12 (DT.row [13] .nil)))))))))) (.fork (.cons 7 (.fork (.cons 3 (.fork (.cons 4 (.fork (.cons 8 (.cons 11 (.cons 12 (DT.row [13] .nil)))) (.cons 11 (.cons 8 (.cons 12 (DT.row [13] .nil)))))) (.cons 11 (.cons 4 (.cons 8 (.cons 12 (DT.row [13] .nil))))))) (.cons 11 (.cons 3 (.cons 4 (.cons 8 (.cons 12 (DT.row [13] .nil)))))))) (.cons 11 (.fork (.cons 3 (.fork (.cons 4 (.cons 7 (.cons 8 (.cons 12 (DT.row [13] .nil))))) (.cons 7 (.cons 4 (.cons 8 (.cons 12 (DT.row [13] .nil))))))) (.cons 7 (.cons 3 (.cons 4 (.cons 8 (.cons 12 (DT.row [13] .nil))))))))))) (by kernel_rfl) ?_
      have E0 := Ext.refl F7
      (conv => whnf)
      refine load_blk hB7 rfl rfl ?_
      (conv => whnf)
      refine load_blk hB7 rfl rfl ?_
      (conv => whnf)
      refine load_blk hB7 rfl rfl ?_
      (conv => whnf)
      refine ⟨?_, ?_⟩
      · have triv := True.intro
        (conv => whnf)
        refine new_step (.cells (([d] : List Int).map (Value.int .i64)).toArray 3) rfl fun g0 hg0 => ?_
        have X101 := Ext.new hg0 (.cells (([d] : List Int).map (Value.int .i64)).toArray 3)
        have G0 := Heap.put_same F7 g0 (.cells (([d] : List Int).map (Value.int .i64)).toArray 3)
        generalize F7.put g0 _ = F101 at X101 G0 ⊢
        have E101 := E0.trans X101
        refine ⟨E101, ?_⟩
        replace S0 := S0.mono X101
        (conv => whnf)
        refine ⟨?_, ?_⟩
        · have triv := True.intro
          (conv => whnf)
          refine call_of (rputL 4 (.inr (.inr (.inl rfl))) e2 s0 [d] (some ⟨g0, 0, none⟩) 1 F101 S0 (row_new G0) (by simp) (by simp only [List.length_cons, List.length_nil]; omega)) ?_
          rintro s0 F102 M0
          have X102 := M0.ext
          have E102 := E101.trans X102
          refine ⟨E102, ?_⟩
          have S1 := Bs.of_mine M0
          replace M0 := M0.down E101
          (conv => whnf)
          refine ⟨?_, ?_⟩
          · have triv := True.intro
            (conv => whnf)
            refine new_step (.cells (([l] : List Int).map (Value.int .i64)).toArray 3) rfl fun g1 hg1 => ?_
            have X103 := Ext.new hg1 (.cells (([l] : List Int).map (Value.int .i64)).toArray 3)
            have G1 := Heap.put_same F102 g1 (.cells (([l] : List Int).map (Value.int .i64)).toArray 3)
            generalize F102.put g1 _ = F103 at X103 G1 ⊢
            have E103 := E102.trans X103
            refine ⟨E103, ?_⟩
            replace S1 := S1.mono X103
            replace M0 := M0.mono X103
            (conv => whnf)
            refine ⟨?_, ?_⟩
            · have triv := True.intro
              (conv => whnf)
              refine call_of (rputL 1 (.inl rfl) (putAllM 4 e2 [d]) s0 [l] (some ⟨g1, 0, none⟩) 1 F103 S1 (row_new G1) (by simp) (by simp only [List.length_cons, List.length_nil]; omega)) ?_
              rintro s1 F104 M1
              have X104 := M1.ext
              have E104 := E103.trans X104
              refine ⟨E104, ?_⟩
              have S2 := Bs.of_mine M1
              replace M1 := M1.down E103
              (conv => whnf)
              refine new_step (.cells (([a] : List Int).map (Value.int .i64)).toArray 3) rfl fun g2 hg2 => ?_
              have X105 := Ext.new hg2 (.cells (([a] : List Int).map (Value.int .i64)).toArray 3)
              have G2 := Heap.put_same F104 g2 (.cells (([a] : List Int).map (Value.int .i64)).toArray 3)
              generalize F104.put g2 _ = F105 at X105 G2 ⊢
              have E105 := E104.trans X105
              refine ⟨E105, ?_⟩
              replace S2 := S2.mono X105
              replace M1 := M1.mono X105
              (conv => whnf)
              refine call_of (rputL 8 (.inr (.inr (.inr rfl))) (putAllM 1 (putAllM 4 e2 [d]) [l]) s1 [a] (some ⟨g2, 0, none⟩) 1 F105 S2 (row_new G2) (by simp) (by simp only [List.length_cons, List.length_nil]; omega)) ?_
              rintro s2 F106 M2
              have X106 := M2.ext
              have E106 := E105.trans X106
              refine ⟨E106, ?_⟩
              have S3 := Bs.of_mine M2
              replace M2 := M2.down E105
              (conv => whnf)
              exact hK _ _ ⟨s2, M2, rfl, rfl, rfl⟩
            (conv => whnf)
            refine new_step (.cells (([a] : List Int).map (Value.int .i64)).toArray 3) rfl fun g2 hg2 => ?_
            have X107 := Ext.new hg2 (.cells (([a] : List Int).map (Value.int .i64)).toArray 3)
            have G2 := Heap.put_same F103 g2 (.cells (([a] : List Int).map (Value.int .i64)).toArray 3)
            generalize F103.put g2 _ = F107 at X107 G2 ⊢
            have E107 := E103.trans X107
            refine ⟨E107, ?_⟩
            replace G1 := X107 _ _ G1
            replace S1 := S1.mono X107
            replace M0 := M0.mono X107
            (conv => whnf)
            refine call_of (rputL 1 (.inl rfl) (putAllM 4 e2 [d]) s0 [l] (some ⟨g1, 0, none⟩) 1 F107 S1 (row_new G1) (by simp) (by simp only [List.length_cons, List.length_nil]; omega)) ?_
            rintro s1 F108 M1
            have X108 := M1.ext
            have E108 := E107.trans X108
            refine ⟨E108, ?_⟩
            replace G2 := X108 _ _ G2
            have S2 := Bs.of_mine M1
            replace M1 := M1.down E107
            (conv => whnf)
            refine call_of (rputL 8 (.inr (.inr (.inr rfl))) (putAllM 1 (putAllM 4 e2 [d]) [l]) s1 [a] (some ⟨g2, 0, none⟩) 1 F108 S2 (row_new G2) (by simp) (by simp only [List.length_cons, List.length_nil]; omega)) ?_
            rintro s2 F109 M2
            have X109 := M2.ext
            have E109 := E108.trans X109
            refine ⟨E109, ?_⟩
            have S3 := Bs.of_mine M2
            replace M2 := M2.down E108
            (conv => whnf)
            exact hK _ _ ⟨s2, M2, rfl, rfl, rfl⟩
          (conv => whnf)
          refine new_step (.cells (([a] : List Int).map (Value.int .i64)).toArray 3) rfl fun g2 hg2 => ?_
          have X110 := Ext.new hg2 (.cells (([a] : List Int).map (Value.int .i64)).toArray 3)
          have G2 := Heap.put_same F102 g2 (.cells (([a] : List Int).map (Value.int .i64)).toArray 3)
          generalize F102.put g2 _ = F110 at X110 G2 ⊢
          have E110 := E102.trans X110
          refine ⟨E110, ?_⟩
          replace S1 := S1.mono X110
          replace M0 := M0.mono X110
          (conv => whnf)
          refine new_step (.cells (([l] : List Int).map (Value.int .i64)).toArray 3) rfl fun g1 hg1 => ?_
          have X111 := Ext.new hg1 (.cells (([l] : List Int).map (Value.int .i64)).toArray 3)
          have G1 := Heap.put_same F110 g1 (.cells (([l] : List Int).map (Value.int .i64)).toArray 3)
          generalize F110.put g1 _ = F111 at X111 G1 ⊢
          have E111 := E110.trans X111
          refine ⟨E111, ?_⟩
          replace G2 := X111 _ _ G2
          replace S1 := S1.mono X111
          replace M0 := M0.mono X111
          (conv => whnf)
          refine call_of (rputL 1 (.inl rfl) (putAllM 4 e2 [d]) s0 [l] (some ⟨g1, 0, none⟩) 1 F111 S1 (row_new G1) (by simp) (by simp only [List.length_cons, List.length_nil]; omega)) ?_
          rintro s1 F112 M1
          have X112 := M1.ext
          have E112 := E111.trans X112
          refine ⟨E112, ?_⟩
          replace G2 := X112 _ _ G2
          have S2 := Bs.of_mine M1
          replace M1 := M1.down E111
          (conv => whnf)
          refine call_of (rputL 8 (.inr (.inr (.inr rfl))) (putAllM 1 (putAllM 4 e2 [d]) [l]) s1 [a] (some ⟨g2, 0, none⟩) 1 F112 S2 (row_new G2) (by simp) (by simp only [List.length_cons, List.length_nil]; omega)) ?_
          rintro s2 F113 M2
          have X113 := M2.ext
          have E113 := E112.trans X113
          refine ⟨E113, ?_⟩
          have S3 := Bs.of_mine M2
          replace M2 := M2.down E112
          (conv => whnf)
          exact hK _ _ ⟨s2, M2, rfl, rfl, rfl⟩
        (conv => whnf)
        refine ⟨?_, ?_⟩
        · have triv := True.intro
          (conv => whnf)
          refine new_step (.cells (([l] : List Int).map (Value.int .i64)).toArray 3) rfl fun g1 hg1 => ?_
          have X114 := Ext.new hg1 (.cells (([l] : List Int).map (Value.int .i64)).toArray 3)
          have G1 := Heap.put_same F101 g1 (.cells (([l] : List Int).map (Value.int .i64)).toArray 3)
          generalize F101.put g1 _ = F114 at X114 G1 ⊢
          have E114 := E101.trans X114
          refine ⟨E114, ?_⟩
          replace G0 := X114 _ _ G0
          replace S0 := S0.mono X114
          (conv => whnf)
          refine ⟨?_, ?_⟩
          · have triv := True.intro
            (conv => whnf)
            refine call_of (rputL 4 (.inr (.inr (.inl rfl))) e2 s0 [d] (some ⟨g0, 0, none⟩) 1 F114 S0 (row_new G0) (by simp) (by simp only [List.length_cons, List.length_nil]; omega)) ?_
            rintro s0 F115 M0
            have X115 := M0.ext
            have E115 := E114.trans X115
            refine ⟨E115, ?_⟩
            replace G1 := X115 _ _ G1
            have S1 := Bs.of_mine M0
            replace M0 := M0.down E114
            (conv => whnf)
            refine ⟨?_, ?_⟩
            · have triv := True.intro
              (conv => whnf)
              refine call_of (rputL 1 (.inl rfl) (putAllM 4 e2 [d]) s0 [l] (some ⟨g1, 0, none⟩) 1 F115 S1 (row_new G1) (by simp) (by simp only [List.length_cons, List.length_nil]; omega)) ?_
              rintro s1 F116 M1
              have X116 := M1.ext
              have E116 := E115.trans X116
              refine ⟨E116, ?_⟩
              have S2 := Bs.of_mine M1
              replace M1 := M1.down E115
              (conv => whnf)
              refine new_step (.cells (([a] : List Int).map (Value.int .i64)).toArray 3) rfl fun g2 hg2 => ?_
              have X117 := Ext.new hg2 (.cells (([a] : List Int).map (Value.int .i64)).toArray 3)
              have G2 := Heap.put_same F116 g2 (.cells (([a] : List Int).map (Value.int .i64)).toArray 3)
              generalize F116.put g2 _ = F117 at X117 G2 ⊢
              have E117 := E116.trans X117
              refine ⟨E117, ?_⟩
              replace S2 := S2.mono X117
              replace M1 := M1.mono X117
              (conv => whnf)
              refine call_of (rputL 8 (.inr (.inr (.inr rfl))) (putAllM 1 (putAllM 4 e2 [d]) [l]) s1 [a] (some ⟨g2, 0, none⟩) 1 F117 S2 (row_new G2) (by simp) (by simp only [List.length_cons, List.length_nil]; omega)) ?_
              rintro s2 F118 M2
              have X118 := M2.ext
              have E118 := E117.trans X118
              refine ⟨E118, ?_⟩
              have S3 := Bs.of_mine M2
              replace M2 := M2.down E117
              (conv => whnf)
              exact hK _ _ ⟨s2, M2, rfl, rfl, rfl⟩
            (conv => whnf)
            refine new_step (.cells (([a] : List Int).map (Value.int .i64)).toArray 3) rfl fun g2 hg2 => ?_
            have X119 := Ext.new hg2 (.cells (([a] : List Int).map (Value.int .i64)).toArray 3)
            have G2 := Heap.put_same F115 g2 (.cells (([a] : List Int).map (Value.int .i64)).toArray 3)
            generalize F115.put g2 _ = F119 at X119 G2 ⊢
            have E119 := E115.trans X119
            refine ⟨E119, ?_⟩
            replace G1 := X119 _ _ G1
            replace S1 := S1.mono X119
            replace M0 := M0.mono X119
            (conv => whnf)
            refine call_of (rputL 1 (.inl rfl) (putAllM 4 e2 [d]) s0 [l] (some ⟨g1, 0, none⟩) 1 F119 S1 (row_new G1) (by simp) (by simp only [List.length_cons, List.length_nil]; omega)) ?_
            rintro s1 F120 M1
            have X120 := M1.ext
            have E120 := E119.trans X120
            refine ⟨E120, ?_⟩
            replace G2 := X120 _ _ G2
            have S2 := Bs.of_mine M1
            replace M1 := M1.down E119
            (conv => whnf)
            refine call_of (rputL 8 (.inr (.inr (.inr rfl))) (putAllM 1 (putAllM 4 e2 [d]) [l]) s1 [a] (some ⟨g2, 0, none⟩) 1 F120 S2 (row_new G2) (by simp) (by simp only [List.length_cons, List.length_nil]; omega)) ?_
            rintro s2 F121 M2
            have X121 := M2.ext
            have E121 := E120.trans X121
            refine ⟨E121, ?_⟩
            have S3 := Bs.of_mine M2
            replace M2 := M2.down E120
            (conv => whnf)
            exact hK _ _ ⟨s2, M2, rfl, rfl, rfl⟩
          (conv => whnf)
          refine new_step (.cells (([a] : List Int).map (Value.int .i64)).toArray 3) rfl fun g2 hg2 => ?_
          have X122 := Ext.new hg2 (.cells (([a] : List Int).map (Value.int .i64)).toArray 3)
          have G2 := Heap.put_same F114 g2 (.cells (([a] : List Int).map (Value.int .i64)).toArray 3)
          generalize F114.put g2 _ = F122 at X122 G2 ⊢
          have E122 := E114.trans X122
          refine ⟨E122, ?_⟩
          replace G0 := X122 _ _ G0
          replace G1 := X122 _ _ G1
          replace S0 := S0.mono X122
          (conv => whnf)
          refine call_of (rputL 4 (.inr (.inr (.inl rfl))) e2 s0 [d] (some ⟨g0, 0, none⟩) 1 F122 S0 (row_new G0) (by simp) (by simp only [List.length_cons, List.length_nil]; omega)) ?_
          rintro s0 F123 M0
          have X123 := M0.ext
          have E123 := E122.trans X123
          refine ⟨E123, ?_⟩
          replace G1 := X123 _ _ G1
          replace G2 := X123 _ _ G2
          have S1 := Bs.of_mine M0
          replace M0 := M0.down E122
          (conv => whnf)
          refine call_of (rputL 1 (.inl rfl) (putAllM 4 e2 [d]) s0 [l] (some ⟨g1, 0, none⟩) 1 F123 S1 (row_new G1) (by simp) (by simp only [List.length_cons, List.length_nil]; omega)) ?_
          rintro s1 F124 M1
          have X124 := M1.ext
          have E124 := E123.trans X124
          refine ⟨E124, ?_⟩
          replace G2 := X124 _ _ G2
          have S2 := Bs.of_mine M1
          replace M1 := M1.down E123
          (conv => whnf)
          refine call_of (rputL 8 (.inr (.inr (.inr rfl))) (putAllM 1 (putAllM 4 e2 [d]) [l]) s1 [a] (some ⟨g2, 0, none⟩) 1 F124 S2 (row_new G2) (by simp) (by simp only [List.length_cons, List.length_nil]; omega)) ?_
          rintro s2 F125 M2
          have X125 := M2.ext
          have E125 := E124.trans X125
          refine ⟨E125, ?_⟩
          have S3 := Bs.of_mine M2
          replace M2 := M2.down E124
          (conv => whnf)
          exact hK _ _ ⟨s2, M2, rfl, rfl, rfl⟩
        (conv => whnf)
        refine new_step (.cells (([a] : List Int).map (Value.int .i64)).toArray 3) rfl fun g2 hg2 => ?_
        have X126 := Ext.new hg2 (.cells (([a] : List Int).map (Value.int .i64)).toArray 3)
        have G2 := Heap.put_same F101 g2 (.cells (([a] : List Int).map (Value.int .i64)).toArray 3)
        generalize F101.put g2 _ = F126 at X126 G2 ⊢
        have E126 := E101.trans X126
        refine ⟨E126, ?_⟩
        replace G0 := X126 _ _ G0
        replace S0 := S0.mono X126
        (conv => whnf)
        refine ⟨?_, ?_⟩
        · have triv := True.intro
          (conv => whnf)
          refine call_of (rputL 4 (.inr (.inr (.inl rfl))) e2 s0 [d] (some ⟨g0, 0, none⟩) 1 F126 S0 (row_new G0) (by simp) (by simp only [List.length_cons, List.length_nil]; omega)) ?_
          rintro s0 F127 M0
          have X127 := M0.ext
          have E127 := E126.trans X127
          refine ⟨E127, ?_⟩
          replace G2 := X127 _ _ G2
          have S1 := Bs.of_mine M0
          replace M0 := M0.down E126
          (conv => whnf)
          refine new_step (.cells (([l] : List Int).map (Value.int .i64)).toArray 3) rfl fun g1 hg1 => ?_
          have X128 := Ext.new hg1 (.cells (([l] : List Int).map (Value.int .i64)).toArray 3)
          have G1 := Heap.put_same F127 g1 (.cells (([l] : List Int).map (Value.int .i64)).toArray 3)
          generalize F127.put g1 _ = F128 at X128 G1 ⊢
          have E128 := E127.trans X128
          refine ⟨E128, ?_⟩
          replace G2 := X128 _ _ G2
          replace S1 := S1.mono X128
          replace M0 := M0.mono X128
          (conv => whnf)
          refine call_of (rputL 1 (.inl rfl) (putAllM 4 e2 [d]) s0 [l] (some ⟨g1, 0, none⟩) 1 F128 S1 (row_new G1) (by simp) (by simp only [List.length_cons, List.length_nil]; omega)) ?_
          rintro s1 F129 M1
          have X129 := M1.ext
          have E129 := E128.trans X129
          refine ⟨E129, ?_⟩
          replace G2 := X129 _ _ G2
          have S2 := Bs.of_mine M1
          replace M1 := M1.down E128
          (conv => whnf)
          refine call_of (rputL 8 (.inr (.inr (.inr rfl))) (putAllM 1 (putAllM 4 e2 [d]) [l]) s1 [a] (some ⟨g2, 0, none⟩) 1 F129 S2 (row_new G2) (by simp) (by simp only [List.length_cons, List.length_nil]; omega)) ?_
          rintro s2 F130 M2
          have X130 := M2.ext
          have E130 := E129.trans X130
          refine ⟨E130, ?_⟩
          have S3 := Bs.of_mine M2
          replace M2 := M2.down E129
          (conv => whnf)
          exact hK _ _ ⟨s2, M2, rfl, rfl, rfl⟩
        (conv => whnf)
        refine new_step (.cells (([l] : List Int).map (Value.int .i64)).toArray 3) rfl fun g1 hg1 => ?_
        have X131 := Ext.new hg1 (.cells (([l] : List Int).map (Value.int .i64)).toArray 3)
        have G1 := Heap.put_same F126 g1 (.cells (([l] : List Int).map (Value.int .i64)).toArray 3)
        generalize F126.put g1 _ = F131 at X131 G1 ⊢
        have E131 := E126.trans X131
        refine ⟨E131, ?_⟩
        replace G0 := X131 _ _ G0
        replace G2 := X131 _ _ G2
        replace S0 := S0.mono X131
        (conv => whnf)
        refine call_of (rputL 4 (.inr (.inr (.inl rfl))) e2 s0 [d] (some ⟨g0, 0, none⟩) 1 F131 S0 (row_new G0) (by simp) (by simp only [List.length_cons, List.length_nil]; omega)) ?_
        rintro s0 F132 M0
        have X132 := M0.ext
        have E132 := E131.trans X132
        refine ⟨E132, ?_⟩
        replace G1 := X132 _ _ G1
        replace G2 := X132 _ _ G2
        have S1 := Bs.of_mine M0
        replace M0 := M0.down E131
        (conv => whnf)
        refine call_of (rputL 1 (.inl rfl) (putAllM 4 e2 [d]) s0 [l] (some ⟨g1, 0, none⟩) 1 F132 S1 (row_new G1) (by simp) (by simp only [List.length_cons, List.length_nil]; omega)) ?_
        rintro s1 F133 M1
        have X133 := M1.ext
        have E133 := E132.trans X133
        refine ⟨E133, ?_⟩
        replace G2 := X133 _ _ G2
        have S2 := Bs.of_mine M1
        replace M1 := M1.down E132
        (conv => whnf)
        refine call_of (rputL 8 (.inr (.inr (.inr rfl))) (putAllM 1 (putAllM 4 e2 [d]) [l]) s1 [a] (some ⟨g2, 0, none⟩) 1 F133 S2 (row_new G2) (by simp) (by simp only [List.length_cons, List.length_nil]; omega)) ?_
        rintro s2 F134 M2
        have X134 := M2.ext
        have E134 := E133.trans X134
        refine ⟨E134, ?_⟩
        have S3 := Bs.of_mine M2
        replace M2 := M2.down E133
        (conv => whnf)
        exact hK _ _ ⟨s2, M2, rfl, rfl, rfl⟩
      (conv => whnf)
      refine ⟨?_, ?_⟩
      · have triv := True.intro
        (conv => whnf)
        refine new_step (.cells (([l] : List Int).map (Value.int .i64)).toArray 3) rfl fun g1 hg1 => ?_
        have X135 := Ext.new hg1 (.cells (([l] : List Int).map (Value.int .i64)).toArray 3)
        have G1 := Heap.put_same F7 g1 (.cells (([l] : List Int).map (Value.int .i64)).toArray 3)
        generalize F7.put g1 _ = F135 at X135 G1 ⊢
        have E135 := E0.trans X135
        refine ⟨E135, ?_⟩
        replace S0 := S0.mono X135
        (conv => whnf)
        refine ⟨?_, ?_⟩
        · have triv := True.intro
          (conv => whnf)
          refine new_step (.cells (([d] : List Int).map (Value.int .i64)).toArray 3) rfl fun g0 hg0 => ?_
          have X136 := Ext.new hg0 (.cells (([d] : List Int).map (Value.int .i64)).toArray 3)
          have G0 := Heap.put_same F135 g0 (.cells (([d] : List Int).map (Value.int .i64)).toArray 3)
          generalize F135.put g0 _ = F136 at X136 G0 ⊢
          have E136 := E135.trans X136
          refine ⟨E136, ?_⟩
          replace G1 := X136 _ _ G1
          replace S0 := S0.mono X136
          (conv => whnf)
          refine ⟨?_, ?_⟩
          · have triv := True.intro
            (conv => whnf)
            refine call_of (rputL 4 (.inr (.inr (.inl rfl))) e2 s0 [d] (some ⟨g0, 0, none⟩) 1 F136 S0 (row_new G0) (by simp) (by simp only [List.length_cons, List.length_nil]; omega)) ?_
            rintro s0 F137 M0
            have X137 := M0.ext
            have E137 := E136.trans X137
            refine ⟨E137, ?_⟩
            replace G1 := X137 _ _ G1
            have S1 := Bs.of_mine M0
            replace M0 := M0.down E136
            (conv => whnf)
            refine ⟨?_, ?_⟩
            · have triv := True.intro
              (conv => whnf)
              refine call_of (rputL 1 (.inl rfl) (putAllM 4 e2 [d]) s0 [l] (some ⟨g1, 0, none⟩) 1 F137 S1 (row_new G1) (by simp) (by simp only [List.length_cons, List.length_nil]; omega)) ?_
              rintro s1 F138 M1
              have X138 := M1.ext
              have E138 := E137.trans X138
              refine ⟨E138, ?_⟩
              have S2 := Bs.of_mine M1
              replace M1 := M1.down E137
              (conv => whnf)
              refine new_step (.cells (([a] : List Int).map (Value.int .i64)).toArray 3) rfl fun g2 hg2 => ?_
              have X139 := Ext.new hg2 (.cells (([a] : List Int).map (Value.int .i64)).toArray 3)
              have G2 := Heap.put_same F138 g2 (.cells (([a] : List Int).map (Value.int .i64)).toArray 3)
              generalize F138.put g2 _ = F139 at X139 G2 ⊢
              have E139 := E138.trans X139
              refine ⟨E139, ?_⟩
              replace S2 := S2.mono X139
              replace M1 := M1.mono X139
              (conv => whnf)
              refine call_of (rputL 8 (.inr (.inr (.inr rfl))) (putAllM 1 (putAllM 4 e2 [d]) [l]) s1 [a] (some ⟨g2, 0, none⟩) 1 F139 S2 (row_new G2) (by simp) (by simp only [List.length_cons, List.length_nil]; omega)) ?_
              rintro s2 F140 M2
              have X140 := M2.ext
              have E140 := E139.trans X140
              refine ⟨E140, ?_⟩
              have S3 := Bs.of_mine M2
              replace M2 := M2.down E139
              (conv => whnf)
              exact hK _ _ ⟨s2, M2, rfl, rfl, rfl⟩
            (conv => whnf)
            refine new_step (.cells (([a] : List Int).map (Value.int .i64)).toArray 3) rfl fun g2 hg2 => ?_
            have X141 := Ext.new hg2 (.cells (([a] : List Int).map (Value.int .i64)).toArray 3)
            have G2 := Heap.put_same F137 g2 (.cells (([a] : List Int).map (Value.int .i64)).toArray 3)
            generalize F137.put g2 _ = F141 at X141 G2 ⊢
            have E141 := E137.trans X141
            refine ⟨E141, ?_⟩
            replace G1 := X141 _ _ G1
            replace S1 := S1.mono X141
            replace M0 := M0.mono X141
            (conv => whnf)
            refine call_of (rputL 1 (.inl rfl) (putAllM 4 e2 [d]) s0 [l] (some ⟨g1, 0, none⟩) 1 F141 S1 (row_new G1) (by simp) (by simp only [List.length_cons, List.length_nil]; omega)) ?_
            rintro s1 F142 M1
            have X142 := M1.ext
            have E142 := E141.trans X142
            refine ⟨E142, ?_⟩
            replace G2 := X142 _ _ G2
            have S2 := Bs.of_mine M1
            replace M1 := M1.down E141
            (conv => whnf)
            refine call_of (rputL 8 (.inr (.inr (.inr rfl))) (putAllM 1 (putAllM 4 e2 [d]) [l]) s1 [a] (some ⟨g2, 0, none⟩) 1 F142 S2 (row_new G2) (by simp) (by simp only [List.length_cons, List.length_nil]; omega)) ?_
            rintro s2 F143 M2
            have X143 := M2.ext
            have E143 := E142.trans X143
            refine ⟨E143, ?_⟩
            have S3 := Bs.of_mine M2
            replace M2 := M2.down E142
            (conv => whnf)
            exact hK _ _ ⟨s2, M2, rfl, rfl, rfl⟩
          (conv => whnf)
          refine new_step (.cells (([a] : List Int).map (Value.int .i64)).toArray 3) rfl fun g2 hg2 => ?_
          have X144 := Ext.new hg2 (.cells (([a] : List Int).map (Value.int .i64)).toArray 3)
          have G2 := Heap.put_same F136 g2 (.cells (([a] : List Int).map (Value.int .i64)).toArray 3)
          generalize F136.put g2 _ = F144 at X144 G2 ⊢
          have E144 := E136.trans X144
          refine ⟨E144, ?_⟩
          replace G0 := X144 _ _ G0
          replace G1 := X144 _ _ G1
          replace S0 := S0.mono X144
          (conv => whnf)
          refine call_of (rputL 4 (.inr (.inr (.inl rfl))) e2 s0 [d] (some ⟨g0, 0, none⟩) 1 F144 S0 (row_new G0) (by simp) (by simp only [List.length_cons, List.length_nil]; omega)) ?_
          rintro s0 F145 M0
          have X145 := M0.ext
          have E145 := E144.trans X145
          refine ⟨E145, ?_⟩
          replace G1 := X145 _ _ G1
          replace G2 := X145 _ _ G2
          have S1 := Bs.of_mine M0
          replace M0 := M0.down E144
          (conv => whnf)
          refine call_of (rputL 1 (.inl rfl) (putAllM 4 e2 [d]) s0 [l] (some ⟨g1, 0, none⟩) 1 F145 S1 (row_new G1) (by simp) (by simp only [List.length_cons, List.length_nil]; omega)) ?_
          rintro s1 F146 M1
          have X146 := M1.ext
          have E146 := E145.trans X146
          refine ⟨E146, ?_⟩
          replace G2 := X146 _ _ G2
          have S2 := Bs.of_mine M1
          replace M1 := M1.down E145
          (conv => whnf)
          refine call_of (rputL 8 (.inr (.inr (.inr rfl))) (putAllM 1 (putAllM 4 e2 [d]) [l]) s1 [a] (some ⟨g2, 0, none⟩) 1 F146 S2 (row_new G2) (by simp) (by simp only [List.length_cons, List.length_nil]; omega)) ?_
          rintro s2 F147 M2
          have X147 := M2.ext
          have E147 := E146.trans X147
          refine ⟨E147, ?_⟩
          have S3 := Bs.of_mine M2
          replace M2 := M2.down E146
          (conv => whnf)
          exact hK _ _ ⟨s2, M2, rfl, rfl, rfl⟩
        (conv => whnf)
        refine new_step (.cells (([a] : List Int).map (Value.int .i64)).toArray 3) rfl fun g2 hg2 => ?_
        have X148 := Ext.new hg2 (.cells (([a] : List Int).map (Value.int .i64)).toArray 3)
        have G2 := Heap.put_same F135 g2 (.cells (([a] : List Int).map (Value.int .i64)).toArray 3)
        generalize F135.put g2 _ = F148 at X148 G2 ⊢
        have E148 := E135.trans X148
        refine ⟨E148, ?_⟩
        replace G1 := X148 _ _ G1
        replace S0 := S0.mono X148
        (conv => whnf)
        refine new_step (.cells (([d] : List Int).map (Value.int .i64)).toArray 3) rfl fun g0 hg0 => ?_
        have X149 := Ext.new hg0 (.cells (([d] : List Int).map (Value.int .i64)).toArray 3)
        have G0 := Heap.put_same F148 g0 (.cells (([d] : List Int).map (Value.int .i64)).toArray 3)
        generalize F148.put g0 _ = F149 at X149 G0 ⊢
        have E149 := E148.trans X149
        refine ⟨E149, ?_⟩
        replace G1 := X149 _ _ G1
        replace G2 := X149 _ _ G2
        replace S0 := S0.mono X149
        (conv => whnf)
        refine call_of (rputL 4 (.inr (.inr (.inl rfl))) e2 s0 [d] (some ⟨g0, 0, none⟩) 1 F149 S0 (row_new G0) (by simp) (by simp only [List.length_cons, List.length_nil]; omega)) ?_
        rintro s0 F150 M0
        have X150 := M0.ext
        have E150 := E149.trans X150
        refine ⟨E150, ?_⟩
        replace G1 := X150 _ _ G1
        replace G2 := X150 _ _ G2
        have S1 := Bs.of_mine M0
        replace M0 := M0.down E149
        (conv => whnf)
        refine call_of (rputL 1 (.inl rfl) (putAllM 4 e2 [d]) s0 [l] (some ⟨g1, 0, none⟩) 1 F150 S1 (row_new G1) (by simp) (by simp only [List.length_cons, List.length_nil]; omega)) ?_
        rintro s1 F151 M1
        have X151 := M1.ext
        have E151 := E150.trans X151
        refine ⟨E151, ?_⟩
        replace G2 := X151 _ _ G2
        have S2 := Bs.of_mine M1
        replace M1 := M1.down E150
        (conv => whnf)
        refine call_of (rputL 8 (.inr (.inr (.inr rfl))) (putAllM 1 (putAllM 4 e2 [d]) [l]) s1 [a] (some ⟨g2, 0, none⟩) 1 F151 S2 (row_new G2) (by simp) (by simp only [List.length_cons, List.length_nil]; omega)) ?_
        rintro s2 F152 M2
        have X152 := M2.ext
        have E152 := E151.trans X152
        refine ⟨E152, ?_⟩
        have S3 := Bs.of_mine M2
        replace M2 := M2.down E151
        (conv => whnf)
        exact hK _ _ ⟨s2, M2, rfl, rfl, rfl⟩
      (conv => whnf)
      refine new_step (.cells (([a] : List Int).map (Value.int .i64)).toArray 3) rfl fun g2 hg2 => ?_
      have X153 := Ext.new hg2 (.cells (([a] : List Int).map (Value.int .i64)).toArray 3)
      have G2 := Heap.put_same F7 g2 (.cells (([a] : List Int).map (Value.int .i64)).toArray 3)
      generalize F7.put g2 _ = F153 at X153 G2 ⊢
      have E153 := E0.trans X153
      refine ⟨E153, ?_⟩
      replace S0 := S0.mono X153
      (conv => whnf)
      refine ⟨?_, ?_⟩
      · have triv := True.intro
        (conv => whnf)
        refine new_step (.cells (([d] : List Int).map (Value.int .i64)).toArray 3) rfl fun g0 hg0 => ?_
        have X154 := Ext.new hg0 (.cells (([d] : List Int).map (Value.int .i64)).toArray 3)
        have G0 := Heap.put_same F153 g0 (.cells (([d] : List Int).map (Value.int .i64)).toArray 3)
        generalize F153.put g0 _ = F154 at X154 G0 ⊢
        have E154 := E153.trans X154
        refine ⟨E154, ?_⟩
        replace G2 := X154 _ _ G2
        replace S0 := S0.mono X154
        (conv => whnf)
        refine ⟨?_, ?_⟩
        · have triv := True.intro
          (conv => whnf)
          refine call_of (rputL 4 (.inr (.inr (.inl rfl))) e2 s0 [d] (some ⟨g0, 0, none⟩) 1 F154 S0 (row_new G0) (by simp) (by simp only [List.length_cons, List.length_nil]; omega)) ?_
          rintro s0 F155 M0
          have X155 := M0.ext
          have E155 := E154.trans X155
          refine ⟨E155, ?_⟩
          replace G2 := X155 _ _ G2
          have S1 := Bs.of_mine M0
          replace M0 := M0.down E154
          (conv => whnf)
          refine new_step (.cells (([l] : List Int).map (Value.int .i64)).toArray 3) rfl fun g1 hg1 => ?_
          have X156 := Ext.new hg1 (.cells (([l] : List Int).map (Value.int .i64)).toArray 3)
          have G1 := Heap.put_same F155 g1 (.cells (([l] : List Int).map (Value.int .i64)).toArray 3)
          generalize F155.put g1 _ = F156 at X156 G1 ⊢
          have E156 := E155.trans X156
          refine ⟨E156, ?_⟩
          replace G2 := X156 _ _ G2
          replace S1 := S1.mono X156
          replace M0 := M0.mono X156
          (conv => whnf)
          refine call_of (rputL 1 (.inl rfl) (putAllM 4 e2 [d]) s0 [l] (some ⟨g1, 0, none⟩) 1 F156 S1 (row_new G1) (by simp) (by simp only [List.length_cons, List.length_nil]; omega)) ?_
          rintro s1 F157 M1
          have X157 := M1.ext
          have E157 := E156.trans X157
          refine ⟨E157, ?_⟩
          replace G2 := X157 _ _ G2
          have S2 := Bs.of_mine M1
          replace M1 := M1.down E156
          (conv => whnf)
          refine call_of (rputL 8 (.inr (.inr (.inr rfl))) (putAllM 1 (putAllM 4 e2 [d]) [l]) s1 [a] (some ⟨g2, 0, none⟩) 1 F157 S2 (row_new G2) (by simp) (by simp only [List.length_cons, List.length_nil]; omega)) ?_
          rintro s2 F158 M2
          have X158 := M2.ext
          have E158 := E157.trans X158
          refine ⟨E158, ?_⟩
          have S3 := Bs.of_mine M2
          replace M2 := M2.down E157
          (conv => whnf)
          exact hK _ _ ⟨s2, M2, rfl, rfl, rfl⟩
        (conv => whnf)
        refine new_step (.cells (([l] : List Int).map (Value.int .i64)).toArray 3) rfl fun g1 hg1 => ?_
        have X159 := Ext.new hg1 (.cells (([l] : List Int).map (Value.int .i64)).toArray 3)
        have G1 := Heap.put_same F154 g1 (.cells (([l] : List Int).map (Value.int .i64)).toArray 3)
        generalize F154.put g1 _ = F159 at X159 G1 ⊢
        have E159 := E154.trans X159
        refine ⟨E159, ?_⟩
        replace G0 := X159 _ _ G0
        replace G2 := X159 _ _ G2
        replace S0 := S0.mono X159
        (conv => whnf)
        refine call_of (rputL 4 (.inr (.inr (.inl rfl))) e2 s0 [d] (some ⟨g0, 0, none⟩) 1 F159 S0 (row_new G0) (by simp) (by simp only [List.length_cons, List.length_nil]; omega)) ?_
        rintro s0 F160 M0
        have X160 := M0.ext
        have E160 := E159.trans X160
        refine ⟨E160, ?_⟩
        replace G1 := X160 _ _ G1
        replace G2 := X160 _ _ G2
        have S1 := Bs.of_mine M0
        replace M0 := M0.down E159
        (conv => whnf)
        refine call_of (rputL 1 (.inl rfl) (putAllM 4 e2 [d]) s0 [l] (some ⟨g1, 0, none⟩) 1 F160 S1 (row_new G1) (by simp) (by simp only [List.length_cons, List.length_nil]; omega)) ?_
        rintro s1 F161 M1
        have X161 := M1.ext
        have E161 := E160.trans X161
        refine ⟨E161, ?_⟩
        replace G2 := X161 _ _ G2
        have S2 := Bs.of_mine M1
        replace M1 := M1.down E160
        (conv => whnf)
        refine call_of (rputL 8 (.inr (.inr (.inr rfl))) (putAllM 1 (putAllM 4 e2 [d]) [l]) s1 [a] (some ⟨g2, 0, none⟩) 1 F161 S2 (row_new G2) (by simp) (by simp only [List.length_cons, List.length_nil]; omega)) ?_
        rintro s2 F162 M2
        have X162 := M2.ext
        have E162 := E161.trans X162
        refine ⟨E162, ?_⟩
        have S3 := Bs.of_mine M2
        replace M2 := M2.down E161
        (conv => whnf)
        exact hK _ _ ⟨s2, M2, rfl, rfl, rfl⟩
      (conv => whnf)
      refine new_step (.cells (([l] : List Int).map (Value.int .i64)).toArray 3) rfl fun g1 hg1 => ?_
      have X163 := Ext.new hg1 (.cells (([l] : List Int).map (Value.int .i64)).toArray 3)
      have G1 := Heap.put_same F153 g1 (.cells (([l] : List Int).map (Value.int .i64)).toArray 3)
      generalize F153.put g1 _ = F163 at X163 G1 ⊢
      have E163 := E153.trans X163
      refine ⟨E163, ?_⟩
      replace G2 := X163 _ _ G2
      replace S0 := S0.mono X163
      (conv => whnf)
      refine new_step (.cells (([d] : List Int).map (Value.int .i64)).toArray 3) rfl fun g0 hg0 => ?_
      have X164 := Ext.new hg0 (.cells (([d] : List Int).map (Value.int .i64)).toArray 3)
      have G0 := Heap.put_same F163 g0 (.cells (([d] : List Int).map (Value.int .i64)).toArray 3)
      generalize F163.put g0 _ = F164 at X164 G0 ⊢
      have E164 := E163.trans X164
      refine ⟨E164, ?_⟩
      replace G1 := X164 _ _ G1
      replace G2 := X164 _ _ G2
      replace S0 := S0.mono X164
      (conv => whnf)
      refine call_of (rputL 4 (.inr (.inr (.inl rfl))) e2 s0 [d] (some ⟨g0, 0, none⟩) 1 F164 S0 (row_new G0) (by simp) (by simp only [List.length_cons, List.length_nil]; omega)) ?_
      rintro s0 F165 M0
      have X165 := M0.ext
      have E165 := E164.trans X165
      refine ⟨E165, ?_⟩
      replace G1 := X165 _ _ G1
      replace G2 := X165 _ _ G2
      have S1 := Bs.of_mine M0
      replace M0 := M0.down E164
      (conv => whnf)
      refine call_of (rputL 1 (.inl rfl) (putAllM 4 e2 [d]) s0 [l] (some ⟨g1, 0, none⟩) 1 F165 S1 (row_new G1) (by simp) (by simp only [List.length_cons, List.length_nil]; omega)) ?_
      rintro s1 F166 M1
      have X166 := M1.ext
      have E166 := E165.trans X166
      refine ⟨E166, ?_⟩
      replace G2 := X166 _ _ G2
      have S2 := Bs.of_mine M1
      replace M1 := M1.down E165
      (conv => whnf)
      refine call_of (rputL 8 (.inr (.inr (.inr rfl))) (putAllM 1 (putAllM 4 e2 [d]) [l]) s1 [a] (some ⟨g2, 0, none⟩) 1 F166 S2 (row_new G2) (by simp) (by simp only [List.length_cons, List.length_nil]; omega)) ?_
      rintro s2 F167 M2
      have X167 := M2.ext
      have E167 := E166.trans X167
      refine ⟨E167, ?_⟩
      have S3 := Bs.of_mine M2
      replace M2 := M2.down E166
      (conv => whnf)
      exact hK _ _ ⟨s2, M2, rfl, rfl, rfl⟩
    · rintro env' F8 ⟨S8, M8, h1', h4', h5'⟩
      have bH : eH.length ≤ 26 := by rw [hH]; omega
      have hB8 := M8.ext _ _ hB7
      have hE8 := hE7.trans M8.ext
      replace M8 := M8.down hE7
      obtain ⟨A8, c8, rfl, _⟩ := M8.own.row
      refine short [1, 4, 5] [.pointer (some ⟨b, 0, none⟩), .int .i64 1, .slice A8 eH.length c8] (by simp only [List.map_cons, List.map_nil, h1', h4', h5']) fun ρ => ?_
      clear h1' h4' h5' hH b2 b3 b4 b5 S0 hB7 hE7
      (conv => whnf)
      refine draw_cut (fun env' F' => ∃ S', Mine F2 F' S' 5 1 (eH ++ [y1, y2] ++ nm).length (bytesOf (eH ++ [y1, y2] ++ nm)) ∧ F' b = some (cmdO k y x f o n p d l a true ⟨nm.toArray⟩ (.slice A ls.length c)) ∧ env' 1 = .pointer (some ⟨b, 0, none⟩) ∧ env' 5 = S') (fun K hK => ?_) ?_
      · refine draw_tree_at tab_ok (by kernel_rfl) [4, 10] (DT.row [0, 1, 2, 3, 4, 5, 6, 9, 10, 7, 8, 11, 12] .nil) (by kernel_rfl) (F8.only b) (only_ext rfl) ?_
        (conv => whnf)
        refine load_blk (only_at hB8) rfl rfl ?_
        (conv => whnf)
        refine load_blk (only_at hB8) rfl rfl ?_
        (conv => whnf)
        refine new_step (.cells (bytesOf [y1, y2]).toArray 5) ?_ fun q hq => ?_
        · rw [show bytesOf [y1, y2] = [Value.int .u8 (y1.toNat : Int), .int .u8 (y2.toNat : Int)] from rfl, ← w1, ← w2]
          rfl
        have hXq := Ext.new hq (.cells (bytesOf [y1, y2]).toArray 5)
        have hQ := Heap.put_same F8 q (.cells (bytesOf [y1, y2]).toArray 5)
        have hB9 := hXq _ _ hB8
        have M9 := M8.mono hXq
        generalize F8.put q _ = F9 at hXq hQ hB9 M9 ⊢
        refine ⟨only_ext (by rw [hB8, hB9]), ?_⟩
        (conv => whnf)
        refine append_mine tab_ok (m := 2) (ys := bytesOf [y1, y2]) (y := .slice (some ⟨q, 0, none⟩) 2 2) rfl rfl rfl rfl rfl ⟨_, rfl, fun k h => by cases h⟩ ⟨_, rfl, rfl⟩ (by decide) M9 ⟨rfl, .inl ⟨_, _, rfl, fun j v hj => ⟨_, rfl, by rw [add_plain, Heap.cell_at hQ, Nat.zero_add]; simpa using hj⟩⟩⟩ (hone_bytes _) (by show 2 * (eH.length + 2) * 1 ≤ _; omega) fun s10 F10 M10 hk10 => ?_
        have hB10 := hk10 _ _ hB9 (M9.own.blk_ne hB9 u8_cmd)
        refine ⟨only_ext (by rw [hB8, hB10]), ?_⟩
        (conv => whnf)
        refine append_mine tab_ok (m := nm.length) (ys := bytesOf nm) (y := .string ⟨nm.toArray⟩) rfl rfl rfl rfl rfl ⟨_, rfl, fun k h => by cases h⟩ ⟨_, rfl, rfl⟩ (by decide) M10 ⟨by simp [bytesOf], .inr ⟨_, rfl, rfl, by show nm.length = nm.toArray.size; simp, by simp [bytesOf]⟩⟩ (hone_bytes nm) (by show 2 * (eH.length + 2 + nm.length) * 1 ≤ _; omega) fun s11 F11 M11 hk11 => ?_
        have hB11 := hk11 _ _ hB10 (M10.own.blk_ne hB10 u8_cmd)
        refine ⟨only_ext (by rw [hB8, hB11]), ?_⟩
        have M12 : Mine F2 F11 s11 5 1 (eH ++ [y1, y2] ++ nm).length (bytesOf (eH ++ [y1, y2] ++ nm)) := by
          rw [List.length_append, List.length_append, bytes_app, bytes_app]; exact M11
        (conv => whnf)
        exact hK _ _ ⟨s11, M12, hB11, rfl, rfl⟩
      · rintro env' F11 ⟨s11, M12, hB11, h1', h5'⟩
        have b12 : (eH ++ [y1, y2] ++ nm).length = eH.length + 2 + nm.length := by rw [List.length_append, List.length_append]; rfl
        generalize eH ++ [y1, y2] ++ nm = e12 at M12 b12 hM1
        clear M8 hB8 hE8
        refine short [1, 5] [.pointer (some ⟨b, 0, none⟩), s11] (by simp only [List.map_cons, List.map_nil, h1', h5']) fun ρ => ?_
        clear h1' h5'
        (conv => whnf)
        refine load_blk hB11 rfl rfl ?_
        (conv => whnf)
        refine new_step (.cells (bytesOf [y3]).toArray 5) ?_ fun q hq => ?_
        · exact congrArg (fun z => Obj.cells #[Value.int .u8 z] 5) w3
        have hXq := Ext.new hq (.cells (bytesOf [y3]).toArray 5)
        have hQ := Heap.put_same F11 q (.cells (bytesOf [y3]).toArray 5)
        have hB13 := hXq _ _ hB11
        have M13 := M12.mono hXq
        generalize F11.put q _ = F13 at hXq hQ hB13 M13 ⊢
        (conv => whnf)
        refine append_mine tab_ok (m := 1) (ys := bytesOf [y3]) (y := .slice (some ⟨q, 0, none⟩) 1 1) rfl rfl rfl rfl rfl ⟨_, rfl, fun k h => by cases h⟩ ⟨_, rfl, rfl⟩ (by decide) M13 ⟨rfl, .inl ⟨_, _, rfl, fun j v hj => ⟨_, rfl, by rw [add_plain, Heap.cell_at hQ, Nat.zero_add]; simpa using hj⟩⟩⟩ (hone_bytes _) (by show 2 * (e12.length + 1) * 1 ≤ _; omega) fun s14 F14 M14 hk14 => ?_
        have hB14 := hk14 _ _ hB13 (M13.own.blk_ne hB13 u8_cmd)
        have M15 : Mine F2 F14 s14 5 1 eM.length (bytesOf eM) := by
          rw [hM1, List.length_append, bytes_app]; exact M14
        clear M14 M13 M12 hk14 hXq hQ hB13 hB11 hM1
        (conv => whnf)
        refine loop_slots [1, 5, 6] (fun mm vs F' => ∃ (j : Nat) (S : Value), j + mm = ls.length ∧ vs = [.pointer (some ⟨b, 0, none⟩), S, .int .i64 (j : Int)] ∧ Mine F2 F' S 5 1 (encL eM (ls.take j)).length (bytesOf (encL eM (ls.take j))) ∧ F' b = some (cmdO k y x f o n p d l a true ⟨nm.toArray⟩ (.slice A ls.length c))) ls.length ⟨0, _, by omega, rfl, M15, hB14⟩ ?_
        clear M15 hB14
        rintro m vs F15 ρ ⟨j, S, hjm, rfl, M15, hB15⟩
        have bj := encL_len (ls.take j) eM
        rw [List.length_take] at bj
        (conv => whnf)
        refine load_blk hB15 rfl rfl ?_
        (conv => whnf)
        refine cond_split (fun h => ?_) (fun h => ?_)
        · have hj : j < ls.length := by have := of_decide_eq_true h; omega
          obtain ⟨ad, rfl⟩ := hr.some (by rw [linesV_len]; omega)
          have hx : ls[j]? = some ls[j] := List.getElem?_eq_getElem hj
          have ht := encL_take eM ls j _ hx
          have hLr := fun (K : Value → Prop) => line_load (K := K) (hr2.mono M15.ext) hj
          have hja : ad.add (Int.toNat (j : Int) * 4) = ad.add (j * 4) := by rw [Int.toNat_natCast]
          rw [← hja] at hLr
          generalize ls[j] = q at ht hLr
          obtain ⟨wf, wo, wn, wa⟩ := q
          dsimp only at ht hLr
          have bj2 : (encL eM (ls.take j)).length ≤ 10000 := by
            have := Nat.min_le_right j ls.length
            omega
          have bj3 := putAllM_len 2 [wf, wo, wn] (encL eM (ls.take j))
          simp only [List.length_cons, List.length_nil] at bj3
          generalize encL eM (ls.take j) = cur at M15 ht bj2 bj3
          (conv => whnf)
          refine load_blk hB15 rfl rfl ?_
          (conv => whnf)
          refine ⟨⟨by omega, by omega⟩, ?_⟩
          (conv => whnf)
          refine hLr _ ?_
          (conv => whnf)
          refine new_step (lineO 0 0 0 0) rfl fun u hu => ?_
          have hU := Heap.put_same F15 u (lineO 0 0 0 0)
          have hEu : ∀ o, Ext F15 ((F15.put u (lineO 0 0 0 0)).put u o) := fun o => ext_put_put hu
          generalize F15.put u _ = F16 at hU hEu ⊢
          have o1 : ∀ v ∈ [Value.int .i64 wf, .int .i64 wo, .int .i64 wn, .int .i64 wa], v.oneCell' = true := by simp [Value.oneCell']
          (conv => whnf)
          refine store_step u 0 _ #[.int .i64 wf, .int .i64 wo, .int .i64 wn, .int .i64 wa] rfl hU rfl rfl (.inl (Nat.le_refl 0)) o1 ?_
          have hU17 := Heap.put_same F16 u (lineO wf wo wn wa)
          have M17 := M15.mono (hEu (lineO wf wo wn wa))
          have hB17 := (hEu (lineO wf wo wn wa)) _ _ hB15
          generalize F16.put u _ = F17 at hU17 M17 hB17 ⊢
          have S0 := Bs.of_mine M17
          refine short [1, 5, 6, 7] [.pointer (some ⟨b, 0, none⟩), S, .int .i64 (j : Int), .pointer (some ⟨u, 0, none⟩)] rfl fun ρ => ?_
          (conv => whnf)
          refine draw_cut (fun env' F' => ∃ S', Mine F17 F' S' 5 1 (putAllM 8 (putAllM 2 cur [wf, wo, wn]) [wa]).length (bytesOf (putAllM 8 (putAllM 2 cur [wf, wo, wn]) [wa])) ∧ env' 1 = .pointer (some ⟨b, 0, none⟩) ∧ env' 6 = .int .i64 (j : Int) ∧ env' 5 = S') (fun K hK => ?_) ?_
          · refine draw_tree tab_ok (by kernel_rfl) [2, 4, 6, 10] (DT.row [0, 1, 2, 3, 4, 5, 6, 9, 10] (.fork (.cons 7 (.fork (.cons 8 (.cons 11 (.cons 12 (DT.row [13] .nil)))) (.cons 11 (.cons 8 (.cons 12 (DT.row [13] .nil)))))) (.cons 11 (.cons 7 (.cons 8 (.cons 12 (DT.row [13] .nil))))))) (by kernel_rfl) ?_
            have E0 := Ext.refl F17
            (conv => whnf)
            refine load_blk hU17 rfl rfl ?_
            (conv => whnf)
            refine load_blk hU17 rfl rfl ?_
            (conv => whnf)
            refine load_blk hU17 rfl rfl ?_
            (conv => whnf)
            refine load_blk hU17 rfl rfl ?_
            (conv => whnf)
            refine ⟨?_, ?_⟩
            · have triv := True.intro
              (conv => whnf)
              refine new_step (.cells (([wf, wo, wn] : List Int).map (Value.int .i64)).toArray 3) rfl fun g0 hg0 => ?_
              have X101 := Ext.new hg0 (.cells (([wf, wo, wn] : List Int).map (Value.int .i64)).toArray 3)
              have G0 := Heap.put_same F17 g0 (.cells (([wf, wo, wn] : List Int).map (Value.int .i64)).toArray 3)
              generalize F17.put g0 _ = F101 at X101 G0 ⊢
              have E101 := E0.trans X101
              refine ⟨E101, ?_⟩
              replace S0 := S0.mono X101
              (conv => whnf)
              refine ⟨?_, ?_⟩
              · have triv := True.intro
                (conv => whnf)
                refine call_of (rputL 2 (.inr (.inl rfl)) cur S [wf, wo, wn] (some ⟨g0, 0, none⟩) 3 F101 S0 (row_new G0) (by simp) (by simp only [List.length_cons, List.length_nil]; omega)) ?_
                rintro s0 F102 M0
                have X102 := M0.ext
                have E102 := E101.trans X102
                refine ⟨E102, ?_⟩
                have S1 := Bs.of_mine M0
                replace M0 := M0.down E101
                (conv => whnf)
                refine new_step (.cells (([wa] : List Int).map (Value.int .i64)).toArray 3) rfl fun g1 hg1 => ?_
                have X103 := Ext.new hg1 (.cells (([wa] : List Int).map (Value.int .i64)).toArray 3)
                have G1 := Heap.put_same F102 g1 (.cells (([wa] : List Int).map (Value.int .i64)).toArray 3)
                generalize F102.put g1 _ = F103 at X103 G1 ⊢
                have E103 := E102.trans X103
                refine ⟨E103, ?_⟩
                replace S1 := S1.mono X103
                replace M0 := M0.mono X103
                (conv => whnf)
                refine call_of (rputL 8 (.inr (.inr (.inr rfl))) (putAllM 2 cur [wf, wo, wn]) s0 [wa] (some ⟨g1, 0, none⟩) 1 F103 S1 (row_new G1) (by simp) (by simp only [List.length_cons, List.length_nil]; omega)) ?_
                rintro s1 F104 M1
                have X104 := M1.ext
                have E104 := E103.trans X104
                refine ⟨E104, ?_⟩
                have S2 := Bs.of_mine M1
                replace M1 := M1.down E103
                (conv => whnf)
                exact hK _ _ ⟨s1, M1, rfl, rfl, rfl⟩
              (conv => whnf)
              refine new_step (.cells (([wa] : List Int).map (Value.int .i64)).toArray 3) rfl fun g1 hg1 => ?_
              have X105 := Ext.new hg1 (.cells (([wa] : List Int).map (Value.int .i64)).toArray 3)
              have G1 := Heap.put_same F101 g1 (.cells (([wa] : List Int).map (Value.int .i64)).toArray 3)
              generalize F101.put g1 _ = F105 at X105 G1 ⊢
              have E105 := E101.trans X105
              refine ⟨E105, ?_⟩
              replace G0 := X105 _ _ G0
              replace S0 := S0.mono X105
              (conv => whnf)
              refine call_of (rputL 2 (.inr (.inl rfl)) cur S [wf, wo, wn] (some ⟨g0, 0, none⟩) 3 F105 S0 (row_new G0) (by simp) (by simp only [List.length_cons, List.length_nil]; omega)) ?_
              rintro s0 F106 M0
              have X106 := M0.ext
              have E106 := E105.trans X106
              refine ⟨E106, ?_⟩
              replace G1 := X106 _ _ G1
              have S1 := Bs.of_mine M0
              replace M0 := M0.down E105
              (conv => whnf)
              refine call_of (rputL 8 (.inr (.inr (.inr rfl))) (putAllM 2 cur [wf, wo, wn]) s0 [wa] (some ⟨g1, 0, none⟩) 1 F106 S1 (row_new G1) (by simp) (by simp only [List.length_cons, List.length_nil]; omega)) ?_
              rintro s1 F107 M1
              have X107 := M1.ext
              have E107 := E106.trans X107
              refine ⟨E107, ?_⟩
              have S2 := Bs.of_mine M1
              replace M1 := M1.down E106
              (conv => whnf)
              exact hK _ _ ⟨s1, M1, rfl, rfl, rfl⟩
            (conv => whnf)
            refine new_step (.cells (([wa] : List Int).map (Value.int .i64)).toArray 3) rfl fun g1 hg1 => ?_
            have X108 := Ext.new hg1 (.cells (([wa] : List Int).map (Value.int .i64)).toArray 3)
            have G1 := Heap.put_same F17 g1 (.cells (([wa] : List Int).map (Value.int .i64)).toArray 3)
            generalize F17.put g1 _ = F108 at X108 G1 ⊢
            have E108 := E0.trans X108
            refine ⟨E108, ?_⟩
            replace S0 := S0.mono X108
            (conv => whnf)
            refine new_step (.cells (([wf, wo, wn] : List Int).map (Value.int .i64)).toArray 3) rfl fun g0 hg0 => ?_
            have X109 := Ext.new hg0 (.cells (([wf, wo, wn] : List Int).map (Value.int .i64)).toArray 3)
            have G0 := Heap.put_same F108 g0 (.cells (([wf, wo, wn] : List Int).map (Value.int .i64)).toArray 3)
            generalize F108.put g0 _ = F109 at X109 G0 ⊢
            have E109 := E108.trans X109
            refine ⟨E109, ?_⟩
            replace G1 := X109 _ _ G1
            replace S0 := S0.mono X109
            (conv => whnf)
            refine call_of (rputL 2 (.inr (.inl rfl)) cur S [wf, wo, wn] (some ⟨g0, 0, none⟩) 3 F109 S0 (row_new G0) (by simp) (by simp only [List.length_cons, List.length_nil]; omega)) ?_
            rintro s0 F110 M0
            have X110 := M0.ext
            have E110 := E109.trans X110
            refine ⟨E110, ?_⟩
            replace G1 := X110 _ _ G1
            have S1 := Bs.of_mine M0
            replace M0 := M0.down E109
            (conv => whnf)
            refine call_of (rputL 8 (.inr (.inr (.inr rfl))) (putAllM 2 cur [wf, wo, wn]) s0 [wa] (some ⟨g1, 0, none⟩) 1 F110 S1 (row_new G1) (by simp) (by simp only [List.length_cons, List.length_nil]; omega)) ?_
            rintro s1 F111 M1
            have X111 := M1.ext
            have E111 := E110.trans X111
            refine ⟨E111, ?_⟩
            have S2 := Bs.of_mine M1
            replace M1 := M1.down E110
            (conv => whnf)
            exact hK _ _ ⟨s1, M1, rfl, rfl, rfl⟩
          · rintro env' F18 ⟨S18, M18, h1', h6', h5'⟩
            refine short [1, 5, 6] [.pointer (some ⟨b, 0, none⟩), S18, .int .i64 (j : Int)] (by simp only [List.map_cons, List.map_nil, h1', h5', h6']) fun ρ => ?_
            (conv => whnf)
            refine ⟨m - 1, by omega, j + 1, S18, by omega, ?_, ?_, M18.ext _ _ hB17⟩
            · have hw : IntKind.i64.wrap ((j : Int) + 1) = ((j + 1 : Nat) : Int) := by rw [IntKind.wrap_i64]; omega
              rw [← hw]
              rfl
            · rw [ht]; exact M18.down M17.ext
        · have hj : j = ls.length := by have := of_decide_eq_false h; omega
          subst hj
          rw [List.take_length, ← hEB] at M15
          (conv => whnf)
          exact ⟨⟨S, rfl, Bs.of_mine M15⟩, hE2.trans M15.ext⟩
  | false =>
    have hM1 : eM = eH ++ [byteAt 0 0, byteAt (nm.length : Int) 0] ++ nm ++ [byteAt (ls.length : Int) 0] := hM
    clear hM
    have w1 : IntKind.u8.wrap 0 = ((byteAt 0 0).toNat : Int) := wrap_byte _
    have w2 : IntKind.u8.wrap (nm.length : Int) = ((byteAt (nm.length : Int) 0).toNat : Int) := wrap_byte _
    have w3 : IntKind.u8.wrap (ls.length : Int) = ((byteAt (ls.length : Int) 0).toNat : Int) := wrap_byte _
    have w0 : IntKind.u8.wrap k = ((byteAt k 0).toNat : Int) := wrap_byte _
    generalize byteAt 0 0 = y1 at w1 hM1
    generalize byteAt (nm.length : Int) 0 = y2 at w2 hM1
    generalize byteAt (ls.length : Int) 0 = y3 at w3 hM1
    generalize byteAt k 0 = y0 at w0 hH b2 b3 b4 b5
    (conv => whnf)
    refine load_blk hB2 rfl rfl ?_
    (conv => whnf)
    refine load_blk hB2 rfl rfl ?_
    (conv => whnf)
    refine new_step (.cells (bytesOf [y0]).toArray 5) (congrArg (fun z => Obj.cells #[Value.int .u8 z] 5) w0) fun u hu => ?_
    have hE3 := Ext.new hu (.cells (bytesOf [y0]).toArray 5)
    have hB3 := hE3 _ _ hB2
    have hU := Heap.put_same F2 u (.cells (bytesOf [y0]).toArray 5)
    generalize F2.put u _ = F3 at hE3 hB3 hU ⊢
    have hS0 : Bs F3 (.slice (some ⟨u, 0, none⟩) 1 1) [y0] := ⟨_, 1, rfl, Nat.le_refl 1, fun j v hj => ⟨_, rfl, by rw [add_plain, Heap.cell_at hU, Nat.zero_add]; simpa using hj⟩⟩
    (conv => whnf)
    refine load_blk hB3 rfl rfl ?_
    (conv => whnf)
    refine load_blk hB3 rfl rfl ?_
    (conv => whnf)
    refine load_blk hB3 rfl rfl ?_
    (conv => whnf)
    refine load_blk hB3 rfl rfl ?_
    (conv => whnf)
    refine load_blk hB3 rfl rfl ?_
    (conv => whnf)
    refine load_blk hB3 rfl rfl ?_
    (conv => whnf)
    refine new_step (.cells (([y, x, f, o, n, p] : List Int).map (Value.int .i64)).toArray 3) rfl fun g hg => ?_
    have hE4 := Ext.new hg (.cells (([y, x, f, o, n, p] : List Int).map (Value.int .i64)).toArray 3)
    have hB4 := hE4 _ _ hB3
    have hG := Heap.put_same F3 g (.cells (([y, x, f, o, n, p] : List Int).map (Value.int .i64)).toArray 3)
    replace hS0 := hS0.mono hE4
    generalize F3.put g _ = F4 at hE4 hB4 hG hS0 ⊢
    (conv => whnf)
    refine call_of (rputL 2 (.inr (.inl rfl)) [y0] (.slice (some ⟨u, 0, none⟩) 1 1) [y, x, f, o, n, p] (some ⟨g, 0, none⟩) 6 F4 hS0 (row_new hG) (by simp) (by simp only [List.length_cons, List.length_nil]; omega)) ?_
    rintro s0 F7 M0
    have hB7 := M0.ext _ _ hB4
    have hE7 : Ext F2 F7 := hE3.trans (hE4.trans M0.ext)
    have S0 := Bs.of_mine M0
    clear M0 hS0 hG hU hB3 hB4
    generalize putAllM 2 [y0] [y, x, f, o, n, p] = e2 at S0 b2 b3 b4 b5 hH
    refine short [1, 4, 30] [.pointer (some ⟨b, 0, none⟩), .int .i64 0, s0] rfl fun ρ => ?_
    (conv => whnf)
    refine draw_cut (fun env' F' => ∃ S', Mine F7 F' S' 5 1 eH.length (bytesOf eH) ∧ env' 1 = .pointer (some ⟨b, 0, none⟩) ∧ env' 4 = .int .i64 0 ∧ env' 5 = S') (fun K hK => ?_) ?_
    · rw [hH] at hK
      refine draw_tree tab_ok (by kernel_rfl) [2, 6, 10] (DT.row [0, 1, 2, 5, 6, 9, 10] (.fork (.cons 3 (.fork (.cons 4 (.fork (.cons 7 (.fork (.cons 8 (.cons 11 (.cons 12 (DT.row [13] .nil)))) (.cons 11 (.cons 8 (.cons 12 (DT.row [13] .nil)))))) (.cons 11 (.cons 7 (.cons 8 (.cons 12 (DT.row [13] .nil))))))) (.fork (.cons 7 (.fork (.cons 4 (.fork (.cons 8 (.cons 11 (.cons 12 (DT.row [13] .nil)))) (.cons 11 (.cons 8 (.cons 12 (DT.row [13] .nil)))))) (.cons 11 (.cons 4 (.cons 8 (.cons 12 (DT.row [13] .nil))))))) (.cons 11 (.fork (.cons 4 (.cons 7 (.cons 8 (.cons 12 (DT.row [13] .nil))))) (.cons 7 (.cons 4 (.cons 8 (.cons 12 (DT.row [13] .nil)))))))))) (.fork (.cons 7 (.fork (.cons 3 (.fork (.cons 4 (.fork (.cons 8 (.cons 11 (.cons 12 (DT.row [13] .nil)))) (.cons 11 (.cons 8 (.cons 12 (DT.row [13] .nil)))))) (.cons 11 (.cons 4 (.cons 8 (.cons 12 (DT.row [13] .nil))))))) (.cons 11 (.cons 3 (.cons 4 (.cons 8 (.cons 12 (DT.row [13] .nil)))))))) (.cons 11 (.fork (.cons 3 (.fork (.cons 4 (.cons 7 (.cons 8 (.cons 12 (DT.row [13] .nil))))) (.cons 7 (.cons 4 (.cons 8 (.cons 12 (DT.row [13] .nil))))))) (.cons 7 (.cons 3 (.cons 4 (.cons 8 (.cons 12 (DT.row [13] .nil))))))))))) (by kernel_rfl) ?_
      have E0 := Ext.refl F7
      (conv => whnf)
      refine load_blk hB7 rfl rfl ?_
      (conv => whnf)
      refine load_blk hB7 rfl rfl ?_
      (conv => whnf)
      refine load_blk hB7 rfl rfl ?_
      (conv => whnf)
      refine ⟨?_, ?_⟩
      · have triv := True.intro
        (conv => whnf)
        refine new_step (.cells (([d] : List Int).map (Value.int .i64)).toArray 3) rfl fun g0 hg0 => ?_
        have X101 := Ext.new hg0 (.cells (([d] : List Int).map (Value.int .i64)).toArray 3)
        have G0 := Heap.put_same F7 g0 (.cells (([d] : List Int).map (Value.int .i64)).toArray 3)
        generalize F7.put g0 _ = F101 at X101 G0 ⊢
        have E101 := E0.trans X101
        refine ⟨E101, ?_⟩
        replace S0 := S0.mono X101
        (conv => whnf)
        refine ⟨?_, ?_⟩
        · have triv := True.intro
          (conv => whnf)
          refine call_of (rputL 4 (.inr (.inr (.inl rfl))) e2 s0 [d] (some ⟨g0, 0, none⟩) 1 F101 S0 (row_new G0) (by simp) (by simp only [List.length_cons, List.length_nil]; omega)) ?_
          rintro s0 F102 M0
          have X102 := M0.ext
          have E102 := E101.trans X102
          refine ⟨E102, ?_⟩
          have S1 := Bs.of_mine M0
          replace M0 := M0.down E101
          (conv => whnf)
          refine ⟨?_, ?_⟩
          · have triv := True.intro
            (conv => whnf)
            refine new_step (.cells (([l] : List Int).map (Value.int .i64)).toArray 3) rfl fun g1 hg1 => ?_
            have X103 := Ext.new hg1 (.cells (([l] : List Int).map (Value.int .i64)).toArray 3)
            have G1 := Heap.put_same F102 g1 (.cells (([l] : List Int).map (Value.int .i64)).toArray 3)
            generalize F102.put g1 _ = F103 at X103 G1 ⊢
            have E103 := E102.trans X103
            refine ⟨E103, ?_⟩
            replace S1 := S1.mono X103
            replace M0 := M0.mono X103
            (conv => whnf)
            refine ⟨?_, ?_⟩
            · have triv := True.intro
              (conv => whnf)
              refine call_of (rputL 1 (.inl rfl) (putAllM 4 e2 [d]) s0 [l] (some ⟨g1, 0, none⟩) 1 F103 S1 (row_new G1) (by simp) (by simp only [List.length_cons, List.length_nil]; omega)) ?_
              rintro s1 F104 M1
              have X104 := M1.ext
              have E104 := E103.trans X104
              refine ⟨E104, ?_⟩
              have S2 := Bs.of_mine M1
              replace M1 := M1.down E103
              (conv => whnf)
              refine new_step (.cells (([a] : List Int).map (Value.int .i64)).toArray 3) rfl fun g2 hg2 => ?_
              have X105 := Ext.new hg2 (.cells (([a] : List Int).map (Value.int .i64)).toArray 3)
              have G2 := Heap.put_same F104 g2 (.cells (([a] : List Int).map (Value.int .i64)).toArray 3)
              generalize F104.put g2 _ = F105 at X105 G2 ⊢
              have E105 := E104.trans X105
              refine ⟨E105, ?_⟩
              replace S2 := S2.mono X105
              replace M1 := M1.mono X105
              (conv => whnf)
              refine call_of (rputL 8 (.inr (.inr (.inr rfl))) (putAllM 1 (putAllM 4 e2 [d]) [l]) s1 [a] (some ⟨g2, 0, none⟩) 1 F105 S2 (row_new G2) (by simp) (by simp only [List.length_cons, List.length_nil]; omega)) ?_
              rintro s2 F106 M2
              have X106 := M2.ext
              have E106 := E105.trans X106
              refine ⟨E106, ?_⟩
              have S3 := Bs.of_mine M2
              replace M2 := M2.down E105
              (conv => whnf)
              exact hK _ _ ⟨s2, M2, rfl, rfl, rfl⟩
            (conv => whnf)
            refine new_step (.cells (([a] : List Int).map (Value.int .i64)).toArray 3) rfl fun g2 hg2 => ?_
            have X107 := Ext.new hg2 (.cells (([a] : List Int).map (Value.int .i64)).toArray 3)
            have G2 := Heap.put_same F103 g2 (.cells (([a] : List Int).map (Value.int .i64)).toArray 3)
            generalize F103.put g2 _ = F107 at X107 G2 ⊢
            have E107 := E103.trans X107
            refine ⟨E107, ?_⟩
            replace G1 := X107 _ _ G1
            replace S1 := S1.mono X107
            replace M0 := M0.mono X107
            (conv => whnf)
            refine call_of (rputL 1 (.inl rfl) (putAllM 4 e2 [d]) s0 [l] (some ⟨g1, 0, none⟩) 1 F107 S1 (row_new G1) (by simp) (by simp only [List.length_cons, List.length_nil]; omega)) ?_
            rintro s1 F108 M1
            have X108 := M1.ext
            have E108 := E107.trans X108
            refine ⟨E108, ?_⟩
            replace G2 := X108 _ _ G2
            have S2 := Bs.of_mine M1
            replace M1 := M1.down E107
            (conv => whnf)
            refine call_of (rputL 8 (.inr (.inr (.inr rfl))) (putAllM 1 (putAllM 4 e2 [d]) [l]) s1 [a] (some ⟨g2, 0, none⟩) 1 F108 S2 (row_new G2) (by simp) (by simp only [List.length_cons, List.length_nil]; omega)) ?_
            rintro s2 F109 M2
            have X109 := M2.ext
            have E109 := E108.trans X109
            refine ⟨E109, ?_⟩
            have S3 := Bs.of_mine M2
            replace M2 := M2.down E108
            (conv => whnf)
            exact hK _ _ ⟨s2, M2, rfl, rfl, rfl⟩
          (conv => whnf)
          refine new_step (.cells (([a] : List Int).map (Value.int .i64)).toArray 3) rfl fun g2 hg2 => ?_
          have X110 := Ext.new hg2 (.cells (([a] : List Int).map (Value.int .i64)).toArray 3)
          have G2 := Heap.put_same F102 g2 (.cells (([a] : List Int).map (Value.int .i64)).toArray 3)
          generalize F102.put g2 _ = F110 at X110 G2 ⊢
          have E110 := E102.trans X110
          refine ⟨E110, ?_⟩
          replace S1 := S1.mono X110
          replace M0 := M0.mono X110
          (conv => whnf)
          refine new_step (.cells (([l] : List Int).map (Value.int .i64)).toArray 3) rfl fun g1 hg1 => ?_
          have X111 := Ext.new hg1 (.cells (([l] : List Int).map (Value.int .i64)).toArray 3)
          have G1 := Heap.put_same F110 g1 (.cells (([l] : List Int).map (Value.int .i64)).toArray 3)
          generalize F110.put g1 _ = F111 at X111 G1 ⊢
          have E111 := E110.trans X111
          refine ⟨E111, ?_⟩
          replace G2 := X111 _ _ G2
          replace S1 := S1.mono X111
          replace M0 := M0.mono X111
          (conv => whnf)
          refine call_of (rputL 1 (.inl rfl) (putAllM 4 e2 [d]) s0 [l] (some ⟨g1, 0, none⟩) 1 F111 S1 (row_new G1) (by simp) (by simp only [List.length_cons, List.length_nil]; omega)) ?_
          rintro s1 F112 M1
          have X112 := M1.ext
          have E112 := E111.trans X112
          refine ⟨E112, ?_⟩
          replace G2 := X112 _ _ G2
          have S2 := Bs.of_mine M1
          replace M1 := M1.down E111
          (conv => whnf)
          refine call_of (rputL 8 (.inr (.inr (.inr rfl))) (putAllM 1 (putAllM 4 e2 [d]) [l]) s1 [a] (some ⟨g2, 0, none⟩) 1 F112 S2 (row_new G2) (by simp) (by simp only [List.length_cons, List.length_nil]; omega)) ?_
          rintro s2 F113 M2
          have X113 := M2.ext
          have E113 := E112.trans X113
          refine ⟨E113, ?_⟩
          have S3 := Bs.of_mine M2
          replace M2 := M2.down E112
          (conv => whnf)
          exact hK _ _ ⟨s2, M2, rfl, rfl, rfl⟩
        (conv => whnf)
        refine ⟨?_, ?_⟩
        · have triv := True.intro
          (conv => whnf)
          refine new_step (.cells (([l] : List Int).map (Value.int .i64)).toArray 3) rfl fun g1 hg1 => ?_
          have X114 := Ext.new hg1 (.cells (([l] : List Int).map (Value.int .i64)).toArray 3)
          have G1 := Heap.put_same F101 g1 (.cells (([l] : List Int).map (Value.int .i64)).toArray 3)
          generalize F101.put g1 _ = F114 at X114 G1 ⊢
          have E114 := E101.trans X114
          refine ⟨E114, ?_⟩
          replace G0 := X114 _ _ G0
          replace S0 := S0.mono X114
          (conv => whnf)
          refine ⟨?_, ?_⟩
          · have triv := True.intro
            (conv => whnf)
            refine call_of (rputL 4 (.inr (.inr (.inl rfl))) e2 s0 [d] (some ⟨g0, 0, none⟩) 1 F114 S0 (row_new G0) (by simp) (by simp only [List.length_cons, List.length_nil]; omega)) ?_
            rintro s0 F115 M0
            have X115 := M0.ext
            have E115 := E114.trans X115
            refine ⟨E115, ?_⟩
            replace G1 := X115 _ _ G1
            have S1 := Bs.of_mine M0
            replace M0 := M0.down E114
            (conv => whnf)
            refine ⟨?_, ?_⟩
            · have triv := True.intro
              (conv => whnf)
              refine call_of (rputL 1 (.inl rfl) (putAllM 4 e2 [d]) s0 [l] (some ⟨g1, 0, none⟩) 1 F115 S1 (row_new G1) (by simp) (by simp only [List.length_cons, List.length_nil]; omega)) ?_
              rintro s1 F116 M1
              have X116 := M1.ext
              have E116 := E115.trans X116
              refine ⟨E116, ?_⟩
              have S2 := Bs.of_mine M1
              replace M1 := M1.down E115
              (conv => whnf)
              refine new_step (.cells (([a] : List Int).map (Value.int .i64)).toArray 3) rfl fun g2 hg2 => ?_
              have X117 := Ext.new hg2 (.cells (([a] : List Int).map (Value.int .i64)).toArray 3)
              have G2 := Heap.put_same F116 g2 (.cells (([a] : List Int).map (Value.int .i64)).toArray 3)
              generalize F116.put g2 _ = F117 at X117 G2 ⊢
              have E117 := E116.trans X117
              refine ⟨E117, ?_⟩
              replace S2 := S2.mono X117
              replace M1 := M1.mono X117
              (conv => whnf)
              refine call_of (rputL 8 (.inr (.inr (.inr rfl))) (putAllM 1 (putAllM 4 e2 [d]) [l]) s1 [a] (some ⟨g2, 0, none⟩) 1 F117 S2 (row_new G2) (by simp) (by simp only [List.length_cons, List.length_nil]; omega)) ?_
              rintro s2 F118 M2
              have X118 := M2.ext
              have E118 := E117.trans X118
              refine ⟨E118, ?_⟩
              have S3 := Bs.of_mine M2
              replace M2 := M2.down E117
              (conv => whnf)
              exact hK _ _ ⟨s2, M2, rfl, rfl, rfl⟩
            (conv => whnf)
            refine new_step (.cells (([a] : List Int).map (Value.int .i64)).toArray 3) rfl fun g2 hg2 => ?_
            have X119 := Ext.new hg2 (.cells (([a] : List Int).map (Value.int .i64)).toArray 3)
            have G2 := Heap.put_same F115 g2 (.cells (([a] : List Int).map (Value.int .i64)).toArray 3)
            generalize F115.put g2 _ = F119 at X119 G2 ⊢
            have E119 := E115.trans X119
            refine ⟨E119, ?_⟩
            replace G1 := X119 _ _ G1
            replace S1 := S1.mono X119
            replace M0 := M0.mono X119
            (conv => whnf)
            refine call_of (rputL 1 (.inl rfl) (putAllM 4 e2 [d]) s0 [l] (some ⟨g1, 0, none⟩) 1 F119 S1 (row_new G1) (by simp) (by simp only [List.length_cons, List.length_nil]; omega)) ?_
            rintro s1 F120 M1
            have X120 := M1.ext
            have E120 := E119.trans X120
            refine ⟨E120, ?_⟩
            replace G2 := X120 _ _ G2
            have S2 := Bs.of_mine M1
            replace M1 := M1.down E119
            (conv => whnf)
            refine call_of (rputL 8 (.inr (.inr (.inr rfl))) (putAllM 1 (putAllM 4 e2 [d]) [l]) s1 [a] (some ⟨g2, 0, none⟩) 1 F120 S2 (row_new G2) (by simp) (by simp only [List.length_cons, List.length_nil]; omega)) ?_
            rintro s2 F121 M2
            have X121 := M2.ext
            have E121 := E120.trans X121
            refine ⟨E121, ?_⟩
            have S3 := Bs.of_mine M2
            replace M2 := M2.down E120
            (conv => whnf)
            exact hK _ _ ⟨s2, M2, rfl, rfl, rfl⟩
          (conv => whnf)
          refine new_step (.cells (([a] : List Int).map (Value.int .i64)).toArray 3) rfl fun g2 hg2 => ?_
          have X122 := Ext.new hg2 (.cells (([a] : List Int).map (Value.int .i64)).toArray 3)
          have G2 := Heap.put_same F114 g2 (.cells (([a] : List Int).map (Value.int .i64)).toArray 3)
          generalize F114.put g2 _ = F122 at X122 G2 ⊢
          have E122 := E114.trans X122
          refine ⟨E122, ?_⟩
          replace G0 := X122 _ _ G0
          replace G1 := X122 _ _ G1
          replace S0 := S0.mono X122
          (conv => whnf)
          refine call_of (rputL 4 (.inr (.inr (.inl rfl))) e2 s0 [d] (some ⟨g0, 0, none⟩) 1 F122 S0 (row_new G0) (by simp) (by simp only [List.length_cons, List.length_nil]; omega)) ?_
          rintro s0 F123 M0
          have X123 := M0.ext
          have E123 := E122.trans X123
          refine ⟨E123, ?_⟩
          replace G1 := X123 _ _ G1
          replace G2 := X123 _ _ G2
          have S1 := Bs.of_mine M0
          replace M0 := M0.down E122
          (conv => whnf)
          refine call_of (rputL 1 (.inl rfl) (putAllM 4 e2 [d]) s0 [l] (some ⟨g1, 0, none⟩) 1 F123 S1 (row_new G1) (by simp) (by simp only [List.length_cons, List.length_nil]; omega)) ?_
          rintro s1 F124 M1
          have X124 := M1.ext
          have E124 := E123.trans X124
          refine ⟨E124, ?_⟩
          replace G2 := X124 _ _ G2
          have S2 := Bs.of_mine M1
          replace M1 := M1.down E123
          (conv => whnf)
          refine call_of (rputL 8 (.inr (.inr (.inr rfl))) (putAllM 1 (putAllM 4 e2 [d]) [l]) s1 [a] (some ⟨g2, 0, none⟩) 1 F124 S2 (row_new G2) (by simp) (by simp only [List.length_cons, List.length_nil]; omega)) ?_
          rintro s2 F125 M2
          have X125 := M2.ext
          have E125 := E124.trans X125
          refine ⟨E125, ?_⟩
          have S3 := Bs.of_mine M2
          replace M2 := M2.down E124
          (conv => whnf)
          exact hK _ _ ⟨s2, M2, rfl, rfl, rfl⟩
        (conv => whnf)
        refine new_step (.cells (([a] : List Int).map (Value.int .i64)).toArray 3) rfl fun g2 hg2 => ?_
        have X126 := Ext.new hg2 (.cells (([a] : List Int).map (Value.int .i64)).toArray 3)
        have G2 := Heap.put_same F101 g2 (.cells (([a] : List Int).map (Value.int .i64)).toArray 3)
        generalize F101.put g2 _ = F126 at X126 G2 ⊢
        have E126 := E101.trans X126
        refine ⟨E126, ?_⟩
        replace G0 := X126 _ _ G0
        replace S0 := S0.mono X126
        (conv => whnf)
        refine ⟨?_, ?_⟩
        · have triv := True.intro
          (conv => whnf)
          refine call_of (rputL 4 (.inr (.inr (.inl rfl))) e2 s0 [d] (some ⟨g0, 0, none⟩) 1 F126 S0 (row_new G0) (by simp) (by simp only [List.length_cons, List.length_nil]; omega)) ?_
          rintro s0 F127 M0
          have X127 := M0.ext
          have E127 := E126.trans X127
          refine ⟨E127, ?_⟩
          replace G2 := X127 _ _ G2
          have S1 := Bs.of_mine M0
          replace M0 := M0.down E126
          (conv => whnf)
          refine new_step (.cells (([l] : List Int).map (Value.int .i64)).toArray 3) rfl fun g1 hg1 => ?_
          have X128 := Ext.new hg1 (.cells (([l] : List Int).map (Value.int .i64)).toArray 3)
          have G1 := Heap.put_same F127 g1 (.cells (([l] : List Int).map (Value.int .i64)).toArray 3)
          generalize F127.put g1 _ = F128 at X128 G1 ⊢
          have E128 := E127.trans X128
          refine ⟨E128, ?_⟩
          replace G2 := X128 _ _ G2
          replace S1 := S1.mono X128
          replace M0 := M0.mono X128
          (conv => whnf)
          refine call_of (rputL 1 (.inl rfl) (putAllM 4 e2 [d]) s0 [l] (some ⟨g1, 0, none⟩) 1 F128 S1 (row_new G1) (by simp) (by simp only [List.length_cons, List.length_nil]; omega)) ?_
          rintro s1 F129 M1
          have X129 := M1.ext
          have E129 := E128.trans X129
          refine ⟨E129, ?_⟩
          replace G2 := X129 _ _ G2
          have S2 := Bs.of_mine M1
          replace M1 := M1.down E128
          (conv => whnf)
          refine call_of (rputL 8 (.inr (.inr (.inr rfl))) (putAllM 1 (putAllM 4 e2 [d]) [l]) s1 [a] (some ⟨g2, 0, none⟩) 1 F129 S2 (row_new G2) (by simp) (by simp only [List.length_cons, List.length_nil]; omega)) ?_
          rintro s2 F130 M2
          have X130 := M2.ext
          have E130 := E129.trans X130
          refine ⟨E130, ?_⟩
          have S3 := Bs.of_mine M2
          replace M2 := M2.down E129
          (conv => whnf)
          exact hK _ _ ⟨s2, M2, rfl, rfl, rfl⟩
        (conv => whnf)
        refine new_step (.cells (([l] : List Int).map (Value.int .i64)).toArray 3) rfl fun g1 hg1 => ?_
        have X131 := Ext.new hg1 (.cells (([l] : List Int).map (Value.int .i64)).toArray 3)
        have G1 := Heap.put_same F126 g1 (.cells (([l] : List Int).map (Value.int .i64)).toArray 3)
        generalize F126.put g1 _ = F131 at X131 G1 ⊢
        have E131 := E126.trans X131
        refine ⟨E131, ?_⟩
        replace G0 := X131 _ _ G0
        replace G2 := X131 _ _ G2
        replace S0 := S0.mono X131
        (conv => whnf)
        refine call_of (rputL 4 (.inr (.inr (.inl rfl))) e2 s0 [d] (some ⟨g0, 0, none⟩) 1 F131 S0 (row_new G0) (by simp) (by simp only [List.length_cons, List.length_nil]; omega)) ?_
        rintro s0 F132 M0
        have X132 := M0.ext
        have E132 := E131.trans X132
        refine ⟨E132, ?_⟩
        replace G1 := X132 _ _ G1
        replace G2 := X132 _ _ G2
        have S1 := Bs.of_mine M0
        replace M0 := M0.down E131
        (conv => whnf)
        refine call_of (rputL 1 (.inl rfl) (putAllM 4 e2 [d]) s0 [l] (some ⟨g1, 0, none⟩) 1 F132 S1 (row_new G1) (by simp) (by simp only [List.length_cons, List.length_nil]; omega)) ?_
        rintro s1 F133 M1
        have X133 := M1.ext
        have E133 := E132.trans X133
        refine ⟨E133, ?_⟩
        replace G2 := X133 _ _ G2
        have S2 := Bs.of_mine M1
        replace M1 := M1.down E132
        (conv => whnf)
        refine call_of (rputL 8 (.inr (.inr (.inr rfl))) (putAllM 1 (putAllM 4 e2 [d]) [l]) s1 [a] (some ⟨g2, 0, none⟩) 1 F133 S2 (row_new G2) (by simp) (by simp only [List.length_cons, List.length_nil]; omega)) ?_
        rintro s2 F134 M2
        have X134 := M2.ext
        have E134 := E133.trans X134
        refine ⟨E134, ?_⟩
        have S3 := Bs.of_mine M2
        replace M2 := M2.down E133
        (conv => whnf)
        exact hK _ _ ⟨s2, M2, rfl, rfl, rfl⟩
      (conv => whnf)
      refine ⟨?_, ?_⟩
      · have triv := True.intro
        (conv => whnf)
        refine new_step (.cells (([l] : List Int).map (Value.int .i64)).toArray 3) rfl fun g1 hg1 => ?_
        have X135 := Ext.new hg1 (.cells (([l] : List Int).map (Value.int .i64)).toArray 3)
        have G1 := Heap.put_same F7 g1 (.cells (([l] : List Int).map (Value.int .i64)).toArray 3)
        generalize F7.put g1 _ = F135 at X135 G1 ⊢
        have E135 := E0.trans X135
        refine ⟨E135, ?_⟩
        replace S0 := S0.mono X135
        (conv => whnf)
        refine ⟨?_, ?_⟩
        · have triv := True.intro
          (conv => whnf)
          refine new_step (.cells (([d] : List Int).map (Value.int .i64)).toArray 3) rfl fun g0 hg0 => ?_
          have X136 := Ext.new hg0 (.cells (([d] : List Int).map (Value.int .i64)).toArray 3)
          have G0 := Heap.put_same F135 g0 (.cells (([d] : List Int).map (Value.int .i64)).toArray 3)
          generalize F135.put g0 _ = F136 at X136 G0 ⊢
          have E136 := E135.trans X136
          refine ⟨E136, ?_⟩
          replace G1 := X136 _ _ G1
          replace S0 := S0.mono X136
          (conv => whnf)
          refine ⟨?_, ?_⟩
          · have triv := True.intro
            (conv => whnf)
            refine call_of (rputL 4 (.inr (.inr (.inl rfl))) e2 s0 [d] (some ⟨g0, 0, none⟩) 1 F136 S0 (row_new G0) (by simp) (by simp only [List.length_cons, List.length_nil]; omega)) ?_
            rintro s0 F137 M0
            have X137 := M0.ext
            have E137 := E136.trans X137
            refine ⟨E137, ?_⟩
            replace G1 := X137 _ _ G1
            have S1 := Bs.of_mine M0
            replace M0 := M0.down E136
            (conv => whnf)
            refine ⟨?_, ?_⟩
            · have triv := True.intro
              (conv => whnf)
              refine call_of (rputL 1 (.inl rfl) (putAllM 4 e2 [d]) s0 [l] (some ⟨g1, 0, none⟩) 1 F137 S1 (row_new G1) (by simp) (by simp only [List.length_cons, List.length_nil]; omega)) ?_
              rintro s1 F138 M1
              have X138 := M1.ext
              have E138 := E137.trans X138
              refine ⟨E138, ?_⟩
              have S2 := Bs.of_mine M1
              replace M1 := M1.down E137
              (conv => whnf)
              refine new_step (.cells (([a] : List Int).map (Value.int .i64)).toArray 3) rfl fun g2 hg2 => ?_
              have X139 := Ext.new hg2 (.cells (([a] : List Int).map (Value.int .i64)).toArray 3)
              have G2 := Heap.put_same F138 g2 (.cells (([a] : List Int).map (Value.int .i64)).toArray 3)
              generalize F138.put g2 _ = F139 at X139 G2 ⊢
              have E139 := E138.trans X139
              refine ⟨E139, ?_⟩
              replace S2 := S2.mono X139
              replace M1 := M1.mono X139
              (conv => whnf)
              refine call_of (rputL 8 (.inr (.inr (.inr rfl))) (putAllM 1 (putAllM 4 e2 [d]) [l]) s1 [a] (some ⟨g2, 0, none⟩) 1 F139 S2 (row_new G2) (by simp) (by simp only [List.length_cons, List.length_nil]; omega)) ?_
              rintro s2 F140 M2
              have X140 := M2.ext
              have E140 := E139.trans X140
              refine ⟨E140, ?_⟩
              have S3 := Bs.of_mine M2
              replace M2 := M2.down E139
              (conv => whnf)
              exact hK _ _ ⟨s2, M2, rfl, rfl, rfl⟩
            (conv => whnf)
            refine new_step (.cells (([a] : List Int).map (Value.int .i64)).toArray 3) rfl fun g2 hg2 => ?_
            have X141 := Ext.new hg2 (.cells (([a] : List Int).map (Value.int .i64)).toArray 3)
            have G2 := Heap.put_same F137 g2 (.cells (([a] : List Int).map (Value.int .i64)).toArray 3)
            generalize F137.put g2 _ = F141 at X141 G2 ⊢
            have E141 := E137.trans X141
            refine ⟨E141, ?_⟩
            replace G1 := X141 _ _ G1
            replace S1 := S1.mono X141
            replace M0 := M0.mono X141
            (conv => whnf)
            refine call_of (rputL 1 (.inl rfl) (putAllM 4 e2 [d]) s0 [l] (some ⟨g1, 0, none⟩) 1 F141 S1 (row_new G1) (by simp) (by simp only [List.length_cons, List.length_nil]; omega)) ?_
            rintro s1 F142 M1
            have X142 := M1.ext
            have E142 := E141.trans X142
            refine ⟨E142, ?_⟩
            replace G2 := X142 _ _ G2
            have S2 := Bs.of_mine M1
            replace M1 := M1.down E141
            (conv => whnf)
            refine call_of (rputL 8 (.inr (.inr (.inr rfl))) (putAllM 1 (putAllM 4 e2 [d]) [l]) s1 [a] (some ⟨g2, 0, none⟩) 1 F142 S2 (row_new G2) (by simp) (by simp only [List.length_cons, List.length_nil]; omega)) ?_
            rintro s2 F143 M2
            have X143 := M2.ext
            have E143 := E142.trans X143
            refine ⟨E143, ?_⟩
            have S3 := Bs.of_mine M2
            replace M2 := M2.down E142
            (conv => whnf)
            exact hK _ _ ⟨s2, M2, rfl, rfl, rfl⟩
          (conv => whnf)
          refine new_step (.cells (([a] : List Int).map (Value.int .i64)).toArray 3) rfl fun g2 hg2 => ?_
          have X144 := Ext.new hg2 (.cells (([a] : List Int).map (Value.int .i64)).toArray 3)
          have G2 := Heap.put_same F136 g2 (.cells (([a] : List Int).map (Value.int .i64)).toArray 3)
          generalize F136.put g2 _ = F144 at X144 G2 ⊢
          have E144 := E136.trans X144
          refine ⟨E144, ?_⟩
          replace G0 := X144 _ _ G0
          replace G1 := X144 _ _ G1
          replace S0 := S0.mono X144
          (conv => whnf)
          refine call_of (rputL 4 (.inr (.inr (.inl rfl))) e2 s0 [d] (some ⟨g0, 0, none⟩) 1 F144 S0 (row_new G0) (by simp) (by simp only [List.length_cons, List.length_nil]; omega)) ?_
          rintro s0 F145 M0
          have X145 := M0.ext
          have E145 := E144.trans X145
          refine ⟨E145, ?_⟩
          replace G1 := X145 _ _ G1
          replace G2 := X145 _ _ G2
          have S1 := Bs.of_mine M0
          replace M0 := M0.down E144
          (conv => whnf)
          refine call_of (rputL 1 (.inl rfl) (putAllM 4 e2 [d]) s0 [l] (some ⟨g1, 0, none⟩) 1 F145 S1 (row_new G1) (by simp) (by simp only [List.length_cons, List.length_nil]; omega)) ?_
          rintro s1 F146 M1
          have X146 := M1.ext
          have E146 := E145.trans X146
          refine ⟨E146, ?_⟩
          replace G2 := X146 _ _ G2
          have S2 := Bs.of_mine M1
          replace M1 := M1.down E145
          (conv => whnf)
          refine call_of (rputL 8 (.inr (.inr (.inr rfl))) (putAllM 1 (putAllM 4 e2 [d]) [l]) s1 [a] (some ⟨g2, 0, none⟩) 1 F146 S2 (row_new G2) (by simp) (by simp only [List.length_cons, List.length_nil]; omega)) ?_
          rintro s2 F147 M2
          have X147 := M2.ext
          have E147 := E146.trans X147
          refine ⟨E147, ?_⟩
          have S3 := Bs.of_mine M2
          replace M2 := M2.down E146
          (conv => whnf)
          exact hK _ _ ⟨s2, M2, rfl, rfl, rfl⟩
        (conv => whnf)
        refine new_step (.cells (([a] : List Int).map (Value.int .i64)).toArray 3) rfl fun g2 hg2 => ?_
        have X148 := Ext.new hg2 (.cells (([a] : List Int).map (Value.int .i64)).toArray 3)
        have G2 := Heap.put_same F135 g2 (.cells (([a] : List Int).map (Value.int .i64)).toArray 3)
        generalize F135.put g2 _ = F148 at X148 G2 ⊢
        have E148 := E135.trans X148
        refine ⟨E148, ?_⟩
        replace G1 := X148 _ _ G1
        replace S0 := S0.mono X148
        (conv => whnf)
        refine new_step (.cells (([d] : List Int).map (Value.int .i64)).toArray 3) rfl fun g0 hg0 => ?_
        have X149 := Ext.new hg0 (.cells (([d] : List Int).map (Value.int .i64)).toArray 3)
        have G0 := Heap.put_same F148 g0 (.cells (([d] : List Int).map (Value.int .i64)).toArray 3)
        generalize F148.put g0 _ = F149 at X149 G0 ⊢
        have E149 := E148.trans X149
        refine ⟨E149, ?_⟩
        replace G1 := X149 _ _ G1
        replace G2 := X149 _ _ G2
        replace S0 := S0.mono X149
        (conv => whnf)
        refine call_of (rputL 4 (.inr (.inr (.inl rfl))) e2 s0 [d] (some ⟨g0, 0, none⟩) 1 F149 S0 (row_new G0) (by simp) (by simp only [List.length_cons, List.length_nil]; omega)) ?_
        rintro s0 F150 M0
        have X150 := M0.ext
        have E150 := E149.trans X150
        refine ⟨E150, ?_⟩
        replace G1 := X150 _ _ G1
        replace G2 := X150 _ _ G2
        have S1 := Bs.of_mine M0
        replace M0 := M0.down E149
        (conv => whnf)
        refine call_of (rputL 1 (.inl rfl) (putAllM 4 e2 [d]) s0 [l] (some ⟨g1, 0, none⟩) 1 F150 S1 (row_new G1) (by simp) (by simp only [List.length_cons, List.length_nil]; omega)) ?_
        rintro s1 F151 M1
        have X151 := M1.ext
        have E151 := E150.trans X151
        refine ⟨E151, ?_⟩
        replace G2 := X151 _ _ G2
        have S2 := Bs.of_mine M1
        replace M1 := M1.down E150
        (conv => whnf)
        refine call_of (rputL 8 (.inr (.inr (.inr rfl))) (putAllM 1 (putAllM 4 e2 [d]) [l]) s1 [a] (some ⟨g2, 0, none⟩) 1 F151 S2 (row_new G2) (by simp) (by simp only [List.length_cons, List.length_nil]; omega)) ?_
        rintro s2 F152 M2
        have X152 := M2.ext
        have E152 := E151.trans X152
        refine ⟨E152, ?_⟩
        have S3 := Bs.of_mine M2
        replace M2 := M2.down E151
        (conv => whnf)
        exact hK _ _ ⟨s2, M2, rfl, rfl, rfl⟩
      (conv => whnf)
      refine new_step (.cells (([a] : List Int).map (Value.int .i64)).toArray 3) rfl fun g2 hg2 => ?_
      have X153 := Ext.new hg2 (.cells (([a] : List Int).map (Value.int .i64)).toArray 3)
      have G2 := Heap.put_same F7 g2 (.cells (([a] : List Int).map (Value.int .i64)).toArray 3)
      generalize F7.put g2 _ = F153 at X153 G2 ⊢
      have E153 := E0.trans X153
      refine ⟨E153, ?_⟩
      replace S0 := S0.mono X153
      (conv => whnf)
      refine ⟨?_, ?_⟩
      · have triv := True.intro
        (conv => whnf)
        refine new_step (.cells (([d] : List Int).map (Value.int .i64)).toArray 3) rfl fun g0 hg0 => ?_
        have X154 := Ext.new hg0 (.cells (([d] : List Int).map (Value.int .i64)).toArray 3)
        have G0 := Heap.put_same F153 g0 (.cells (([d] : List Int).map (Value.int .i64)).toArray 3)
        generalize F153.put g0 _ = F154 at X154 G0 ⊢
        have E154 := E153.trans X154
        refine ⟨E154, ?_⟩
        replace G2 := X154 _ _ G2
        replace S0 := S0.mono X154
        (conv => whnf)
        refine ⟨?_, ?_⟩
        · have triv := True.intro
          (conv => whnf)
          refine call_of (rputL 4 (.inr (.inr (.inl rfl))) e2 s0 [d] (some ⟨g0, 0, none⟩) 1 F154 S0 (row_new G0) (by simp) (by simp only [List.length_cons, List.length_nil]; omega)) ?_
          rintro s0 F155 M0
          have X155 := M0.ext
          have E155 := E154.trans X155
          refine ⟨E155, ?_⟩
          replace G2 := X155 _ _ G2
          have S1 := Bs.of_mine M0
          replace M0 := M0.down E154
          (conv => whnf)
          refine new_step (.cells (([l] : List Int).map (Value.int .i64)).toArray 3) rfl fun g1 hg1 => ?_
          have X156 := Ext.new hg1 (.cells (([l] : List Int).map (Value.int .i64)).toArray 3)
          have G1 := Heap.put_same F155 g1 (.cells (([l] : List Int).map (Value.int .i64)).toArray 3)
          generalize F155.put g1 _ = F156 at X156 G1 ⊢
          have E156 := E155.trans X156
          refine ⟨E156, ?_⟩
          replace G2 := X156 _ _ G2
          replace S1 := S1.mono X156
          replace M0 := M0.mono X156
          (conv => whnf)
          refine call_of (rputL 1 (.inl rfl) (putAllM 4 e2 [d]) s0 [l] (some ⟨g1, 0, none⟩) 1 F156 S1 (row_new G1) (by simp) (by simp only [List.length_cons, List.length_nil]; omega)) ?_
          rintro s1 F157 M1
          have X157 := M1.ext
          have E157 := E156.trans X157
          refine ⟨E157, ?_⟩
          replace G2 := X157 _ _ G2
          have S2 := Bs.of_mine M1
          replace M1 := M1.down E156
          (conv => whnf)
          refine call_of (rputL 8 (.inr (.inr (.inr rfl))) (putAllM 1 (putAllM 4 e2 [d]) [l]) s1 [a] (some ⟨g2, 0, none⟩) 1 F157 S2 (row_new G2) (by simp) (by simp only [List.length_cons, List.length_nil]; omega)) ?_
          rintro s2 F158 M2
          have X158 := M2.ext
          have E158 := E157.trans X158
          refine ⟨E158, ?_⟩
          have S3 := Bs.of_mine M2
          replace M2 := M2.down E157
          (conv => whnf)
          exact hK _ _ ⟨s2, M2, rfl, rfl, rfl⟩
        (conv => whnf)
        refine new_step (.cells (([l] : List Int).map (Value.int .i64)).toArray 3) rfl fun g1 hg1 => ?_
        have X159 := Ext.new hg1 (.cells (([l] : List Int).map (Value.int .i64)).toArray 3)
        have G1 := Heap.put_same F154 g1 (.cells (([l] : List Int).map (Value.int .i64)).toArray 3)
        generalize F154.put g1 _ = F159 at X159 G1 ⊢
        have E159 := E154.trans X159
        refine ⟨E159, ?_⟩
        replace G0 := X159 _ _ G0
        replace G2 := X159 _ _ G2
        replace S0 := S0.mono X159
        (conv => whnf)
        refine call_of (rputL 4 (.inr (.inr (.inl rfl))) e2 s0 [d] (some ⟨g0, 0, none⟩) 1 F159 S0 (row_new G0) (by simp) (by simp only [List.length_cons, List.length_nil]; omega)) ?_
        rintro s0 F160 M0
        have X160 := M0.ext
        have E160 := E159.trans X160
        refine ⟨E160, ?_⟩
        replace G1 := X160 _ _ G1
        replace G2 := X160 _ _ G2
        have S1 := Bs.of_mine M0
        replace M0 := M0.down E159
        (conv => whnf)
        refine call_of (rputL 1 (.inl rfl) (putAllM 4 e2 [d]) s0 [l] (some ⟨g1, 0, none⟩) 1 F160 S1 (row_new G1) (by simp) (by simp only [List.length_cons, List.length_nil]; omega)) ?_
        rintro s1 F161 M1
        have X161 := M1.ext
        have E161 := E160.trans X161
        refine ⟨E161, ?_⟩
        replace G2 := X161 _ _ G2
        have S2 := Bs.of_mine M1
        replace M1 := M1.down E160
        (conv => whnf)
        refine call_of (rputL 8 (.inr (.inr (.inr rfl))) (putAllM 1 (putAllM 4 e2 [d]) [l]) s1 [a] (some ⟨g2, 0, none⟩) 1 F161 S2 (row_new G2) (by simp) (by simp only [List.length_cons, List.length_nil]; omega)) ?_
        rintro s2 F162 M2
        have X162 := M2.ext
        have E162 := E161.trans X162
        refine ⟨E162, ?_⟩
        have S3 := Bs.of_mine M2
        replace M2 := M2.down E161
        (conv => whnf)
        exact hK _ _ ⟨s2, M2, rfl, rfl, rfl⟩
      (conv => whnf)
      refine new_step (.cells (([l] : List Int).map (Value.int .i64)).toArray 3) rfl fun g1 hg1 => ?_
      have X163 := Ext.new hg1 (.cells (([l] : List Int).map (Value.int .i64)).toArray 3)
      have G1 := Heap.put_same F153 g1 (.cells (([l] : List Int).map (Value.int .i64)).toArray 3)
      generalize F153.put g1 _ = F163 at X163 G1 ⊢
      have E163 := E153.trans X163
      refine ⟨E163, ?_⟩
      replace G2 := X163 _ _ G2
      replace S0 := S0.mono X163
      (conv => whnf)
      refine new_step (.cells (([d] : List Int).map (Value.int .i64)).toArray 3) rfl fun g0 hg0 => ?_
      have X164 := Ext.new hg0 (.cells (([d] : List Int).map (Value.int .i64)).toArray 3)
      have G0 := Heap.put_same F163 g0 (.cells (([d] : List Int).map (Value.int .i64)).toArray 3)
      generalize F163.put g0 _ = F164 at X164 G0 ⊢
      have E164 := E163.trans X164
      refine ⟨E164, ?_⟩
      replace G1 := X164 _ _ G1
      replace G2 := X164 _ _ G2
      replace S0 := S0.mono X164
      (conv => whnf)
      refine call_of (rputL 4 (.inr (.inr (.inl rfl))) e2 s0 [d] (some ⟨g0, 0, none⟩) 1 F164 S0 (row_new G0) (by simp) (by simp only [List.length_cons, List.length_nil]; omega)) ?_
      rintro s0 F165 M0
      have X165 := M0.ext
      have E165 := E164.trans X165
      refine ⟨E165, ?_⟩
      replace G1 := X165 _ _ G1
      replace G2 := X165 _ _ G2
      have S1 := Bs.of_mine M0
      replace M0 := M0.down E164
      (conv => whnf)
      refine call_of (rputL 1 (.inl rfl) (putAllM 4 e2 [d]) s0 [l] (some ⟨g1, 0, none⟩) 1 F165 S1 (row_new G1) (by simp) (by simp only [List.length_cons, List.length_nil]; omega)) ?_
      rintro s1 F166 M1
      have X166 := M1.ext
      have E166 := E165.trans X166
      refine ⟨E166, ?_⟩
      replace G2 := X166 _ _ G2
      have S2 := Bs.of_mine M1
      replace M1 := M1.down E165
      (conv => whnf)
      refine call_of (rputL 8 (.inr (.inr (.inr rfl))) (putAllM 1 (putAllM 4 e2 [d]) [l]) s1 [a] (some ⟨g2, 0, none⟩) 1 F166 S2 (row_new G2) (by simp) (by simp only [List.length_cons, List.length_nil]; omega)) ?_
      rintro s2 F167 M2
      have X167 := M2.ext
      have E167 := E166.trans X167
      refine ⟨E167, ?_⟩
      have S3 := Bs.of_mine M2
      replace M2 := M2.down E166
      (conv => whnf)
      exact hK _ _ ⟨s2, M2, rfl, rfl, rfl⟩
    · rintro env' F8 ⟨S8, M8, h1', h4', h5'⟩
      have bH : eH.length ≤ 26 := by rw [hH]; omega
      have hB8 := M8.ext _ _ hB7
      have hE8 := hE7.trans M8.ext
      replace M8 := M8.down hE7
      obtain ⟨A8, c8, rfl, _⟩ := M8.own.row
      refine short [1, 4, 5] [.pointer (some ⟨b, 0, none⟩), .int .i64 0, .slice A8 eH.length c8] (by simp only [List.map_cons, List.map_nil, h1', h4', h5']) fun ρ => ?_
      clear h1' h4' h5' hH b2 b3 b4 b5 S0 hB7 hE7
      (conv => whnf)
      refine draw_cut (fun env' F' => ∃ S', Mine F2 F' S' 5 1 (eH ++ [y1, y2] ++ nm).length (bytesOf (eH ++ [y1, y2] ++ nm)) ∧ F' b = some (cmdO k y x f o n p d l a false ⟨nm.toArray⟩ (.slice A ls.length c)) ∧ env' 1 = .pointer (some ⟨b, 0, none⟩) ∧ env' 5 = S') (fun K hK => ?_) ?_
      · refine draw_tree_at tab_ok (by kernel_rfl) [4, 10] (DT.row [0, 1, 2, 3, 4, 5, 6, 9, 10, 7, 8, 11, 12] .nil) (by kernel_rfl) (F8.only b) (only_ext rfl) ?_
        (conv => whnf)
        refine load_blk (only_at hB8) rfl rfl ?_
        (conv => whnf)
        refine load_blk (only_at hB8) rfl rfl ?_
        (conv => whnf)
        refine new_step (.cells (bytesOf [y1, y2]).toArray 5) ?_ fun q hq => ?_
        · rw [show bytesOf [y1, y2] = [Value.int .u8 (y1.toNat : Int), .int .u8 (y2.toNat : Int)] from rfl, ← w1, ← w2]
          rfl
        have hXq := Ext.new hq (.cells (bytesOf [y1, y2]).toArray 5)
        have hQ := Heap.put_same F8 q (.cells (bytesOf [y1, y2]).toArray 5)
        have hB9 := hXq _ _ hB8
        have M9 := M8.mono hXq
        generalize F8.put q _ = F9 at hXq hQ hB9 M9 ⊢
        refine ⟨only_ext (by rw [hB8, hB9]), ?_⟩
        (conv => whnf)
        refine append_mine tab_ok (m := 2) (ys := bytesOf [y1, y2]) (y := .slice (some ⟨q, 0, none⟩) 2 2) rfl rfl rfl rfl rfl ⟨_, rfl, fun k h => by cases h⟩ ⟨_, rfl, rfl⟩ (by decide) M9 ⟨rfl, .inl ⟨_, _, rfl, fun j v hj => ⟨_, rfl, by rw [add_plain, Heap.cell_at hQ, Nat.zero_add]; simpa using hj⟩⟩⟩ (hone_bytes _) (by show 2 * (eH.length + 2) * 1 ≤ _; omega) fun s10 F10 M10 hk10 => ?_
        have hB10 := hk10 _ _ hB9 (M9.own.blk_ne hB9 u8_cmd)
        refine ⟨only_ext (by rw [hB8, hB10]), ?_⟩
        (conv => whnf)
        refine append_mine tab_ok (m := nm.length) (ys := bytesOf nm) (y := .string ⟨nm.toArray⟩) rfl rfl rfl rfl rfl ⟨_, rfl, fun k h => by cases h⟩ ⟨_, rfl, rfl⟩ (by decide) M10 ⟨by simp [bytesOf], .inr ⟨_, rfl, rfl, by show nm.length = nm.toArray.size; simp, by simp [bytesOf]⟩⟩ (hone_bytes nm) (by show 2 * (eH.length + 2 + nm.length) * 1 ≤ _; omega) fun s11 F11 M11 hk11 => ?_
        have hB11 := hk11 _ _ hB10 (M10.own.blk_ne hB10 u8_cmd)
        refine ⟨only_ext (by rw [hB8, hB11]), ?_⟩
        have M12 : Mine F2 F11 s11 5 1 (eH ++ [y1, y2] ++ nm).length (bytesOf (eH ++ [y1, y2] ++ nm)) := by
          rw [List.length_append, List.length_append, bytes_app, bytes_app]; exact M11
        (conv => whnf)
        exact hK _ _ ⟨s11, M12, hB11, rfl, rfl⟩
      · rintro env' F11 ⟨s11, M12, hB11, h1', h5'⟩
        have b12 : (eH ++ [y1, y2] ++ nm).length = eH.length + 2 + nm.length := by rw [List.length_append, List.length_append]; rfl
        generalize eH ++ [y1, y2] ++ nm = e12 at M12 b12 hM1
        clear M8 hB8 hE8
        refine short [1, 5] [.pointer (some ⟨b, 0, none⟩), s11] (by simp only [List.map_cons, List.map_nil, h1', h5']) fun ρ => ?_
        clear h1' h5'
        (conv => whnf)
        refine load_blk hB11 rfl rfl ?_
        (conv => whnf)
        refine new_step (.cells (bytesOf [y3]).toArray 5) ?_ fun q hq => ?_
        · exact congrArg (fun z => Obj.cells #[Value.int .u8 z] 5) w3
        have hXq := Ext.new hq (.cells (bytesOf [y3]).toArray 5)
        have hQ := Heap.put_same F11 q (.cells (bytesOf [y3]).toArray 5)
        have hB13 := hXq _ _ hB11
        have M13 := M12.mono hXq
        generalize F11.put q _ = F13 at hXq hQ hB13 M13 ⊢
        (conv => whnf)
        refine append_mine tab_ok (m := 1) (ys := bytesOf [y3]) (y := .slice (some ⟨q, 0, none⟩) 1 1) rfl rfl rfl rfl rfl ⟨_, rfl, fun k h => by cases h⟩ ⟨_, rfl, rfl⟩ (by decide) M13 ⟨rfl, .inl ⟨_, _, rfl, fun j v hj => ⟨_, rfl, by rw [add_plain, Heap.cell_at hQ, Nat.zero_add]; simpa using hj⟩⟩⟩ (hone_bytes _) (by show 2 * (e12.length + 1) * 1 ≤ _; omega) fun s14 F14 M14 hk14 => ?_
        have hB14 := hk14 _ _ hB13 (M13.own.blk_ne hB13 u8_cmd)
        have M15 : Mine F2 F14 s14 5 1 eM.length (bytesOf eM) := by
          rw [hM1, List.length_append, bytes_app]; exact M14
        clear M14 M13 M12 hk14 hXq hQ hB13 hB11 hM1
        (conv => whnf)
        refine loop_slots [1, 5, 6] (fun mm vs F' => ∃ (j : Nat) (S : Value), j + mm = ls.length ∧ vs = [.pointer (some ⟨b, 0, none⟩), S, .int .i64 (j : Int)] ∧ Mine F2 F' S 5 1 (encL eM (ls.take j)).length (bytesOf (encL eM (ls.take j))) ∧ F' b = some (cmdO k y x f o n p d l a false ⟨nm.toArray⟩ (.slice A ls.length c))) ls.length ⟨0, _, by omega, rfl, M15, hB14⟩ ?_
        clear M15 hB14
        rintro m vs F15 ρ ⟨j, S, hjm, rfl, M15, hB15⟩
        have bj := encL_len (ls.take j) eM
        rw [List.length_take] at bj
        (conv => whnf)
        refine load_blk hB15 rfl rfl ?_
        (conv => whnf)
        refine cond_split (fun h => ?_) (fun h => ?_)
        · have hj : j < ls.length := by have := of_decide_eq_true h; omega
          obtain ⟨ad, rfl⟩ := hr.some (by rw [linesV_len]; omega)
          have hx : ls[j]? = some ls[j] := List.getElem?_eq_getElem hj
          have ht := encL_take eM ls j _ hx
          have hLr := fun (K : Value → Prop) => line_load (K := K) (hr2.mono M15.ext) hj
          have hja : ad.add (Int.toNat (j : Int) * 4) = ad.add (j * 4) := by rw [Int.toNat_natCast]
          rw [← hja] at hLr
          generalize ls[j] = q at ht hLr
          obtain ⟨wf, wo, wn, wa⟩ := q
          dsimp only at ht hLr
          have bj2 : (encL eM (ls.take j)).length ≤ 10000 := by
            have := Nat.min_le_right j ls.length
            omega
          have bj3 := putAllM_len 2 [wf, wo, wn] (encL eM (ls.take j))
          simp only [List.length_cons, List.length_nil] at bj3
          generalize encL eM (ls.take j) = cur at M15 ht bj2 bj3
          (conv => whnf)
          refine load_blk hB15 rfl rfl ?_
          (conv => whnf)
          refine ⟨⟨by omega, by omega⟩, ?_⟩
          (conv => whnf)
          refine hLr _ ?_
          (conv => whnf)
          refine new_step (lineO 0 0 0 0) rfl fun u hu => ?_
          have hU := Heap.put_same F15 u (lineO 0 0 0 0)
          have hEu : ∀ o, Ext F15 ((F15.put u (lineO 0 0 0 0)).put u o) := fun o => ext_put_put hu
          generalize F15.put u _ = F16 at hU hEu ⊢
          have o1 : ∀ v ∈ [Value.int .i64 wf, .int .i64 wo, .int .i64 wn, .int .i64 wa], v.oneCell' = true := by simp [Value.oneCell']
          (conv => whnf)
          refine store_step u 0 _ #[.int .i64 wf, .int .i64 wo, .int .i64 wn, .int .i64 wa] rfl hU rfl rfl (.inl (Nat.le_refl 0)) o1 ?_
          have hU17 := Heap.put_same F16 u (lineO wf wo wn wa)
          have M17 := M15.mono (hEu (lineO wf wo wn wa))
          have hB17 := (hEu (lineO wf wo wn wa)) _ _ hB15
          generalize F16.put u _ = F17 at hU17 M17 hB17 ⊢
          have S0 := Bs.of_mine M17
          refine short [1, 5, 6, 7] [.pointer (some ⟨b, 0, none⟩), S, .int .i64 (j : Int), .pointer (some ⟨u, 0, none⟩)] rfl fun ρ => ?_
          (conv => whnf)
          refine draw_cut (fun env' F' => ∃ S', Mine F17 F' S' 5 1 (putAllM 8 (putAllM 2 cur [wf, wo, wn]) [wa]).length (bytesOf (putAllM 8 (putAllM 2 cur [wf, wo, wn]) [wa])) ∧ env' 1 = .pointer (some ⟨b, 0, none⟩) ∧ env' 6 = .int .i64 (j : Int) ∧ env' 5 = S') (fun K hK => ?_) ?_
          · refine draw_tree tab_ok (by kernel_rfl) [2, 4, 6, 10] (DT.row [0, 1, 2, 3, 4, 5, 6, 9, 10] (.fork (.cons 7 (.fork (.cons 8 (.cons 11 (.cons 12 (DT.row [13] .nil)))) (.cons 11 (.cons 8 (.cons 12 (DT.row [13] .nil)))))) (.cons 11 (.cons 7 (.cons 8 (.cons 12 (DT.row [13] .nil))))))) (by kernel_rfl) ?_
            have E0 := Ext.refl F17
            (conv => whnf)
            refine load_blk hU17 rfl rfl ?_
            (conv => whnf)
            refine load_blk hU17 rfl rfl ?_
            (conv => whnf)
            refine load_blk hU17 rfl rfl ?_
            (conv => whnf)
            refine load_blk hU17 rfl rfl ?_
            (conv => whnf)
            refine ⟨?_, ?_⟩
            · have triv := True.intro
              (conv => whnf)
              refine new_step (.cells (([wf, wo, wn] : List Int).map (Value.int .i64)).toArray 3) rfl fun g0 hg0 => ?_
              have X101 := Ext.new hg0 (.cells (([wf, wo, wn] : List Int).map (Value.int .i64)).toArray 3)
              have G0 := Heap.put_same F17 g0 (.cells (([wf, wo, wn] : List Int).map (Value.int .i64)).toArray 3)
              generalize F17.put g0 _ = F101 at X101 G0 ⊢
              have E101 := E0.trans X101
              refine ⟨E101, ?_⟩
              replace S0 := S0.mono X101
              (conv => whnf)
              refine ⟨?_, ?_⟩
              · have triv := True.intro
                (conv => whnf)
                refine call_of (rputL 2 (.inr (.inl rfl)) cur S [wf, wo, wn] (some ⟨g0, 0, none⟩) 3 F101 S0 (row_new G0) (by simp) (by simp only [List.length_cons, List.length_nil]; omega)) ?_
                rintro s0 F102 M0
                have X102 := M0.ext
                have E102 := E101.trans X102
                refine ⟨E102, ?_⟩
                have S1 := Bs.of_mine M0
                replace M0 := M0.down E101
                (conv => whnf)
                refine new_step (.cells (([wa] : List Int).map (Value.int .i64)).toArray 3) rfl fun g1 hg1 => ?_
                have X103 := Ext.new hg1 (.cells (([wa] : List Int).map (Value.int .i64)).toArray 3)
                have G1 := Heap.put_same F102 g1 (.cells (([wa] : List Int).map (Value.int .i64)).toArray 3)
                generalize F102.put g1 _ = F103 at X103 G1 ⊢
                have E103 := E102.trans X103
                refine ⟨E103, ?_⟩
                replace S1 := S1.mono X103
                replace M0 := M0.mono X103
                (conv => whnf)
                refine call_of (rputL 8 (.inr (.inr (.inr rfl))) (putAllM 2 cur [wf, wo, wn]) s0 [wa] (some ⟨g1, 0, none⟩) 1 F103 S1 (row_new G1) (by simp) (by simp only [List.length_cons, List.length_nil]; omega)) ?_
                rintro s1 F104 M1
                have X104 := M1.ext
                have E104 := E103.trans X104
                refine ⟨E104, ?_⟩
                have S2 := Bs.of_mine M1
                replace M1 := M1.down E103
                (conv => whnf)
                exact hK _ _ ⟨s1, M1, rfl, rfl, rfl⟩
              (conv => whnf)
              refine new_step (.cells (([wa] : List Int).map (Value.int .i64)).toArray 3) rfl fun g1 hg1 => ?_
              have X105 := Ext.new hg1 (.cells (([wa] : List Int).map (Value.int .i64)).toArray 3)
              have G1 := Heap.put_same F101 g1 (.cells (([wa] : List Int).map (Value.int .i64)).toArray 3)
              generalize F101.put g1 _ = F105 at X105 G1 ⊢
              have E105 := E101.trans X105
              refine ⟨E105, ?_⟩
              replace G0 := X105 _ _ G0
              replace S0 := S0.mono X105
              (conv => whnf)
              refine call_of (rputL 2 (.inr (.inl rfl)) cur S [wf, wo, wn] (some ⟨g0, 0, none⟩) 3 F105 S0 (row_new G0) (by simp) (by simp only [List.length_cons, List.length_nil]; omega)) ?_
              rintro s0 F106 M0
              have X106 := M0.ext
              have E106 := E105.trans X106
              refine ⟨E106, ?_⟩
              replace G1 := X106 _ _ G1
              have S1 := Bs.of_mine M0
              replace M0 := M0.down E105
              (conv => whnf)
              refine call_of (rputL 8 (.inr (.inr (.inr rfl))) (putAllM 2 cur [wf, wo, wn]) s0 [wa] (some ⟨g1, 0, none⟩) 1 F106 S1 (row_new G1) (by simp) (by simp only [List.length_cons, List.length_nil]; omega)) ?_
              rintro s1 F107 M1
              have X107 := M1.ext
              have E107 := E106.trans X107
              refine ⟨E107, ?_⟩
              have S2 := Bs.of_mine M1
              replace M1 := M1.down E106
              (conv => whnf)
              exact hK _ _ ⟨s1, M1, rfl, rfl, rfl⟩
            (conv => whnf)
            refine new_step (.cells (([wa] : List Int).map (Value.int .i64)).toArray 3) rfl fun g1 hg1 => ?_
            have X108 := Ext.new hg1 (.cells (([wa] : List Int).map (Value.int .i64)).toArray 3)
            have G1 := Heap.put_same F17 g1 (.cells (([wa] : List Int).map (Value.int .i64)).toArray 3)
            generalize F17.put g1 _ = F108 at X108 G1 ⊢
            have E108 := E0.trans X108
            refine ⟨E108, ?_⟩
            replace S0 := S0.mono X108
            (conv => whnf)
            refine new_step (.cells (([wf, wo, wn] : List Int).map (Value.int .i64)).toArray 3) rfl fun g0 hg0 => ?_
            have X109 := Ext.new hg0 (.cells (([wf, wo, wn] : List Int).map (Value.int .i64)).toArray 3)
            have G0 := Heap.put_same F108 g0 (.cells (([wf, wo, wn] : List Int).map (Value.int .i64)).toArray 3)
            generalize F108.put g0 _ = F109 at X109 G0 ⊢
            have E109 := E108.trans X109
            refine ⟨E109, ?_⟩
            replace G1 := X109 _ _ G1
            replace S0 := S0.mono X109
            (conv => whnf)
            refine call_of (rputL 2 (.inr (.inl rfl)) cur S [wf, wo, wn] (some ⟨g0, 0, none⟩) 3 F109 S0 (row_new G0) (by simp) (by simp only [List.length_cons, List.length_nil]; omega)) ?_
            rintro s0 F110 M0
            have X110 := M0.ext
            have E110 := E109.trans X110
            refine ⟨E110, ?_⟩
            replace G1 := X110 _ _ G1
            have S1 := Bs.of_mine M0
            replace M0 := M0.down E109
            (conv => whnf)
            refine call_of (rputL 8 (.inr (.inr (.inr rfl))) (putAllM 2 cur [wf, wo, wn]) s0 [wa] (some ⟨g1, 0, none⟩) 1 F110 S1 (row_new G1) (by simp) (by simp only [List.length_cons, List.length_nil]; omega)) ?_
            rintro s1 F111 M1
            have X111 := M1.ext
            have E111 := E110.trans X111
            refine ⟨E111, ?_⟩
            have S2 := Bs.of_mine M1
            replace M1 := M1.down E110
            (conv => whnf)
            exact hK _ _ ⟨s1, M1, rfl, rfl, rfl⟩
          · rintro env' F18 ⟨S18, M18, h1', h6', h5'⟩
            refine short [1, 5, 6] [.pointer (some ⟨b, 0, none⟩), S18, .int .i64 (j : Int)] (by simp only [List.map_cons, List.map_nil, h1', h5', h6']) fun ρ => ?_
            (conv => whnf)
            refine ⟨m - 1, by omega, j + 1, S18, by omega, ?_, ?_, M18.ext _ _ hB17⟩
            · have hw : IntKind.i64.wrap ((j : Int) + 1) = ((j + 1 : Nat) : Int) := by rw [IntKind.wrap_i64]; omega
              rw [← hw]
              rfl
            · rw [ht]; exact M18.down M17.ext
        · have hj : j = ls.length := by have := of_decide_eq_false h; omega
          subst hj
          rw [List.take_length, ← hEB] at M15
          (conv => whnf)
          exact ⟨⟨S, rfl, Bs.of_mine M15⟩, hE2.trans M15.ext⟩
end Go.Proofs.Ytbgijjoemnfnmaa.Al
/- The logic of a known part of memory, 13: structs and arrays of whole numbers, held against each other. It holds for every program. -/
namespace Go.Al
open Go

def intAt (xs : Array Value) (i : Nat) : Int := match xs[i]? with | some (.int _ a) => a | _ => 0
theorem part_int {P : Program} (w : World) {t : TypeId} {k : IntKind} (h : P.underlying t = some (.int k)) (xs : Array Value) (j : Nat) (v : Value) (hv : xs[j]? = some v) : (part t xs j).run P w = .ok v w := by
  have h1 : (isAgg t).run P w = .ok false w := by
    unfold isAgg
    rw [Sem.run_bind, run_underlying h, Result.andThen_ok]
    rfl
  unfold part
  rw [Sem.run_bind, h1, Result.andThen_ok]
  simp [hv, Sem.run_pure]
theorem run_fields_ints {P : Program} (w : World) (d : Nat) (xs ys : Array Value) : ∀ (fs : List Field), (∀ f ∈ fs, f.name ≠ "_" ∧ ∃ k a b, P.underlying f.type = some (.int k) ∧ xs[f.offset]? = some (.int k a) ∧ ys[f.offset]? = some (.int k b)) →
    (Op.eqFields (d + 1) xs ys fs).run P w = .ok (fs.all fun f => intAt xs f.offset == intAt ys f.offset) w := by
  intro fs
  induction fs with
  | nil => intro _; rfl
  | cons f fs ih =>
    intro h
    obtain ⟨hn, k, a, b, hu, hx, hy⟩ := h f (by simp)
    have ih := ih fun g hg => h g (by simp [hg])
    have ha : intAt xs f.offset = a := by unfold intAt; rw [hx]
    have hb : intAt ys f.offset = b := by unfold intAt; rw [hy]
    rw [Op.eqFields, if_pos hn]
    simp only [Sem.run_bind, part_int w hu xs _ _ hx, part_int w hu ys _ _ hy, Result.andThen_ok, run_equalIn_int w d f.type k k a b hu, List.all_cons, ha, hb]
    cases hab : (a == b) with
    | true => simpa using ih
    | false => simp [Sem.run_pure]
/-- Structs whose fields are whole numbers. -/
theorem run_struct_ints {P : Program} (w : World) (d : Nat) (t : TypeId) (xs ys : Array Value) (ht : P.underlying t = some (.struct (P.fieldsOf t))) (hp : P.stoodInHeld t = false)
    (h : ∀ f ∈ (P.fieldsOf t).toList, f.name ≠ "_" ∧ ∃ k a b, P.underlying f.type = some (.int k) ∧ xs[f.offset]? = some (.int k a) ∧ ys[f.offset]? = some (.int k b)) :
    (Op.equalIn (d + 2) t (.agg xs) (.agg ys)).run P w = .ok ((P.fieldsOf t).toList.all fun f => intAt xs f.offset == intAt ys f.offset) w := by
  rw [run_equalIn_agg w (d + 1) t xs ys ht hp, run_fields_ints w d xs ys _ h]
/-- Arrays of whole numbers. -/
theorem run_array_ints {P : Program} (w : World) (d : Nat) (t e : TypeId) (n : Nat) (k : IntKind) (i : TypeInfo) (xs ys : Array Value) (hu : P.underlying t = some (.array n e)) (he : P.underlying e = some (.int k)) (hi : P.info? e = some i) (hs : i.size = 1)
    (h : ∀ j, j < n → ∃ a b, xs[j]? = some (.int k a) ∧ ys[j]? = some (.int k b)) :
    (Op.equalIn (d + 2) t (.agg xs) (.agg ys)).run P w = .ok ((List.range n).all fun j => intAt xs j == intAt ys j) w := by
  have hz : (sizeOf e).run P w = .ok 1 w := by simp [sizeOf, typeInfo, hi, hs, Sem.run_pure]
  rw [Op.equalIn]
  simp only [Sem.run_bind, run_underlying hu, Result.andThen_ok, hz]
  simp only [Std.Legacy.Range.forIn_eq_forIn_range', Std.Legacy.Range.size]
  simp only [Nat.sub_zero, Nat.add_sub_cancel, Nat.div_one]
  rw [List.range_eq_range']
  have hmem : ∀ j ∈ List.range' 0 n, j < n := fun j hj => by
    rw [List.mem_range'_1] at hj; omega
  generalize List.range' 0 n = l at hmem
  induction l with
  | nil => simp [Sem.run_pure]
  | cons j l ih =>
    have ih := ih fun q hq => hmem q (by simp [hq])
    obtain ⟨a, b, hx, hy⟩ := h j (hmem j (by simp))
    have ha : intAt xs j = a := by unfold intAt; rw [hx]
    have hb : intAt ys j = b := by unfold intAt; rw [hy]
    have px := part_int (P := P) w he xs (j * 1) (.int k a) (by rw [Nat.mul_one]; exact hx)
    have py := part_int (P := P) w he ys (j * 1) (.int k b) (by rw [Nat.mul_one]; exact hy)
    simp only [List.forIn_cons, Sem.run_bind, px, py, Result.andThen_ok, run_equalIn_int w d e k k a b he, List.all_cons, ha, hb]
    cases hab : (a == b) with
    | true =>
      simp only [Bool.not_true, Bool.false_eq_true, if_false, Sem.run_pure, Result.andThen_ok, Bool.true_and]
      exact ih
    | false => simp [Sem.run_pure]
/-- Two aggregates, held against each other. -/
theorem op_eql {P : Program} {o : Oper} {ev : Operand → Value} {F : Heap} {K : Value → Heap → Prop} {t : TypeId} {x y : Operand} {t' : TypeId} {xs ys : Array Value} (q : Bool)
    (ho : o.op = .binOp .eql t x y t') (hx : ev x = .agg xs) (hy : ev y = .agg ys) (hg : P.eqGuardType P.depth t = false) (hr : ∀ w, (Op.equalIn 10000 t (.agg xs) (.agg ys)).run P w = .ok q w) (hk : K (.bool q) F) : OpK P o ev F K := by
  refine op_run (F' := F) (s := (do eqGuard .eql t x y (ev x) (ev y); binOp .eql t (ev x) (ev y))) (by simp only [execOp, ho]) (fun w hw => ⟨w, ?_, hw, Rest.refl w⟩) hk
  rw [hx, hy, Sem.run_bind, run_eqGuard_agg w .eql t x y _ _ hg, Result.andThen_ok, run_eql_struct w t, hr]
  rfl
theorem op_neq {P : Program} {o : Oper} {ev : Operand → Value} {F : Heap} {K : Value → Heap → Prop} {t : TypeId} {x y : Operand} {t' : TypeId} {xs ys : Array Value} (q : Bool)
    (ho : o.op = .binOp .neq t x y t') (hx : ev x = .agg xs) (hy : ev y = .agg ys) (hg : P.eqGuardType P.depth t = false) (hr : ∀ w, (Op.equalIn 10000 t (.agg xs) (.agg ys)).run P w = .ok q w) (hk : K (.bool (!q)) F) : OpK P o ev F K := by
  refine op_run (F' := F) (s := (do eqGuard .neq t x y (ev x) (ev y); binOp .neq t (ev x) (ev y))) (by simp only [execOp, ho]) (fun w hw => ⟨w, ?_, hw, Rest.refl w⟩) hk
  rw [hx, hy, Sem.run_bind, run_eqGuard_agg w .neq t x y _ _ hg, Result.andThen_ok, run_neq_struct w t, hr]
  rfl
def intFields (P : Program) (k : IntKind) (n : Nat) (t : TypeId) : Bool := (P.fieldsOf t).toList.all fun f => decide (f.name ≠ "_") && ((match P.underlying f.type with | some (.int k') => kEq k k' | _ => false) && Nat.blt f.offset n)
/-- Two structs of whole numbers of one kind. -/
theorem run_struct_check {P : Program} (w : World) (t : TypeId) (xs ys : Array Value) (k : IntKind) (n : Nat) (ht : P.underlying t = some (.struct (P.fieldsOf t))) (hp : P.stoodInHeld t = false) (hc : intFields P k n t = true)
    (h : ∀ j, j < n → ∃ a b, xs[j]? = some (.int k a) ∧ ys[j]? = some (.int k b)) :
    (Op.equalIn 10000 t (.agg xs) (.agg ys)).run P w = .ok ((P.fieldsOf t).toList.all fun f => intAt xs f.offset == intAt ys f.offset) w := by
  refine run_struct_ints w 9998 t xs ys ht hp fun f hf => ?_
  have := List.all_eq_true.1 hc f hf
  rw [Bool.and_eq_true, Bool.and_eq_true, decide_eq_true_eq] at this
  obtain ⟨h1, h2, h3⟩ := this
  obtain ⟨a, b, hx, hy⟩ := h f.offset (Nat.le_of_ble_eq_true h3)
  refine ⟨h1, k, a, b, ?_, hx, hy⟩
  split at h2
  · next k' hu => rw [hu]; have : k = k' := by revert h2; cases k <;> cases k' <;> decide
                  rw [this]
  · cases h2
/-- Two arrays of whole numbers. -/
theorem op_eqlA {P : Program} {T : Tab} (hT : TabOk P T) {o : Oper} {ev : Operand → Value} {F : Heap} {K : Value → Heap → Prop} {t e : TypeId} {x y : Operand} {t' : TypeId} {xs ys : Array Value} {k : IntKind} {n a1 a2 : Nat} {z1 : Option Value} {b2 : Nat} {z2 : Option Value}
    (ho : o.op = .binOp .eql t x y t') (hx : ev x = .agg xs) (hy : ev y = .agg ys) (h1 : T t = some ⟨a1, a2, .array n e, z1⟩) (h2 : T e = some ⟨1, b2, .int k, z2⟩) (hg : P.eqGuardType P.depth t = false)
    (h : ∀ j, j < n → ∃ a b, xs[j]? = some (.int k a) ∧ ys[j]? = some (.int k b)) (hk : K (.bool ((List.range n).all fun j => intAt xs j == intAt ys j)) F) : OpK P o ev F K := by
  obtain ⟨hu1, _⟩ := hT _ _ h1
  obtain ⟨hu2, i, hi, hs, _⟩ := hT _ _ h2
  exact op_eql _ ho hx hy hg (fun w => run_array_ints w 9998 t e n k i xs ys hu1 hu2 hi hs h) hk
end Go.Al
/- The contracts of cmd.Same and of its reference, over what is known of memory. -/
namespace Go.Proofs.Ytbgijjoemnfnmaa.Al
open Go Go.Al Go.Proofs Go.RowKit
set_option maxHeartbeats 8000000
set_option maxRecDepth 100000
set_option linter.unusedVariables false
set_option linter.unusedSimpArgs false
def lnEq (w v : LD) : Bool := w.f == v.f && (w.o == v.o && (w.n == v.n && (w.a == v.a && true)))
theorem lnEq_iff (w v : LD) : lnEq w v = true ↔ w = v := by
  obtain ⟨a, b, c, d⟩ := w
  obtain ⟨a', b', c', d'⟩ := v
  unfold lnEq
  simp only [Bool.and_eq_true, beq_iff_eq, and_true, LD.mk.injEq]
theorem run_line (w v : LD) (W : World) : (Op.equalIn 10000 41 (.agg #[.int .i64 w.f, .int .i64 w.o, .int .i64 w.n, .int .i64 w.a]) (.agg #[.int .i64 v.f, .int .i64 v.o, .int .i64 v.n, .int .i64 v.a])).run Try.prog W = .ok (lnEq w v) W := by
  rw [run_struct_check W 41 _ _ .i64 4 (by kernel_rfl) (by kernel_rfl) (by kernel_rfl) (fun j hj => ?_)]
  · rfl
  · have h : j = 0 ∨ j = 1 ∨ j = 2 ∨ j = 3 := by omega
    rcases h with rfl | rfl | rfl | rfl <;> exact ⟨_, _, rfl, rfl⟩
theorem slicesEqualL (x y : List LD) (A B : Option Addr) (c e : Nat) (F : Heap) (hx : RowAt F A (linesV x)) (hy : RowAt F B (linesV y)) (hl : x.length ≤ 100000) (hl' : y.length ≤ 100000) :
    FnK Try.prog 48 #[.slice A x.length c, .slice B y.length e] F (fun v F' => (∃ z : Bool, v = .bool z ∧ (z = true ↔ x = y)) ∧ F' = F) := by
  (refine fn_walk tab_ok Try.func48 rfl rfl rfl rfl ?_; (conv => whnf))
  refine cond_split (fun h => ?_) (fun h => ?_)
  · have hne : x.length ≠ y.length := by
      replace h : ((x.length : Int) != (y.length : Int)) = true := h
      intro e
      rw [e] at h
      simp at h
    (conv => whnf)
    exact ⟨⟨false, rfl, by simp; rintro rfl; exact hne rfl⟩, rfl⟩
  · have heq : x.length = y.length := by
      replace h : ((x.length : Int) != (y.length : Int)) = false := h
      have := bne_eq_false_iff_eq.1 h
      omega
    (conv => whnf)
    refine loop_slots [0, 1, 12, 13] (fun k vs F' => ∃ j : Nat, j + k = x.length ∧ vs = [.slice A x.length c, .slice B y.length e, .int .i64 (x.length : Int), .int .i64 (j : Int)] ∧ x.take j = y.take j ∧ F' = F) x.length ⟨0, by omega, rfl, rfl, rfl⟩ ?_
    rintro k vs F2 ρ ⟨j, hjk, rfl, htk, rfl⟩
    (conv => whnf)
    refine cond_split (fun h => ?_) (fun h => ?_)
    · have hj : j < x.length := by have := of_decide_eq_true h; omega
      obtain ⟨ad, rfl⟩ := hx.some (by rw [linesV_len]; omega)
      obtain ⟨bd, rfl⟩ := hy.some (by rw [linesV_len]; omega)
      have hxj : x[j]? = some x[j] := List.getElem?_eq_getElem hj
      have hyj : y[j]? = some (y[j]'(by omega)) := List.getElem?_eq_getElem (by omega)
      have hL1 := fun (K : Value → Prop) => line_load (K := K) hx hj
      have hL2 := fun (K : Value → Prop) => line_load (K := K) hy (j := j) (by omega)
      have hja : ad.add (Int.toNat (j : Int) * 4) = ad.add (j * 4) := by rw [Int.toNat_natCast]
      have hjb : bd.add (Int.toNat (j : Int) * 4) = bd.add (j * 4) := by rw [Int.toNat_natCast]
      rw [← hja] at hL1
      rw [← hjb] at hL2
      have hrl := run_line x[j] (y[j]'(by omega))
      have hiff := lnEq_iff x[j] (y[j]'(by omega))
      generalize x[j] = w at hxj hL1 hrl hiff
      generalize y[j]'(by omega) = v at hyj hL2 hrl hiff
      generalize lnEq w v = z at hrl hiff
      (conv => whnf)
      refine draw_tree tab_ok (by kernel_rfl) [] (DT.row [0, 1, 2, 3, 4, 5, 6, 7, 8] .nil) (by kernel_rfl) ?_
      (conv => whnf)
      refine ⟨⟨by omega, by omega⟩, ?_⟩
      (conv => whnf)
      refine hL1 _ ?_
      (conv => whnf)
      refine ⟨⟨by omega, by omega⟩, ?_⟩
      (conv => whnf)
      refine hL2 _ ?_
      (conv => whnf)
      refine op_neq z rfl rfl rfl (by kernel_rfl) hrl ?_
      refine ⟨Ext.refl _, ?_⟩
      cases z with
      | false =>
        (conv => whnf)
        refine ⟨⟨false, rfl, by simp; rintro rfl; rw [hxj] at hyj; have := hiff.2 (Option.some.inj hyj); cases this⟩, rfl⟩
      | true =>
        have hwv := hiff.1 rfl
        (conv => whnf)
        refine ⟨k - 1, by omega, j + 1, by omega, ?_, ?_, rfl⟩
        · have hw : IntKind.i64.wrap ((j : Int) + 1) = ((j + 1 : Nat) : Int) := by rw [IntKind.wrap_i64]; omega
          rw [← hw]
          rfl
        · rw [List.take_add_one, List.take_add_one, hxj, hyj, htk, hwv]
    · have hj : j = x.length := by have := of_decide_eq_false h; omega
      subst hj
      have hxy : x = y := by
        rw [List.take_length] at htk
        rw [htk, heq, List.take_length]
      (conv => whnf)
      exact ⟨⟨true, rfl, by simp [hxy]⟩, rfl⟩
theorem nums10 (k y x f o n p d l a : Int) (ab : Bool) (nm : ByteArray) (S : Value) (F : Heap) (hS : S.oneCell' = true) :
    FnK Try.prog 47 #[.agg (cmdC k y x f o n p d l a ab nm S)] F (fun v F' => v = .agg #[.int .i64 k, .int .i64 y, .int .i64 x, .int .i64 f, .int .i64 o, .int .i64 n, .int .i64 p, .int .i64 d, .int .i64 l, .int .i64 a] ∧ Ext F F') := by
  have o1 : ∀ v ∈ [Value.int .i64 k, .int .i64 y, .int .i64 x, .int .i64 f, .int .i64 o, .int .i64 n, .int .i64 p, .int .i64 d, .int .i64 l, .int .i64 a], v.oneCell' = true := by simp [Value.oneCell']
  (refine fn_walk tab_ok Try.func47 rfl rfl rfl rfl ?_; (conv => whnf))
  refine new_step (cmdO k y x f o n p d l a ab nm S) rfl fun b hb => ?_
  have hE := Ext.new hb (cmdO k y x f o n p d l a ab nm S)
  have hB := Heap.put_same F b (cmdO k y x f o n p d l a ab nm S)
  generalize F.put b _ = F1 at hE hB ⊢
  (conv => whnf)
  refine new_step (.cells #[.int .i64 0, .int .i64 0, .int .i64 0, .int .i64 0, .int .i64 0, .int .i64 0, .int .i64 0, .int .i64 0, .int .i64 0, .int .i64 0] 84) rfl fun q hq => ?_
  have hE2 := Ext.new hq (.cells #[.int .i64 0, .int .i64 0, .int .i64 0, .int .i64 0, .int .i64 0, .int .i64 0, .int .i64 0, .int .i64 0, .int .i64 0, .int .i64 0] 84)
  have hB2 := hE2 _ _ hB
  have hQ := Heap.put_same F1 q (.cells #[.int .i64 0, .int .i64 0, .int .i64 0, .int .i64 0, .int .i64 0, .int .i64 0, .int .i64 0, .int .i64 0, .int .i64 0, .int .i64 0] 84)
  generalize F1.put q _ = F2 at hE2 hB2 hQ ⊢
  (conv => whnf)
  refine load_blk hB2 rfl rfl ?_
  (conv => whnf)
  refine load_blk hB2 rfl rfl ?_
  (conv => whnf)
  refine load_blk hB2 rfl rfl ?_
  (conv => whnf)
  refine load_blk hB2 rfl rfl ?_
  (conv => whnf)
  refine load_blk hB2 rfl rfl ?_
  (conv => whnf)
  refine load_blk hB2 rfl rfl ?_
  (conv => whnf)
  refine load_blk hB2 rfl rfl ?_
  (conv => whnf)
  refine load_blk hB2 rfl rfl ?_
  (conv => whnf)
  refine load_blk hB2 rfl rfl ?_
  (conv => whnf)
  refine load_blk hB2 rfl rfl ?_
  (conv => whnf)
  refine store_step q 0 _ #[.int .i64 k, .int .i64 y, .int .i64 x, .int .i64 f, .int .i64 o, .int .i64 n, .int .i64 p, .int .i64 d, .int .i64 l, .int .i64 a] rfl hQ rfl rfl (.inl (Nat.le_refl 0)) o1 ?_
  (conv => whnf)
  refine res_cells tab_ok rfl rfl (Heap.put_same _ _ _) rfl ?_
  (conv => whnf)
  exact ⟨rfl, hE.trans (fun c u hc => by
    have hne : c ≠ q := fun e => by rw [e, hq] at hc; cases hc
    rw [Heap.put_other _ _ hne]
    exact hE2 c u hc)⟩
end Go.Proofs.Ytbgijjoemnfnmaa.Al
/- The contracts of strings.Builder's copyCheck, WriteByte and String, over what is known of memory, for a builder of the call's own. -/
namespace Go.Proofs.Ytbgijjoemnfnmaa.Al
open Go Go.Al Go.Proofs Go.RowKit
set_option maxHeartbeats 8000000
set_option maxRecDepth 100000
set_option linter.unusedVariables false
set_option linter.unusedSimpArgs false
theorem copyCheck_fresh (b : Nat) (w : World) (h0 : w.cell? ⟨b, 0, none⟩ = some (.pointer none)) (hsh : w.shape? b = some (98, 2)) (hfz : w.frozen? ⟨b, 0, none⟩ = false) :
    Calls Try.prog 73 #[.pointer (some ⟨b, 0, none⟩)] w fun e w' => e = .returned (.tuple #[]) ∧ w' = w.setCell ⟨b, 0, none⟩ (.pointer (some ⟨b, 0, none⟩)) := by
  obtain ⟨j, hj, hjs⟩ := Option.map_eq_some_iff.1 (show (Try.prog.info? 98).map (·.size) = some 2 by kernel_rfl)
  go_enter Try.func73, Try.ntmps73
  go_wp2
  rw [Lib.run_to_unsafe w ⟨b, 0, none⟩ Try.underlying96 Try.underlying116 hj (by rw [hjs]; decide) hsh (Nat.zero_lt_succ 1)]
  simp only [Result.andThen]
  rw [Oper.upon_value]
  go_wp2
  rw [run_callFunc_extern Try.func85 (by kernel_rfl) (by kernel_rfl) (by kernel_rfl) (e := Extern.AbiNoEscape.same) (by kernel_rfl)]
  rw [Lib.run_noEscape]
  simp only [Result.andThen]
  rw [Oper.upon_value]
  go_wp2
  rw [Lib.run_from_unsafe w ⟨b, 0, none⟩ Try.underlying116 Try.underlying96 hj hsh (by kernel_rfl)]
  simp only [Result.andThen]
  rw [Oper.upon_value]
  go_wp2
  go_end0
  exact ⟨rfl, rfl⟩
theorem copyCheck_used (b : Nat) (w : World) (h0 : w.cell? ⟨b, 0, none⟩ = some (.pointer (some ⟨b, 0, none⟩))) :
    Calls Try.prog 73 #[.pointer (some ⟨b, 0, none⟩)] w fun e w' => e = .returned (.tuple #[]) ∧ w' = w := by
  obtain ⟨j, hj, _⟩ := Option.map_eq_some_iff.1 (show (Try.prog.info? 98).map (·.size) = some 2 by kernel_rfl)
  go_enter Try.func73, Try.ntmps73
  go_wp2
  rw [Lib.run_neq_ptr_same w _ Try.underlying96 hj]
  go_wp2
  go_end0
  exact ⟨rfl, rfl⟩
theorem copyCheck (F : Heap) (b : Nat) (p : Option Addr) (v : Value) (hp : p = none ∨ p = some ⟨b, 0, none⟩) (hb : F b = some (.cells #[.pointer p, v] 98)) :
    FnK Try.prog 73 #[.pointer (some ⟨b, 0, none⟩)] F (fun r F' => r = .tuple #[] ∧ F' = F.put b (.cells #[.pointer (some ⟨b, 0, none⟩), v] 98)) := by
  refine ⟨⟨_, Try.func73, rfl, rfl⟩, fun w hw => ?_⟩
  have hbw := hw _ _ hb
  rcases hp with rfl | rfl
  · refine (copyCheck_fresh b w (by simp [World.cell?, hbw]) (by simp [World.shape?, hbw]) (by simp [World.frozen?, hbw])).mono ?_
    rintro e w' ⟨rfl, rfl⟩
    have hc : F.cell? ⟨b, 0, none⟩ = some (.pointer none) := by simp [Heap.cell?, hb]
    refine ⟨_, _, rfl, hw.setCell hc _, (Go.Al.Rest.modify _ _ rfl : Go.Al.Rest w (w.setCell _ _)), rfl, ?_⟩
    rw [Heap.setCell_of (a := ⟨b, 0, none⟩) hb]
    rfl
  · refine (copyCheck_used b w (by simp [World.cell?, hbw])).mono ?_
    rintro e w' ⟨rfl, rfl⟩
    refine ⟨_, F, rfl, hw, Rest.refl _, rfl, ?_⟩
    funext c
    unfold Heap.put
    split
    · next h => subst h; exact hb
    · rfl
theorem writeByte (F : Heap) (b : Nat) (p : Option Addr) (v : Value) (n : Nat) (bs : List Value) (c : Int) (hp : p = none ∨ p = some ⟨b, 0, none⟩) (hb : F b = some (.cells #[.pointer p, v] 98)) (hv : Own F v 5 1 n bs) (hne : blk v ≠ some b) (hn : n ≤ 1099511627776) :
    FnK Try.prog 66 #[.pointer (some ⟨b, 0, none⟩), .int .u8 c] F (fun r F' => r = .nilIface ∧ ∃ v', F' b = some (.cells #[.pointer (some ⟨b, 0, none⟩), v'] 98) ∧ Own F' v' 5 1 (n + 1) (bs ++ [.int .u8 c]) ∧ blk v' ≠ some b ∧
      (∀ k o, F k = some o → k ≠ b → blk v ≠ some k → F' k = some o) ∧ (∀ k, blk v' = some k → blk v = some k ∨ F k = none)) := by
  (refine fn_walk tab_ok Try.func66 rfl rfl rfl rfl ?_; (conv => whnf))
  refine call_of (copyCheck F b p v hp hb) ?_
  rintro r _ ⟨rfl, rfl⟩
  (conv => whnf)
  refine load_blk (Heap.put_same _ _ _) rfl rfl ?_
  (conv => whnf)
  refine new_step (.cells #[.int .u8 c] 5) rfl fun g hg => ?_
  have hgb : g ≠ b := by
    rintro rfl
    rw [Heap.put_same] at hg
    cases hg
  have hFg : F g = none := by rw [Heap.put_other F _ hgb] at hg; exact hg
  (conv => whnf)
  refine append_own tab_ok rfl rfl rfl rfl rfl ⟨_, rfl, fun k h => by cases h⟩ ⟨_, rfl, rfl⟩ (by decide) (s := v) (y := .slice (some ⟨g, 0, none⟩) 1 1) (n := n) (m := 1) (xs := bs) (ys := [.int .u8 c])
    (hv.of_blk fun k o hk ho => ?_) ⟨rfl, .inl ⟨_, _, rfl, fun j u hj => ⟨_, rfl, ?_⟩⟩⟩ (fun u hu => by rw [List.mem_singleton.1 hu]; rfl) (by show 2 * (n + 1) * 1 ≤ _; omega) fun s' F2 h1 h2 h3 => ?_
  · have hkb : k ≠ b := fun e => hne (by rw [hk, e])
    have hkg : k ≠ g := fun e => by rw [e, hFg] at ho; cases ho
    rw [Heap.put_other _ _ hkg, Heap.put_other _ _ hkb]
    exact ho
  · rw [add_plain, Heap.cell_at (Heap.put_same _ _ _)]
    cases j with
    | zero => simpa using hj
    | succ j => simp at hj
  · obtain ⟨A, c', rfl, hnc, _⟩ := h1.row
    have hb2 : F2 b = some (.cells #[.pointer (some ⟨b, 0, none⟩), v] 98) := h2 b _ (by rw [Heap.put_other _ _ (Ne.symm hgb)]; exact Heap.put_same _ _ _) hne
    (conv => whnf)
    refine store_step b 1 _ #[.pointer (some ⟨b, 0, none⟩), .slice A (n + 1) c'] rfl hb2 rfl rfl (.inl (Nat.le_refl _)) (fun u hu => by rw [List.mem_singleton.1 hu]; rfl) ?_
    (conv => whnf)
    have hs'b : blk (.slice A (n + 1) c') ≠ some b := fun e => by
      rcases h3 b e with h | h
      · exact hne h
      · rw [Heap.put_other _ _ (Ne.symm hgb), Heap.put_same] at h; cases h
    refine ⟨rfl, .slice A (n + 1) c', Heap.put_same _ _ _, h1.of_blk fun k o hk ho => ?_, hs'b, fun k o ho hkb hkv => ?_, fun k hk => ?_⟩
    · rw [Heap.put_other _ _ (fun e => hs'b (by rw [hk, e]))]; exact ho
    · have hkg : k ≠ g := fun e => by rw [e, hFg] at ho; cases ho
      show (F2.put b _) k = _
      rw [Heap.put_other _ _ hkb]
      refine h2 k o ?_ hkv
      rw [Heap.put_other _ _ hkg, Heap.put_other _ _ hkb]
      exact ho
    · rcases h3 k hk with h | h
      · exact .inl h
      · right
        have hkb : k ≠ b := fun e => hs'b (by rw [hk, e])
        cases hFk : F k with
        | none => rfl
        | some o =>
          have hkg : k ≠ g := fun e => by rw [e, hFg] at hFk; cases hFk
          rw [Heap.put_other _ _ hkg, Heap.put_other _ _ hkb, hFk] at h
          cases h
def cellsOf (l : List UInt8) : List Value := l.map fun x => .int .u8 x.toNat
theorem string (F : Heap) (b : Nat) (p : Value) (v : Value) (l : List UInt8) (h0 : l ≠ []) (hl : l.length ≤ 1099511627776) (hb : F b = some (.cells #[p, v] 98)) (hv : Own F v 5 1 l.length (cellsOf l)) (hne : blk v ≠ some b) :
    FnK Try.prog 63 #[.pointer (some ⟨b, 0, none⟩)] F (fun r F' => r = .string ⟨l.toArray⟩ ∧ Keeps F F' (blk v)) := by
  have hl0 : l.length ≠ 0 := by simpa using h0
  obtain ⟨g, c, cs, rfl, ⟨fz, hg, hfz⟩, hcs, hle, ht⟩ : ∃ g c cs, v = .slice (some ⟨g, 0, none⟩) l.length c ∧ Live F g cs 5 ∧ cs.size = c * 1 ∧ l.length ≤ c ∧ cs.toList.take (l.length * 1) = cellsOf l := by
    rcases hv.2 with ⟨_, h⟩ | h
    · exact absurd h hl0
    · exact h
  rw [Nat.mul_one] at hcs ht
  (refine fn_walk tab_ok Try.func63 rfl rfl rfl rfl ?_; (conv => whnf))
  refine draw_walk tab_ok (by kernel_rfl) [0, 1, 2, 3, 5, 6, 7, 8, 9, 4, 10, 11] (by kernel_rfl) ?_
  (conv => whnf)
  refine load_blk hb rfl rfl ?_
  (conv => whnf)
  refine load_blk hb rfl rfl ?_
  (conv => whnf)
  refine op_builtin rfl [.slice (some ⟨g, 0, none⟩) l.length c] rfl F (Builtin.unsafeSliceData_ #[52] 110 #[.slice (some ⟨g, 0, none⟩) l.length c]) (.pointer (some ⟨g, 0, none⟩)) (fun _ => rfl) (fun w hw => ⟨w, Lib.run_unsafeSliceData_row w _ _ _ _ _ (by omega), hw, Go.Al.Rest.refl w⟩) ?_
  (conv => whnf)
  refine ⟨Ext.refl F, ?_⟩
  (conv => whnf)
  have hUS : ∀ w, Has F w → ∃ w', (Builtin.unsafeString_ #[110, 3] 9 #[.pointer (some ⟨g, 0, none⟩), .int .i64 l.length]).run Try.prog w = .ok (.string ⟨l.toArray⟩) w' ∧ Has (F.freeze ⟨g, 0, none⟩ l.length) w' ∧ Go.Al.Rest w w' := fun w hw => by
    refine ⟨w.freeze ⟨g, 0, none⟩ l.length, Lib.run_unsafeString_row w 110 3 9 5 Try.underlying110 (by kernel_rfl) g cs.size (by simp [World.shape?, hw _ _ hg]) l h0 (by omega) (by omega) (fun j x hx => ?_), hw.freeze (a := ⟨g, 0, none⟩) _ hg, ?_⟩
    · have : (cellsOf l)[j]? = some (.int .u8 x.toNat) := by simp [cellsOf, hx]
      rw [← ht, List.getElem?_take] at this
      split at this
      · rw [add_plain]
        simp only [World.cell?, hw _ _ hg, Nat.zero_add]
        simpa using this
      · cases this
    · unfold World.freeze
      split
      · exact Go.Al.Rest.refl w
      · exact Go.Al.Rest.modify _ _ rfl
  refine op_builtin rfl [.pointer (some ⟨g, 0, none⟩), .int .i64 l.length] rfl _ _ _ (fun _ => rfl) hUS ?_
  (conv => whnf)
  refine ⟨rfl, fun k o hk hne' => ?_⟩
  unfold Heap.freeze
  rw [if_neg hl0, hg]
  dsimp only
  rw [Heap.put_other _ _ (fun e => hne' (by rw [e]; rfl))]
  exact hk
end Go.Proofs.Ytbgijjoemnfnmaa.Al
/- The contracts of amount.reverse and amount.Text, over what is known of memory. -/
namespace Go.Proofs.Ytbgijjoemnfnmaa.Al
open Go Go.Al Go.Proofs Go.RowKit
set_option maxHeartbeats 8000000
set_option maxRecDepth 100000
set_option linter.unusedVariables false
set_option linter.unusedSimpArgs false
/-- The digits of a number, the last one first. -/
def digsR (m : Nat) : List UInt8 := if h : m < 10 then [UInt8.ofNat (48 + m)] else UInt8.ofNat (48 + m % 10) :: digsR (m / 10)
  termination_by m
  decreasing_by omega
theorem digsR_step (m : Nat) : digsR m = UInt8.ofNat (48 + m % 10) :: (if m / 10 = 0 then [] else digsR (m / 10)) := by
  rw [digsR]
  split
  · next h => rw [if_pos (by omega), Nat.mod_eq_of_lt h]
  · next h => rw [if_neg (by omega)]
theorem digsR_len (m : Nat) : 0 < (digsR m).length := by rw [digsR_step]; simp
theorem digsR_le (m : Nat) : (digsR m).length ≤ m + 1 := by
  induction m using Nat.strongRecOn with
  | _ m ih =>
    rw [digsR_step]
    split
    · simp
    · have := ih (m / 10) (by omega)
      simp only [List.length_cons]
      omega
theorem digsR_log (k m : Nat) (h : m < 10 ^ (k + 1)) : (digsR m).length ≤ k + 1 := by
  induction k generalizing m with
  | zero => rw [digsR_step, if_pos (by omega)]; simp
  | succ k ih =>
    rw [digsR_step]
    split
    · simp
    · have := ih (m / 10) (by rw [Nat.pow_succ] at h; omega)
      simp only [List.length_cons]
      omega
theorem tmod_neg (k : Nat) : (-(k : Int)).tmod 10 = -((k % 10 : Nat) : Int) := by rw [Int.neg_tmod, Int.tmod_eq_emod_of_nonneg (by omega)]; rfl
theorem tdiv_neg (k : Nat) : (-(k : Int)).tdiv 10 = -((k / 10 : Nat) : Int) := by rw [Int.neg_tdiv, Int.tdiv_eq_ediv_of_nonneg (by omega)]; rfl
theorem digit_val (k : Nat) : IntKind.u8.wrap (IntKind.i64.wrap (48 - (-(k : Int)).tmod 10)) = ((UInt8.ofNat (48 + k % 10)).toNat : Int) := by
  rw [tmod_neg]
  have h : k % 10 < 10 := Nat.mod_lt _ (by decide)
  generalize k % 10 = d at h
  have h2 : (UInt8.ofNat (48 + d)).toNat = 48 + d := by rw [UInt8.toNat_ofNat']; omega
  rw [h2]
  obtain rfl | rfl | rfl | rfl | rfl | rfl | rfl | rfl | rfl | rfl : d = 0 ∨ d = 1 ∨ d = 2 ∨ d = 3 ∨ d = 4 ∨ d = 5 ∨ d = 6 ∨ d = 7 ∨ d = 8 ∨ d = 9 := by omega
  all_goals decide
theorem div_val (k : Nat) (hk : k ≤ 9223372036854775808) : IntKind.i64.wrap ((-(k : Int)).tdiv 10) = -((k / 10 : Nat) : Int) := by
  rw [tdiv_neg, IntKind.wrap_i64]
  omega
theorem reverse (m : Nat) (hm : m ≤ 9223372036854775808) (F : Heap) : FnK Try.prog 67 #[.int .i64 (-(m : Int))] F (fun r F' => Mine F F' r 5 1 (digsR m).length (cellsOf (digsR m))) := by
  (refine fn_walk tab_ok Try.func67 rfl rfl rfl rfl ?_; (conv => whnf))
  refine ⟨by decide, ?_⟩
  (conv => whnf)
  refine new_step (.cells #[.int .u8 ((UInt8.ofNat (48 + m % 10)).toNat : Int)] 5) (by rw [← digit_val]; rfl) fun g hg => ?_
  (conv => whnf)
  refine ⟨by decide, ?_⟩
  (conv => whnf)
  refine loop_slots [0, 3] (fun k vs F' => ∃ s acc, vs = [.int .i64 (-(k : Int)), s] ∧ Mine F F' s 5 1 acc.length (cellsOf acc) ∧ acc ++ (if k = 0 then [] else digsR k) = digsR m ∧ k ≤ 922337203685477580) (m / 10) ?_ ?_
  · refine ⟨.slice (some ⟨g, 0, none⟩) 1 1, [UInt8.ofNat (48 + m % 10)], ?_, mine_new (Ext.refl F) hg rfl, (digsR_step m).symm, by omega⟩
    rw [← div_val m hm]
    rfl
  · rintro k vs F' ρ ⟨s, acc, rfl, hs, hacc, hk⟩
    have hlen : (acc ++ if k = 0 then [] else digsR k).length ≤ 19 := by
      rw [hacc]
      have := digsR_log 18 m (by omega)
      omega
    rw [List.length_append] at hlen
    (conv => whnf)
    refine cond_split (fun h => ?_) (fun h => ?_)
    · have hk0 : k ≠ 0 := by rintro rfl; simp at h
      rw [if_neg hk0] at hacc
      (conv => whnf)
      refine ⟨by decide, ?_⟩
      (conv => whnf)
      refine new_step (.cells #[.int .u8 ((UInt8.ofNat (48 + k % 10)).toNat : Int)] 5) (by rw [← digit_val]; rfl) fun g' hg' => ?_
      (conv => whnf)
      refine append_mine tab_ok rfl rfl rfl rfl rfl ⟨_, rfl, fun k h => by cases h⟩ ⟨_, rfl, rfl⟩ (by decide) (s := s) (y := .slice (some ⟨g', 0, none⟩) 1 1) (n := acc.length) (m := 1) (xs := cellsOf acc) (ys := [.int .u8 ((UInt8.ofNat (48 + k % 10)).toNat : Int)])
        (hs.mono (Ext.new hg' _)) ⟨rfl, .inl ⟨_, _, rfl, fun j u hj => ⟨_, rfl, ?_⟩⟩⟩ (fun u hu => by rw [List.mem_singleton.1 hu]; rfl) (by show 2 * (acc.length + 1) * 1 ≤ _; omega) fun s' F2 h1 h2 => ?_
      · rw [add_plain, Heap.cell_at (Heap.put_same _ _ _)]
        cases j with
        | zero => simpa using hj
        | succ j => simp at hj
      · (conv => whnf)
        refine ⟨by decide, ?_⟩
        (conv => whnf)
        refine ⟨k / 10, by omega, s', acc ++ [UInt8.ofNat (48 + k % 10)], ?_, ?_, ?_, by omega⟩
        · rw [← div_val k (by omega)]
          rfl
        · have e1 : cellsOf (acc ++ [UInt8.ofNat (48 + k % 10)]) = cellsOf acc ++ [.int .u8 ((UInt8.ofNat (48 + k % 10)).toNat : Int)] := by simp [cellsOf]
          rw [e1, List.length_append]
          exact h1
        · rw [← hacc, digsR_step k, List.append_assoc]
          rfl
    · have hk0 : k = 0 := by simpa using h
      subst hk0
      rw [if_pos rfl, List.append_nil] at hacc
      subst hacc
      (conv => whnf)
      exact hs
/-- A number in digits. -/
def txt (n : Int) : List UInt8 := if n < 0 then 45 :: (digsR n.natAbs).reverse else (digsR n.natAbs).reverse
/-- The rest of Text: the digits, the last one first, and the string. -/
theorem take_rev (ds : List UInt8) (j : Nat) (hj : j < ds.length) (x : UInt8) (hx : ds[ds.length - 1 - j]? = some x) : ds.reverse.take (j + 1) = ds.reverse.take j ++ [x] := by
  rw [List.take_add_one]
  congr 1
  rw [List.getElem?_reverse hj, hx]
  rfl
/-- A builder of the call's own that holds pre, beside a row of the call's own. -/
structure St (F F1 : Heap) (b : Nat) (pre : List UInt8) (sl : Value) (ds : List UInt8) : Prop where
  ext : Ext F F1
  fresh : F b = none
  own : ∃ p v, F1 b = some (.cells #[.pointer p, v] 98) ∧ (p = none ∨ p = some ⟨b, 0, none⟩) ∧ Own F1 v 5 1 pre.length (cellsOf pre) ∧ blk v ≠ some b ∧ (∀ k, blk v = some k → F k = none ∧ blk sl ≠ some k)
  row : Own F1 sl 5 1 ds.length (cellsOf ds)
  other : blk sl ≠ some b
theorem own_blk {F : Heap} {s : Value} {e z n : Nat} {vs : List Value} (h : Own F s e z n vs) {k : Nat} (hk : blk s = some k) : ∃ o, F k = some o := by
  rcases h.2 with ⟨rfl, _⟩ | ⟨b, c, cs, rfl, ⟨_, hb, _⟩, _⟩
  · cases hk
  · obtain rfl : b = k := Option.some.inj hk
    exact ⟨_, hb⟩
theorem write (F F1 : Heap) (b : Nat) (pre : List UInt8) (sl : Value) (ds : List UInt8) (x : UInt8) (c : Int) (hc : c = (x.toNat : Int)) (h : St F F1 b pre sl ds) (hl : pre.length ≤ 1099511627776) :
    FnK Try.prog 66 #[.pointer (some ⟨b, 0, none⟩), .int .u8 c] F1 (fun r F2 => r = .nilIface ∧ St F F2 b (pre ++ [x]) sl ds) := by
  subst hc
  obtain ⟨p, v, h1, h2, h3, h4, h5⟩ := h.own
  refine (writeByte F1 b p v pre.length (cellsOf pre) _ h2 h1 h3 h4 hl).mono ?_
  rintro r F2 ⟨rfl, v', g1, g2, g3, g4, g5⟩
  have e1 : cellsOf (pre ++ [x]) = cellsOf pre ++ [.int .u8 x.toNat] := by simp [cellsOf]
  refine ⟨rfl, fun k o hk => ?_, h.fresh, ⟨_, v', g1, .inr rfl, by rw [e1, List.length_append]; exact g2, g3, fun k hk => ?_⟩, h.row.of_blk fun k o hk ho => ?_, h.other⟩
  · refine g4 k o (h.ext k o hk) (fun e => ?_) fun e => ?_
    · rw [e, h.fresh] at hk; cases hk
    · rw [(h5 k e).1] at hk; cases hk
  · rcases g5 k hk with e | e
    · exact h5 k e
    · refine ⟨?_, fun hs => ?_⟩
      · cases e0 : F k with
        | none => rfl
        | some o => rw [h.ext k o e0] at e; cases e
      · obtain ⟨o, ho⟩ := own_blk h.row hs
        rw [e] at ho; cases ho
  · exact g4 k o ho (fun e => h.other (by rw [hk, e])) fun e => (h5 k e).2 hk
theorem St.rev {F F1 F2 : Heap} {b : Nat} {pre ds : List UInt8} {sl : Value} (h : St F F1 b pre (.slice none 0 0) []) (hm : Mine F1 F2 sl 5 1 ds.length (cellsOf ds)) : St F F2 b pre sl ds := by
  obtain ⟨p, v, h1, h2, h3, h4, h5⟩ := h.own
  refine ⟨h.ext.trans hm.ext, h.fresh, ⟨p, v, hm.ext _ _ h1, h2, h3.of_blk fun k o _ ho => hm.ext _ _ ho, h4, fun k hk => ⟨(h5 k hk).1, fun hs => ?_⟩⟩, hm.own, fun hs => ?_⟩
  · obtain ⟨o, ho⟩ := own_blk h3 hk
    rw [hm.fresh k hs] at ho; cases ho
  · rw [hm.fresh b hs] at h1; cases h1
theorem text (n : Int) (h0 : -9223372036854775808 ≤ n) (h1 : n < 9223372036854775808) (F : Heap) : FnK Try.prog 51 #[.int .i64 n] F (fun r F' => r = .string ⟨(txt n).toArray⟩ ∧ Ext F F') := by
  obtain ⟨m, hm, hmn⟩ : ∃ m : Nat, m ≤ 9223372036854775808 ∧ n.natAbs = m := ⟨n.natAbs, by omega, rfl⟩
  have hlen : (digsR m).length ≤ 19 := digsR_log 18 m (by omega)
  have hpos := digsR_len m
  (refine fn_walk tab_ok Try.func51 rfl rfl rfl rfl ?_; (conv => whnf))
  refine new_step (.cells #[.pointer none, .slice none 0 0] 98) rfl fun b hb => ?_
  have hst : St F (F.put b (.cells #[.pointer none, .slice none 0 0] 98)) b [] (.slice none 0 0) [] :=
    ⟨Ext.new hb _, hb, ⟨none, _, Heap.put_same _ _ _, .inl rfl, ⟨rfl, .inl ⟨rfl, rfl⟩⟩, by simp [blk], fun k hk => by cases hk⟩, ⟨rfl, .inl ⟨rfl, rfl⟩⟩, by simp [blk]⟩
  (conv => whnf)
  refine cond_split (fun h => ?_) (fun h => ?_)
  · have hn : n < 0 := by simpa using h
    obtain rfl : n = -(m : Int) := by omega
    have htxt : txt (-(m : Int)) = [45] ++ (digsR m).reverse := by unfold txt; rw [if_pos hn, hmn]; rfl
    (conv => whnf)
    refine call_of (write F _ b [] _ [] 45 45 rfl hst (by decide)) ?_
    rintro r F1 ⟨rfl, hst⟩
    (conv => whnf)
    refine call_of (reverse m hm F1) ?_
    rintro sl F2 hsl
    replace hst := hst.rev hsl
    obtain ⟨A, c, rfl, hnc, hrow⟩ := hsl.own.row
    obtain ⟨ad, rfl⟩ := hrow.some (by simpa [cellsOf] using hpos)
    (conv => whnf)
    refine loop_slots [3, 4, 14, 15] (fun k vs F' => ∃ j : Nat, vs = [.pointer (some ⟨b, 0, none⟩), .slice (some ad) (digsR m).length c, .int .i64 ((digsR m).length : Int), .int .i64 (j : Int)] ∧ j + k = (digsR m).length ∧ St F F' b (([45] : List UInt8) ++ (digsR m).reverse.take j) (.slice (some ad) (digsR m).length c) (digsR m)) (digsR m).length ⟨0, rfl, by omega, by simpa using hst⟩ ?_
    rintro k vs F' ρ ⟨j, rfl, hjk, hst⟩
    have hpl : (([45] : List UInt8) ++ (digsR m).reverse.take j).length ≤ 20 := by
      rw [List.length_append, List.length_take, List.length_reverse]
      simp only [List.length_cons, List.length_nil]
      omega
    (conv => whnf)
    refine cond_split (fun h => ?_) (fun h => ?_)
    · have hj : j < (digsR m).length := by have := of_decide_eq_true h; omega
      have hw : IntKind.i64.wrap (IntKind.i64.wrap (((digsR m).length : Int) - 1) - (j : Int)) = (((digsR m).length - 1 - j : Nat) : Int) := by
        rw [IntKind.wrap_i64, IntKind.wrap_i64]
        omega
      obtain ⟨x, hx⟩ : ∃ x, (digsR m)[(digsR m).length - 1 - j]? = some x := ⟨_, List.getElem?_eq_getElem (by omega)⟩
      obtain ⟨A', c', e', _, hrow'⟩ := hst.row.row
      cases e'
      (conv => whnf)
      refine ⟨⟨by rw [hw]; omega, by rw [hw]; omega⟩, ?_⟩
      (conv => whnf)
      refine load_step (v := .int .u8 (x.toNat : Int)) ?_ ?_
      · show F'.cell? (ad.add ((IntKind.i64.wrap (IntKind.i64.wrap (((digsR m).length : Int) - 1) - (j : Int))).toNat * 1)) = _
        rw [hw, Nat.mul_one, Int.toNat_natCast]
        exact hrow'.cell (by simp [cellsOf, hx])
      · (conv => whnf)
        refine call_of (write F _ b _ _ _ x _ rfl hst (by omega)) ?_
        rintro r F3 ⟨rfl, hst⟩
        (conv => whnf)
        refine ⟨k - 1, by omega, j + 1, ?_, by omega, ?_⟩
        · have hw1 : IntKind.i64.wrap ((j : Int) + 1) = ((j + 1 : Nat) : Int) := by rw [IntKind.wrap_i64]; omega
          rw [← hw1]
          rfl
        · rw [take_rev _ j hj x hx, ← List.append_assoc]
          exact hst
    · have hj : j = (digsR m).length := by have := of_decide_eq_false h; omega
      subst hj
      rw [List.take_of_length_le (by simp)] at hst hpl
      obtain ⟨p, v, g1, g2, g3, g4, g5⟩ := hst.own
      (conv => whnf)
      refine call_of (string F' b _ v _ (by simp; try (intro e; rw [e] at hpos; cases hpos)) (by omega) g1 g3 g4) ?_
      rintro r F4 ⟨rfl, hkeep⟩
      (conv => whnf)
      exact ⟨by rw [htxt]; rfl, hkeep.ext hst.ext fun k hk => (g5 k hk).1⟩
  · have hn : ¬ n < 0 := by simpa using h
    obtain rfl : n = (m : Int) := by omega
    have htxt : txt (m : Int) = ([] : List UInt8) ++ (digsR m).reverse := by unfold txt; rw [if_neg hn, hmn]; rfl
    have hneg : IntKind.i64.wrap (0 - (m : Int)) = -(m : Int) := by rw [IntKind.wrap_i64]; omega
    (conv => whnf)
    rw [hneg]
    refine call_of (reverse m hm _) ?_
    rintro sl F2 hsl
    replace hst := hst.rev hsl
    obtain ⟨A, c, rfl, hnc, hrow⟩ := hsl.own.row
    obtain ⟨ad, rfl⟩ := hrow.some (by simpa [cellsOf] using hpos)
    (conv => whnf)
    refine loop_slots [3, 4, 14, 15] (fun k vs F' => ∃ j : Nat, vs = [.pointer (some ⟨b, 0, none⟩), .slice (some ad) (digsR m).length c, .int .i64 ((digsR m).length : Int), .int .i64 (j : Int)] ∧ j + k = (digsR m).length ∧ St F F' b (([] : List UInt8) ++ (digsR m).reverse.take j) (.slice (some ad) (digsR m).length c) (digsR m)) (digsR m).length ⟨0, rfl, by omega, by simpa using hst⟩ ?_
    rintro k vs F' ρ ⟨j, rfl, hjk, hst⟩
    have hpl : (([] : List UInt8) ++ (digsR m).reverse.take j).length ≤ 20 := by
      rw [List.length_append, List.length_take, List.length_reverse]
      simp only [List.length_cons, List.length_nil]
      omega
    (conv => whnf)
    refine cond_split (fun h => ?_) (fun h => ?_)
    · have hj : j < (digsR m).length := by have := of_decide_eq_true h; omega
      have hw : IntKind.i64.wrap (IntKind.i64.wrap (((digsR m).length : Int) - 1) - (j : Int)) = (((digsR m).length - 1 - j : Nat) : Int) := by
        rw [IntKind.wrap_i64, IntKind.wrap_i64]
        omega
      obtain ⟨x, hx⟩ : ∃ x, (digsR m)[(digsR m).length - 1 - j]? = some x := ⟨_, List.getElem?_eq_getElem (by omega)⟩
      obtain ⟨A', c', e', _, hrow'⟩ := hst.row.row
      cases e'
      (conv => whnf)
      refine ⟨⟨by rw [hw]; omega, by rw [hw]; omega⟩, ?_⟩
      (conv => whnf)
      refine load_step (v := .int .u8 (x.toNat : Int)) ?_ ?_
      · show F'.cell? (ad.add ((IntKind.i64.wrap (IntKind.i64.wrap (((digsR m).length : Int) - 1) - (j : Int))).toNat * 1)) = _
        rw [hw, Nat.mul_one, Int.toNat_natCast]
        exact hrow'.cell (by simp [cellsOf, hx])
      · (conv => whnf)
        refine call_of (write F _ b _ _ _ x _ rfl hst (by omega)) ?_
        rintro r F3 ⟨rfl, hst⟩
        (conv => whnf)
        refine ⟨k - 1, by omega, j + 1, ?_, by omega, ?_⟩
        · have hw1 : IntKind.i64.wrap ((j : Int) + 1) = ((j + 1 : Nat) : Int) := by rw [IntKind.wrap_i64]; omega
          rw [← hw1]
          rfl
        · rw [take_rev _ j hj x hx, ← List.append_assoc]
          exact hst
    · have hj : j = (digsR m).length := by have := of_decide_eq_false h; omega
      subst hj
      rw [List.take_of_length_le (by simp)] at hst hpl
      obtain ⟨p, v, g1, g2, g3, g4, g5⟩ := hst.own
      (conv => whnf)
      refine call_of (string F' b _ v _ (by simp; try (intro e; rw [e] at hpos; cases hpos)) (by omega) g1 g3 g4) ?_
      rintro r F4 ⟨rfl, hkeep⟩
      (conv => whnf)
      exact ⟨by rw [htxt]; rfl, hkeep.ext hst.ext fun k hk => (g5 k hk).1⟩
end Go.Proofs.Ytbgijjoemnfnmaa.Al
/- The contracts of strings.Builder's Grow and WriteString, and of strings.Join of two texts, over what is known of memory. -/
namespace Go.Proofs.Ytbgijjoemnfnmaa.Al
open Go Go.Al Go.Proofs Go.RowKit
set_option maxHeartbeats 8000000
set_option maxRecDepth 100000
set_option linter.unusedVariables false
set_option linter.unusedSimpArgs false
theorem makeNoZero {F : Heap} {K : Value → Heap → Prop} (n : Nat) (x : Int) (hx : x = n) (hn : n ≤ 281474976710656) (h : ∀ g cs N, F g = none → n ≤ N → cs.size = N → K (.slice (some ⟨g, 0, none⟩) n N) (F.put g (.cells cs 5))) :
    CallK Try.prog 86 #[.int .i64 x] F K := by
  subst hx
  refine ⟨?_⟩
  have e1 : ∃ fn, Try.prog.funcs[86]? = some fn ∧ (fn.name == "runtime.NumGoroutine") = false ∧ fn.body = none ∧ Extern.findNext fn = none ∧ Extern.find fn = some (Extern.BytealgMakeNoZero.makeNoZero #[3] #[52]) := ⟨_, Try.func86, by kernel_rfl, rfl, by kernel_rfl, by kernel_rfl⟩
  obtain ⟨fn, hf, h1, h2, h3, h4⟩ := e1
  have h5 : ¬ (n : Int) < 0 := by omega
  have h6 : ¬ (n : Int) > 281474976710656 := by omega
  have hdef : Extern.BytealgMakeNoZero.makeNoZero #[3] #[52] #[.int .i64 n] =
      (do
        let .slice elem ← underlying 52 | stuck "bytealg.MakeNoZero: slice type expected"
        if (n : Int) < 0 || (n : Int) > 2 ^ 48 then runtimePanic (.error "makeslice: len out of range")
        let cap ← choose (.appendCap (n : Int).toNat 0 elem)
        askRoom cap
        let bytes ← choose (.extern "internal/bytealg.MakeNoZero.bytes" 0)
        let a ← newRow elem (Extern.BytealgMakeNoZero.digits cap bytes #[])
        pure (.slice (some a) (n : Int).toNat cap)) := rfl
  simp only [callFunc, wk_bind, wk_program, hf, h1, h2, Bool.false_eq_true, if_false, h3, h4, wk_mark, Option.isNone_none, if_true, hdef]
  rw [wk_underlying Try.underlying52]
  dsimp only
  have h7 : ((n : Int) < 0 || (n : Int) > 2 ^ 48) = false := by simp [h5]; omega
  simp only [h5, wk_bind, decide_false, Bool.false_or]
  rw [if_neg (by simp; omega)]
  simp only [wk_bind, wk_pure]
  refine wk_choose fun nc _ hch => ?_
  obtain ⟨tt, rfl⟩ := hch rfl
  have hge : n ≤ Question.cut (.appendCap (n : Int).toNat 0 5) tt := by show n ≤ n + _; omega
  generalize Question.cut (.appendCap (n : Int).toNat 0 5) tt = nc at hge
  rw [wk_askRoom]
  refine wk_choose fun bs _ _ => ?_
  simp only [newRow, wk_bind, wk_pure]
  refine fun g hg => ?_
  have hsz : (Extern.BytealgMakeNoZero.digits nc bs #[]).size = nc := by rw [Lib.size_digits]; simp
  exact h g (Extern.BytealgMakeNoZero.digits nc bs #[]) nc hg hge hsz
/-- A builder of the call's own, that holds l. -/
structure Bd (F0 F : Heap) (b : Nat) (l : List UInt8) : Prop where
  ext : Ext F0 F
  fresh : F0 b = none
  own : ∃ v, F b = some (.cells #[.pointer (some ⟨b, 0, none⟩), v] 98) ∧ Own F v 5 1 l.length (cellsOf l) ∧ blk v ≠ some b ∧ ∀ k, blk v = some k → F0 k = none
theorem grow (F0 : Heap) (b : Nat) (n : Nat) (h0 : 0 < n) (hn : n ≤ 1099511627776) (hb : F0 b = none) :
    FnK Try.prog 61 #[.pointer (some ⟨b, 0, none⟩), .int .i64 n] (F0.put b (.cells #[.pointer none, .slice none 0 0] 98)) (fun r F' => r = .tuple #[] ∧ Bd F0 F' b []) := by
  have inner : ∀ F, F0.put b (.cells #[.pointer (some ⟨b, 0, none⟩), .slice none 0 0] 98) = F → FnK Try.prog 74 #[.pointer (some ⟨b, 0, none⟩), .int .i64 n] F (fun r F' => r = .tuple #[] ∧ Bd F0 F' b []) := by
    intro F hF
    have hFb : F b = some (.cells #[.pointer (some ⟨b, 0, none⟩), .slice none 0 0] 98) := by rw [← hF]; exact Heap.put_same _ _ _
    (refine fn_walk tab_ok Try.func74 rfl rfl rfl rfl ?_; (conv => whnf))
    refine draw_walk tab_ok (by kernel_rfl) [0, 1, 2, 3, 4, 5, 6, 7, 9, 10, 11, 12, 13, 8, 14, 15] (by kernel_rfl) ?_
    (conv => whnf)
    refine load_blk hFb rfl rfl ?_
    (conv => whnf)
    refine load_blk hFb rfl rfl ?_
    (conv => whnf)
    have hw : IntKind.i64.wrap (IntKind.i64.wrap (2 * (0 : Nat)) + (n : Int)) = (n : Int) := by rw [IntKind.wrap_i64, IntKind.wrap_i64]; omega
    refine makeNoZero n _ hw (by omega) fun g cs N hg hN hcs => ?_
    obtain ⟨c', rfl⟩ : ∃ c', N = c' + 1 := ⟨N - 1, by omega⟩
    have hgb : g ≠ b := fun e => by rw [e, hFb] at hg; cases hg
    (conv => whnf)
    refine ⟨Ext.new hg _, ?_⟩
    (conv => whnf)
    refine ⟨⟨by decide, by omega⟩, ?_⟩
    (conv => whnf)
    have hF2 : (F.put g (.cells cs 5)) b = some (.cells #[.pointer (some ⟨b, 0, none⟩), .slice none 0 0] 98) := by rw [Heap.put_other _ _ (Ne.symm hgb)]; exact hFb
    refine load_blk hF2 rfl rfl ?_
    (conv => whnf)
    refine op_builtin rfl [.slice (some ⟨g, 0, none⟩) 0 (c' + 1), .slice none 0 0] rfl (F.put g (.cells cs 5)) (Builtin.copy_ #[52, 52] 3 #[.slice (some ⟨g, 0, none⟩) 0 (c' + 1), .slice none 0 0]) (.int .i64 0) (fun _ => rfl) (fun w hw => ⟨w, run_copy_none w 52 52 3 5 (some ⟨g, 0, none⟩) none 0 (c' + 1) 0 0 Try.underlying52 (by kernel_rfl) rfl, hw, Go.Al.Rest.refl w⟩) ?_
    (conv => whnf)
    refine store_step b 1 _ #[.pointer (some ⟨b, 0, none⟩), .slice (some ⟨g, 0, none⟩) 0 (c' + 1)] rfl hF2 rfl rfl (.inl (Nat.le_refl _)) (fun u hu => by rw [List.mem_singleton.1 hu]; rfl) ?_
    (conv => whnf)
    have hg0 : F0 g = none := by rw [← hF, Heap.put_other _ _ hgb] at hg; exact hg
    refine ⟨rfl, fun c o hc => ?_, hb, .slice (some ⟨g, 0, none⟩) 0 (c' + 1), Heap.put_same _ _ _, ⟨rfl, .inr ⟨g, c' + 1, cs, rfl, ⟨(0, 0), ?_, .inl (Nat.le_refl 0)⟩, by rw [hcs, Nat.mul_one], Nat.zero_le _, by simp [cellsOf]⟩⟩, fun e => hgb (Option.some.inj e), fun k hk => ?_⟩
    · have hcb : c ≠ b := fun e => by rw [e, hb] at hc; cases hc
      have hcg : c ≠ g := fun e => by rw [e, hg0] at hc; cases hc
      show ((F.put g _).put b _) c = _
      rw [Heap.put_other _ _ hcb, Heap.put_other _ _ hcg, ← hF, Heap.put_other _ _ hcb]
      exact hc
    · show ((F.put g _).put b _) g = _
      rw [Heap.put_other _ _ hgb]
      exact Heap.put_same _ _ _
    · obtain rfl : g = k := Option.some.inj hk
      exact hg0
  (refine fn_walk tab_ok Try.func61 rfl rfl rfl rfl ?_; (conv => whnf))
  refine call_of (copyCheck _ b none _ (.inl rfl) (Heap.put_same _ _ _)) ?_
  rintro r _ ⟨rfl, rfl⟩
  rw [Heap.put_put]
  (conv => whnf)
  refine draw_walk tab_ok (by kernel_rfl) [0, 1, 2, 3, 4, 5, 6, 7, 8, 9, 10, 11, 12] (by kernel_rfl) ?_
  (conv => whnf)
  refine load_blk (Heap.put_same _ _ _) rfl rfl ?_
  (conv => whnf)
  refine load_blk (Heap.put_same _ _ _) rfl rfl ?_
  (conv => whnf)
  refine cond_split (fun _ => ?_) (fun h => by have := of_decide_eq_false h; rw [IntKind.wrap_i64] at this; omega)
  (conv => whnf)
  refine call_of (inner _ rfl) ?_
  rintro r F' ⟨rfl, hd⟩
  (conv => whnf)
  exact ⟨rfl, hd⟩
theorem writeString (F0 F : Heap) (b : Nat) (l m : List UInt8) (h : Bd F0 F b l) (hl : l.length + m.length ≤ 1099511627776) :
    FnK Try.prog 62 #[.pointer (some ⟨b, 0, none⟩), .string ⟨m.toArray⟩] F (fun r F' => Bd F0 F' b (l ++ m)) := by
  obtain ⟨v, hv, hown, hvb, hvf⟩ := h.own
  (refine fn_walk tab_ok Try.func62 rfl rfl rfl rfl ?_; (conv => whnf))
  refine call_of (copyCheck _ b _ _ (.inr rfl) hv) ?_
  rintro r F1 ⟨rfl, rfl⟩
  have hF1 : F.put b (.cells #[.pointer (some ⟨b, 0, none⟩), v] 98) = F := by
    funext c
    unfold Heap.put
    split
    · next h => subst h; exact hv.symm
    · rfl
  rw [hF1]
  (conv => whnf)
  refine load_blk hv rfl rfl ?_
  (conv => whnf)
  refine append_own tab_ok rfl rfl rfl rfl rfl ⟨_, rfl, fun k h => by cases h⟩ ⟨_, rfl, rfl⟩ (by decide) (s := v) (y := .string ⟨m.toArray⟩) (n := l.length) (m := m.length) (xs := cellsOf l) (ys := cellsOf m)
    hown ⟨by simp [cellsOf], .inr ⟨_, rfl, rfl, by simp [ByteArray.size], rfl⟩⟩ (fun u hu => ?_) (by show 2 * (l.length + m.length) * 1 ≤ _; omega) fun s' F2 h1 h2 h3 => ?_
  · obtain ⟨x, _, rfl⟩ := List.mem_map.1 hu
    rfl
  obtain ⟨A, c', rfl, hnc, _⟩ := h1.row
  have hb2 : F2 b = some (.cells #[.pointer (some ⟨b, 0, none⟩), v] 98) := h2 b _ hv hvb
  (conv => whnf)
  refine store_step b 1 _ #[.pointer (some ⟨b, 0, none⟩), .slice A (l.length + m.length) c'] rfl hb2 rfl rfl (.inl (Nat.le_refl _)) (fun u hu => by rw [List.mem_singleton.1 hu]; rfl) ?_
  (conv => whnf)
  have hs'b : blk (.slice A (l.length + m.length) c') ≠ some b := fun e => by
    rcases h3 b e with h | h
    · exact hvb h
    · rw [hv] at h; cases h
  refine ⟨fun k o hk => ?_, h.fresh, .slice A (l.length + m.length) c', Heap.put_same _ _ _, ?_, hs'b, fun k hk => ?_⟩
  · have hkb : k ≠ b := fun e => by rw [e, h.fresh] at hk; cases hk
    show (F2.put b _) k = _
    rw [Heap.put_other _ _ hkb]
    exact h2 k o (h.ext k o hk) fun e => by rw [hvf k e] at hk; cases hk
  · rw [List.length_append, show cellsOf (l ++ m) = cellsOf l ++ cellsOf m by simp [cellsOf]]
    refine h1.of_blk fun k o hk ho => ?_
    rw [Heap.put_other _ _ (fun e => hs'b (by rw [hk, e]))]
    exact ho
  · rcases h3 k hk with h' | h'
    · exact hvf k h'
    · cases e0 : F0 k with
      | none => rfl
      | some o => rw [h.ext k o e0] at h'; cases h'
/-- A text between a dot. -/
theorem joinDot (ad : Addr) (c : Nat) (p q : List UInt8) (F : Heap) (hc : 2 ≤ c) (hrow : RowAt F (some ad) [.string ⟨p.toArray⟩, .string ⟨q.toArray⟩]) (hp : p.length ≤ 100) (hq : q.length ≤ 100) :
    FnK Try.prog 46 #[.slice (some ad) 2 c, .string ⟨#[46]⟩] F (fun r F' => r = .string ⟨(p ++ [46] ++ q).toArray⟩ ∧ Ext F F') := by
  obtain ⟨c', rfl⟩ : ∃ c', c = c' + 2 := ⟨c - 2, by omega⟩
  have h0 : F.cell? (ad.add 0) = some (.string ⟨p.toArray⟩) := hrow.cell rfl
  have h1 : F.cell? (ad.add 1) = some (.string ⟨q.toArray⟩) := hrow.cell rfl
  (refine fn_walk tab_ok Try.func46 rfl rfl rfl rfl ?_; (conv => whnf))
  refine ⟨by decide, ?_⟩
  (conv => whnf)
  refine loop_slots [0, 1, 5, 39, 40, 41] (fun k vs F' => ∃ j : Nat, j + k = 2 ∧ vs = [.slice (some ad) 2 (c' + 2), .string ⟨#[46]⟩, .int .i64 ((1 + (([p, q].take j).map List.length).sum : Nat) : Int), .slice (some ad) 2 (c' + 2), .int .i64 2, .int .i64 (j : Int)] ∧ F' = F) 2 ⟨0, rfl, rfl, rfl⟩ ?_
  rintro k vs F1 ρ ⟨j, hjk, rfl, rfl⟩
  have hj : j = 0 ∨ j = 1 ∨ j = 2 := by omega
  rcases hj with rfl | rfl | rfl
  · (conv => whnf)
    refine ⟨⟨by decide, by decide⟩, ?_⟩
    (conv => whnf)
    refine load_step h0 ?_
    (conv => whnf)
    refine cond_split (fun h => ?_) (fun _ => ?_)
    · have := of_decide_eq_true h
      rw [IntKind.wrap_i64] at this
      simp [ByteArray.size] at this
      omega
    · (conv => whnf)
      refine ⟨k - 1, by omega, 1, by omega, ?_, rfl⟩
      have hw : IntKind.i64.wrap (((1 + (([p, q].take 0).map List.length).sum : Nat) : Int) + (((⟨p.toArray⟩ : ByteArray).size : Nat) : Int)) = ((1 + (([p, q].take 1).map List.length).sum : Nat) : Int) := by rw [IntKind.wrap_i64]; simp [ByteArray.size]; omega
      rw [← hw]
      rfl
  · (conv => whnf)
    refine ⟨⟨by decide, by decide⟩, ?_⟩
    (conv => whnf)
    refine load_step h1 ?_
    (conv => whnf)
    refine cond_split (fun h => ?_) (fun _ => ?_)
    · have := of_decide_eq_true h
      rw [IntKind.wrap_i64] at this
      simp [ByteArray.size] at this
      omega
    · (conv => whnf)
      refine ⟨k - 1, by omega, 2, by omega, ?_, rfl⟩
      have hw : IntKind.i64.wrap (((1 + (([p, q].take 1).map List.length).sum : Nat) : Int) + (((⟨q.toArray⟩ : ByteArray).size : Nat) : Int)) = ((1 + (([p, q].take 2).map List.length).sum : Nat) : Int) := by rw [IntKind.wrap_i64]; simp [ByteArray.size]; omega
      rw [← hw]
      rfl
  · (conv => whnf)
    refine new_step (.cells #[.pointer none, .slice none 0 0] 98) rfl fun b hb => ?_
    (conv => whnf)
    refine call_of (grow F1 b (1 + (([p, q].take 2).map List.length).sum) (by omega) (by simp; omega) hb) ?_
    rintro r F2 ⟨rfl, hd⟩
    (conv => whnf)
    refine ⟨⟨by decide, by decide⟩, ?_⟩
    (conv => whnf)
    refine load_step (hd.ext.cell h0) ?_
    (conv => whnf)
    refine call_of (writeString F1 F2 b [] p hd (by simp; omega)) ?_
    intro r F3 hd
    (conv => whnf)
    refine ⟨⟨by decide, by omega⟩, ?_⟩
    (conv => whnf)
    refine loop_slots [1, 8, 63, 64, 65] (fun k vs F' => ∃ j : Nat, j + k = 1 ∧ vs = [.string ⟨#[46]⟩, .pointer (some ⟨b, 0, none⟩), .slice (some (ad.add 1)) 1 (c' + 1), .int .i64 1, .int .i64 (j : Int)] ∧ Bd F1 F' b (p ++ if j = 0 then [] else [46] ++ q)) 1 ⟨0, rfl, rfl, by simpa using hd⟩ ?_
    rintro k vs F4 ρ ⟨j, hjk, rfl, hd⟩
    have hj : j = 0 ∨ j = 1 := by omega
    rcases hj with rfl | rfl
    · rw [if_pos rfl, List.append_nil] at hd
      (conv => whnf)
      refine ⟨⟨by decide, by decide⟩, ?_⟩
      (conv => whnf)
      refine load_step (v := .string ⟨q.toArray⟩) ?_ ?_
      · show F4.cell? ((ad.add 1).add (0 * 1)) = _
        rw [add_add]
        exact hd.ext.cell h1
      (conv => whnf)
      refine call_of (writeString F1 F4 b p [46] hd (by simp; omega)) ?_
      intro r F5 hd
      (conv => whnf)
      refine call_of (writeString F1 F5 b (p ++ [46]) q hd (by simp; omega)) ?_
      intro r F6 hd
      (conv => whnf)
      refine ⟨k - 1, by omega, 1, by omega, rfl, ?_⟩
      rw [if_neg (by decide), ← List.append_assoc]
      exact hd
    · rw [if_neg (by decide), ← List.append_assoc] at hd
      obtain ⟨v, g1, g2, g3, g4⟩ := hd.own
      (conv => whnf)
      refine call_of (string F4 b _ v _ (by simp) (by simp; omega) g1 g2 g3) ?_
      rintro r F5 ⟨rfl, hkeep⟩
      (conv => whnf)
      exact ⟨rfl, hkeep.ext hd.ext g4⟩
end Go.Proofs.Ytbgijjoemnfnmaa.Al
/- The contracts of the reference's digits and Text, over what is known of memory. -/
namespace Go.Proofs.Ytbgijjoemnfnmaa.Al
open Go Go.Al Go.Proofs Go.RowKit
set_option maxHeartbeats 8000000
set_option maxRecDepth 100000
set_option linter.unusedVariables false
set_option linter.unusedSimpArgs false
theorem digit_str (m : Nat) : ∃ h : m % 10 < 10, (⟨#[48, 49, 50, 51, 52, 53, 54, 55, 56, 57]⟩ : ByteArray).extract (m % 10) (m % 10 + 1) = ⟨#[UInt8.ofNat (48 + m % 10)]⟩ := by
  have h : m % 10 < 10 := Nat.mod_lt _ (by decide)
  refine ⟨h, ?_⟩
  generalize m % 10 = d at h
  obtain rfl | rfl | rfl | rfl | rfl | rfl | rfl | rfl | rfl | rfl : d = 0 ∨ d = 1 ∨ d = 2 ∨ d = 3 ∨ d = 4 ∨ d = 5 ∨ d = 6 ∨ d = 7 ∨ d = 8 ∨ d = 9 := by omega
  all_goals decide +kernel
theorem str_app (a b : List UInt8) : ((⟨a.toArray⟩ : ByteArray) ++ ⟨b.toArray⟩) = ⟨(a ++ b).toArray⟩ := by
  apply ByteArray.ext
  simp
theorem digits (m : Nat) (hm : m ≤ 9223372036854775807) : ∀ F : Heap, FnK Try.prog 84 #[.int .i64 (m : Int)] F (fun v F' => v = .string ⟨(digsR m).reverse.toArray⟩ ∧ F' = F) := by
  induction m using Nat.strongRecOn with
  | _ m ih =>
    intro F
    obtain ⟨hd, hstr⟩ := digit_str m
    have hrem : ((m : Int)).tmod 10 = ((m % 10 : Nat) : Int) := by rw [Int.tmod_eq_emod_of_nonneg (by omega)]; rfl
    have hq : IntKind.i64.wrap (((m : Int)).tdiv 10) = ((m / 10 : Nat) : Int) := by rw [Int.tdiv_eq_ediv_of_nonneg (by omega), IntKind.wrap_i64]; omega
    have hw : IntKind.i64.wrap ((m : Int).tmod 10 + 1) = ((m % 10 + 1 : Nat) : Int) := by rw [hrem, IntKind.wrap_i64]; omega
    have hcut : (⟨#[48, 49, 50, 51, 52, 53, 54, 55, 56, 57]⟩ : ByteArray).extract ((m : Int).tmod 10).toNat (IntKind.i64.wrap ((m : Int).tmod 10 + 1)).toNat = ⟨[UInt8.ofNat (48 + m % 10)].toArray⟩ := by rw [hw, hrem, Int.toNat_natCast, Int.toNat_natCast, hstr]
    (refine fn_walk tab_ok Try.func84 rfl rfl rfl rfl ?_; (conv => whnf))
    refine ⟨by decide, ?_⟩
    (conv => whnf)
    refine ⟨by decide, ?_⟩
    (conv => whnf)
    refine ⟨⟨by rw [hw]; omega, by rw [hw]; show ((m % 10 + 1 : Nat) : Int) ≤ 10; omega⟩, ?_⟩
    (conv => whnf)
    refine ⟨⟨by rw [hrem]; omega, by rw [hw, hrem, Int.toNat_natCast]; omega⟩, ?_⟩
    (conv => whnf)
    refine cond_split (fun h => ?_) (fun h => ?_)
    · have h10 : 10 ≤ m := by have := of_decide_eq_true h; omega
      (conv => whnf)
      refine ⟨by decide, ?_⟩
      (conv => whnf)
      have hc := ih (m / 10) (by omega) (by omega) F
      rw [← hq] at hc
      refine call_of hc ?_
      rintro v _ ⟨rfl, rfl⟩
      (conv => whnf)
      have hlen := digsR_log 18 (m / 10) (by omega)
      refine ⟨?_, ?_⟩
      · rw [hcut]
        show (((digsR (m / 10)).reverse.toArray.size + 1 : Nat) : Int) ≤ _
        simp only [List.size_toArray, List.length_reverse]
        omega
      · (conv => whnf)
        refine ⟨?_, rfl⟩
        show Value.string (_ ++ _) = _
        rw [hcut]
        have e2 : digsR m = UInt8.ofNat (48 + m % 10) :: digsR (m / 10) := by rw [digsR_step m, if_neg (by omega)]
        rw [e2, List.reverse_cons, ← str_app]
    · have h10 : m < 10 := by have := of_decide_eq_false h; omega
      (conv => whnf)
      refine ⟨?_, rfl⟩
      show Value.string _ = _
      rw [hcut, digsR_step m, if_pos (by omega)]
      rfl
/-- A number in digits, by the reference. -/
theorem rtext (n : Int) (h0 : -9223372036854775808 ≤ n) (h1 : n < 9223372036854775808) (F : Heap) : FnK Try.prog 72 #[.int .i64 n] F (fun v F' => v = .string ⟨(txt n).toArray⟩ ∧ F' = F) := by
  by_cases hn : n < 0
  · obtain ⟨m, rfl⟩ : ∃ m : Nat, n = -(m : Int) := ⟨n.natAbs, by omega⟩
    have htxt : txt (-(m : Int)) = 45 :: (digsR m).reverse := by unfold txt; rw [if_pos hn, Int.natAbs_neg, Int.natAbs_natCast]
    have hneg : m < 10 → IntKind.i64.wrap (0 - -(m : Int)) = (m : Int) := fun h => by rw [IntKind.wrap_i64]; omega
    have hq : IntKind.i64.wrap (0 - IntKind.i64.wrap ((-(m : Int)).tdiv 10)) = ((m / 10 : Nat) : Int) := by rw [div_val m (by omega), IntKind.wrap_i64]; omega
    have hr : IntKind.i64.wrap (0 - (-(m : Int)).tmod 10) = ((m % 10 : Nat) : Int) := by rw [tmod_neg, IntKind.wrap_i64]; omega
    (refine fn_walk tab_ok Try.func72 rfl rfl rfl rfl ?_; (conv => whnf))
    refine cond_split (fun h => by have := of_decide_eq_true h; omega) (fun _ => ?_)
    (conv => whnf)
    refine cond_split (fun h => ?_) (fun h => ?_)
    · have hm : m < 10 := by have := of_decide_eq_true h; omega
      have hc := digits m (by omega) F
      rw [← hneg hm] at hc
      (conv => whnf)
      refine call_of hc ?_
      rintro v _ ⟨rfl, rfl⟩
      (conv => whnf)
      have hlen := digsR_log 18 m (by omega)
      refine ⟨?_, ?_⟩
      · show ((1 + (digsR m).reverse.toArray.size : Nat) : Int) ≤ _
        simp only [List.size_toArray, List.length_reverse]
        omega
      · (conv => whnf)
        refine ⟨?_, rfl⟩
        rw [htxt]
        show Value.string (_ ++ _) = _
        exact congrArg Value.string (str_app [45] _)
    · have hm : 10 ≤ m := by have := of_decide_eq_false h; omega
      have hc := digits (m / 10) (by omega) F
      have hd := digits (m % 10) (by omega) F
      rw [← hq] at hc
      rw [← hr] at hd
      (conv => whnf)
      refine ⟨by decide, ?_⟩
      (conv => whnf)
      refine call_of hc ?_
      rintro v _ ⟨rfl, rfl⟩
      (conv => whnf)
      have hlen := digsR_log 18 (m / 10) (by omega)
      have hlen2 := digsR_log 0 (m % 10) (by omega)
      refine ⟨?_, ?_⟩
      · show ((1 + (digsR (m / 10)).reverse.toArray.size : Nat) : Int) ≤ _
        simp only [List.size_toArray, List.length_reverse]
        omega
      · (conv => whnf)
        refine ⟨by decide, ?_⟩
        (conv => whnf)
        refine call_of hd ?_
        rintro v _ ⟨rfl, rfl⟩
        (conv => whnf)
        have e1 : ((⟨#[45]⟩ : ByteArray) ++ ⟨(digsR (m / 10)).reverse.toArray⟩) = ⟨(45 :: (digsR (m / 10)).reverse).toArray⟩ := str_app [45] _
        refine ⟨?_, ?_⟩
        · rw [e1]
          show (((45 :: (digsR (m / 10)).reverse).toArray.size + (digsR (m % 10)).reverse.toArray.size : Nat) : Int) ≤ _
          simp only [List.size_toArray, List.length_cons, List.length_reverse]
          omega
        · (conv => whnf)
          refine ⟨?_, rfl⟩
          rw [htxt]
          show Value.string ((_ ++ _) ++ _) = _
          rw [e1, str_app]
          have e2 : digsR m = UInt8.ofNat (48 + m % 10) :: digsR (m / 10) := by rw [digsR_step m, if_neg (by omega)]
          have e3 : digsR (m % 10) = [UInt8.ofNat (48 + m % 10)] := by rw [digsR_step (m % 10), if_pos (by omega), Nat.mod_mod]
          rw [e2, e3]
          simp
  · obtain ⟨m, rfl⟩ : ∃ m : Nat, n = (m : Int) := ⟨n.natAbs, by omega⟩
    have htxt : txt (m : Int) = (digsR m).reverse := by unfold txt; rw [if_neg hn, Int.natAbs_natCast]
    (refine fn_walk tab_ok Try.func72 rfl rfl rfl rfl ?_; (conv => whnf))
    refine call_of (digits m (by omega) F) ?_
    rintro v _ ⟨rfl, rfl⟩
    (conv => whnf)
    exact ⟨by rw [htxt]; rfl, rfl⟩
end Go.Proofs.Ytbgijjoemnfnmaa.Al
/- The logic of a known part of memory, 14: what is at hand often. It holds for every program. -/
namespace Go.Al
open Go

theorem wrap_eq {x : Int} (h0 : -9223372036854775808 ≤ x) (h1 : x < 9223372036854775808) : IntKind.i64.wrap x = x := by
  rw [IntKind.wrap_i64]; omega
theorem wrap_succ {j : Nat} (h : j < 1000000000) : IntKind.i64.wrap ((j : Int) + 1) = ((j + 1 : Nat) : Int) := by
  rw [IntKind.wrap_i64]; omega
/-- A region told once, whatever comes behind it. -/
theorem draw_cut {P : Program} {T : Tab} {ops : Array Oper} {K : Env → Heap → Prop} {env : Env} {F : Heap} (Post : Env → Heap → Prop) (h : ∀ K : Env → Heap → Prop, (∀ env' F', Post env' F' → K env' F') → DrawK P T ops K env F) (hk : ∀ env' F', Post env' F' → K env' F') : DrawK P T ops K env F := h K hk
theorem one_slice (A : Option Addr) (n c : Nat) : ∀ v ∈ [Value.slice A n c], v.oneCell' = true := by simp [Value.oneCell']
theorem one_int (k : IntKind) (n : Int) : ∀ v ∈ [Value.int k n], v.oneCell' = true := by simp [Value.oneCell']
theorem one_bool (b : Bool) : ∀ v ∈ [Value.bool b], v.oneCell' = true := by simp [Value.oneCell']
theorem one_ptr (a : Option Addr) : ∀ v ∈ [Value.pointer a], v.oneCell' = true := by simp [Value.oneCell']
theorem one_map (a : Option Nat) : ∀ v ∈ [Value.map a], v.oneCell' = true := by simp [Value.oneCell']
theorem one_cons {v : Value} {vs : List Value} (h : v.oneCell' = true) (k : ∀ u ∈ vs, u.oneCell' = true) : ∀ u ∈ v :: vs, u.oneCell' = true := fun u hu => by
  rcases List.mem_cons.1 hu with rfl | hu
  · exact h
  · exact k u hu
theorem load_at {F : Heap} {a : Addr} {K : Value → Prop} {v : Value} {c : Array Value} {e : TypeId} {fz : Nat × Nat} {b off : Nat} (ha : a = ⟨b, off, none⟩) (hb : F b = some (.cells c e fz)) (hv : c[off]? = some v) (hk : K v) : LoadK F a K := by
  subst ha
  exact load_blk hb rfl hv hk
theorem loads_at {F : Heap} {a : Addr} {n : Nat} {K : Value → Prop} {c : Array Value} {e : TypeId} {fz : Nat × Nat} {b : Nat} (ha : a = ⟨b, 0, none⟩) (hb : F b = some (.cells c e fz)) (hn : c.size = n) (hk : K (.agg c)) : LoadsK F a n K := by
  subst ha
  refine ⟨⟨c, e, fz, hb, rfl, by show 0 + n ≤ c.size; omega, ?_⟩⟩
  show K (.agg (c.extract 0 (0 + n)))
  rw [Nat.zero_add, ← hn, Array.extract_size]
  exact hk
theorem row_blk {F : Heap} {b : Nat} {cs : Array Value} {e : TypeId} {fz : Nat × Nat} (h : F b = some (.cells cs e fz)) : RowAt F (some ⟨b, 0, none⟩) cs.toList := fun j v hj => ⟨_, rfl, by rw [add_plain, Heap.cell_at h, Nat.zero_add, ← Array.getElem?_toList]; exact hj⟩
theorem wrap_byte (z : Int) : IntKind.u8.wrap z = ((byteAt z 0).toNat : Int) := by
  rw [u8_wrap, byteAt_int z 0 (by decide)]
  simp
/-- A new row, all of whose cells are told. -/
theorem mine_blk {F0 F : Heap} {b n c z : Nat} {cs : Array Value} {e : TypeId} (hE : Ext F0 F) (h0 : F0 b = none) (hb : F b = some (.cells cs e)) (hc : cs.size = c * z) (hn : n ≤ c) : Mine F0 F (.slice (some ⟨b, 0, none⟩) n c) e z n (cs.toList.take (n * z)) :=
  ⟨⟨by rw [List.length_take, Array.length_toList, hc]; exact Nat.min_eq_left (Nat.mul_le_mul_right _ hn), .inr ⟨b, c, cs, rfl, ⟨_, hb, .inl (Nat.le_refl _)⟩, hc, hn, rfl⟩⟩, fun k hk => (by obtain rfl : b = k := Option.some.inj hk; exact h0), hE⟩
theorem Ext.none {F G : Heap} (h : Ext F G) {b : Nat} (hb : G b = none) : F b = none := by
  cases e : F b with
  | none => rfl
  | some o => rw [h _ _ e] at hb; cases hb
theorem args_eq {P : Program} {f : FuncId} {ys ys' : Array Value} {F : Heap} {R : Value → Heap → Prop} (e : ys = ys') (h : FnK P f ys F R) : FnK P f ys' F R := e ▸ h
theorem slice_eq {A A' : Option Addr} {n n' c c' : Nat} (h1 : A = A') (h2 : n = n') (h3 : c = c') : Value.slice A n c = .slice A' n' c' := by rw [h1, h2, h3]
/-- F without some blocks. -/
def lessL (F : Heap) (ms : List Nat) : Heap := fun c => if c ∈ ms then none else F c
theorem lessL_ext (F : Heap) (ms : List Nat) : Ext (lessL F ms) F := fun c o h => by
  unfold lessL at h
  split at h
  · cases h
  · exact h
theorem lessL_none {F : Heap} {ms : List Nat} {m : Nat} (h : m ∈ ms) : lessL F ms m = none := if_pos h
theorem lessL_at {F : Heap} {ms : List Nat} {b : Nat} (h : b ∉ ms) : lessL F ms b = F b := if_neg h
theorem ext_lessL {G F : Heap} {ms : List Nat} (hE : Ext G F) (h : ∀ m ∈ ms, G m = none) : Ext G (lessL F ms) := fun c o hc => by
  rw [lessL_at (fun e => by rw [h c e] at hc; cases hc)]
  exact hE _ _ hc
theorem rowAt_lessL {F : Heap} {A : Option Addr} {vs : List Value} {ms : List Nat} (hr : RowAt F A vs) (h : ∀ a, A = some a → a.block ∉ ms) : RowAt (lessL F ms) A vs := fun j v hj => by
  obtain ⟨a, h1, h2⟩ := hr j v hj
  refine ⟨a, h1, ?_⟩
  unfold Heap.cell? at h2 ⊢
  rw [lessL_at (by rw [add_block]; exact h a h1)]
  exact h2
theorem rowAt_keepq {F F' : Heap} {A : Option Addr} {vs : List Value} {q : Nat} (hr : RowAt F A vs) (hk : Keeps F F' (some q)) (h : ∀ a, A = some a → a.block ≠ q) : RowAt F' A vs := fun j v hj => by
  obtain ⟨a, h1, h2⟩ := hr j v hj
  refine ⟨a, h1, ?_⟩
  obtain ⟨c, e, fz, h3, h4, h5⟩ := cell_block h2
  have h6 := hk _ _ h3 (fun e => h a h1 (by rw [add_block] at e; exact (Option.some.inj e).symm))
  unfold Heap.cell?
  rw [h6]
  simp only [h4, Option.isSome_none, Bool.false_eq_true, if_false]
  exact h5
theorem Mine.up {F0 G F : Heap} {S : Value} {e z n : Nat} {vs : List Value} (h : Mine F0 F S e z n vs) (hE : Ext G F) (hb : ∀ b, blk S = some b → G b = none) : Mine G F S e z n vs := ⟨h.own, hb, hE⟩
theorem Own.there {F : Heap} {S : Value} {e z n w : Nat} {vs : List Value} (h : Own F S e z n vs) (hw : blk S = some w) : F w ≠ none := by
  rcases h.2 with ⟨h1, _⟩ | ⟨b, c, cs', h1, ⟨fz', hb, _⟩, _⟩
  · subst h1; cases hw
  · subst h1
    obtain rfl : b = w := Option.some.inj hw
    rw [hb]
    simp
/-- A new row of bytes. -/
def NewRow (F F' : Heap) (v : Value) (l : List UInt8) : Prop := ∃ A c, v = .slice A l.length c ∧ l.length ≤ c ∧ RowAt F' A (bytesOf l) ∧ ∀ a, A = some a → F a.block = none
theorem Mine.newRow {F F' : Heap} {v : Value} {l : List UInt8} {e : TypeId} (h : Mine F F' v e 1 l.length (bytesOf l)) : NewRow F F' v l := by
  obtain ⟨A, c, rfl, h1, h2⟩ := h.own.row
  exact ⟨A, c, rfl, h1, h2, fun a ha => by subst ha; exact h.fresh a.block rfl⟩
/-- The bytes of a cut with three numbers. -/
theorem row_cut3 {F : Heap} {A : Option Addr} {b : List UInt8} (lo n m l : Nat) (hr : RowAt F A (bytesOf b)) (hl : l = lo) (hm : lo + n ≤ m) (hle : lo + n ≤ b.length) : RowAt F (if m = l then A else A.map (·.add (l * 1))) (bytesOf ((b.drop lo).take n)) := by
  subst hl
  intro j v hj
  have hj2 : j < n := by
    have := (List.getElem?_eq_some_iff.1 hj).1
    simp [bytesOf] at this
    omega
  have hj' : (bytesOf b)[l + j]? = some v := by
    unfold bytesOf at hj
    rw [List.getElem?_map, List.getElem?_take, if_pos hj2, List.getElem?_drop] at hj
    rw [bytesOf, List.getElem?_map]
    exact hj
  obtain ⟨ad, h1, h2⟩ := hr _ _ hj'
  subst h1
  rw [if_neg (by omega), Nat.mul_one]
  exact ⟨ad.add l, rfl, by rw [add_add]; exact h2⟩
/-- A store that is followed at once by what is known of the new block. -/
theorem put_ext {F : Heap} {p : Nat} {o : Obj} (hp : F p = none) : Ext F (F.put p o) := Ext.new hp o
end Go.Al
/- The logic of a known part of memory, 15: a range over a function. It holds for every program. -/
namespace Go.Al
open Go

/-- Statements that a round's frame is led through here: no order drawn, no jump. -/
def straight : Code → Bool
  | .skip => true
  | .region _ _ draw => !draw
  | .seq a b => straight a && straight b
  | .cond _ a b => straight a && straight b
  | .block _ c => straight c
  | _ => false
section
variable {P : Program} {b : Frame} {a : Act} {k : List Item} {cs : List Frame} {w : World}
theorem stepR_code_skip : step P (lone (b.atR a (.code .skip :: k)) cs w) = .next (lone (b.atR a k) cs w) := step_lone_go (by simp [stepG, stepG.exec, Frame.atR])
theorem stepR_seq {x y : Code} : step P (lone (b.atR a (.code (.seq x y) :: k)) cs w) = .next (lone (b.atR a (.code x :: .code y :: k)) cs w) := step_lone_go (by simp [stepG, stepG.exec, Frame.atR])
theorem stepR_block {id : Nat} {x : Code} : step P (lone (b.atR a (.code (.block id x) :: k)) cs w) = .next (lone (b.atR a (.code x :: .inBlock id :: k)) cs w) := step_lone_go (by simp [stepG, stepG.exec, Frame.atR])
theorem stepR_inBlock {id : Nat} : step P (lone (b.atR a (.inBlock id :: k)) cs w) = .next (lone (b.atR a k) cs w) := step_lone_go (by simp [stepG, stepG.exec, Frame.atR])
theorem stepR_cond {c : Operand} {x y : Code} {t : Bool} (hc : a.eval c = .bool t) : step P (lone (b.atR a (.code (.cond c x y) :: k)) cs w) = .next (lone (b.atR a (.code (if t then x else y) :: k)) cs w) := by
  have he := Frame.eval_atR b a (.code (.cond c x y) :: k)
  simp only [Frame.atR] at he
  exact step_lone_go (by simp [stepG, stepG.exec, Frame.atR, he, hc])
end
theorem straight_steps {P : Program} {m : Bool} {n : Nat} : ∀ (c : Code) (Q : Exit → Env → Heap → Prop) (env : Env) (F : Heap) (a : Act) (w0 w : World), straight c = true → okDst m n c = true → codeW P c Q env F → Ag n env a → Held m w0.heap.size a.defers w → Has F w → Rest w0 w →
    ∀ (b : Frame) (k : List Item) (cs : List Frame), ∃ env' F' a' w', Steps P (lone (b.atR a (.code c :: k)) cs w) (lone (b.atR a' k) cs w') ∧ Ag n env' a' ∧ Held m w0.heap.size a'.defers w' ∧ Has F' w' ∧ Rest w0 w' ∧ Q .normal env' F' := by
  intro c
  induction c with
  | skip => intro Q env F a w0 w _ _ h ha hh hw hr b k cs; exact ⟨env, F, a, w, .one stepR_code_skip, ha, hh, hw, hr, h⟩
  | region id ops draw =>
    intro Q env F a w0 w hs hd h ha hh hw hr b k cs
    cases draw with
    | true => cases hs
    | false =>
      have hd' : ∀ o ∈ ops.toList, dstOk n o = true := List.all_eq_true.1 hd
      obtain ⟨env', F', a', w', g1, g2⟩ := opsW_arr (m := m) (w0 := w0) hd' ops.toList 0 rfl env F a w h ha hh hw hr b k cs
      refine ⟨env', F', a', w', .head stepR_region ?_, g2⟩
      rw [List.range_eq_range']
      simpa using g1
  | seq x y ihx ihy =>
    intro Q env F a w0 w hs hd h ha hh hw hr b k cs
    simp only [straight, Bool.and_eq_true] at hs
    simp only [okDst, Bool.and_eq_true] at hd
    obtain ⟨env1, F1, a1, w1, g1, g2, g3, g4, g5, g6⟩ := ihx _ env F a w0 w hs.1 hd.1 h ha hh hw hr b (.code y :: k) cs
    obtain ⟨env2, F2, a2, w2, q1, q2⟩ := ihy Q env1 F1 a1 w0 w1 hs.2 hd.2 g6 g2 g3 g4 g5 b k cs
    exact ⟨env2, F2, a2, w2, .head stepR_seq (Steps.trans g1 q1), q2⟩
  | cond x y z ihy ihz =>
    intro Q env F a w0 w hs hd h ha hh hw hr b k cs
    simp only [straight, Bool.and_eq_true] at hs
    simp only [okDst, Bool.and_eq_true] at hd
    simp only [codeW] at h
    split at h
    · next t ht =>
      have hc : a.eval x = .bool t := by rw [ha.eval]; exact ht
      cases t with
      | true =>
        obtain ⟨env2, F2, a2, w2, q1, q2⟩ := ihy Q env F a w0 w hs.1 hd.1 (h.1 rfl) ha hh hw hr b k cs
        exact ⟨env2, F2, a2, w2, .head (stepR_cond hc) q1, q2⟩
      | false =>
        obtain ⟨env2, F2, a2, w2, q1, q2⟩ := ihz Q env F a w0 w hs.2 hd.2 (h.2 rfl) ha hh hw hr b k cs
        exact ⟨env2, F2, a2, w2, .head (stepR_cond hc) q1, q2⟩
    · exact h.elim
  | block id c ih =>
    intro Q env F a w0 w hs hd h ha hh hw hr b k cs
    obtain ⟨env1, F1, a1, w1, g1, g2, g3, g4, g5, g6⟩ := ih _ env F a w0 w hs hd h ha hh hw hr b (.inBlock id :: k) cs
    exact ⟨env1, F1, a1, w1, .head stepR_block (Steps.trans g1 (.one stepR_inBlock)), g2, g3, g4, g5, g6⟩
  | _ => intro Q env F a w0 w hs; cases hs

theorem run_getLoop {P : Program} {w : World} {l : Nat} {r : Loop} (h : w.heap[l]? = some (.loop r)) : (Instr.getLoop l).run P w = .ok r w := by
  unfold Instr.getLoop
  simp [getObj, Sem.run, h, Sem.run_bind]
theorem run_setLoop {P : Program} {w : World} {l : Nat} {r r' : Loop} (h : w.heap[l]? = some (.loop r)) : (setObj l (.loop r')).run P w = .ok () { w with heap := w.heap.setIfInBounds l (.loop r') } := by
  simp [setObj, Sem.run, h]
theorem Has.loop {F : Heap} {w : World} (h : Has F w) {l : Nat} {r : Loop} (hl : F l = some (.loop r)) (r' : Loop) : Has (F.put l (.loop r')) { w with heap := w.heap.setIfInBounds l (.loop r') } := by
  refine h.put ?_ (fun c hc => ?_)
  · have := h.lt hl
    simp [this]
  · simp [Ne.symm hc]
theorem Rest.loop {w : World} {l : Nat} {r : Loop} (h : w.heap[l]? = some (.loop r)) (r' : Loop) : Rest w { w with heap := w.heap.setIfInBounds l (.loop r') } := by
  refine ⟨rfl, rfl, rfl, by simp, fun q hq => ?_⟩
  have hne : l ≠ q := fun e => by subst e; rw [h] at hq; cases hq
  show (w.heap.setIfInBounds l _)[q]? = _
  rw [Array.getElem?_setIfInBounds_ne hne]
  exact hq
def busyL (r : Loop) : Loop := { r with state := .busy }
def overL (r : Loop) : Loop := { r with state := .exhausted }
/-- A round. -/
theorem yield_of {P : Program} {l : Nat} {r : Loop} {args : Array Value} {F : Heap} {R : Value → Heap → Prop} {n : Nat} (hl : F l = some (.loop r)) (hs : r.state = .ready) (hp : r.pending = none) (ha : args.size = r.params.size) (env : Env)
    (hn : ((r.params.zip args).foldl (fun tmps (t, a) => tmps.setIfInBounds t a) r.tmps).size = n) (he : ∀ t, ((r.params.zip args).foldl (fun tmps (t, a) => tmps.setIfInBounds t a) r.tmps).getD t undef = env t)
    (s1 : straight r.assign = true) (s2 : straight r.body = true) (d1 : okDst false n r.assign = true) (d2 : okDst false n r.body = true)
    (h : codeW P r.assign (fun _ env1 F1 => F1 l = some (.loop r) ∧ codeW P r.body (fun _ _ F2 => F2 l = some (.loop (busyL r)) ∧ R (.bool true) (F2.put l (.loop r))) env1 (F1.put l (.loop (busyL r)))) env F) : YieldK P l args F R := by
  refine ⟨fun w hw => ⟨r.fn, (r.params.zip args).foldl (fun tmps (t, a) => tmps.setIfInBounds t a) r.tmps, r.assign, r.body, ?_, fun c cs => ?_⟩⟩
  · unfold Instr.yield
    rw [Sem.run_bind, run_getLoop (hw _ _ hl), Result.andThen_ok, if_neg (by simp [ha])]
    rfl
  · generalize (r.params.zip args).foldl (fun tmps (t, a) => tmps.setIfInBounds t a) r.tmps = tmps at hn he
    let b : Frame := { (default : Frame) with fn := r.fn, kind := .normal, roundOf := some l }
    have h0 : Frame.round l r.fn tmps r.assign r.body .normal = b.atR { tmps := tmps, defers := [] } [.code r.assign, .beginRound, .code r.body] := rfl
    rw [h0]
    obtain ⟨env1, F1, a1, w1, g1, g2, g3, g4, g5, g6, g7⟩ := straight_steps (m := false) r.assign _ env F { tmps := tmps, defers := [] } w w s1 d1 h ⟨hn, he⟩ rfl hw (Rest.refl w) b [.beginRound, .code r.body] (c :: cs)
    have hl1 := g4 _ _ g6
    have e1 : step P (lone (b.atR a1 [.beginRound, .code r.body]) (c :: cs) w1) = .next (lone (b.atR a1 [.code r.body]) (c :: cs) { w1 with heap := w1.heap.setIfInBounds l (.loop { r with state := .busy }) }) := by
      have hbr : (Instr.beginRound l).run P w1 = .ok () { w1 with heap := w1.heap.setIfInBounds l (.loop { r with state := .busy }) } := by
        unfold Instr.beginRound
        rw [Sem.run_bind, run_getLoop hl1, Result.andThen_ok, Sem.run_bind, run_setLoop hl1, Result.andThen_ok, hs]
        rfl
      refine step_lone_go ?_
      simp [stepG, stepG.exec, stepG.apply, Frame.atR, b, hbr, Frame.finish]
    obtain ⟨env2, F2, a2, w2, q1, q2, q3, q4, q5, q6, q7⟩ := straight_steps (m := false) r.body _ env1 _ a1 w _ s2 d2 g7 g2 (g3.mono (Rest.loop hl1 { r with state := .busy })) (g4.loop g6 _) (g5.trans (Rest.loop hl1 { r with state := .busy })) b [] (c :: cs)
    have hl2 := q4 _ _ q6
    have hrr : ({ state := LoopState.ready, pending := none, fn := (busyL r).fn, tmps := (busyL r).tmps, params := (busyL r).params, assign := (busyL r).assign, body := (busyL r).body, defers := (busyL r).defers } : Loop) = r := by
      cases r; simp at hs hp; simp [hs, hp, busyL]
    have e2 : step P (lone (b.atR a2 []) (c :: cs) w2) = .next (lone (c.finish (.bool true)) cs { w2 with heap := w2.heap.setIfInBounds l (.loop r) }) := by
      have her : (Instr.endRound l none).run P w2 = .ok (.bool true) { w2 with heap := w2.heap.setIfInBounds l (.loop r) } := by
        unfold Instr.endRound
        rw [Sem.run_bind, run_getLoop hl2, Result.andThen_ok, Sem.run_bind]
        have := run_setLoop (P := P) (r' := r) hl2
        simp only [Option.isNone_none, if_true]
        rw [hrr, this, Result.andThen_ok]
        rfl
      refine step_lone_go ?_
      simp [stepG, stepG.exec, Frame.atR, b, her, doReturn]
    exact ⟨.bool true, _, F2.put l (.loop r), Steps.trans g1 (.head e1 (Steps.trans q1 (.one e2))), q4.loop q6 _, q5.trans (Rest.loop hl2 _), q7⟩
theorem Has.pushed {F : Heap} {w : World} (h : Has F w) (o : Obj) : Has F { w with heap := w.heap.push o } := fun b u hb => by
  have := h.lt hb
  show (w.heap.push o)[b]? = _
  rw [Array.getElem?_push, if_neg (by omega)]
  exact h b u hb
theorem run_callFunc {P : Program} {g : FuncId} (h : Enters P g) (args : Array Value) (w : World) : (callFunc g args).run P w = .ok (.enter g args) w := by
  obtain ⟨fn, h1, h2, h3⟩ := h
  unfold callFunc
  rw [Sem.run_bind]
  show Result.andThen (Result.ok P w) _ = _
  rw [Result.andThen_ok]
  simp only [h1, h2, h3, Bool.false_eq_true, if_false, Sem.run_pure]
/-- The call of a range over a function. -/
theorem range_of {P : Program} {f : Operand} {ps : Array Tmp} {x y : Code} {Q : Exit → Env → Heap → Prop} {env : Env} {F : Heap} {g : FuncId} {first captured : List Value} (hf : env.ev f = .func (.func g) first.toArray captured.toArray)
    (h : ∀ (n : Nat) (r : Loop), r.state = .ready → r.pending = none → r.params = ps → r.assign = x → r.body = y → r.tmps.size = n → (∀ t, r.tmps.getD t undef = env t) → okDst true n (.rangeFunc f ps x y) = true → ∀ l, F l = none →
      FnK P g (first ++ [Value.func (.yield l) #[] #[]] ++ captured).toArray (F.put l (.loop r)) (fun _ F' => F' l = some (.loop r) ∧ Q .normal env (F'.put l (.loop (overL r))))) : RangeK P f ps x y Q env F := by
  refine ⟨fun n a w w0 hok ha hh hw hr b k cs => ?_⟩
  obtain ⟨rec0, hrec⟩ : ∃ rec0 : Loop, rec0 = { state := .ready, pending := none, fn := b.fn, tmps := a.tmps, params := ps, assign := x, body := y, defers := w.heap.size } := ⟨_, rfl⟩
  have hR := h n rec0 (by rw [hrec]) (by rw [hrec]) (by rw [hrec]) (by rw [hrec]) (by rw [hrec]) (by rw [hrec]; exact ha.size) (by rw [hrec]; exact ha.tmp) hok (w.heap.size + 1) (by
    cases e : F (w.heap.size + 1) with
    | none => rfl
    | some o => have := hw.lt e; omega)
  have hw1 : Has F { w with heap := w.heap.push (.deferred (some [])) } := hw.pushed _
  have hw2 := hw1.new (.loop rec0)
  have hr2 : Rest w { w with heap := (w.heap.push (.deferred (some []))).push (.loop rec0) } := (Rest.push w (.deferred (some []))).trans (Rest.push _ (.loop rec0))
  have hd2 : ((w.heap.push (.deferred (some []))).push (.loop rec0))[w.heap.size]? = some (.deferred (some [])) := by
    rw [Array.getElem?_push, if_neg (by simp), Array.getElem?_push, if_pos rfl]
  have hsz : (w.heap.push (.deferred (some []))).size = w.heap.size + 1 := by simp
  have hen : (Instr.enterLoop b.fn a.tmps ps x y none).run P w = .ok (w.heap.size + 1, [{ target := .collected w.heap.size, args := #[] }]) { w with heap := (w.heap.push (.deferred (some []))).push (.loop rec0) } := by
    have h1 : (Instr.enterLoop b.fn a.tmps ps x y none).run P w = .ok ((w.heap.push (.deferred (some []))).size, [{ target := .collected w.heap.size, args := #[] }]) { w with heap := (w.heap.push (.deferred (some []))).push (.loop { state := .ready, pending := none, fn := b.fn, tmps := a.tmps, params := ps, assign := x, body := y, defers := w.heap.size }) } := rfl
    rw [h1, hsz, hrec]
  replace hw2 : Has (F.put (w.heap.size + 1) (.loop rec0)) { w with heap := (w.heap.push (.deferred (some []))).push (.loop rec0) } := by rw [← hsz]; exact hw2
  obtain ⟨w2, hw2e⟩ : ∃ w2 : World, w2 = { w with heap := (w.heap.push (.deferred (some []))).push (.loop rec0) } := ⟨_, rfl⟩
  have hd2' : w2.heap[w.heap.size]? = some (.deferred (some [])) := by rw [hw2e]; exact hd2
  rw [← hw2e] at hw2 hr2 hen
  have hcall : (do let d ← resolve a.eval { callee := .value f, args := #[.const (.func (.yield (w.heap.size + 1)) #[] #[])], argTypes := #[] } 0; invoke d.target d.args).run P w2 = .ok (.enter g (first ++ [Value.func (.yield (w.heap.size + 1)) #[] #[]] ++ captured).toArray) w2 := by
    have hargs : first.toArray ++ #[Value.func (.yield (w.heap.size + 1)) #[] #[]] ++ captured.toArray = (first ++ [Value.func (.yield (w.heap.size + 1)) #[] #[]] ++ captured).toArray := Array.toList_inj.1 (by simp)
    have hfe : a.eval f = .func (.func g) first.toArray captured.toArray := by rw [ha.eval]; exact hf
    simp only [resolve, hfe, Deferred.ofValue, invoke, Sem.run_bind, Sem.run_pure, Result.andThen_ok]
    have : (#[Operand.const (.func (.yield (w.heap.size + 1)) #[] #[])] : Array Operand).map a.eval = #[Value.func (.yield (w.heap.size + 1)) #[] #[]] := by simp [Act.eval]
    rw [this, hargs]
    exact run_callFunc hR.1 _ _
  let fr2 : Frame := { b.at a (.inRangeFunc (w.heap.size + 1) :: k) with defers := { target := .collected w.heap.size, args := #[] } :: a.defers }
  obtain ⟨e, w3, fr3, ⟨v, F3, rfl, q1, q2, q3, q4⟩, hsteps, _, hleave⟩ := hR.2 w2 hw2 (fr2 :: cs)
  have s1 : step P (lone (b.at a (.code (.rangeFunc f ps x y) :: k)) cs w) = .next (lone (Frame.enter P g (first ++ [Value.func (.yield (w.heap.size + 1)) #[] #[]] ++ captured).toArray .normal) (fr2 :: cs) w2) := by
    refine step_lone_go ?_
    have he : ∀ t ds, ({ fn := b.fn, tmps := a.tmps, todo := t, defers := ds, mode := .run, kind := b.kind, roundOf := none } : Frame).eval = a.eval := fun t ds => funext fun x => by cases x <;> rfl
    simp only [stepG, stepG.exec, Frame.at, Sem.runT_eq, hen, GStep.bare_after, stepG.apply, he, hcall]
    simp only [if_true]
    rfl
  have hl3 := q1 _ _ q3
  have s3 : step P (lone (fr2.finish v) cs w3) = .next (lone (b.at { tmps := a.tmps, defers := { target := .collected w.heap.size, args := #[] } :: a.defers } k) cs { w3 with heap := w3.heap.setIfInBounds (w.heap.size + 1) (.loop { rec0 with state := .exhausted }) }) := by
    have hel : (Instr.endLoop (w.heap.size + 1)).run P w3 = .ok none { w3 with heap := w3.heap.setIfInBounds (w.heap.size + 1) (.loop { rec0 with state := .exhausted }) } := by
      unfold Instr.endLoop
      rw [Sem.run_bind, run_getLoop hl3, Result.andThen_ok]
      have hst : (rec0.state == LoopState.busy) = false := by rw [hrec]; rfl
      have hpe : rec0.pending = none := by rw [hrec]
      simp only [hst, Bool.false_eq_true, if_false, Sem.run_bind, run_setLoop hl3, Result.andThen_ok, Sem.run_pure, hpe]
    refine step_lone_go ?_
    simp [stepG, stepG.exec, fr2, Frame.finish, Frame.at, hel]
  obtain ⟨ms, e1, e2, e3⟩ := hh
  have hrl := Rest.loop hl3 { rec0 with state := .exhausted }
  refine ⟨.normal, { tmps := a.tmps, defers := { target := .collected w.heap.size, args := #[] } :: a.defers }, _, ⟨env, F3.put (w.heap.size + 1) (.loop { rec0 with state := .exhausted }), ⟨ha.size, ha.tmp⟩, ⟨w.heap.size :: ms, ?_, ?_, ?_⟩, q1.loop q3 _, hr.trans (hr2.trans (q2.trans hrl)), q4⟩, .head s1 (Steps.trans hsteps (.head (step_leave_returned hleave) (.one s3)))⟩
  · rw [List.map_cons, e1]
  · exact List.nodup_cons.2 ⟨fun hm => by have := (Array.getElem?_eq_some_iff.1 (e3 _ hm).2).1; omega, e2⟩
  · intro r hm
    rcases List.mem_cons.1 hm with rfl | hm
    · exact ⟨hr.size, hrl.keep _ (q2.keep _ hd2')⟩
    · exact ⟨(e3 r hm).1, hrl.keep _ (q2.keep _ (hr2.keep _ (e3 r hm).2))⟩
/-- How a function with ranges over functions hands back: its blocks for calls that were put off are gone. -/
def retM (P : Program) (fn : Func) (F0 : Heap) (R : Value → Heap → Prop) : Exit → Env → Heap → Prop
  | .normal, env, F => ∀ rs : List Nat, (∀ r ∈ rs, F0 r = none) → (∀ r ∈ rs, ∀ o, F r = some o → o = .deferred (some [])) → retV P env (lessL F rs) fn.results.toList (fun v => R v (lessL F rs))
  | .ret, env, F => ∀ rs : List Nat, (∀ r ∈ rs, F0 r = none) → (∀ r ∈ rs, ∀ o, F r = some o → o = .deferred (some [])) → retV P env (lessL F rs) fn.results.toList (fun v => R v (lessL F rs))
  | _, _, _ => False
theorem take_off {P : Program} (cs : List Frame) : ∀ (ms : List Nat) (fr : Frame) (w : World), fr.mode = .returning → fr.defers = ms.map (fun r => ({ target := .collected r, args := #[] } : Deferred)) → ms.Nodup → (∀ r ∈ ms, w.heap[r]? = some (.deferred (some []))) →
    ∃ w', Steps P (lone fr cs w) (lone { fr with defers := [] } cs w') ∧ w'.os = w.os ∧ w'.tape = w.tape ∧ w'.output = w.output ∧ w'.heap.size = w.heap.size ∧ ∀ c, c ∉ ms → w'.heap[c]? = w.heap[c]? := by
  intro ms
  induction ms with
  | nil =>
    intro fr w hm hd _ _
    refine ⟨w, ?_, rfl, rfl, rfl, rfl, fun _ _ => rfl⟩
    have : ({ fr with defers := [] } : Frame) = fr := by cases fr; simp at hd; simp [hd]
    rw [this]
    exact Steps.refl P _
  | cons r ms ih =>
    intro fr w hm hd hn hh
    obtain ⟨hr, hn⟩ := List.nodup_cons.1 hn
    have h0 := hh r (by simp)
    have ht : (Instr.takeDeferred r).run P w = .ok [] { w with heap := w.heap.setIfInBounds r (.deferred none) } := by
      simp [Instr.takeDeferred, getObj, setObj, Sem.run_bind, Sem.run, h0]
    have hother : ∀ c, c ≠ r → (w.heap.setIfInBounds r (Obj.deferred none))[c]? = w.heap[c]? := fun c hc => Array.getElem?_setIfInBounds_ne (Ne.symm hc)
    have s1 : step P (lone fr cs w) = .next (lone { fr with defers := ms.map (fun r => ({ target := .collected r, args := #[] } : Deferred)) } cs { w with heap := w.heap.setIfInBounds r (.deferred none) }) := by
      refine step_lone_go ?_
      rw [List.map_cons] at hd
      simp [stepG, hm, unwind, hd, ht]
    obtain ⟨w', g1, g2, g3, g4, g5, g6⟩ := ih { fr with defers := ms.map (fun r => ({ target := .collected r, args := #[] } : Deferred)) } { w with heap := w.heap.setIfInBounds r (.deferred none) } hm rfl hn (fun c hc => by
      show (w.heap.setIfInBounds r (Obj.deferred none))[c]? = _
      rw [hother c (fun e => hr (e ▸ hc))]
      exact hh c (by simp [hc]))
    refine ⟨w', .head s1 g1, g2, g3, g4, by rw [g5]; simp, fun c hc => ?_⟩
    rw [List.mem_cons, not_or] at hc
    rw [g6 c hc.2]
    exact hother c hc.1
theorem fn_range {P : Program} {T : Tab} (hT : TabOk P T) {f : FuncId} {fn : Func} {c : Code} {l : List Value} {F : Heap} {R : Value → Heap → Prop} (hf : P.funcs[f]? = some fn) (hb : fn.body = some c) (hnm : (fn.name == "runtime.NumGoroutine") = false) (hl : Nat.ble l.length fn.ntmps = true) (hd : okDst true fn.ntmps c = true)
    (h : codeK P T c (retM P fn F R) (enterE l) F) : FnK P f l.toArray F R := by
  replace h := codeK_sound hT c _ _ F h
  refine ⟨⟨fn, hf, hnm, by rw [hb]; rfl⟩, ?_⟩
  intro w hw cs
  have hlen : l.toArray.size ≤ fn.ntmps := by simpa using hl
  have hag : Ag fn.ntmps (enterE l) { tmps := l.toArray ++ Array.replicate (fn.ntmps - l.toArray.size) undef, defers := [] } := by
    refine ⟨by simp at hlen ⊢; omega, fun t => ?_⟩
    simp only [enterE, Array.getD_eq_getD_getElem?, Array.getElem?_append]
    by_cases ht : t < l.toArray.size
    · rw [if_pos ht]; simp
    · rw [if_neg ht, List.getElem?_eq_none (by simpa using ht : l.length ≤ t)]
      simp only [Array.getElem?_replicate]
      split <;> rfl
  let b : Frame := { (default : Frame) with fn := f, kind := .normal }
  have henter : Frame.enter P f l.toArray .normal = b.at { tmps := l.toArray ++ Array.replicate (fn.ntmps - l.toArray.size) undef, defers := [] } [.code c] := by
    simp [Frame.enter, Frame.at, hf, hb, b]
  obtain ⟨e, a', w', ⟨env', F', h1, hh, h2, h3, h4⟩, harr⟩ := codeW_sound (m := true) c _ _ F _ w w hd h hag (Held.nil true _ w) hw (Rest.refl w) b [] cs
  rw [← henter] at harr
  obtain ⟨ms, e1, e2, e3⟩ := hh
  have fin : ∀ todo, Steps P (lone (Frame.enter P f l.toArray .normal) cs w) (lone { b.at a' todo with mode := .returning } cs w') → (∀ rs : List Nat, (∀ r ∈ rs, F r = none) → (∀ r ∈ rs, ∀ o, F' r = some o → o = .deferred (some [])) → retV P env' (lessL F' rs) fn.results.toList (fun v => R v (lessL F' rs))) →
      ∃ e w'' fr, (∃ v F'', e = Ending.returned v ∧ Has F'' w'' ∧ Rest w w'' ∧ R v F'') ∧ Comes P (lone (Frame.enter P f l.toArray .normal) cs w) (lone fr cs w'') e ∧ fr.fn = f ∧ fr.leaving P w'' e := by
    intro todo hs hret
    obtain ⟨w'', g1, g2, g3, g4, g5, g6⟩ := take_off (P := P) cs ms { b.at a' todo with mode := .returning } w' rfl e1 e2 fun r hr => (e3 r hr).2
    have hlt : ∀ c o, w.heap[c]? = some o → c ∉ ms := fun c o hc hm => by
      have := (Array.getElem?_eq_some_iff.1 hc).1
      have := (e3 c hm).1
      omega
    have hH : Has (lessL F' ms) w'' := fun c o hc => by
      have hcm : c ∉ ms := fun hm => by rw [lessL_none hm] at hc; cases hc
      rw [lessL_at hcm] at hc
      rw [g6 c hcm]
      exact h2 c o hc
    have hR := hret ms (fun r hr => by
      cases e : F r with
      | none => rfl
      | some o => exact absurd hr (hlt r o (hw r o e))) (fun r hr o ho => by
      have := h2 r o ho
      rw [(e3 r hr).2] at this
      exact (Option.some.inj this).symm)
    obtain ⟨v, hv, hR⟩ := results_of (P := P) (w := w'') (R := fun v => R v (lessL F' ms)) h1 hH hR
    refine ⟨.returned v, w'', { b.at a' todo with mode := .returning, defers := [] }, ⟨v, _, rfl, hH, ⟨g2.trans h3.os, g3.trans h3.tape, g4.trans h3.output, by rw [g5]; exact h3.size, fun r hr => ?_⟩, hR⟩, Steps.trans hs g1, rfl, rfl, rfl, rfl, fn, hf, hv⟩
    rw [g6 r (hlt r _ hr)]
    exact h3.keep r hr
  cases e with
  | normal => exact fin [] (Steps.trans harr (.one step_end)) h4
  | ret => obtain ⟨todo, hs⟩ := harr; exact fin todo hs h4
  | _ => exact h4.elim
theorem yield_mono {P : Program} {l : Nat} {args : Array Value} {F : Heap} {K K' : Value → Heap → Prop} (h : YieldK P l args F K) (hk : ∀ v F', K v F' → K' v F') : YieldK P l args F K' := by
  refine ⟨fun w hw => ?_⟩
  obtain ⟨fn, tmps, x, y, h4, h5⟩ := h.out w hw
  refine ⟨fn, tmps, x, y, h4, fun c cs => ?_⟩
  obtain ⟨v, w', F', g1, g2, g3, g4⟩ := h5 c cs
  exact ⟨v, w', F', g1, g2, g3, hk _ _ g4⟩
/-- What is known of cells stands when the blocks for calls that were put off are gone. -/
theorem lessD {F : Heap} {rs : List Nat} (h : ∀ r ∈ rs, ∀ o, F r = some o → o = .deferred (some [])) {b : Nat} {c : Array Value} {e : TypeId} {fz : Nat × Nat} (hb : F b = some (.cells c e fz)) : lessL F rs b = some (.cells c e fz) := by
  rw [lessL_at fun hm => by cases h b hm _ hb]
  exact hb
theorem own_lessD {F : Heap} {rs : List Nat} {s : Value} {e z n : Nat} {vs : List Value} (hs : Own F s e z n vs) (h : ∀ r ∈ rs, ∀ o, F r = some o → o = .deferred (some [])) : Own (lessL F rs) s e z n vs := by
  refine ⟨hs.1, ?_⟩
  rcases hs.2 with h1 | ⟨b, c, cs, h1, ⟨fz, h2, h3⟩, h4⟩
  · exact .inl h1
  · exact .inr ⟨b, c, cs, h1, ⟨fz, lessD h h2, h3⟩, h4⟩
theorem Own.not_loop {F : Heap} {s : Value} {e z n l : Nat} {vs : List Value} (hs : Own F s e z n vs) {r : Loop} (hl : F l = some (.loop r)) : blk s ≠ some l := by
  intro e
  rcases hs.2 with ⟨h1, _⟩ | ⟨b, c, cs, h1, ⟨fz, h2, h3⟩, h4⟩
  · subst h1; cases e
  · subst h1
    obtain rfl : b = l := Option.some.inj e
    rw [hl] at h2; cases h2
theorem rowAt_loop {F : Heap} {A : Option Addr} {vs : List Value} {l : Nat} {r : Loop} (h : RowAt F A vs) (hl : F l = some (.loop r)) (o : Obj) : RowAt (F.put l o) A vs := fun j v hj => by
  obtain ⟨a, h1, h2⟩ := h j v hj
  refine ⟨a, h1, ?_⟩
  obtain ⟨c, e, fz, h3, h4, h5⟩ := cell_block h2
  have hne : (a.add j).block ≠ l := fun e => by rw [e, hl] at h3; cases h3
  unfold Heap.cell?
  rw [Heap.put_other _ _ hne, h3]
  simp only [h4, Option.isSome_none, Bool.false_eq_true, if_false]
  exact h5
/-- One parameter of a round. -/
theorem round_one {n : Nat} {tmps : Array Value} {env : Env} (t0 : Nat) (v : Value) (hn : tmps.size = n) (he : ∀ t, tmps.getD t undef = env t) (ht : t0 < n) :
    (((#[t0] : Array Tmp).zip #[v]).foldl (fun tmps (t, a) => tmps.setIfInBounds t a) tmps).size = n ∧ ∀ t, (((#[t0] : Array Tmp).zip #[v]).foldl (fun tmps (t, a) => tmps.setIfInBounds t a) tmps).getD t undef = env.set (some t0) v t := by
  have e0 : ((#[t0] : Array Tmp).zip #[v]).foldl (fun tmps (t, a) => tmps.setIfInBounds t a) tmps = tmps.setIfInBounds t0 v := by simp
  rw [e0]
  refine ⟨by simp [hn], fun t => ?_⟩
  simp only [Env.set]
  by_cases h : t = t0
  · subst h
    simp [Array.getD_eq_getD_getElem?, hn, ht]
  · have hb : Nat.beq t t0 = false := beq_ne h
    rw [hb, cond_false, ← he t]
    simp [Array.getD_eq_getD_getElem?, Ne.symm h]
end Go.Al
/- The logic of a known part of memory, 16: maps whose keys are whole numbers. It holds for every program. -/
namespace Go.Al
open Go
set_option linter.unusedSimpArgs false

/-- What a map holds, in the order in which its keys came. -/
abbrev ML := List (Int × Value)
def mapL (es : List MapEntry) (l : ML) : Prop := es.map (fun e => (e.key, e.val)) = l.map (fun p => (Value.int .i64 p.1, p.2))
def findM (l : ML) (k : Int) : Nat → Option (Nat × Value)
  | i => match l with
    | [] => none
    | p :: l => if k == p.1 then some (i, p.2) else findM l k (i + 1)
def getM (l : ML) (k : Int) : Option Value := (findM l k 0).map (·.2)
def setM (l : ML) (k : Int) (v : Value) : ML := match findM l k 0 with | some (i, _) => l.set i (k, v) | none => l ++ [(k, v)]
theorem findM_cons (p : Int × Value) (l : ML) (k : Int) (i : Nat) : findM (p :: l) k i = if k == p.1 then some (i, p.2) else findM l k (i + 1) := rfl
theorem findNow_ints : ∀ (es : List MapEntry) (l : ML) (k : Int) (i : Nat), mapL es l → Instr.findNow (.int .i64) (.int .i64 k) es i = some (findM l k i) := by
  intro es
  induction es with
  | nil => intro l k i h; cases l with | nil => rfl | cons p l => cases h
  | cons e es ih =>
    intro l k i h
    cases l with
    | nil => cases h
    | cons p l =>
      unfold mapL at h
      rw [List.map_cons, List.map_cons] at h
      injection h with h1 h2
      injection h1 with h3 h4
      have ih := ih l k (i + 1) h2
      unfold Instr.findNow
      rw [h3, findM_cons]
      simp only [Instr.sameNow, if_true]
      cases hk : (k == p.1) with
      | true => simp [h4]
      | false => simpa using ih
theorem findM_some : ∀ (l : ML) (k : Int) (i j : Nat) (v : Value), findM l k i = some (j, v) → i ≤ j ∧ l[j - i]? = some (k, v) := by
  intro l
  induction l with
  | nil => intro k i j v h; cases h
  | cons p l ih =>
    intro k i j v h
    rw [findM_cons] at h
    split at h
    · next hk =>
      injection h with h
      injection h with h1 h2
      subst h1
      rw [beq_iff_eq] at hk
      refine ⟨Nat.le_refl _, ?_⟩
      rw [Nat.sub_self, hk, ← h2]
      rfl
    · obtain ⟨h1, h2⟩ := ih k (i + 1) j v h
      refine ⟨by omega, ?_⟩
      rw [show j - i = (j - (i + 1)) + 1 by omega]
      exact h2
theorem findM_shift : ∀ (l : ML) (k : Int) (i : Nat), (findM l k i).map (·.2) = getM l k := by
  intro l
  induction l with
  | nil => intro k i; rfl
  | cons p l ih =>
    intro k i
    unfold getM
    rw [findM_cons, findM_cons]
    split
    · rfl
    · rw [ih, ih]
theorem getM_cons (p : Int × Value) (l : ML) (k : Int) : getM (p :: l) k = if k = p.1 then some p.2 else getM l k := by
  have : getM (p :: l) k = (findM (p :: l) k 0).map (·.2) := rfl
  rw [this, findM_cons]
  by_cases h : k = p.1
  · rw [if_pos h, if_pos (by rw [beq_iff_eq]; exact h)]; rfl
  · rw [if_neg h, if_neg (by rw [beq_iff_eq]; exact h), findM_shift]
theorem getM_app : ∀ (l : ML) (k k' : Int) (v : Value), findM l k 0 = none → getM (l ++ [(k, v)]) k' = if k' = k then some v else getM l k' := by
  intro l
  induction l with
  | nil => intro k k' v _; rw [List.nil_append, getM_cons]
  | cons p l ih =>
    intro k k' v h
    rw [findM_cons] at h
    split at h
    · cases h
    · next hk =>
      have h' : findM l k 0 = none := by
        have := findM_shift l k (0 + 1)
        rw [h] at this
        cases e : findM l k 0 with
        | none => rfl
        | some q => unfold getM at this; rw [e] at this; cases this
      rw [List.cons_append, getM_cons, getM_cons, ih k k' v h']
      by_cases e1 : k' = p.1
      · have : ¬ k' = k := fun e => hk (by rw [← e, e1]; exact beq_self_eq_true _)
        rw [if_pos e1, if_neg this, if_pos e1]
      · rw [if_neg e1, if_neg e1]
theorem getM_set : ∀ (l : ML) (k k' : Int) (v : Value) (i : Nat) (u : Value), findM l k 0 = some (i, u) → getM (l.set i (k, v)) k' = if k' = k then some v else getM l k' := by
  intro l
  induction l with
  | nil => intro k k' v i u h; cases h
  | cons p l ih =>
    intro k k' v i u h
    rw [findM_cons] at h
    split at h
    · next hk =>
      injection h with h
      injection h with h1 h2
      subst h1
      rw [beq_iff_eq] at hk
      rw [List.set_cons_zero, getM_cons, getM_cons]
      dsimp only
      by_cases e1 : k' = k
      · rw [if_pos e1, if_pos e1]
      · rw [if_neg e1, if_neg e1, if_neg (by rw [← hk]; exact e1)]
    · next hk =>
      have h1 := (findM_some l k (0 + 1) i u h).1
      have h' : ∃ j, i = j + 1 ∧ findM l k 0 = some (j, u) := by
        refine ⟨i - 1, by omega, ?_⟩
        have hs : ∀ (l : ML) (a b : Nat) (q : Nat × Value), findM l k (a + b) = some q → ∃ r, findM l k a = some (r, q.2) ∧ q.1 = r + b := by
          intro l
          induction l with
          | nil => intro a b q h; cases h
          | cons p l ih =>
            intro a b q h
            rw [findM_cons] at h ⊢
            split at h
            · next hk => injection h with h; rw [if_pos hk, ← h]; exact ⟨a, rfl, rfl⟩
            · next hk =>
              rw [if_neg hk]
              rw [show a + b + 1 = (a + 1) + b by omega] at h
              exact ih (a + 1) b q h
        obtain ⟨r, h2, h3⟩ := hs l 0 1 (i, u) h
        rw [h2]
        have : i - 1 = r := by dsimp only at h3; omega
        rw [this]
      obtain ⟨j, rfl, h'⟩ := h'
      rw [List.set_cons_succ, getM_cons, getM_cons, ih k k' v j u h']
      by_cases e1 : k' = p.1
      · have : ¬ k' = k := fun e => hk (by rw [← e, e1]; exact beq_self_eq_true _)
        rw [if_pos e1, if_neg this, if_pos e1]
      · rw [if_neg e1, if_neg e1]
theorem getM_setM (l : ML) (k k' : Int) (v : Value) : getM (setM l k v) k' = if k' = k then some v else getM l k' := by
  unfold setM
  split
  · next i u h => exact getM_set l k k' v i u h
  · next h => exact getM_app l k k' v h
theorem getM_nil (k : Int) : getM [] k = none := rfl

/-- A map in memory. -/
def MapO (o : Obj) (l : ML) : Prop := ∃ es clock, o = .map es clock ∧ mapL es.toList l
def MapAt (F : Heap) (m : Nat) (l : ML) : Prop := ∃ o, F m = some o ∧ MapO o l
theorem MapAt.mono {F G : Heap} {m : Nat} {l : ML} (h : MapAt F m l) (hE : Ext F G) : MapAt G m l := by
  obtain ⟨o, h1, h2⟩ := h
  exact ⟨o, hE _ _ h1, h2⟩
theorem MapAt.put {F : Heap} {m : Nat} {o : Obj} {l : ML} (h : MapO o l) : MapAt (F.put m o) m l := ⟨o, Heap.put_same _ _ _, h⟩
theorem MapAt.other {F : Heap} {m b : Nat} {o : Obj} {l : ML} (h : MapAt F m l) (hne : m ≠ b) : MapAt (F.put b o) m l := by
  obtain ⟨u, h1, h2⟩ := h
  exact ⟨u, (Heap.put_other _ _ hne).trans h1, h2⟩
theorem MapAt.keeps {F F' : Heap} {m : Nat} {b : Option Nat} {l : ML} (h : MapAt F m l) (hk : Keeps F F' b) (hne : b ≠ some m) : MapAt F' m l := by
  obtain ⟨u, h1, h2⟩ := h
  exact ⟨u, hk _ _ h1 hne, h2⟩
theorem MapAt.not_cells {F : Heap} {m b : Nat} {l : ML} {c : Array Value} {e : TypeId} {fz : Nat × Nat} (h : MapAt F m l) (hb : F b = some (.cells c e fz)) : m ≠ b := by
  rintro rfl
  obtain ⟨o, h1, es, cl, rfl, _⟩ := h
  rw [h1] at hb; cases hb
theorem MapAt.not_own {F : Heap} {m : Nat} {l : ML} {s : Value} {e z n : Nat} {vs : List Value} (h : MapAt F m l) (hs : Own F s e z n vs) : blk s ≠ some m := by
  intro e
  rcases hs.2 with ⟨h1, _⟩ | ⟨b, c, cs, h1, ⟨fz, h2, h3⟩, h4⟩
  · subst h1; cases e
  · subst h1
    obtain rfl : b = m := Option.some.inj e
    exact (h.not_cells h2) rfl
theorem wk_checkKey {P : Program} {F : Heap} {t : TypeId} {k : IntKind} (h : P.underlying t = some (.int k)) (b : Bool) (n : Nat) (v : Value) (K : Unit → Heap → Prop) (hk : K () F) : wk P (Instr.checkKey b (n + 1) t v) F K := by
  unfold Instr.checkKey
  rw [wk_bind, wk_underlying h]
  exact hk
theorem op_makeMap {P : Program} {o : Oper} {ev : Operand → Value} {F : Heap} {K : Value → Heap → Prop} {t : TypeId} (ho : o.op = .makeMap t none) (hk : ∀ b, F b = none → K (.map (some b)) (F.put b (.map #[] 0))) : OpK P o ev F K := by
  refine ⟨opW_v (s := Instr.makeMap t none) (by simp only [execOp, ho, Option.map_none]) ?_⟩
  unfold Instr.makeMap
  simp only [wk_bind, wk_pure]
  exact fun b hb => hk b hb
/-- What a look-up hands back. -/
def hitV (z : Value) : Option Value → Value
  | some v => v
  | none => z
theorem op_lookup {P : Program} {T : Tab} (hT : TabOk P T) {o : Oper} {ev : Operand → Value} {F : Heap} {K : Value → Heap → Prop} {t kt et : TypeId} {x i : Operand} {ok : Bool} {m : Nat} {k : Int} {l : ML} {a1 a2 b1 b2 : Nat} {z1 z2 : Option Value} {d : TD} {z : Value}
    (ho : o.op = .lookup t x i ok) (hx : ev x = .map (some m)) (hi : ev i = .int .i64 k) (h1 : T t = some ⟨a1, a2, .map kt et, z1⟩) (h2 : T kt = some ⟨b1, b2, .int .i64, z2⟩) (h3 : T et = some d) (hz : d.zero = some z)
    (hm : MapAt F m l) (hk : K (if ok then .tuple #[hitV z (getM l k), .bool (getM l k).isSome] else hitV z (getM l k)) F) : OpK P o ev F K := by
  obtain ⟨hu1, _⟩ := hT _ _ h1
  obtain ⟨hu2, _⟩ := hT _ _ h2
  obtain ⟨_, ii, hii, _, _, hze⟩ := hT _ _ h3
  obtain ⟨_, hF, es, cl, rfl, hes⟩ := hm
  refine ⟨opW_v (s := Instr.lookup t (ev x) (ev i) ok) (by simp only [execOp, ho]) ?_⟩
  rw [hx, hi]
  unfold Instr.lookup
  rw [wk_bind, wk_underlying hu1]
  dsimp only
  simp only [wk_bind]
  refine ⟨_, hF, (by intro c e fz h; cases h), ?_⟩
  rw [wk_pure']
  simp only [wk_bind, wk_pure]
  refine wk_checkKey hu2 _ _ _ _ ?_
  unfold Instr.findKey
  rw [wk_bind, wk_underlying hu2, findNow_ints es.toList l k 0 hes]
  simp only [wk_pure]
  unfold getM at hk
  cases hf : findM l k 0 with
  | none =>
    rw [hf] at hk
    simp only [wk_bind, wk_zeroValue hii (hze.trans hz), wk_pure]
    exact hk
  | some q =>
    rw [hf] at hk
    simp only [wk_bind, wk_pure]
    exact hk
theorem mapL_get {es : List MapEntry} {l : ML} (h : mapL es l) {i : Nat} {k : Int} {v : Value} (hl : l[i]? = some (k, v)) : ∃ e, es[i]? = some e ∧ e.key = .int .i64 k ∧ e.val = v := by
  have := congrArg (fun x => x[i]?) h
  simp only [List.getElem?_map, hl, Option.map_some] at this
  obtain ⟨e, h1, h2⟩ := Option.map_eq_some_iff.1 this
  injection h2 with h3 h4
  exact ⟨e, h1, h3, h4⟩
theorem op_mapUpdate {P : Program} {T : Tab} (hT : TabOk P T) {o : Oper} {ev : Operand → Value} {F : Heap} {K : Value → Heap → Prop} {t kt et : TypeId} {x i y : Operand} {m : Nat} {k : Int} {v : Value} {l : ML} {a1 a2 b1 b2 : Nat} {z1 z2 : Option Value}
    (ho : o.op = .mapUpdate t x i y) (hx : ev x = .map (some m)) (hi : ev i = .int .i64 k) (hy : ev y = v) (h1 : T t = some ⟨a1, a2, .map kt et, z1⟩) (h2 : T kt = some ⟨b1, b2, .int .i64, z2⟩)
    (hm : MapAt F m l) (hk : ∀ o', MapO o' (setM l k v) → K undef (F.put m o')) : OpK P o ev F K := by
  obtain ⟨hu1, _⟩ := hT _ _ h1
  obtain ⟨hu2, _⟩ := hT _ _ h2
  obtain ⟨_, hF, es, cl, rfl, hes⟩ := hm
  refine ⟨opW_wk ?_⟩
  simp only [execOp, ho, hx, hi, hy]
  unfold Instr.mapUpdate
  simp only [wk_bind]
  rw [wk_underlying hu1]
  dsimp only
  simp only [wk_bind]
  refine ⟨_, hF, (by intro c e fz h; cases h), ?_⟩
  rw [wk_pure']
  dsimp only
  simp only [wk_bind]
  refine wk_checkKey hu2 _ _ _ _ ?_
  unfold Instr.findKey
  rw [wk_bind, wk_underlying hu2, findNow_ints es.toList l k 0 hes]
  simp only [wk_pure]
  unfold setM at hk
  have hset : ∀ (o' : Obj) (K' : Unit → Heap → Prop), K' () (F.put m o') → wk P (setObj m o') F K' := fun o' K' h => ⟨⟨_, hF, (by intro c e fz h; cases h), (by intro d h; cases h)⟩, h⟩
  cases hf : findM l k 0 with
  | none =>
    rw [hf] at hk
    dsimp only at hk ⊢
    refine hset _ _ ?_
    refine hk _ ⟨_, _, rfl, ?_⟩
    unfold mapL at hes ⊢
    simp [hes]
  | some q =>
    obtain ⟨j, u⟩ := q
    rw [hf] at hk
    obtain ⟨_, hj⟩ := findM_some l k 0 j u hf
    rw [Nat.sub_zero] at hj
    obtain ⟨e, he1, he2, he3⟩ := mapL_get hes hj
    have he1' : es[j]? = some e := by simpa using he1
    dsimp only at hk ⊢
    rw [he1']
    simp only [Option.map_some, Option.getD_some, he2, wk_bind]
    unfold Instr.keyThatStays
    rw [if_pos (by simp [Instr.sameBits])]
    simp only [wk_pure]
    refine hset _ _ ?_
    refine hk _ ⟨_, _, rfl, ?_⟩
    unfold mapL at hes ⊢
    apply List.ext_getElem?
    intro n
    have hn := congrArg (fun x => x[n]?) hes
    simp only [List.getElem?_map, Array.toList_modify, List.getElem?_modify, List.getElem?_set] at hn ⊢
    by_cases hjn : j = n
    · subst hjn
      have hlt : j < l.length := (List.getElem?_eq_some_iff.1 hj).1
      simp [he1, hlt]
    · simp only [hjn, if_false, id_eq]
      simpa using hn
theorem op_clear {P : Program} {T : Tab} (hT : TabOk P T) {o : Oper} {ev : Operand → Value} {F : Heap} {K : Value → Heap → Prop} {t kt et : TypeId} {x : Operand} {m : Nat} {l : ML} {a1 a2 : Nat} {z1 : Option Value}
    (ho : o.op = .call ⟨.builtin .clear, #[x], #[t]⟩) (hx : ev x = .map (some m)) (h1 : T t = some ⟨a1, a2, .map kt et, z1⟩) (hm : MapAt F m l) (hk : ∀ o', MapO o' [] → K (.tuple #[]) (F.put m o')) : OpK P o ev F K := by
  obtain ⟨hu1, _⟩ := hT _ _ h1
  obtain ⟨_, hF, es, cl, rfl, hes⟩ := hm
  refine ⟨opW_v (s := Builtin.clear_ #[t] o.type #[.map (some m)]) (by simp [execOp, ho, resolve, invoke, builtin, hx]) ?_⟩
  unfold Builtin.clear_
  simp only [List.getElem?_toArray, List.getElem?_cons_zero]
  rw [wk_bind, wk_underlying hu1]
  simp only [wk_bind]
  refine ⟨_, hF, (by intro c e fz h; cases h), ?_⟩
  rw [wk_pure']
  refine ⟨⟨_, hF, (by intro c e fz h; cases h), (by intro d h; cases h)⟩, ?_⟩
  exact hk _ ⟨#[], cl, rfl, rfl⟩
end Go.Al
/- The logic of a known part of memory, 17: a part D of what is known that belongs to one thing ('territory'): what is done to the thing leaves all else as it was. And a copy to a place. It holds for every program. -/
namespace Go.Al
open Go

/-- From D within F to D' within F': what is known outside D stays, and D' grows by blocks alone that were not known. -/
structure Moves (D F D' F' : Heap) : Prop where
  inn : Ext D' F'
  out : ∀ c o, F c = some o → D c = none → F' c = some o
  new : ∀ c, D' c ≠ none → D c ≠ none ∨ F c = none
theorem Moves.refl {D F : Heap} (h : Ext D F) : Moves D F D F := ⟨h, fun _ _ h _ => h, fun _ h => .inl h⟩
theorem Moves.trans {D F D1 F1 D2 F2 : Heap} (h : Moves D F D1 F1) (k : Moves D1 F1 D2 F2) : Moves D F D2 F2 := by
  have hn : ∀ c o, F c = some o → D c = none → D1 c = none := fun c o hc hd => by
    cases e : D1 c with
    | none => rfl
    | some u =>
      rcases h.new c (by rw [e]; simp) with h1 | h1
      · exact absurd hd h1
      · rw [h1] at hc; cases hc
  refine ⟨k.inn, fun c o hc hd => k.out c o (h.out c o hc hd) (hn c o hc hd), fun c hc => ?_⟩
  rcases k.new c hc with h1 | h1
  · exact h.new c h1
  · cases e : F c with
    | none => exact .inr rfl
    | some o =>
      cases e2 : D c with
      | none => rw [h.out c o e e2] at h1; cases h1
      | some u => exact .inl (by simp)
theorem Moves.put {D F : Heap} (h : Ext D F) {b : Nat} (hb : D b ≠ none ∨ F b = none) (o : Obj) : Moves D F (D.put b o) (F.put b o) := by
  refine ⟨fun c u hc => ?_, fun c u hc hd => ?_, fun c hc => ?_⟩
  · by_cases e : c = b
    · subst e; rw [Heap.put_same] at hc ⊢; exact hc
    · rw [Heap.put_other _ _ e] at hc ⊢; exact h c u hc
  · have : c ≠ b := by
      rintro rfl
      rcases hb with hb | hb
      · exact hb hd
      · rw [hb] at hc; cases hc
    rw [Heap.put_other _ _ this]; exact hc
  · by_cases e : c = b
    · subst e; exact hb
    · rw [Heap.put_other _ _ e] at hc; exact .inl hc
/-- What is new, and belongs to nobody. -/
theorem Moves.ext {D F F' : Heap} (h : Ext D F) (k : Ext F F') : Moves D F D F' := ⟨h.trans k, fun c o hc _ => k c o hc, fun _ h => .inl h⟩
/-- What is new, taken into D. -/
def gain (D F F' : Heap) : Heap := fun c => match F c with | none => F' c | some _ => D c
theorem gain_old {D F F' : Heap} {c : Nat} {o : Obj} (h : F c = some o) : gain D F F' c = D c := by unfold gain; rw [h]
theorem gain_new {D F F' : Heap} {c : Nat} (h : F c = none) : gain D F F' c = F' c := by unfold gain; rw [h]
theorem gain_ext {D F F' : Heap} (h : Ext D F) : Ext D (gain D F F') := fun c o hc => by rw [gain_old (h _ _ hc)]; exact hc
theorem Moves.gain {D F F' : Heap} (h : Ext D F) (k : Ext F F') : Moves D F (gain D F F') F' := by
  refine ⟨fun c o hc => ?_, fun c o hc _ => k c o hc, fun c hc => ?_⟩
  · cases e : F c with
    | none => rw [gain_new e] at hc; exact hc
    | some u => rw [gain_old e] at hc; exact k _ _ (h _ _ hc)
  · cases e : F c with
    | none => exact .inr rfl
    | some u => rw [gain_old e] at hc; exact .inl hc
/-- .. where one block of D changes too. -/
theorem Moves.gain1 {D F F' : Heap} {b : Option Nat} (h : Ext D F) (k : Keeps F F' b) (hb : ∀ c, b = some c → D c ≠ none) : Moves D F (fun c => if b = some c then F' c else Al.gain D F F' c) F' := by
  refine ⟨fun c o hc => ?_, fun c o hc hd => k c o hc (fun e => hb c e hd), fun c hc => ?_⟩
  · by_cases e : b = some c
    · rw [if_pos e] at hc; exact hc
    · rw [if_neg e] at hc
      cases e2 : F c with
      | none => rw [gain_new e2] at hc; exact hc
      | some u => rw [gain_old e2] at hc; exact k _ _ (h _ _ hc) e
  · by_cases e : b = some c
    · exact .inl (hb c e)
    · rw [if_neg e] at hc
      cases e2 : F c with
      | none => exact .inr rfl
      | some u => rw [gain_old e2] at hc; exact .inl hc
/-- Two parts of memory that have nothing in common. -/
def Apart (D G : Heap) : Prop := ∀ c, D c ≠ none → G c = none
theorem Apart.symm {D G : Heap} (h : Apart D G) : Apart G D := fun c hc => by
  cases e : D c with
  | none => rfl
  | some o => exact absurd (h c (by rw [e]; simp)) hc
theorem Apart.none (G : Heap) : Apart (fun _ => none) G := fun _ h => absurd rfl h
theorem Moves.keep {D F D' F' G : Heap} (h : Moves D F D' F') (hG : Ext G F) (ha : Apart D G) : Ext G F' := fun c o hc => h.out c o (hG _ _ hc) (by
  cases e : D c with
  | none => rfl
  | some u => rw [ha c (by rw [e]; simp)] at hc; cases hc)
theorem Moves.apart {D F D' F' G : Heap} (h : Moves D F D' F') (hG : Ext G F) (ha : Apart D G) : Apart D' G := fun c hc => by
  rcases h.new c hc with h1 | h1
  · exact ha c h1
  · exact hG.none h1
theorem Apart.mono {D G D' : Heap} (h : Apart D G) (k : Ext D' D) : Apart D' G := fun c hc => h c (fun e => hc (k.none e))
theorem row_apart {F G : Heap} {A : Option Addr} {vs : List Value} (hr : RowAt G A vs) (hE : Ext G F) : RowAt F A vs := hr.mono hE
theorem Own.put {F : Heap} {s : Value} {e z n b : Nat} {vs : List Value} {o : Obj} (h : Own F s e z n vs) (hb : blk s ≠ some b) : Own (F.put b o) s e z n vs :=
  h.of_blk fun k u hk hu => by
    have hne : k ≠ b := fun e => by subst e; exact hb hk
    rw [Heap.put_other _ _ hne]; exact hu
theorem putL_take {vs cs : List Value} {off : Nat} (h : off + vs.length ≤ cs.length) : (putL cs off vs).take (off + vs.length) = cs.take off ++ vs := by
  rw [putL_eq vs cs off h, ← List.append_assoc]
  exact List.take_left' (by rw [List.length_append, List.length_take, Nat.min_eq_left (by omega)])
/-- A copy to a place of a row that is known. -/
theorem copy_to {P : Program} {T : Tab} (hT : TabOk P T) {o : Oper} {ev : Operand → Value} {F : Heap} {K : Value → Heap → Prop} {t u e e' : TypeId} {p q : Operand} {g off dl dc m : Nat} {y : Value} {ys : List Value} {cur : Array Value} {fz : Nat × Nat} {a1 a2 : Nat} {z1 : Option Value} {d : TD}
    (ho : o.op = .call ⟨.builtin .copy, #[p, q], #[t, u]⟩) (hp : ev p = .slice (some ⟨g, off, none⟩) dl dc) (hq : ev q = y) (h1 : T t = some ⟨a1, a2, .slice e, z1⟩) (h2 : T e = some d) (hd1 : d.size = 1)
    (hy : Src F 1 m y ys) (hg : F g = some (.cells cur e' fz)) (hfz : fz.2 ≤ fz.1) (hsz : off + dl ≤ cur.size) (hone : ∀ v ∈ ys, v.oneCell' = true)
    (hk : K (.int .i64 (min m dl : Nat)) (F.put g (.cells (putL cur.toList off (ys.take (min m dl))).toArray e' fz))) : OpK P o ev F K := by
  obtain ⟨hu1, _⟩ := hT _ _ h1
  obtain ⟨_, i, hi, hs, _, _⟩ := hT _ _ h2
  refine ⟨opW_v (s := Builtin.copy_ #[t, u] o.type #[.slice (some ⟨g, off, none⟩) dl dc, y]) (by simp [execOp, ho, resolve, invoke, builtin, hp, hq]) ?_⟩
  unfold Builtin.copy_
  simp only [List.getElem?_toArray, List.getElem?_cons_zero, List.getElem?_cons_succ]
  rw [wk_bind, wk_underlying hu1]
  dsimp only
  rw [wk_bind]
  refine hy.len _ ?_
  rw [show Nat.min m dl = min m dl from rfl, wk_bind, wk_sizeOf hi, hs, hd1, wk_bind]
  have hlen : (ys.take (min m dl)).length = min m dl := by rw [List.length_take, hy.1, Nat.mul_one]; omega
  have hcl : ∀ K' : Array Value → Heap → Prop, K' (ys.take (min m dl)).toArray F → wk P (Builtin.firstCells 1 (min m dl) y) F K' := fun K' hK => by
    rcases hy.2 with ⟨A, c, rfl, hr⟩ | ⟨s, rfl, _, hm, hys⟩
    · exact wk_firstCells (hr.take (min m dl)) (by rw [hlen, Nat.mul_one]) K' hK
    · show K' ((s.extract 0 (min m dl)).data.map fun b => .int .u8 b.toNat) F
      have : ((s.extract 0 (min m dl)).data.map fun b : UInt8 => Value.int .u8 b.toNat) = (ys.take (min m dl)).toArray := by
        apply Array.ext'
        rw [hys, ← List.map_take]
        simp
      rw [this]; exact hK
  refine hcl _ ?_
  simp only [wk_bind]
  refine wk_storeCells (a := ⟨g, off, none⟩) (e := e') (fz := fz) rfl (ys.take (min m dl)) 0 F cur _ hg (by rw [hlen]; show off + 0 + min m dl ≤ _; omega) (.inl hfz) (fun v hv => hone v (List.mem_of_mem_take hv)) ?_
  exact hk
/-- A look-up, when it is known what is found. -/
theorem op_lookup_at {P : Program} {T : Tab} (hT : TabOk P T) {o : Oper} {ev : Operand → Value} {F : Heap} {K : Value → Heap → Prop} {t kt et : TypeId} {x i : Operand} {ok : Bool} {m : Nat} {k : Int} {l : ML} {a1 a2 b1 b2 : Nat} {z1 z2 : Option Value} {d : TD} {z : Value} {g : Option Value}
    (ho : o.op = .lookup t x i ok) (hx : ev x = .map (some m)) (hi : ev i = .int .i64 k) (h1 : T t = some ⟨a1, a2, .map kt et, z1⟩) (h2 : T kt = some ⟨b1, b2, .int .i64, z2⟩) (h3 : T et = some d) (hz : d.zero = some z)
    (hm : MapAt F m l) (hg : getM l k = g) (hk : K (if ok then .tuple #[hitV z g, .bool g.isSome] else hitV z g) F) : OpK P o ev F K := by
  subst hg
  exact op_lookup hT ho hx hi h1 h2 h3 hz hm hk
end Go.Al
/- The logic of a known part of memory, 18: rows whose elements take several cells. It holds for every program. -/
namespace Go.Al
open Go

def rowS {α : Type} (f : α → List Value) (xs : List α) : List Value := xs.flatMap f
section
variable {α : Type} {f : α → List Value} {z : Nat}
theorem rowS_cons (x : α) (xs : List α) : rowS f (x :: xs) = f x ++ rowS f xs := by unfold rowS; rw [List.flatMap_cons]
theorem rowS_len (hz : ∀ x, (f x).length = z) (xs : List α) : (rowS f xs).length = xs.length * z := by
  induction xs with
  | nil => show 0 = 0 * z; omega
  | cons x xs ih => rw [rowS_cons, List.length_append, ih, hz, List.length_cons, Nat.succ_mul]; omega
theorem rowS_at (hz : ∀ x, (f x).length = z) : ∀ (xs : List α) (j : Nat) (x : α), xs[j]? = some x → ((rowS f xs).drop (j * z)).take z = f x := by
  intro xs
  induction xs with
  | nil => intro j x h; simp at h
  | cons y xs ih =>
    intro j x h
    rw [rowS_cons]
    cases j with
    | zero =>
      obtain rfl : y = x := by simpa using h
      rw [Nat.zero_mul, List.drop_zero]
      exact List.take_left' (hz y)
    | succ j =>
      rw [Nat.succ_mul, Nat.add_comm, ← List.drop_drop, List.drop_left' (hz y)]
      exact ih j x (by simpa using h)
theorem rowS_get (hz : ∀ x, (f x).length = z) {xs : List α} {j q : Nat} {x : α} {v : Value} (h : xs[j]? = some x) (hq : (f x)[q]? = some v) : (rowS f xs)[j * z + q]? = some v := by
  have hlt : q < z := by rw [← hz x]; exact (List.getElem?_eq_some_iff.1 hq).1
  rw [← rowS_at hz xs j x h, List.getElem?_take, if_pos hlt, List.getElem?_drop] at hq
  exact hq
theorem rowS_loads (hz : ∀ x, (f x).length = z) (h0 : 0 < z) {F : Heap} {ad : Addr} {xs : List α} {j : Nat} {x : α} {K : Value → Prop} (hr : RowAt F (some ad) (rowS f xs)) (h : xs[j]? = some x) (hk : K (.agg (f x).toArray)) : LoadsK F (ad.add (Int.toNat (j : Int) * z)) z K := by
  have hlt : j < xs.length := (List.getElem?_eq_some_iff.1 h).1
  rw [Int.toNat_natCast]
  refine loads_row hr h0 ?_ ?_
  · rw [rowS_len hz]
    calc j * z + z = (j + 1) * z := (Nat.succ_mul j z).symm
      _ ≤ xs.length * z := Nat.mul_le_mul_right z hlt
  · rw [rowS_at hz xs j x h]; exact hk
theorem rowS_cell (hz : ∀ x, (f x).length = z) {F : Heap} {ad : Addr} {xs : List α} {j q : Nat} {x : α} {v : Value} (hr : RowAt F (some ad) (rowS f xs)) (h : xs[j]? = some x) (hq : (f x)[q]? = some v) : F.cell? ((ad.add (Int.toNat (j : Int) * z)).add q) = some v := by
  rw [Int.toNat_natCast, add_add]
  exact hr.cell (rowS_get hz h hq)
/-- One element is another one. -/
theorem rowS_set (hz : ∀ x, (f x).length = z) : ∀ (xs : List α) (j q : Nat) (x y : α) (v : Value), xs[j]? = some x → q < z → f y = (f x).set q v → putL (rowS f xs) (j * z + q) [v] = rowS f (xs.set j y) := by
  intro xs
  induction xs with
  | nil => intro j q x y v h; simp at h
  | cons w xs ih =>
    intro j q x y v h hq hy
    rw [rowS_cons]
    cases j with
    | zero =>
      obtain rfl : w = x := by simpa using h
      rw [List.set_cons_zero, rowS_cons, hy, Nat.zero_mul, Nat.zero_add]
      show (f w ++ rowS f xs).set q v = _
      rw [List.set_append_left _ _ (by rw [hz]; exact hq)]
    | succ j =>
      have := ih j q x y v (by simpa using h) hq hy
      rw [List.set_cons_succ, rowS_cons, ← this]
      show (f w ++ rowS f xs).set ((j + 1) * z + q) v = f w ++ (rowS f xs).set (j * z + q) v
      rw [List.set_append_right _ _ (by rw [hz, Nat.succ_mul]; omega), hz, Nat.succ_mul]
      congr 2
      omega
/-- Rows of structs among a law's arguments. -/
theorem rowS_open {β : Type} {K : Kind β} {G : β → Prop} {Q : α → β → Prop} (hz : ∀ x, (f x).length = z) (h0 : 0 < z) {F : Heap} {A : Option Addr} {xs : List β} (w : ∀ x ∈ xs, G x) (h : Elems F A z K xs) (ho : ∀ x c, G x → K F x c → ∃ r, c = f r ∧ Q r x) :
    ∃ rs : List α, rs.length = xs.length ∧ RowAt F A (rowS f rs) ∧ ∀ (j : Nat) r x, rs[j]? = some r → xs[j]? = some x → Q r x := by
  have hex : ∀ (j : Nat) (hj : j < xs.length), ∃ r : α, Q r xs[j] ∧ ∃ a, A = some a ∧ ∀ q u, (f r)[q]? = some u → F.cell? (a.add (j * z + q)) = some u := by
    intro j hj
    obtain ⟨a, c, h1, h2, h3, h4⟩ := h j _ (List.getElem?_eq_getElem hj)
    obtain ⟨r, rfl, hr⟩ := ho _ _ (w _ (List.getElem_mem hj)) h3
    exact ⟨r, hr, a, h1, h4⟩
  have key : ∀ n, n ≤ xs.length → ∃ rs : List α, rs.length = n ∧ ∀ (j : Nat) r, rs[j]? = some r → (∀ x, xs[j]? = some x → Q r x) ∧ ∃ a, A = some a ∧ ∀ q u, (f r)[q]? = some u → F.cell? (a.add (j * z + q)) = some u := by
    intro n
    induction n with
    | zero => intro _; exact ⟨[], rfl, fun j r h => by simp at h⟩
    | succ n ih =>
      intro hn
      obtain ⟨rs, hl, hp⟩ := ih (by omega)
      obtain ⟨r, hr, hr2⟩ := hex n (by omega)
      refine ⟨rs ++ [r], by simp [hl], fun j q hq => ?_⟩
      by_cases hj : j < rs.length
      · rw [List.getElem?_append_left hj] at hq
        exact hp j q hq
      · rw [List.getElem?_append_right (by omega)] at hq
        have hj0 : j - rs.length = 0 := by
          have := (List.getElem?_eq_some_iff.1 hq).1
          simp at this; omega
        rw [hj0] at hq
        obtain rfl : r = q := by simpa using hq
        obtain rfl : j = n := by omega
        refine ⟨fun x hx => ?_, hr2⟩
        rw [List.getElem?_eq_getElem (by omega)] at hx
        obtain rfl := Option.some.inj hx
        exact hr
  obtain ⟨rs, hl, hp⟩ := key xs.length (Nat.le_refl _)
  refine ⟨rs, hl, ?_, fun j r x hj hx => (hp j r hj).1 x hx⟩
  intro j v hj
  have hlt : j < (rowS f rs).length := (List.getElem?_eq_some_iff.1 hj).1
  rw [rowS_len hz] at hlt
  have hq : j / z < rs.length := (Nat.div_lt_iff_lt_mul h0).2 hlt
  have hx := List.getElem?_eq_getElem hq
  obtain ⟨_, a, h1, h2⟩ := hp _ _ hx
  refine ⟨a, h1, ?_⟩
  have hjz : j / z * z + j % z = j := by rw [Nat.mul_comm]; exact Nat.div_add_mod j z
  have := h2 (j % z) v (by rw [← rowS_at hz rs _ _ hx, List.getElem?_take, if_pos (Nat.mod_lt _ h0), List.getElem?_drop, hjz]; exact hj)
  rwa [hjz] at this
end
/-- A new row of zeros of several cells each. -/
theorem make_rows {P : Program} {T : Tab} (hT : TabOk P T) {o : Oper} {ev : Operand → Value} {F : Heap} {K : Value → Heap → Prop} {t e : TypeId} {p q : Operand} (c : Nat) {zc : Array Value} {a1 a2 : Nat} {z1 : Option Value} {d : TD}
    (ho : o.op = .makeSlice t p q) (hp : ev p = .int .i64 c) (hq : ev q = .int .i64 c) (h1 : T t = some ⟨a1, a2, .slice e, z1⟩) (h2 : T e = some d) (hd : zc.size = d.size ∧ 0 < d.bytes ∧ ∃ zv, d.zero = some zv ∧ zv.cells = zc)
    (hc : c * d.bytes ≤ 281474976710656) (h0 : 0 < c) (hs : 0 < d.size)
    (hk : ∀ b, F b = none → K (.slice (some ⟨b, 0, none⟩) c c) (F.put b (.cells (zerosL zc.toList c).toArray e))) : OpK P o ev F K := by
  obtain ⟨hu1, _⟩ := hT _ _ h1
  obtain ⟨_, i, hi, hsz, hby, hze⟩ := hT _ _ h2
  obtain ⟨hd1, hd2, zv, hzv, hzc⟩ := hd
  have hcc : c ≤ 281474976710656 := Nat.le_trans (Nat.le_mul_of_pos_right c hd2) hc
  refine ⟨opW_v (s := Instr.makeSlice t (ev p) (ev q)) (by simp only [execOp, ho]) ?_⟩
  rw [hp, hq]
  unfold Instr.makeSlice
  rw [wk_bind, wk_underlying hu1]
  dsimp only
  have hw2 : IntKind.i64.wrap (c : Int) = c := by rw [IntKind.wrap_i64]; omega
  have hb : ¬ ((d.bytes : Int) * (c : Int) > 2 ^ 48) := by
    have : ((c * d.bytes : Nat) : Int) ≤ ((281474976710656 : Nat) : Int) := Int.ofNat_le.2 hc
    rw [Int.natCast_mul] at this
    rw [Int.mul_comm]
    omega
  simp only [asInt, asIntOf, wk_bind, wk_pure, wk_typeInfo hi, hby, hw2]
  rw [if_neg (by simp; omega)]
  simp only [wk_bind, wk_askRoom, wk_sizeOf hi, hsz, Int.toNat_natCast]
  have fin : wk P (newRow e ((Array.range (c * d.size)).map (fun x => zc[x % zc.size]!))) F (fun a F' => K (.slice (some a) c c) F') := by
    have : (Array.range (c * d.size)).map (fun x => zc[x % zc.size]!) = (zerosL zc.toList c).toArray := by
      rw [← Array.toList_inj, ← hd1, zeros_eq, List.toList_toArray]
    rw [this]
    simp only [newRow, wk_bind, wk_pure]
    exact run_new ⟨fun b hb => hk b hb⟩
  rw [if_neg (by first | omega | exact Nat.ne_of_gt (Nat.mul_pos h0 hs)), wk_bind, wk_zeroValue hi (hze.trans hzv)]
  simp only [wk_bind, wk_pure, hzc]
  exact (wk_bind _ _ F _).1 fin
end Go.Al
