/- The contract of the reference's Encode, over what is known of memory. -/
import Derived.Test.YtkahpaipciooiacCmdEnc
namespace Go.Proofs.Ytkahpaipciooiac.Al
open Go Go.Al Go.Proofs Go.RowKit
set_option maxHeartbeats 8000000
set_option maxRecDepth 100000
set_option linter.unusedVariables false
set_option linter.unusedSimpArgs false
/-- A region, for whatever comes behind it. -/
theorem draw_cut {P : Program} {T : Tab} {ops : Array Oper} {K : Env → Heap → Prop} {env : Env} {F : Heap} (Post : Env → Heap → Prop) (h : ∀ K : Env → Heap → Prop, (∀ env' F', Post env' F' → K env' F') → DrawK P T ops K env F) (hk : ∀ env' F', Post env' F' → K env' F') : DrawK P T ops K env F := h K hk
theorem put1 (bs : List UInt8) (z : Int) (h0 : 0 ≤ z) (h1 : z < 256) : putM 1 bs z = bs ++ [byteAt z 0] := by
  unfold putM inM
  rw [show (Nat.beq 1 8) = false from rfl, cond_false, decide_eq_true h0, Bool.true_and, decide_eq_true (by simpa using h1)]
  rfl
theorem wrap_byte (z : Int) : IntKind.u8.wrap z = ((byteAt z 0).toNat : Int) := by
  rw [u8_wrap, byteAt_int z 0 (by decide)]
  simp
def rencH (c : CD) : List UInt8 := putAllM 8 (putAllM 1 (putAllM 4 (putAllM 2 [byteAt c.k 0] [c.y, c.x, c.f, c.o, c.n, c.p]) [c.d]) [c.l]) [c.a]
def rencM (c : CD) : List UInt8 := rencH c ++ [byteAt (if c.ab then 1 else 0) 0, byteAt (c.nm.length : Int) 0] ++ c.nm ++ [byteAt (c.ls.length : Int) 0]
theorem rencM_eq (c : CD) (h : mayB c = true) : rencM c = encM c := by
  obtain ⟨h1, h2, h3, _⟩ := (mayB_iff c).1 h
  unfold knownB at h1
  rw [Bool.and_eq_true, decide_eq_true_eq, decide_eq_true_eq] at h1
  have e1 : putAllM 1 [] [c.k] = [byteAt c.k 0] := by
    show putM 1 [] c.k = _
    rw [put1 _ _ (by omega) (by omega)]
    rfl
  have e2 : rencH c = encH c := by
    unfold rencH encH
    rw [e1]
  unfold rencM encM
  rw [e2]
  have e3 : ∀ bs : List UInt8, ∀ z w : Int, 0 ≤ z → z < 256 → 0 ≤ w → w < 256 → putAllM 1 bs [z, w] = bs ++ [byteAt z 0, byteAt w 0] := by
    intro bs z w z0 z1 w0 w1
    show putM 1 (putM 1 bs z) w = _
    rw [put1 _ _ z0 z1, put1 _ _ w0 w1, List.append_assoc]
    rfl
  have e4 : ∀ bs : List UInt8, ∀ z : Int, 0 ≤ z → z < 256 → putAllM 1 bs [z] = bs ++ [byteAt z 0] := by
    intro bs z z0 z1
    exact put1 bs z z0 z1
  rw [e3 _ _ _ (by split <;> omega) (by split <;> omega) (by omega) (by omega), e4 _ _ (by omega) (by omega)]
theorem u8_cmd : (5 : Nat) ≠ 38 := by decide
theorem rencode (k y x f o n p d l a : Int) (ab : Bool) (nm : List UInt8) (ls : List LD) (A : Option Addr) (c : Nat) (F : Heap) (hr : RowAt F A (linesV ls)) (hn : nm.length ≤ 100000) (hl : ls.length ≤ 10000) :
    FnK Try.prog 25 #[.agg (cmdC k y x f o n p d l a ab ⟨nm.toArray⟩ (.slice A ls.length c))] F (fun v F' => (∃ r, v = .tuple #[r, .int .i64 (if mayB ⟨k, y, x, f, o, n, p, d, l, a, ab, nm, ls⟩ then 0 else 1)] ∧ Bs F' r (if mayB ⟨k, y, x, f, o, n, p, d, l, a, ab, nm, ls⟩ then encB ⟨k, y, x, f, o, n, p, d, l, a, ab, nm, ls⟩ else [])) ∧ Ext F F') := by
  have hm := mayB_iff ⟨k, y, x, f, o, n, p, d, l, a, ab, nm, ls⟩
  have hreq := rencM_eq ⟨k, y, x, f, o, n, p, d, l, a, ab, nm, ls⟩
  have c1 := fun G hg => rmay k y x f o n p d l a ab nm ls A c G hg hn hl
  generalize mayB ⟨k, y, x, f, o, n, p, d, l, a, ab, nm, ls⟩ = q at hm c1 hreq ⊢
  (refine fn_walk tab_ok Try.func25 rfl rfl rfl rfl ?_; (conv => whnf))
  refine new_step (cmdO k y x f o n p d l a ab ⟨nm.toArray⟩ (.slice A ls.length c)) rfl fun b hb => ?_
  have hE := Ext.new hb (cmdO k y x f o n p d l a ab ⟨nm.toArray⟩ (.slice A ls.length c))
  have hB := Heap.put_same F b (cmdO k y x f o n p d l a ab ⟨nm.toArray⟩ (.slice A ls.length c))
  generalize F.put b _ = F1 at hE hB ⊢
  (conv => whnf)
  refine ⟨⟨_, _, _, hB, rfl, Nat.le_refl 13, ?_⟩⟩
  (conv => whnf)
  refine call_of (c1 F1 (hr.mono hE)) ?_
  rintro v F2 ⟨rfl, hE2⟩
  have hB2 := hE2 _ _ hB
  replace hE2 := hE.trans hE2
  cases q with
  | false =>
    (conv => whnf)
    exact ⟨⟨_, rfl, Bs.nil _⟩, hE2⟩
  | true =>
  obtain ⟨_, n255, l255, _⟩ := hm.1 rfl
  dsimp only at n255 l255
  replace hreq := hreq rfl
  clear hm c1
  have hr2 := hr.mono hE2
  have b2 := putAllM_len 2 [y, x, f, o, n, p] [byteAt k 0]
  have b3 := putAllM_len 4 [d] (putAllM 2 [byteAt k 0] [y, x, f, o, n, p])
  have b4 := putAllM_len 1 [l] (putAllM 4 (putAllM 2 [byteAt k 0] [y, x, f, o, n, p]) [d])
  have b5 := putAllM_len 8 [a] (putAllM 1 (putAllM 4 (putAllM 2 [byteAt k 0] [y, x, f, o, n, p]) [d]) [l])
  have b6 := encM_len ⟨k, y, x, f, o, n, p, d, l, a, ab, nm, ls⟩
  have hH : rencH ⟨k, y, x, f, o, n, p, d, l, a, ab, nm, ls⟩ = putAllM 8 (putAllM 1 (putAllM 4 (putAllM 2 [byteAt k 0] [y, x, f, o, n, p]) [d]) [l]) [a] := rfl
  have hM : rencM ⟨k, y, x, f, o, n, p, d, l, a, ab, nm, ls⟩ = rencH ⟨k, y, x, f, o, n, p, d, l, a, ab, nm, ls⟩ ++ [byteAt (if ab then 1 else 0) 0, byteAt (nm.length : Int) 0] ++ nm ++ [byteAt (ls.length : Int) 0] := rfl
  have hEB : encB ⟨k, y, x, f, o, n, p, d, l, a, ab, nm, ls⟩ = encL (encM ⟨k, y, x, f, o, n, p, d, l, a, ab, nm, ls⟩) ls := rfl
  generalize encB ⟨k, y, x, f, o, n, p, d, l, a, ab, nm, ls⟩ = eB at hEB ⊢
  rw [hreq] at hM
  generalize encM ⟨k, y, x, f, o, n, p, d, l, a, ab, nm, ls⟩ = eM at hM b6 hEB
  generalize rencH ⟨k, y, x, f, o, n, p, d, l, a, ab, nm, ls⟩ = eH at hM hH
  simp only [List.length_cons, List.length_nil] at b2 b3 b4 b5 b6
  clear hreq
  cases ab with
  | true =>
    have hM1 : eM = eH ++ [byteAt 1 0, byteAt (nm.length : Int) 0] ++ nm ++ [byteAt (ls.length : Int) 0] := hM
    clear hM
    have w1 : IntKind.u8.wrap 1 = ((byteAt 1 0).toNat : Int) := wrap_byte _
    have w2 : IntKind.u8.wrap (nm.length : Int) = ((byteAt (nm.length : Int) 0).toNat : Int) := wrap_byte _
    have w3 : IntKind.u8.wrap (ls.length : Int) = ((byteAt (ls.length : Int) 0).toNat : Int) := wrap_byte _
    have w0 : IntKind.u8.wrap k = ((byteAt k 0).toNat : Int) := wrap_byte _
    generalize byteAt 1 0 = y1 at w1 hM1
    generalize byteAt (nm.length : Int) 0 = y2 at w2 hM1
    generalize byteAt (ls.length : Int) 0 = y3 at w3 hM1
    generalize byteAt k 0 = y0 at w0 hH b2 b3 b4 b5
    (conv => whnf)
    refine load_blk hB2 rfl rfl ?_
    (conv => whnf)
    refine load_blk hB2 rfl rfl ?_
    (conv => whnf)
    refine new_step (.cells (bytesOf [y0]).toArray 5) (congrArg (fun z => Obj.cells #[Value.int .u8 z] 5) w0) fun u hu => ?_
    have hE3 := Ext.new hu (.cells (bytesOf [y0]).toArray 5)
    have hB3 := hE3 _ _ hB2
    have hU := Heap.put_same F2 u (.cells (bytesOf [y0]).toArray 5)
    generalize F2.put u _ = F3 at hE3 hB3 hU ⊢
    have hS0 : Bs F3 (.slice (some ⟨u, 0, none⟩) 1 1) [y0] := ⟨_, 1, rfl, Nat.le_refl 1, fun j v hj => ⟨_, rfl, by rw [add_plain, Heap.cell_at hU, Nat.zero_add]; simpa using hj⟩⟩
    (conv => whnf)
    refine load_blk hB3 rfl rfl ?_
    (conv => whnf)
    refine load_blk hB3 rfl rfl ?_
    (conv => whnf)
    refine load_blk hB3 rfl rfl ?_
    (conv => whnf)
    refine load_blk hB3 rfl rfl ?_
    (conv => whnf)
    refine load_blk hB3 rfl rfl ?_
    (conv => whnf)
    refine load_blk hB3 rfl rfl ?_
    (conv => whnf)
    refine new_step (.cells (([y, x, f, o, n, p] : List Int).map (Value.int .i64)).toArray 3) rfl fun g hg => ?_
    have hE4 := Ext.new hg (.cells (([y, x, f, o, n, p] : List Int).map (Value.int .i64)).toArray 3)
    have hB4 := hE4 _ _ hB3
    have hG := Heap.put_same F3 g (.cells (([y, x, f, o, n, p] : List Int).map (Value.int .i64)).toArray 3)
    replace hS0 := hS0.mono hE4
    generalize F3.put g _ = F4 at hE4 hB4 hG hS0 ⊢
    (conv => whnf)
    refine call_of (rputL 2 (.inr (.inl rfl)) [y0] (.slice (some ⟨u, 0, none⟩) 1 1) [y, x, f, o, n, p] (some ⟨g, 0, none⟩) 6 F4 hS0 (row_new hG) (by simp) (by simp only [List.length_cons, List.length_nil]; omega)) ?_
    rintro s0 F7 M0
    have hB7 := M0.ext _ _ hB4
    have hE7 : Ext F2 F7 := hE3.trans (hE4.trans M0.ext)
    have S0 := Bs.of_mine M0
    clear M0 hS0 hG hU hB3 hB4
    generalize putAllM 2 [y0] [y, x, f, o, n, p] = e2 at S0 b2 b3 b4 b5 hH
    refine short [1, 4, 30] [.pointer (some ⟨b, 0, none⟩), .int .i64 1, s0] rfl fun ρ => ?_
    (conv => whnf)
    refine draw_cut (fun env' F' => ∃ S', Mine F7 F' S' 5 1 eH.length (bytesOf eH) ∧ env' 1 = .pointer (some ⟨b, 0, none⟩) ∧ env' 4 = .int .i64 1 ∧ env' 5 = S') (fun K hK => ?_) ?_
    · rw [hH] at hK
      refine draw_tree tab_ok (by kernel_rfl) [2, 6, 10] (DT.row [0, 1, 2, 5, 6, 9, 10] (.fork (.cons 3 (.fork (.cons 4 (.fork (.cons 7 (.fork (.cons 8 (.cons 11 (.cons 12 (DT.row [13] .nil)))) (.cons 11 (.cons 8 (.cons 12 (DT.row [13] .nil)))))) (.cons 11 (.cons 7 (.cons 8 (.cons 12 (DT.row [13] .nil))))))) (.fork (.cons 7 (.fork (.cons 4 (.fork (.cons 8 (.cons 11 (.cons 12 (DT.row [13] .nil)))) (.cons 11 (.cons 8 (.cons 12 (DT.row [13] .nil)))))) (.cons 11 (.cons 4 (.cons 8 (.cons 12 (DT.row [13] .nil))))))) (.cons 11 (.fork (.cons 4 (.cons 7 (.cons 8 (.cons 12 (DT.row [13] .nil))))) (.cons 7 (.cons 4 (.cons 8 (.cons 12 (DT.row [13] .nil)))))))))) (.fork (.cons 7 (.fork (.cons 3 (.fork (.cons 4 (.fork (.cons 8 (.cons 11 (.cons 12 (DT.row [13] .nil)))) (.cons 11 (.cons 8 (.cons 12 (DT.row [13] .nil)))))) (.cons 11 (.cons 4 (.cons 8 (.cons 12 (DT.row [13] .nil))))))) (.cons 11 (.cons 3 (.cons 4 (.cons 8 (.cons 12 (DT.row [13] .nil)))))))) (.cons 11 (.fork (.cons 3 (.fork (.cons 4 (.cons 7 (.cons 8 (.cons 12 (DT.row [13] .nil))))) (.cons 7 (.cons 4 (.cons 8 (.cons 12 (DT.row [13] .nil))))))) (.cons 7 (.cons 3 (.cons 4 (.cons 8 (.cons 12 (DT.row [13] .nil))))))))))) (by kernel_rfl) ?_
      have E0 := Ext.refl F7
      (conv => whnf)
      refine load_blk hB7 rfl rfl ?_
      (conv => whnf)
      refine load_blk hB7 rfl rfl ?_
      (conv => whnf)
      refine load_blk hB7 rfl rfl ?_
      (conv => whnf)
      refine ⟨?_, ?_⟩
      · have triv := True.intro
        (conv => whnf)
        refine new_step (.cells (([d] : List Int).map (Value.int .i64)).toArray 3) rfl fun g0 hg0 => ?_
        have X101 := Ext.new hg0 (.cells (([d] : List Int).map (Value.int .i64)).toArray 3)
        have G0 := Heap.put_same F7 g0 (.cells (([d] : List Int).map (Value.int .i64)).toArray 3)
        generalize F7.put g0 _ = F101 at X101 G0 ⊢
        have E101 := E0.trans X101
        refine ⟨E101, ?_⟩
        replace S0 := S0.mono X101
        (conv => whnf)
        refine ⟨?_, ?_⟩
        · have triv := True.intro
          (conv => whnf)
          refine call_of (rputL 4 (.inr (.inr (.inl rfl))) e2 s0 [d] (some ⟨g0, 0, none⟩) 1 F101 S0 (row_new G0) (by simp) (by simp only [List.length_cons, List.length_nil]; omega)) ?_
          rintro s0 F102 M0
          have X102 := M0.ext
          have E102 := E101.trans X102
          refine ⟨E102, ?_⟩
          have S1 := Bs.of_mine M0
          replace M0 := M0.down E101
          (conv => whnf)
          refine ⟨?_, ?_⟩
          · have triv := True.intro
            (conv => whnf)
            refine new_step (.cells (([l] : List Int).map (Value.int .i64)).toArray 3) rfl fun g1 hg1 => ?_
            have X103 := Ext.new hg1 (.cells (([l] : List Int).map (Value.int .i64)).toArray 3)
            have G1 := Heap.put_same F102 g1 (.cells (([l] : List Int).map (Value.int .i64)).toArray 3)
            generalize F102.put g1 _ = F103 at X103 G1 ⊢
            have E103 := E102.trans X103
            refine ⟨E103, ?_⟩
            replace S1 := S1.mono X103
            replace M0 := M0.mono X103
            (conv => whnf)
            refine ⟨?_, ?_⟩
            · have triv := True.intro
              (conv => whnf)
              refine call_of (rputL 1 (.inl rfl) (putAllM 4 e2 [d]) s0 [l] (some ⟨g1, 0, none⟩) 1 F103 S1 (row_new G1) (by simp) (by simp only [List.length_cons, List.length_nil]; omega)) ?_
              rintro s1 F104 M1
              have X104 := M1.ext
              have E104 := E103.trans X104
              refine ⟨E104, ?_⟩
              have S2 := Bs.of_mine M1
              replace M1 := M1.down E103
              (conv => whnf)
              refine new_step (.cells (([a] : List Int).map (Value.int .i64)).toArray 3) rfl fun g2 hg2 => ?_
              have X105 := Ext.new hg2 (.cells (([a] : List Int).map (Value.int .i64)).toArray 3)
              have G2 := Heap.put_same F104 g2 (.cells (([a] : List Int).map (Value.int .i64)).toArray 3)
              generalize F104.put g2 _ = F105 at X105 G2 ⊢
              have E105 := E104.trans X105
              refine ⟨E105, ?_⟩
              replace S2 := S2.mono X105
              replace M1 := M1.mono X105
              (conv => whnf)
              refine call_of (rputL 8 (.inr (.inr (.inr rfl))) (putAllM 1 (putAllM 4 e2 [d]) [l]) s1 [a] (some ⟨g2, 0, none⟩) 1 F105 S2 (row_new G2) (by simp) (by simp only [List.length_cons, List.length_nil]; omega)) ?_
              rintro s2 F106 M2
              have X106 := M2.ext
              have E106 := E105.trans X106
              refine ⟨E106, ?_⟩
              have S3 := Bs.of_mine M2
              replace M2 := M2.down E105
              (conv => whnf)
              exact hK _ _ ⟨s2, M2, rfl, rfl, rfl⟩
            (conv => whnf)
            refine new_step (.cells (([a] : List Int).map (Value.int .i64)).toArray 3) rfl fun g2 hg2 => ?_
            have X107 := Ext.new hg2 (.cells (([a] : List Int).map (Value.int .i64)).toArray 3)
            have G2 := Heap.put_same F103 g2 (.cells (([a] : List Int).map (Value.int .i64)).toArray 3)
            generalize F103.put g2 _ = F107 at X107 G2 ⊢
            have E107 := E103.trans X107
            refine ⟨E107, ?_⟩
            replace G1 := X107 _ _ G1
            replace S1 := S1.mono X107
            replace M0 := M0.mono X107
            (conv => whnf)
            refine call_of (rputL 1 (.inl rfl) (putAllM 4 e2 [d]) s0 [l] (some ⟨g1, 0, none⟩) 1 F107 S1 (row_new G1) (by simp) (by simp only [List.length_cons, List.length_nil]; omega)) ?_
            rintro s1 F108 M1
            have X108 := M1.ext
            have E108 := E107.trans X108
            refine ⟨E108, ?_⟩
            replace G2 := X108 _ _ G2
            have S2 := Bs.of_mine M1
            replace M1 := M1.down E107
            (conv => whnf)
            refine call_of (rputL 8 (.inr (.inr (.inr rfl))) (putAllM 1 (putAllM 4 e2 [d]) [l]) s1 [a] (some ⟨g2, 0, none⟩) 1 F108 S2 (row_new G2) (by simp) (by simp only [List.length_cons, List.length_nil]; omega)) ?_
            rintro s2 F109 M2
            have X109 := M2.ext
            have E109 := E108.trans X109
            refine ⟨E109, ?_⟩
            have S3 := Bs.of_mine M2
            replace M2 := M2.down E108
            (conv => whnf)
            exact hK _ _ ⟨s2, M2, rfl, rfl, rfl⟩
          (conv => whnf)
          refine new_step (.cells (([a] : List Int).map (Value.int .i64)).toArray 3) rfl fun g2 hg2 => ?_
          have X110 := Ext.new hg2 (.cells (([a] : List Int).map (Value.int .i64)).toArray 3)
          have G2 := Heap.put_same F102 g2 (.cells (([a] : List Int).map (Value.int .i64)).toArray 3)
          generalize F102.put g2 _ = F110 at X110 G2 ⊢
          have E110 := E102.trans X110
          refine ⟨E110, ?_⟩
          replace S1 := S1.mono X110
          replace M0 := M0.mono X110
          (conv => whnf)
          refine new_step (.cells (([l] : List Int).map (Value.int .i64)).toArray 3) rfl fun g1 hg1 => ?_
          have X111 := Ext.new hg1 (.cells (([l] : List Int).map (Value.int .i64)).toArray 3)
          have G1 := Heap.put_same F110 g1 (.cells (([l] : List Int).map (Value.int .i64)).toArray 3)
          generalize F110.put g1 _ = F111 at X111 G1 ⊢
          have E111 := E110.trans X111
          refine ⟨E111, ?_⟩
          replace G2 := X111 _ _ G2
          replace S1 := S1.mono X111
          replace M0 := M0.mono X111
          (conv => whnf)
          refine call_of (rputL 1 (.inl rfl) (putAllM 4 e2 [d]) s0 [l] (some ⟨g1, 0, none⟩) 1 F111 S1 (row_new G1) (by simp) (by simp only [List.length_cons, List.length_nil]; omega)) ?_
          rintro s1 F112 M1
          have X112 := M1.ext
          have E112 := E111.trans X112
          refine ⟨E112, ?_⟩
          replace G2 := X112 _ _ G2
          have S2 := Bs.of_mine M1
          replace M1 := M1.down E111
          (conv => whnf)
          refine call_of (rputL 8 (.inr (.inr (.inr rfl))) (putAllM 1 (putAllM 4 e2 [d]) [l]) s1 [a] (some ⟨g2, 0, none⟩) 1 F112 S2 (row_new G2) (by simp) (by simp only [List.length_cons, List.length_nil]; omega)) ?_
          rintro s2 F113 M2
          have X113 := M2.ext
          have E113 := E112.trans X113
          refine ⟨E113, ?_⟩
          have S3 := Bs.of_mine M2
          replace M2 := M2.down E112
          (conv => whnf)
          exact hK _ _ ⟨s2, M2, rfl, rfl, rfl⟩
        (conv => whnf)
        refine ⟨?_, ?_⟩
        · have triv := True.intro
          (conv => whnf)
          refine new_step (.cells (([l] : List Int).map (Value.int .i64)).toArray 3) rfl fun g1 hg1 => ?_
          have X114 := Ext.new hg1 (.cells (([l] : List Int).map (Value.int .i64)).toArray 3)
          have G1 := Heap.put_same F101 g1 (.cells (([l] : List Int).map (Value.int .i64)).toArray 3)
          generalize F101.put g1 _ = F114 at X114 G1 ⊢
          have E114 := E101.trans X114
          refine ⟨E114, ?_⟩
          replace G0 := X114 _ _ G0
          replace S0 := S0.mono X114
          (conv => whnf)
          refine ⟨?_, ?_⟩
          · have triv := True.intro
            (conv => whnf)
            refine call_of (rputL 4 (.inr (.inr (.inl rfl))) e2 s0 [d] (some ⟨g0, 0, none⟩) 1 F114 S0 (row_new G0) (by simp) (by simp only [List.length_cons, List.length_nil]; omega)) ?_
            rintro s0 F115 M0
            have X115 := M0.ext
            have E115 := E114.trans X115
            refine ⟨E115, ?_⟩
            replace G1 := X115 _ _ G1
            have S1 := Bs.of_mine M0
            replace M0 := M0.down E114
            (conv => whnf)
            refine ⟨?_, ?_⟩
            · have triv := True.intro
              (conv => whnf)
              refine call_of (rputL 1 (.inl rfl) (putAllM 4 e2 [d]) s0 [l] (some ⟨g1, 0, none⟩) 1 F115 S1 (row_new G1) (by simp) (by simp only [List.length_cons, List.length_nil]; omega)) ?_
              rintro s1 F116 M1
              have X116 := M1.ext
              have E116 := E115.trans X116
              refine ⟨E116, ?_⟩
              have S2 := Bs.of_mine M1
              replace M1 := M1.down E115
              (conv => whnf)
              refine new_step (.cells (([a] : List Int).map (Value.int .i64)).toArray 3) rfl fun g2 hg2 => ?_
              have X117 := Ext.new hg2 (.cells (([a] : List Int).map (Value.int .i64)).toArray 3)
              have G2 := Heap.put_same F116 g2 (.cells (([a] : List Int).map (Value.int .i64)).toArray 3)
              generalize F116.put g2 _ = F117 at X117 G2 ⊢
              have E117 := E116.trans X117
              refine ⟨E117, ?_⟩
              replace S2 := S2.mono X117
              replace M1 := M1.mono X117
              (conv => whnf)
              refine call_of (rputL 8 (.inr (.inr (.inr rfl))) (putAllM 1 (putAllM 4 e2 [d]) [l]) s1 [a] (some ⟨g2, 0, none⟩) 1 F117 S2 (row_new G2) (by simp) (by simp only [List.length_cons, List.length_nil]; omega)) ?_
              rintro s2 F118 M2
              have X118 := M2.ext
              have E118 := E117.trans X118
              refine ⟨E118, ?_⟩
              have S3 := Bs.of_mine M2
              replace M2 := M2.down E117
              (conv => whnf)
              exact hK _ _ ⟨s2, M2, rfl, rfl, rfl⟩
            (conv => whnf)
            refine new_step (.cells (([a] : List Int).map (Value.int .i64)).toArray 3) rfl fun g2 hg2 => ?_
            have X119 := Ext.new hg2 (.cells (([a] : List Int).map (Value.int .i64)).toArray 3)
            have G2 := Heap.put_same F115 g2 (.cells (([a] : List Int).map (Value.int .i64)).toArray 3)
            generalize F115.put g2 _ = F119 at X119 G2 ⊢
            have E119 := E115.trans X119
            refine ⟨E119, ?_⟩
            replace G1 := X119 _ _ G1
            replace S1 := S1.mono X119
            replace M0 := M0.mono X119
            (conv => whnf)
            refine call_of (rputL 1 (.inl rfl) (putAllM 4 e2 [d]) s0 [l] (some ⟨g1, 0, none⟩) 1 F119 S1 (row_new G1) (by simp) (by simp only [List.length_cons, List.length_nil]; omega)) ?_
            rintro s1 F120 M1
            have X120 := M1.ext
            have E120 := E119.trans X120
            refine ⟨E120, ?_⟩
            replace G2 := X120 _ _ G2
            have S2 := Bs.of_mine M1
            replace M1 := M1.down E119
            (conv => whnf)
            refine call_of (rputL 8 (.inr (.inr (.inr rfl))) (putAllM 1 (putAllM 4 e2 [d]) [l]) s1 [a] (some ⟨g2, 0, none⟩) 1 F120 S2 (row_new G2) (by simp) (by simp only [List.length_cons, List.length_nil]; omega)) ?_
            rintro s2 F121 M2
            have X121 := M2.ext
            have E121 := E120.trans X121
            refine ⟨E121, ?_⟩
            have S3 := Bs.of_mine M2
            replace M2 := M2.down E120
            (conv => whnf)
            exact hK _ _ ⟨s2, M2, rfl, rfl, rfl⟩
          (conv => whnf)
          refine new_step (.cells (([a] : List Int).map (Value.int .i64)).toArray 3) rfl fun g2 hg2 => ?_
          have X122 := Ext.new hg2 (.cells (([a] : List Int).map (Value.int .i64)).toArray 3)
          have G2 := Heap.put_same F114 g2 (.cells (([a] : List Int).map (Value.int .i64)).toArray 3)
          generalize F114.put g2 _ = F122 at X122 G2 ⊢
          have E122 := E114.trans X122
          refine ⟨E122, ?_⟩
          replace G0 := X122 _ _ G0
          replace G1 := X122 _ _ G1
          replace S0 := S0.mono X122
          (conv => whnf)
          refine call_of (rputL 4 (.inr (.inr (.inl rfl))) e2 s0 [d] (some ⟨g0, 0, none⟩) 1 F122 S0 (row_new G0) (by simp) (by simp only [List.length_cons, List.length_nil]; omega)) ?_
          rintro s0 F123 M0
          have X123 := M0.ext
          have E123 := E122.trans X123
          refine ⟨E123, ?_⟩
          replace G1 := X123 _ _ G1
          replace G2 := X123 _ _ G2
          have S1 := Bs.of_mine M0
          replace M0 := M0.down E122
          (conv => whnf)
          refine call_of (rputL 1 (.inl rfl) (putAllM 4 e2 [d]) s0 [l] (some ⟨g1, 0, none⟩) 1 F123 S1 (row_new G1) (by simp) (by simp only [List.length_cons, List.length_nil]; omega)) ?_
          rintro s1 F124 M1
          have X124 := M1.ext
          have E124 := E123.trans X124
          refine ⟨E124, ?_⟩
          replace G2 := X124 _ _ G2
          have S2 := Bs.of_mine M1
          replace M1 := M1.down E123
          (conv => whnf)
          refine call_of (rputL 8 (.inr (.inr (.inr rfl))) (putAllM 1 (putAllM 4 e2 [d]) [l]) s1 [a] (some ⟨g2, 0, none⟩) 1 F124 S2 (row_new G2) (by simp) (by simp only [List.length_cons, List.length_nil]; omega)) ?_
          rintro s2 F125 M2
          have X125 := M2.ext
          have E125 := E124.trans X125
          refine ⟨E125, ?_⟩
          have S3 := Bs.of_mine M2
          replace M2 := M2.down E124
          (conv => whnf)
          exact hK _ _ ⟨s2, M2, rfl, rfl, rfl⟩
        (conv => whnf)
        refine new_step (.cells (([a] : List Int).map (Value.int .i64)).toArray 3) rfl fun g2 hg2 => ?_
        have X126 := Ext.new hg2 (.cells (([a] : List Int).map (Value.int .i64)).toArray 3)
        have G2 := Heap.put_same F101 g2 (.cells (([a] : List Int).map (Value.int .i64)).toArray 3)
        generalize F101.put g2 _ = F126 at X126 G2 ⊢
        have E126 := E101.trans X126
        refine ⟨E126, ?_⟩
        replace G0 := X126 _ _ G0
        replace S0 := S0.mono X126
        (conv => whnf)
        refine ⟨?_, ?_⟩
        · have triv := True.intro
          (conv => whnf)
          refine call_of (rputL 4 (.inr (.inr (.inl rfl))) e2 s0 [d] (some ⟨g0, 0, none⟩) 1 F126 S0 (row_new G0) (by simp) (by simp only [List.length_cons, List.length_nil]; omega)) ?_
          rintro s0 F127 M0
          have X127 := M0.ext
          have E127 := E126.trans X127
          refine ⟨E127, ?_⟩
          replace G2 := X127 _ _ G2
          have S1 := Bs.of_mine M0
          replace M0 := M0.down E126
          (conv => whnf)
          refine new_step (.cells (([l] : List Int).map (Value.int .i64)).toArray 3) rfl fun g1 hg1 => ?_
          have X128 := Ext.new hg1 (.cells (([l] : List Int).map (Value.int .i64)).toArray 3)
          have G1 := Heap.put_same F127 g1 (.cells (([l] : List Int).map (Value.int .i64)).toArray 3)
          generalize F127.put g1 _ = F128 at X128 G1 ⊢
          have E128 := E127.trans X128
          refine ⟨E128, ?_⟩
          replace G2 := X128 _ _ G2
          replace S1 := S1.mono X128
          replace M0 := M0.mono X128
          (conv => whnf)
          refine call_of (rputL 1 (.inl rfl) (putAllM 4 e2 [d]) s0 [l] (some ⟨g1, 0, none⟩) 1 F128 S1 (row_new G1) (by simp) (by simp only [List.length_cons, List.length_nil]; omega)) ?_
          rintro s1 F129 M1
          have X129 := M1.ext
          have E129 := E128.trans X129
          refine ⟨E129, ?_⟩
          replace G2 := X129 _ _ G2
          have S2 := Bs.of_mine M1
          replace M1 := M1.down E128
          (conv => whnf)
          refine call_of (rputL 8 (.inr (.inr (.inr rfl))) (putAllM 1 (putAllM 4 e2 [d]) [l]) s1 [a] (some ⟨g2, 0, none⟩) 1 F129 S2 (row_new G2) (by simp) (by simp only [List.length_cons, List.length_nil]; omega)) ?_
          rintro s2 F130 M2
          have X130 := M2.ext
          have E130 := E129.trans X130
          refine ⟨E130, ?_⟩
          have S3 := Bs.of_mine M2
          replace M2 := M2.down E129
          (conv => whnf)
          exact hK _ _ ⟨s2, M2, rfl, rfl, rfl⟩
        (conv => whnf)
        refine new_step (.cells (([l] : List Int).map (Value.int .i64)).toArray 3) rfl fun g1 hg1 => ?_
        have X131 := Ext.new hg1 (.cells (([l] : List Int).map (Value.int .i64)).toArray 3)
        have G1 := Heap.put_same F126 g1 (.cells (([l] : List Int).map (Value.int .i64)).toArray 3)
        generalize F126.put g1 _ = F131 at X131 G1 ⊢
        have E131 := E126.trans X131
        refine ⟨E131, ?_⟩
        replace G0 := X131 _ _ G0
        replace G2 := X131 _ _ G2
        replace S0 := S0.mono X131
        (conv => whnf)
        refine call_of (rputL 4 (.inr (.inr (.inl rfl))) e2 s0 [d] (some ⟨g0, 0, none⟩) 1 F131 S0 (row_new G0) (by simp) (by simp only [List.length_cons, List.length_nil]; omega)) ?_
        rintro s0 F132 M0
        have X132 := M0.ext
        have E132 := E131.trans X132
        refine ⟨E132, ?_⟩
        replace G1 := X132 _ _ G1
        replace G2 := X132 _ _ G2
        have S1 := Bs.of_mine M0
        replace M0 := M0.down E131
        (conv => whnf)
        refine call_of (rputL 1 (.inl rfl) (putAllM 4 e2 [d]) s0 [l] (some ⟨g1, 0, none⟩) 1 F132 S1 (row_new G1) (by simp) (by simp only [List.length_cons, List.length_nil]; omega)) ?_
        rintro s1 F133 M1
        have X133 := M1.ext
        have E133 := E132.trans X133
        refine ⟨E133, ?_⟩
        replace G2 := X133 _ _ G2
        have S2 := Bs.of_mine M1
        replace M1 := M1.down E132
        (conv => whnf)
        refine call_of (rputL 8 (.inr (.inr (.inr rfl))) (putAllM 1 (putAllM 4 e2 [d]) [l]) s1 [a] (some ⟨g2, 0, none⟩) 1 F133 S2 (row_new G2) (by simp) (by simp only [List.length_cons, List.length_nil]; omega)) ?_
        rintro s2 F134 M2
        have X134 := M2.ext
        have E134 := E133.trans X134
        refine ⟨E134, ?_⟩
        have S3 := Bs.of_mine M2
        replace M2 := M2.down E133
        (conv => whnf)
        exact hK _ _ ⟨s2, M2, rfl, rfl, rfl⟩
      (conv => whnf)
      refine ⟨?_, ?_⟩
      · have triv := True.intro
        (conv => whnf)
        refine new_step (.cells (([l] : List Int).map (Value.int .i64)).toArray 3) rfl fun g1 hg1 => ?_
        have X135 := Ext.new hg1 (.cells (([l] : List Int).map (Value.int .i64)).toArray 3)
        have G1 := Heap.put_same F7 g1 (.cells (([l] : List Int).map (Value.int .i64)).toArray 3)
        generalize F7.put g1 _ = F135 at X135 G1 ⊢
        have E135 := E0.trans X135
        refine ⟨E135, ?_⟩
        replace S0 := S0.mono X135
        (conv => whnf)
        refine ⟨?_, ?_⟩
        · have triv := True.intro
          (conv => whnf)
          refine new_step (.cells (([d] : List Int).map (Value.int .i64)).toArray 3) rfl fun g0 hg0 => ?_
          have X136 := Ext.new hg0 (.cells (([d] : List Int).map (Value.int .i64)).toArray 3)
          have G0 := Heap.put_same F135 g0 (.cells (([d] : List Int).map (Value.int .i64)).toArray 3)
          generalize F135.put g0 _ = F136 at X136 G0 ⊢
          have E136 := E135.trans X136
          refine ⟨E136, ?_⟩
          replace G1 := X136 _ _ G1
          replace S0 := S0.mono X136
          (conv => whnf)
          refine ⟨?_, ?_⟩
          · have triv := True.intro
            (conv => whnf)
            refine call_of (rputL 4 (.inr (.inr (.inl rfl))) e2 s0 [d] (some ⟨g0, 0, none⟩) 1 F136 S0 (row_new G0) (by simp) (by simp only [List.length_cons, List.length_nil]; omega)) ?_
            rintro s0 F137 M0
            have X137 := M0.ext
            have E137 := E136.trans X137
            refine ⟨E137, ?_⟩
            replace G1 := X137 _ _ G1
            have S1 := Bs.of_mine M0
            replace M0 := M0.down E136
            (conv => whnf)
            refine ⟨?_, ?_⟩
            · have triv := True.intro
              (conv => whnf)
              refine call_of (rputL 1 (.inl rfl) (putAllM 4 e2 [d]) s0 [l] (some ⟨g1, 0, none⟩) 1 F137 S1 (row_new G1) (by simp) (by simp only [List.length_cons, List.length_nil]; omega)) ?_
              rintro s1 F138 M1
              have X138 := M1.ext
              have E138 := E137.trans X138
              refine ⟨E138, ?_⟩
              have S2 := Bs.of_mine M1
              replace M1 := M1.down E137
              (conv => whnf)
              refine new_step (.cells (([a] : List Int).map (Value.int .i64)).toArray 3) rfl fun g2 hg2 => ?_
              have X139 := Ext.new hg2 (.cells (([a] : List Int).map (Value.int .i64)).toArray 3)
              have G2 := Heap.put_same F138 g2 (.cells (([a] : List Int).map (Value.int .i64)).toArray 3)
              generalize F138.put g2 _ = F139 at X139 G2 ⊢
              have E139 := E138.trans X139
              refine ⟨E139, ?_⟩
              replace S2 := S2.mono X139
              replace M1 := M1.mono X139
              (conv => whnf)
              refine call_of (rputL 8 (.inr (.inr (.inr rfl))) (putAllM 1 (putAllM 4 e2 [d]) [l]) s1 [a] (some ⟨g2, 0, none⟩) 1 F139 S2 (row_new G2) (by simp) (by simp only [List.length_cons, List.length_nil]; omega)) ?_
              rintro s2 F140 M2
              have X140 := M2.ext
              have E140 := E139.trans X140
              refine ⟨E140, ?_⟩
              have S3 := Bs.of_mine M2
              replace M2 := M2.down E139
              (conv => whnf)
              exact hK _ _ ⟨s2, M2, rfl, rfl, rfl⟩
            (conv => whnf)
            refine new_step (.cells (([a] : List Int).map (Value.int .i64)).toArray 3) rfl fun g2 hg2 => ?_
            have X141 := Ext.new hg2 (.cells (([a] : List Int).map (Value.int .i64)).toArray 3)
            have G2 := Heap.put_same F137 g2 (.cells (([a] : List Int).map (Value.int .i64)).toArray 3)
            generalize F137.put g2 _ = F141 at X141 G2 ⊢
            have E141 := E137.trans X141
            refine ⟨E141, ?_⟩
            replace G1 := X141 _ _ G1
            replace S1 := S1.mono X141
            replace M0 := M0.mono X141
            (conv => whnf)
            refine call_of (rputL 1 (.inl rfl) (putAllM 4 e2 [d]) s0 [l] (some ⟨g1, 0, none⟩) 1 F141 S1 (row_new G1) (by simp) (by simp only [List.length_cons, List.length_nil]; omega)) ?_
            rintro s1 F142 M1
            have X142 := M1.ext
            have E142 := E141.trans X142
            refine ⟨E142, ?_⟩
            replace G2 := X142 _ _ G2
            have S2 := Bs.of_mine M1
            replace M1 := M1.down E141
            (conv => whnf)
            refine call_of (rputL 8 (.inr (.inr (.inr rfl))) (putAllM 1 (putAllM 4 e2 [d]) [l]) s1 [a] (some ⟨g2, 0, none⟩) 1 F142 S2 (row_new G2) (by simp) (by simp only [List.length_cons, List.length_nil]; omega)) ?_
            rintro s2 F143 M2
            have X143 := M2.ext
            have E143 := E142.trans X143
            refine ⟨E143, ?_⟩
            have S3 := Bs.of_mine M2
            replace M2 := M2.down E142
            (conv => whnf)
            exact hK _ _ ⟨s2, M2, rfl, rfl, rfl⟩
          (conv => whnf)
          refine new_step (.cells (([a] : List Int).map (Value.int .i64)).toArray 3) rfl fun g2 hg2 => ?_
          have X144 := Ext.new hg2 (.cells (([a] : List Int).map (Value.int .i64)).toArray 3)
          have G2 := Heap.put_same F136 g2 (.cells (([a] : List Int).map (Value.int .i64)).toArray 3)
          generalize F136.put g2 _ = F144 at X144 G2 ⊢
          have E144 := E136.trans X144
          refine ⟨E144, ?_⟩
          replace G0 := X144 _ _ G0
          replace G1 := X144 _ _ G1
          replace S0 := S0.mono X144
          (conv => whnf)
          refine call_of (rputL 4 (.inr (.inr (.inl rfl))) e2 s0 [d] (some ⟨g0, 0, none⟩) 1 F144 S0 (row_new G0) (by simp) (by simp only [List.length_cons, List.length_nil]; omega)) ?_
          rintro s0 F145 M0
          have X145 := M0.ext
          have E145 := E144.trans X145
          refine ⟨E145, ?_⟩
          replace G1 := X145 _ _ G1
          replace G2 := X145 _ _ G2
          have S1 := Bs.of_mine M0
          replace M0 := M0.down E144
          (conv => whnf)
          refine call_of (rputL 1 (.inl rfl) (putAllM 4 e2 [d]) s0 [l] (some ⟨g1, 0, none⟩) 1 F145 S1 (row_new G1) (by simp) (by simp only [List.length_cons, List.length_nil]; omega)) ?_
          rintro s1 F146 M1
          have X146 := M1.ext
          have E146 := E145.trans X146
          refine ⟨E146, ?_⟩
          replace G2 := X146 _ _ G2
          have S2 := Bs.of_mine M1
          replace M1 := M1.down E145
          (conv => whnf)
          refine call_of (rputL 8 (.inr (.inr (.inr rfl))) (putAllM 1 (putAllM 4 e2 [d]) [l]) s1 [a] (some ⟨g2, 0, none⟩) 1 F146 S2 (row_new G2) (by simp) (by simp only [List.length_cons, List.length_nil]; omega)) ?_
          rintro s2 F147 M2
          have X147 := M2.ext
          have E147 := E146.trans X147
          refine ⟨E147, ?_⟩
          have S3 := Bs.of_mine M2
          replace M2 := M2.down E146
          (conv => whnf)
          exact hK _ _ ⟨s2, M2, rfl, rfl, rfl⟩
        (conv => whnf)
        refine new_step (.cells (([a] : List Int).map (Value.int .i64)).toArray 3) rfl fun g2 hg2 => ?_
        have X148 := Ext.new hg2 (.cells (([a] : List Int).map (Value.int .i64)).toArray 3)
        have G2 := Heap.put_same F135 g2 (.cells (([a] : List Int).map (Value.int .i64)).toArray 3)
        generalize F135.put g2 _ = F148 at X148 G2 ⊢
        have E148 := E135.trans X148
        refine ⟨E148, ?_⟩
        replace G1 := X148 _ _ G1
        replace S0 := S0.mono X148
        (conv => whnf)
        refine new_step (.cells (([d] : List Int).map (Value.int .i64)).toArray 3) rfl fun g0 hg0 => ?_
        have X149 := Ext.new hg0 (.cells (([d] : List Int).map (Value.int .i64)).toArray 3)
        have G0 := Heap.put_same F148 g0 (.cells (([d] : List Int).map (Value.int .i64)).toArray 3)
        generalize F148.put g0 _ = F149 at X149 G0 ⊢
        have E149 := E148.trans X149
        refine ⟨E149, ?_⟩
        replace G1 := X149 _ _ G1
        replace G2 := X149 _ _ G2
        replace S0 := S0.mono X149
        (conv => whnf)
        refine call_of (rputL 4 (.inr (.inr (.inl rfl))) e2 s0 [d] (some ⟨g0, 0, none⟩) 1 F149 S0 (row_new G0) (by simp) (by simp only [List.length_cons, List.length_nil]; omega)) ?_
        rintro s0 F150 M0
        have X150 := M0.ext
        have E150 := E149.trans X150
        refine ⟨E150, ?_⟩
        replace G1 := X150 _ _ G1
        replace G2 := X150 _ _ G2
        have S1 := Bs.of_mine M0
        replace M0 := M0.down E149
        (conv => whnf)
        refine call_of (rputL 1 (.inl rfl) (putAllM 4 e2 [d]) s0 [l] (some ⟨g1, 0, none⟩) 1 F150 S1 (row_new G1) (by simp) (by simp only [List.length_cons, List.length_nil]; omega)) ?_
        rintro s1 F151 M1
        have X151 := M1.ext
        have E151 := E150.trans X151
        refine ⟨E151, ?_⟩
        replace G2 := X151 _ _ G2
        have S2 := Bs.of_mine M1
        replace M1 := M1.down E150
        (conv => whnf)
        refine call_of (rputL 8 (.inr (.inr (.inr rfl))) (putAllM 1 (putAllM 4 e2 [d]) [l]) s1 [a] (some ⟨g2, 0, none⟩) 1 F151 S2 (row_new G2) (by simp) (by simp only [List.length_cons, List.length_nil]; omega)) ?_
        rintro s2 F152 M2
        have X152 := M2.ext
        have E152 := E151.trans X152
        refine ⟨E152, ?_⟩
        have S3 := Bs.of_mine M2
        replace M2 := M2.down E151
        (conv => whnf)
        exact hK _ _ ⟨s2, M2, rfl, rfl, rfl⟩
      (conv => whnf)
      refine new_step (.cells (([a] : List Int).map (Value.int .i64)).toArray 3) rfl fun g2 hg2 => ?_
      have X153 := Ext.new hg2 (.cells (([a] : List Int).map (Value.int .i64)).toArray 3)
      have G2 := Heap.put_same F7 g2 (.cells (([a] : List Int).map (Value.int .i64)).toArray 3)
      generalize F7.put g2 _ = F153 at X153 G2 ⊢
      have E153 := E0.trans X153
      refine ⟨E153, ?_⟩
      replace S0 := S0.mono X153
      (conv => whnf)
      refine ⟨?_, ?_⟩
      · have triv := True.intro
        (conv => whnf)
        refine new_step (.cells (([d] : List Int).map (Value.int .i64)).toArray 3) rfl fun g0 hg0 => ?_
        have X154 := Ext.new hg0 (.cells (([d] : List Int).map (Value.int .i64)).toArray 3)
        have G0 := Heap.put_same F153 g0 (.cells (([d] : List Int).map (Value.int .i64)).toArray 3)
        generalize F153.put g0 _ = F154 at X154 G0 ⊢
        have E154 := E153.trans X154
        refine ⟨E154, ?_⟩
        replace G2 := X154 _ _ G2
        replace S0 := S0.mono X154
        (conv => whnf)
        refine ⟨?_, ?_⟩
        · have triv := True.intro
          (conv => whnf)
          refine call_of (rputL 4 (.inr (.inr (.inl rfl))) e2 s0 [d] (some ⟨g0, 0, none⟩) 1 F154 S0 (row_new G0) (by simp) (by simp only [List.length_cons, List.length_nil]; omega)) ?_
          rintro s0 F155 M0
          have X155 := M0.ext
          have E155 := E154.trans X155
          refine ⟨E155, ?_⟩
          replace G2 := X155 _ _ G2
          have S1 := Bs.of_mine M0
          replace M0 := M0.down E154
          (conv => whnf)
          refine new_step (.cells (([l] : List Int).map (Value.int .i64)).toArray 3) rfl fun g1 hg1 => ?_
          have X156 := Ext.new hg1 (.cells (([l] : List Int).map (Value.int .i64)).toArray 3)
          have G1 := Heap.put_same F155 g1 (.cells (([l] : List Int).map (Value.int .i64)).toArray 3)
          generalize F155.put g1 _ = F156 at X156 G1 ⊢
          have E156 := E155.trans X156
          refine ⟨E156, ?_⟩
          replace G2 := X156 _ _ G2
          replace S1 := S1.mono X156
          replace M0 := M0.mono X156
          (conv => whnf)
          refine call_of (rputL 1 (.inl rfl) (putAllM 4 e2 [d]) s0 [l] (some ⟨g1, 0, none⟩) 1 F156 S1 (row_new G1) (by simp) (by simp only [List.length_cons, List.length_nil]; omega)) ?_
          rintro s1 F157 M1
          have X157 := M1.ext
          have E157 := E156.trans X157
          refine ⟨E157, ?_⟩
          replace G2 := X157 _ _ G2
          have S2 := Bs.of_mine M1
          replace M1 := M1.down E156
          (conv => whnf)
          refine call_of (rputL 8 (.inr (.inr (.inr rfl))) (putAllM 1 (putAllM 4 e2 [d]) [l]) s1 [a] (some ⟨g2, 0, none⟩) 1 F157 S2 (row_new G2) (by simp) (by simp only [List.length_cons, List.length_nil]; omega)) ?_
          rintro s2 F158 M2
          have X158 := M2.ext
          have E158 := E157.trans X158
          refine ⟨E158, ?_⟩
          have S3 := Bs.of_mine M2
          replace M2 := M2.down E157
          (conv => whnf)
          exact hK _ _ ⟨s2, M2, rfl, rfl, rfl⟩
        (conv => whnf)
        refine new_step (.cells (([l] : List Int).map (Value.int .i64)).toArray 3) rfl fun g1 hg1 => ?_
        have X159 := Ext.new hg1 (.cells (([l] : List Int).map (Value.int .i64)).toArray 3)
        have G1 := Heap.put_same F154 g1 (.cells (([l] : List Int).map (Value.int .i64)).toArray 3)
        generalize F154.put g1 _ = F159 at X159 G1 ⊢
        have E159 := E154.trans X159
        refine ⟨E159, ?_⟩
        replace G0 := X159 _ _ G0
        replace G2 := X159 _ _ G2
        replace S0 := S0.mono X159
        (conv => whnf)
        refine call_of (rputL 4 (.inr (.inr (.inl rfl))) e2 s0 [d] (some ⟨g0, 0, none⟩) 1 F159 S0 (row_new G0) (by simp) (by simp only [List.length_cons, List.length_nil]; omega)) ?_
        rintro s0 F160 M0
        have X160 := M0.ext
        have E160 := E159.trans X160
        refine ⟨E160, ?_⟩
        replace G1 := X160 _ _ G1
        replace G2 := X160 _ _ G2
        have S1 := Bs.of_mine M0
        replace M0 := M0.down E159
        (conv => whnf)
        refine call_of (rputL 1 (.inl rfl) (putAllM 4 e2 [d]) s0 [l] (some ⟨g1, 0, none⟩) 1 F160 S1 (row_new G1) (by simp) (by simp only [List.length_cons, List.length_nil]; omega)) ?_
        rintro s1 F161 M1
        have X161 := M1.ext
        have E161 := E160.trans X161
        refine ⟨E161, ?_⟩
        replace G2 := X161 _ _ G2
        have S2 := Bs.of_mine M1
        replace M1 := M1.down E160
        (conv => whnf)
        refine call_of (rputL 8 (.inr (.inr (.inr rfl))) (putAllM 1 (putAllM 4 e2 [d]) [l]) s1 [a] (some ⟨g2, 0, none⟩) 1 F161 S2 (row_new G2) (by simp) (by simp only [List.length_cons, List.length_nil]; omega)) ?_
        rintro s2 F162 M2
        have X162 := M2.ext
        have E162 := E161.trans X162
        refine ⟨E162, ?_⟩
        have S3 := Bs.of_mine M2
        replace M2 := M2.down E161
        (conv => whnf)
        exact hK _ _ ⟨s2, M2, rfl, rfl, rfl⟩
      (conv => whnf)
      refine new_step (.cells (([l] : List Int).map (Value.int .i64)).toArray 3) rfl fun g1 hg1 => ?_
      have X163 := Ext.new hg1 (.cells (([l] : List Int).map (Value.int .i64)).toArray 3)
      have G1 := Heap.put_same F153 g1 (.cells (([l] : List Int).map (Value.int .i64)).toArray 3)
      generalize F153.put g1 _ = F163 at X163 G1 ⊢
      have E163 := E153.trans X163
      refine ⟨E163, ?_⟩
      replace G2 := X163 _ _ G2
      replace S0 := S0.mono X163
      (conv => whnf)
      refine new_step (.cells (([d] : List Int).map (Value.int .i64)).toArray 3) rfl fun g0 hg0 => ?_
      have X164 := Ext.new hg0 (.cells (([d] : List Int).map (Value.int .i64)).toArray 3)
      have G0 := Heap.put_same F163 g0 (.cells (([d] : List Int).map (Value.int .i64)).toArray 3)
      generalize F163.put g0 _ = F164 at X164 G0 ⊢
      have E164 := E163.trans X164
      refine ⟨E164, ?_⟩
      replace G1 := X164 _ _ G1
      replace G2 := X164 _ _ G2
      replace S0 := S0.mono X164
      (conv => whnf)
      refine call_of (rputL 4 (.inr (.inr (.inl rfl))) e2 s0 [d] (some ⟨g0, 0, none⟩) 1 F164 S0 (row_new G0) (by simp) (by simp only [List.length_cons, List.length_nil]; omega)) ?_
      rintro s0 F165 M0
      have X165 := M0.ext
      have E165 := E164.trans X165
      refine ⟨E165, ?_⟩
      replace G1 := X165 _ _ G1
      replace G2 := X165 _ _ G2
      have S1 := Bs.of_mine M0
      replace M0 := M0.down E164
      (conv => whnf)
      refine call_of (rputL 1 (.inl rfl) (putAllM 4 e2 [d]) s0 [l] (some ⟨g1, 0, none⟩) 1 F165 S1 (row_new G1) (by simp) (by simp only [List.length_cons, List.length_nil]; omega)) ?_
      rintro s1 F166 M1
      have X166 := M1.ext
      have E166 := E165.trans X166
      refine ⟨E166, ?_⟩
      replace G2 := X166 _ _ G2
      have S2 := Bs.of_mine M1
      replace M1 := M1.down E165
      (conv => whnf)
      refine call_of (rputL 8 (.inr (.inr (.inr rfl))) (putAllM 1 (putAllM 4 e2 [d]) [l]) s1 [a] (some ⟨g2, 0, none⟩) 1 F166 S2 (row_new G2) (by simp) (by simp only [List.length_cons, List.length_nil]; omega)) ?_
      rintro s2 F167 M2
      have X167 := M2.ext
      have E167 := E166.trans X167
      refine ⟨E167, ?_⟩
      have S3 := Bs.of_mine M2
      replace M2 := M2.down E166
      (conv => whnf)
      exact hK _ _ ⟨s2, M2, rfl, rfl, rfl⟩
    · rintro env' F8 ⟨S8, M8, h1', h4', h5'⟩
      have bH : eH.length ≤ 26 := by rw [hH]; omega
      have hB8 := M8.ext _ _ hB7
      have hE8 := hE7.trans M8.ext
      replace M8 := M8.down hE7
      obtain ⟨A8, c8, rfl, _⟩ := M8.own.row
      refine short [1, 4, 5] [.pointer (some ⟨b, 0, none⟩), .int .i64 1, .slice A8 eH.length c8] (by simp only [List.map_cons, List.map_nil, h1', h4', h5']) fun ρ => ?_
      clear h1' h4' h5' hH b2 b3 b4 b5 S0 hB7 hE7
      (conv => whnf)
      refine draw_cut (fun env' F' => ∃ S', Mine F2 F' S' 5 1 (eH ++ [y1, y2] ++ nm).length (bytesOf (eH ++ [y1, y2] ++ nm)) ∧ F' b = some (cmdO k y x f o n p d l a true ⟨nm.toArray⟩ (.slice A ls.length c)) ∧ env' 1 = .pointer (some ⟨b, 0, none⟩) ∧ env' 5 = S') (fun K hK => ?_) ?_
      · refine draw_tree_at tab_ok (by kernel_rfl) [4, 10] (DT.row [0, 1, 2, 3, 4, 5, 6, 9, 10, 7, 8, 11, 12] .nil) (by kernel_rfl) (F8.only b) (only_ext rfl) ?_
        (conv => whnf)
        refine load_blk (only_at hB8) rfl rfl ?_
        (conv => whnf)
        refine load_blk (only_at hB8) rfl rfl ?_
        (conv => whnf)
        refine new_step (.cells (bytesOf [y1, y2]).toArray 5) ?_ fun q hq => ?_
        · rw [show bytesOf [y1, y2] = [Value.int .u8 (y1.toNat : Int), .int .u8 (y2.toNat : Int)] from rfl, ← w1, ← w2]
          rfl
        have hXq := Ext.new hq (.cells (bytesOf [y1, y2]).toArray 5)
        have hQ := Heap.put_same F8 q (.cells (bytesOf [y1, y2]).toArray 5)
        have hB9 := hXq _ _ hB8
        have M9 := M8.mono hXq
        generalize F8.put q _ = F9 at hXq hQ hB9 M9 ⊢
        refine ⟨only_ext (by rw [hB8, hB9]), ?_⟩
        (conv => whnf)
        refine append_mine tab_ok (m := 2) (ys := bytesOf [y1, y2]) (y := .slice (some ⟨q, 0, none⟩) 2 2) rfl rfl rfl rfl rfl ⟨_, rfl, fun k h => by cases h⟩ ⟨_, rfl, rfl⟩ (by decide) M9 ⟨rfl, .inl ⟨_, _, rfl, fun j v hj => ⟨_, rfl, by rw [add_plain, Heap.cell_at hQ, Nat.zero_add]; simpa using hj⟩⟩⟩ (hone_bytes _) (by show 2 * (eH.length + 2) * 1 ≤ _; omega) fun s10 F10 M10 hk10 => ?_
        have hB10 := hk10 _ _ hB9 (M9.own.blk_ne hB9 u8_cmd)
        refine ⟨only_ext (by rw [hB8, hB10]), ?_⟩
        (conv => whnf)
        refine append_mine tab_ok (m := nm.length) (ys := bytesOf nm) (y := .string ⟨nm.toArray⟩) rfl rfl rfl rfl rfl ⟨_, rfl, fun k h => by cases h⟩ ⟨_, rfl, rfl⟩ (by decide) M10 ⟨by simp [bytesOf], .inr ⟨_, rfl, rfl, by show nm.length = nm.toArray.size; simp, by simp [bytesOf]⟩⟩ (hone_bytes nm) (by show 2 * (eH.length + 2 + nm.length) * 1 ≤ _; omega) fun s11 F11 M11 hk11 => ?_
        have hB11 := hk11 _ _ hB10 (M10.own.blk_ne hB10 u8_cmd)
        refine ⟨only_ext (by rw [hB8, hB11]), ?_⟩
        have M12 : Mine F2 F11 s11 5 1 (eH ++ [y1, y2] ++ nm).length (bytesOf (eH ++ [y1, y2] ++ nm)) := by
          rw [List.length_append, List.length_append, bytes_app, bytes_app]; exact M11
        (conv => whnf)
        exact hK _ _ ⟨s11, M12, hB11, rfl, rfl⟩
      · rintro env' F11 ⟨s11, M12, hB11, h1', h5'⟩
        have b12 : (eH ++ [y1, y2] ++ nm).length = eH.length + 2 + nm.length := by rw [List.length_append, List.length_append]; rfl
        generalize eH ++ [y1, y2] ++ nm = e12 at M12 b12 hM1
        clear M8 hB8 hE8
        refine short [1, 5] [.pointer (some ⟨b, 0, none⟩), s11] (by simp only [List.map_cons, List.map_nil, h1', h5']) fun ρ => ?_
        clear h1' h5'
        (conv => whnf)
        refine load_blk hB11 rfl rfl ?_
        (conv => whnf)
        refine new_step (.cells (bytesOf [y3]).toArray 5) ?_ fun q hq => ?_
        · exact congrArg (fun z => Obj.cells #[Value.int .u8 z] 5) w3
        have hXq := Ext.new hq (.cells (bytesOf [y3]).toArray 5)
        have hQ := Heap.put_same F11 q (.cells (bytesOf [y3]).toArray 5)
        have hB13 := hXq _ _ hB11
        have M13 := M12.mono hXq
        generalize F11.put q _ = F13 at hXq hQ hB13 M13 ⊢
        (conv => whnf)
        refine append_mine tab_ok (m := 1) (ys := bytesOf [y3]) (y := .slice (some ⟨q, 0, none⟩) 1 1) rfl rfl rfl rfl rfl ⟨_, rfl, fun k h => by cases h⟩ ⟨_, rfl, rfl⟩ (by decide) M13 ⟨rfl, .inl ⟨_, _, rfl, fun j v hj => ⟨_, rfl, by rw [add_plain, Heap.cell_at hQ, Nat.zero_add]; simpa using hj⟩⟩⟩ (hone_bytes _) (by show 2 * (e12.length + 1) * 1 ≤ _; omega) fun s14 F14 M14 hk14 => ?_
        have hB14 := hk14 _ _ hB13 (M13.own.blk_ne hB13 u8_cmd)
        have M15 : Mine F2 F14 s14 5 1 eM.length (bytesOf eM) := by
          rw [hM1, List.length_append, bytes_app]; exact M14
        clear M14 M13 M12 hk14 hXq hQ hB13 hB11 hM1
        (conv => whnf)
        refine loop_slots [1, 5, 6] (fun mm vs F' => ∃ (j : Nat) (S : Value), j + mm = ls.length ∧ vs = [.pointer (some ⟨b, 0, none⟩), S, .int .i64 (j : Int)] ∧ Mine F2 F' S 5 1 (encL eM (ls.take j)).length (bytesOf (encL eM (ls.take j))) ∧ F' b = some (cmdO k y x f o n p d l a true ⟨nm.toArray⟩ (.slice A ls.length c))) ls.length ⟨0, _, by omega, rfl, M15, hB14⟩ ?_
        clear M15 hB14
        rintro m vs F15 ρ ⟨j, S, hjm, rfl, M15, hB15⟩
        have bj := encL_len (ls.take j) eM
        rw [List.length_take] at bj
        (conv => whnf)
        refine load_blk hB15 rfl rfl ?_
        (conv => whnf)
        refine cond_split (fun h => ?_) (fun h => ?_)
        · have hj : j < ls.length := by have := of_decide_eq_true h; omega
          obtain ⟨ad, rfl⟩ := hr.some (by rw [linesV_len]; omega)
          have hx : ls[j]? = some ls[j] := List.getElem?_eq_getElem hj
          have ht := encL_take eM ls j _ hx
          have hLr := fun (K : Value → Prop) => line_load (K := K) (hr2.mono M15.ext) hj
          have hja : ad.add (Int.toNat (j : Int) * 4) = ad.add (j * 4) := by rw [Int.toNat_natCast]
          rw [← hja] at hLr
          generalize ls[j] = q at ht hLr
          obtain ⟨wf, wo, wn, wa⟩ := q
          dsimp only at ht hLr
          have bj2 : (encL eM (ls.take j)).length ≤ 10000 := by
            have := Nat.min_le_right j ls.length
            omega
          have bj3 := putAllM_len 2 [wf, wo, wn] (encL eM (ls.take j))
          simp only [List.length_cons, List.length_nil] at bj3
          generalize encL eM (ls.take j) = cur at M15 ht bj2 bj3
          (conv => whnf)
          refine load_blk hB15 rfl rfl ?_
          (conv => whnf)
          refine ⟨⟨by omega, by omega⟩, ?_⟩
          (conv => whnf)
          refine hLr _ ?_
          (conv => whnf)
          refine new_step (lineO 0 0 0 0) rfl fun u hu => ?_
          have hU := Heap.put_same F15 u (lineO 0 0 0 0)
          have hEu : ∀ o, Ext F15 ((F15.put u (lineO 0 0 0 0)).put u o) := fun o => ext_put_put hu
          generalize F15.put u _ = F16 at hU hEu ⊢
          have o1 : ∀ v ∈ [Value.int .i64 wf, .int .i64 wo, .int .i64 wn, .int .i64 wa], v.oneCell' = true := by simp [Value.oneCell']
          (conv => whnf)
          refine store_step u 0 _ #[.int .i64 wf, .int .i64 wo, .int .i64 wn, .int .i64 wa] rfl hU rfl rfl (.inl (Nat.le_refl 0)) o1 ?_
          have hU17 := Heap.put_same F16 u (lineO wf wo wn wa)
          have M17 := M15.mono (hEu (lineO wf wo wn wa))
          have hB17 := (hEu (lineO wf wo wn wa)) _ _ hB15
          generalize F16.put u _ = F17 at hU17 M17 hB17 ⊢
          have S0 := Bs.of_mine M17
          refine short [1, 5, 6, 7] [.pointer (some ⟨b, 0, none⟩), S, .int .i64 (j : Int), .pointer (some ⟨u, 0, none⟩)] rfl fun ρ => ?_
          (conv => whnf)
          refine draw_cut (fun env' F' => ∃ S', Mine F17 F' S' 5 1 (putAllM 8 (putAllM 2 cur [wf, wo, wn]) [wa]).length (bytesOf (putAllM 8 (putAllM 2 cur [wf, wo, wn]) [wa])) ∧ env' 1 = .pointer (some ⟨b, 0, none⟩) ∧ env' 6 = .int .i64 (j : Int) ∧ env' 5 = S') (fun K hK => ?_) ?_
          · refine draw_tree tab_ok (by kernel_rfl) [2, 4, 6, 10] (DT.row [0, 1, 2, 3, 4, 5, 6, 9, 10] (.fork (.cons 7 (.fork (.cons 8 (.cons 11 (.cons 12 (DT.row [13] .nil)))) (.cons 11 (.cons 8 (.cons 12 (DT.row [13] .nil)))))) (.cons 11 (.cons 7 (.cons 8 (.cons 12 (DT.row [13] .nil))))))) (by kernel_rfl) ?_
            have E0 := Ext.refl F17
            (conv => whnf)
            refine load_blk hU17 rfl rfl ?_
            (conv => whnf)
            refine load_blk hU17 rfl rfl ?_
            (conv => whnf)
            refine load_blk hU17 rfl rfl ?_
            (conv => whnf)
            refine load_blk hU17 rfl rfl ?_
            (conv => whnf)
            refine ⟨?_, ?_⟩
            · have triv := True.intro
              (conv => whnf)
              refine new_step (.cells (([wf, wo, wn] : List Int).map (Value.int .i64)).toArray 3) rfl fun g0 hg0 => ?_
              have X101 := Ext.new hg0 (.cells (([wf, wo, wn] : List Int).map (Value.int .i64)).toArray 3)
              have G0 := Heap.put_same F17 g0 (.cells (([wf, wo, wn] : List Int).map (Value.int .i64)).toArray 3)
              generalize F17.put g0 _ = F101 at X101 G0 ⊢
              have E101 := E0.trans X101
              refine ⟨E101, ?_⟩
              replace S0 := S0.mono X101
              (conv => whnf)
              refine ⟨?_, ?_⟩
              · have triv := True.intro
                (conv => whnf)
                refine call_of (rputL 2 (.inr (.inl rfl)) cur S [wf, wo, wn] (some ⟨g0, 0, none⟩) 3 F101 S0 (row_new G0) (by simp) (by simp only [List.length_cons, List.length_nil]; omega)) ?_
                rintro s0 F102 M0
                have X102 := M0.ext
                have E102 := E101.trans X102
                refine ⟨E102, ?_⟩
                have S1 := Bs.of_mine M0
                replace M0 := M0.down E101
                (conv => whnf)
                refine new_step (.cells (([wa] : List Int).map (Value.int .i64)).toArray 3) rfl fun g1 hg1 => ?_
                have X103 := Ext.new hg1 (.cells (([wa] : List Int).map (Value.int .i64)).toArray 3)
                have G1 := Heap.put_same F102 g1 (.cells (([wa] : List Int).map (Value.int .i64)).toArray 3)
                generalize F102.put g1 _ = F103 at X103 G1 ⊢
                have E103 := E102.trans X103
                refine ⟨E103, ?_⟩
                replace S1 := S1.mono X103
                replace M0 := M0.mono X103
                (conv => whnf)
                refine call_of (rputL 8 (.inr (.inr (.inr rfl))) (putAllM 2 cur [wf, wo, wn]) s0 [wa] (some ⟨g1, 0, none⟩) 1 F103 S1 (row_new G1) (by simp) (by simp only [List.length_cons, List.length_nil]; omega)) ?_
                rintro s1 F104 M1
                have X104 := M1.ext
                have E104 := E103.trans X104
                refine ⟨E104, ?_⟩
                have S2 := Bs.of_mine M1
                replace M1 := M1.down E103
                (conv => whnf)
                exact hK _ _ ⟨s1, M1, rfl, rfl, rfl⟩
              (conv => whnf)
              refine new_step (.cells (([wa] : List Int).map (Value.int .i64)).toArray 3) rfl fun g1 hg1 => ?_
              have X105 := Ext.new hg1 (.cells (([wa] : List Int).map (Value.int .i64)).toArray 3)
              have G1 := Heap.put_same F101 g1 (.cells (([wa] : List Int).map (Value.int .i64)).toArray 3)
              generalize F101.put g1 _ = F105 at X105 G1 ⊢
              have E105 := E101.trans X105
              refine ⟨E105, ?_⟩
              replace G0 := X105 _ _ G0
              replace S0 := S0.mono X105
              (conv => whnf)
              refine call_of (rputL 2 (.inr (.inl rfl)) cur S [wf, wo, wn] (some ⟨g0, 0, none⟩) 3 F105 S0 (row_new G0) (by simp) (by simp only [List.length_cons, List.length_nil]; omega)) ?_
              rintro s0 F106 M0
              have X106 := M0.ext
              have E106 := E105.trans X106
              refine ⟨E106, ?_⟩
              replace G1 := X106 _ _ G1
              have S1 := Bs.of_mine M0
              replace M0 := M0.down E105
              (conv => whnf)
              refine call_of (rputL 8 (.inr (.inr (.inr rfl))) (putAllM 2 cur [wf, wo, wn]) s0 [wa] (some ⟨g1, 0, none⟩) 1 F106 S1 (row_new G1) (by simp) (by simp only [List.length_cons, List.length_nil]; omega)) ?_
              rintro s1 F107 M1
              have X107 := M1.ext
              have E107 := E106.trans X107
              refine ⟨E107, ?_⟩
              have S2 := Bs.of_mine M1
              replace M1 := M1.down E106
              (conv => whnf)
              exact hK _ _ ⟨s1, M1, rfl, rfl, rfl⟩
            (conv => whnf)
            refine new_step (.cells (([wa] : List Int).map (Value.int .i64)).toArray 3) rfl fun g1 hg1 => ?_
            have X108 := Ext.new hg1 (.cells (([wa] : List Int).map (Value.int .i64)).toArray 3)
            have G1 := Heap.put_same F17 g1 (.cells (([wa] : List Int).map (Value.int .i64)).toArray 3)
            generalize F17.put g1 _ = F108 at X108 G1 ⊢
            have E108 := E0.trans X108
            refine ⟨E108, ?_⟩
            replace S0 := S0.mono X108
            (conv => whnf)
            refine new_step (.cells (([wf, wo, wn] : List Int).map (Value.int .i64)).toArray 3) rfl fun g0 hg0 => ?_
            have X109 := Ext.new hg0 (.cells (([wf, wo, wn] : List Int).map (Value.int .i64)).toArray 3)
            have G0 := Heap.put_same F108 g0 (.cells (([wf, wo, wn] : List Int).map (Value.int .i64)).toArray 3)
            generalize F108.put g0 _ = F109 at X109 G0 ⊢
            have E109 := E108.trans X109
            refine ⟨E109, ?_⟩
            replace G1 := X109 _ _ G1
            replace S0 := S0.mono X109
            (conv => whnf)
            refine call_of (rputL 2 (.inr (.inl rfl)) cur S [wf, wo, wn] (some ⟨g0, 0, none⟩) 3 F109 S0 (row_new G0) (by simp) (by simp only [List.length_cons, List.length_nil]; omega)) ?_
            rintro s0 F110 M0
            have X110 := M0.ext
            have E110 := E109.trans X110
            refine ⟨E110, ?_⟩
            replace G1 := X110 _ _ G1
            have S1 := Bs.of_mine M0
            replace M0 := M0.down E109
            (conv => whnf)
            refine call_of (rputL 8 (.inr (.inr (.inr rfl))) (putAllM 2 cur [wf, wo, wn]) s0 [wa] (some ⟨g1, 0, none⟩) 1 F110 S1 (row_new G1) (by simp) (by simp only [List.length_cons, List.length_nil]; omega)) ?_
            rintro s1 F111 M1
            have X111 := M1.ext
            have E111 := E110.trans X111
            refine ⟨E111, ?_⟩
            have S2 := Bs.of_mine M1
            replace M1 := M1.down E110
            (conv => whnf)
            exact hK _ _ ⟨s1, M1, rfl, rfl, rfl⟩
          · rintro env' F18 ⟨S18, M18, h1', h6', h5'⟩
            refine short [1, 5, 6] [.pointer (some ⟨b, 0, none⟩), S18, .int .i64 (j : Int)] (by simp only [List.map_cons, List.map_nil, h1', h5', h6']) fun ρ => ?_
            (conv => whnf)
            refine ⟨m - 1, by omega, j + 1, S18, by omega, ?_, ?_, M18.ext _ _ hB17⟩
            · have hw : IntKind.i64.wrap ((j : Int) + 1) = ((j + 1 : Nat) : Int) := by rw [IntKind.wrap_i64]; omega
              rw [← hw]
              rfl
            · rw [ht]; exact M18.down M17.ext
        · have hj : j = ls.length := by have := of_decide_eq_false h; omega
          subst hj
          rw [List.take_length, ← hEB] at M15
          (conv => whnf)
          exact ⟨⟨S, rfl, Bs.of_mine M15⟩, hE2.trans M15.ext⟩
  | false =>
    have hM1 : eM = eH ++ [byteAt 0 0, byteAt (nm.length : Int) 0] ++ nm ++ [byteAt (ls.length : Int) 0] := hM
    clear hM
    have w1 : IntKind.u8.wrap 0 = ((byteAt 0 0).toNat : Int) := wrap_byte _
    have w2 : IntKind.u8.wrap (nm.length : Int) = ((byteAt (nm.length : Int) 0).toNat : Int) := wrap_byte _
    have w3 : IntKind.u8.wrap (ls.length : Int) = ((byteAt (ls.length : Int) 0).toNat : Int) := wrap_byte _
    have w0 : IntKind.u8.wrap k = ((byteAt k 0).toNat : Int) := wrap_byte _
    generalize byteAt 0 0 = y1 at w1 hM1
    generalize byteAt (nm.length : Int) 0 = y2 at w2 hM1
    generalize byteAt (ls.length : Int) 0 = y3 at w3 hM1
    generalize byteAt k 0 = y0 at w0 hH b2 b3 b4 b5
    (conv => whnf)
    refine load_blk hB2 rfl rfl ?_
    (conv => whnf)
    refine load_blk hB2 rfl rfl ?_
    (conv => whnf)
    refine new_step (.cells (bytesOf [y0]).toArray 5) (congrArg (fun z => Obj.cells #[Value.int .u8 z] 5) w0) fun u hu => ?_
    have hE3 := Ext.new hu (.cells (bytesOf [y0]).toArray 5)
    have hB3 := hE3 _ _ hB2
    have hU := Heap.put_same F2 u (.cells (bytesOf [y0]).toArray 5)
    generalize F2.put u _ = F3 at hE3 hB3 hU ⊢
    have hS0 : Bs F3 (.slice (some ⟨u, 0, none⟩) 1 1) [y0] := ⟨_, 1, rfl, Nat.le_refl 1, fun j v hj => ⟨_, rfl, by rw [add_plain, Heap.cell_at hU, Nat.zero_add]; simpa using hj⟩⟩
    (conv => whnf)
    refine load_blk hB3 rfl rfl ?_
    (conv => whnf)
    refine load_blk hB3 rfl rfl ?_
    (conv => whnf)
    refine load_blk hB3 rfl rfl ?_
    (conv => whnf)
    refine load_blk hB3 rfl rfl ?_
    (conv => whnf)
    refine load_blk hB3 rfl rfl ?_
    (conv => whnf)
    refine load_blk hB3 rfl rfl ?_
    (conv => whnf)
    refine new_step (.cells (([y, x, f, o, n, p] : List Int).map (Value.int .i64)).toArray 3) rfl fun g hg => ?_
    have hE4 := Ext.new hg (.cells (([y, x, f, o, n, p] : List Int).map (Value.int .i64)).toArray 3)
    have hB4 := hE4 _ _ hB3
    have hG := Heap.put_same F3 g (.cells (([y, x, f, o, n, p] : List Int).map (Value.int .i64)).toArray 3)
    replace hS0 := hS0.mono hE4
    generalize F3.put g _ = F4 at hE4 hB4 hG hS0 ⊢
    (conv => whnf)
    refine call_of (rputL 2 (.inr (.inl rfl)) [y0] (.slice (some ⟨u, 0, none⟩) 1 1) [y, x, f, o, n, p] (some ⟨g, 0, none⟩) 6 F4 hS0 (row_new hG) (by simp) (by simp only [List.length_cons, List.length_nil]; omega)) ?_
    rintro s0 F7 M0
    have hB7 := M0.ext _ _ hB4
    have hE7 : Ext F2 F7 := hE3.trans (hE4.trans M0.ext)
    have S0 := Bs.of_mine M0
    clear M0 hS0 hG hU hB3 hB4
    generalize putAllM 2 [y0] [y, x, f, o, n, p] = e2 at S0 b2 b3 b4 b5 hH
    refine short [1, 4, 30] [.pointer (some ⟨b, 0, none⟩), .int .i64 0, s0] rfl fun ρ => ?_
    (conv => whnf)
    refine draw_cut (fun env' F' => ∃ S', Mine F7 F' S' 5 1 eH.length (bytesOf eH) ∧ env' 1 = .pointer (some ⟨b, 0, none⟩) ∧ env' 4 = .int .i64 0 ∧ env' 5 = S') (fun K hK => ?_) ?_
    · rw [hH] at hK
      refine draw_tree tab_ok (by kernel_rfl) [2, 6, 10] (DT.row [0, 1, 2, 5, 6, 9, 10] (.fork (.cons 3 (.fork (.cons 4 (.fork (.cons 7 (.fork (.cons 8 (.cons 11 (.cons 12 (DT.row [13] .nil)))) (.cons 11 (.cons 8 (.cons 12 (DT.row [13] .nil)))))) (.cons 11 (.cons 7 (.cons 8 (.cons 12 (DT.row [13] .nil))))))) (.fork (.cons 7 (.fork (.cons 4 (.fork (.cons 8 (.cons 11 (.cons 12 (DT.row [13] .nil)))) (.cons 11 (.cons 8 (.cons 12 (DT.row [13] .nil)))))) (.cons 11 (.cons 4 (.cons 8 (.cons 12 (DT.row [13] .nil))))))) (.cons 11 (.fork (.cons 4 (.cons 7 (.cons 8 (.cons 12 (DT.row [13] .nil))))) (.cons 7 (.cons 4 (.cons 8 (.cons 12 (DT.row [13] .nil)))))))))) (.fork (.cons 7 (.fork (.cons 3 (.fork (.cons 4 (.fork (.cons 8 (.cons 11 (.cons 12 (DT.row [13] .nil)))) (.cons 11 (.cons 8 (.cons 12 (DT.row [13] .nil)))))) (.cons 11 (.cons 4 (.cons 8 (.cons 12 (DT.row [13] .nil))))))) (.cons 11 (.cons 3 (.cons 4 (.cons 8 (.cons 12 (DT.row [13] .nil)))))))) (.cons 11 (.fork (.cons 3 (.fork (.cons 4 (.cons 7 (.cons 8 (.cons 12 (DT.row [13] .nil))))) (.cons 7 (.cons 4 (.cons 8 (.cons 12 (DT.row [13] .nil))))))) (.cons 7 (.cons 3 (.cons 4 (.cons 8 (.cons 12 (DT.row [13] .nil))))))))))) (by kernel_rfl) ?_
      have E0 := Ext.refl F7
      (conv => whnf)
      refine load_blk hB7 rfl rfl ?_
      (conv => whnf)
      refine load_blk hB7 rfl rfl ?_
      (conv => whnf)
      refine load_blk hB7 rfl rfl ?_
      (conv => whnf)
      refine ⟨?_, ?_⟩
      · have triv := True.intro
        (conv => whnf)
        refine new_step (.cells (([d] : List Int).map (Value.int .i64)).toArray 3) rfl fun g0 hg0 => ?_
        have X101 := Ext.new hg0 (.cells (([d] : List Int).map (Value.int .i64)).toArray 3)
        have G0 := Heap.put_same F7 g0 (.cells (([d] : List Int).map (Value.int .i64)).toArray 3)
        generalize F7.put g0 _ = F101 at X101 G0 ⊢
        have E101 := E0.trans X101
        refine ⟨E101, ?_⟩
        replace S0 := S0.mono X101
        (conv => whnf)
        refine ⟨?_, ?_⟩
        · have triv := True.intro
          (conv => whnf)
          refine call_of (rputL 4 (.inr (.inr (.inl rfl))) e2 s0 [d] (some ⟨g0, 0, none⟩) 1 F101 S0 (row_new G0) (by simp) (by simp only [List.length_cons, List.length_nil]; omega)) ?_
          rintro s0 F102 M0
          have X102 := M0.ext
          have E102 := E101.trans X102
          refine ⟨E102, ?_⟩
          have S1 := Bs.of_mine M0
          replace M0 := M0.down E101
          (conv => whnf)
          refine ⟨?_, ?_⟩
          · have triv := True.intro
            (conv => whnf)
            refine new_step (.cells (([l] : List Int).map (Value.int .i64)).toArray 3) rfl fun g1 hg1 => ?_
            have X103 := Ext.new hg1 (.cells (([l] : List Int).map (Value.int .i64)).toArray 3)
            have G1 := Heap.put_same F102 g1 (.cells (([l] : List Int).map (Value.int .i64)).toArray 3)
            generalize F102.put g1 _ = F103 at X103 G1 ⊢
            have E103 := E102.trans X103
            refine ⟨E103, ?_⟩
            replace S1 := S1.mono X103
            replace M0 := M0.mono X103
            (conv => whnf)
            refine ⟨?_, ?_⟩
            · have triv := True.intro
              (conv => whnf)
              refine call_of (rputL 1 (.inl rfl) (putAllM 4 e2 [d]) s0 [l] (some ⟨g1, 0, none⟩) 1 F103 S1 (row_new G1) (by simp) (by simp only [List.length_cons, List.length_nil]; omega)) ?_
              rintro s1 F104 M1
              have X104 := M1.ext
              have E104 := E103.trans X104
              refine ⟨E104, ?_⟩
              have S2 := Bs.of_mine M1
              replace M1 := M1.down E103
              (conv => whnf)
              refine new_step (.cells (([a] : List Int).map (Value.int .i64)).toArray 3) rfl fun g2 hg2 => ?_
              have X105 := Ext.new hg2 (.cells (([a] : List Int).map (Value.int .i64)).toArray 3)
              have G2 := Heap.put_same F104 g2 (.cells (([a] : List Int).map (Value.int .i64)).toArray 3)
              generalize F104.put g2 _ = F105 at X105 G2 ⊢
              have E105 := E104.trans X105
              refine ⟨E105, ?_⟩
              replace S2 := S2.mono X105
              replace M1 := M1.mono X105
              (conv => whnf)
              refine call_of (rputL 8 (.inr (.inr (.inr rfl))) (putAllM 1 (putAllM 4 e2 [d]) [l]) s1 [a] (some ⟨g2, 0, none⟩) 1 F105 S2 (row_new G2) (by simp) (by simp only [List.length_cons, List.length_nil]; omega)) ?_
              rintro s2 F106 M2
              have X106 := M2.ext
              have E106 := E105.trans X106
              refine ⟨E106, ?_⟩
              have S3 := Bs.of_mine M2
              replace M2 := M2.down E105
              (conv => whnf)
              exact hK _ _ ⟨s2, M2, rfl, rfl, rfl⟩
            (conv => whnf)
            refine new_step (.cells (([a] : List Int).map (Value.int .i64)).toArray 3) rfl fun g2 hg2 => ?_
            have X107 := Ext.new hg2 (.cells (([a] : List Int).map (Value.int .i64)).toArray 3)
            have G2 := Heap.put_same F103 g2 (.cells (([a] : List Int).map (Value.int .i64)).toArray 3)
            generalize F103.put g2 _ = F107 at X107 G2 ⊢
            have E107 := E103.trans X107
            refine ⟨E107, ?_⟩
            replace G1 := X107 _ _ G1
            replace S1 := S1.mono X107
            replace M0 := M0.mono X107
            (conv => whnf)
            refine call_of (rputL 1 (.inl rfl) (putAllM 4 e2 [d]) s0 [l] (some ⟨g1, 0, none⟩) 1 F107 S1 (row_new G1) (by simp) (by simp only [List.length_cons, List.length_nil]; omega)) ?_
            rintro s1 F108 M1
            have X108 := M1.ext
            have E108 := E107.trans X108
            refine ⟨E108, ?_⟩
            replace G2 := X108 _ _ G2
            have S2 := Bs.of_mine M1
            replace M1 := M1.down E107
            (conv => whnf)
            refine call_of (rputL 8 (.inr (.inr (.inr rfl))) (putAllM 1 (putAllM 4 e2 [d]) [l]) s1 [a] (some ⟨g2, 0, none⟩) 1 F108 S2 (row_new G2) (by simp) (by simp only [List.length_cons, List.length_nil]; omega)) ?_
            rintro s2 F109 M2
            have X109 := M2.ext
            have E109 := E108.trans X109
            refine ⟨E109, ?_⟩
            have S3 := Bs.of_mine M2
            replace M2 := M2.down E108
            (conv => whnf)
            exact hK _ _ ⟨s2, M2, rfl, rfl, rfl⟩
          (conv => whnf)
          refine new_step (.cells (([a] : List Int).map (Value.int .i64)).toArray 3) rfl fun g2 hg2 => ?_
          have X110 := Ext.new hg2 (.cells (([a] : List Int).map (Value.int .i64)).toArray 3)
          have G2 := Heap.put_same F102 g2 (.cells (([a] : List Int).map (Value.int .i64)).toArray 3)
          generalize F102.put g2 _ = F110 at X110 G2 ⊢
          have E110 := E102.trans X110
          refine ⟨E110, ?_⟩
          replace S1 := S1.mono X110
          replace M0 := M0.mono X110
          (conv => whnf)
          refine new_step (.cells (([l] : List Int).map (Value.int .i64)).toArray 3) rfl fun g1 hg1 => ?_
          have X111 := Ext.new hg1 (.cells (([l] : List Int).map (Value.int .i64)).toArray 3)
          have G1 := Heap.put_same F110 g1 (.cells (([l] : List Int).map (Value.int .i64)).toArray 3)
          generalize F110.put g1 _ = F111 at X111 G1 ⊢
          have E111 := E110.trans X111
          refine ⟨E111, ?_⟩
          replace G2 := X111 _ _ G2
          replace S1 := S1.mono X111
          replace M0 := M0.mono X111
          (conv => whnf)
          refine call_of (rputL 1 (.inl rfl) (putAllM 4 e2 [d]) s0 [l] (some ⟨g1, 0, none⟩) 1 F111 S1 (row_new G1) (by simp) (by simp only [List.length_cons, List.length_nil]; omega)) ?_
          rintro s1 F112 M1
          have X112 := M1.ext
          have E112 := E111.trans X112
          refine ⟨E112, ?_⟩
          replace G2 := X112 _ _ G2
          have S2 := Bs.of_mine M1
          replace M1 := M1.down E111
          (conv => whnf)
          refine call_of (rputL 8 (.inr (.inr (.inr rfl))) (putAllM 1 (putAllM 4 e2 [d]) [l]) s1 [a] (some ⟨g2, 0, none⟩) 1 F112 S2 (row_new G2) (by simp) (by simp only [List.length_cons, List.length_nil]; omega)) ?_
          rintro s2 F113 M2
          have X113 := M2.ext
          have E113 := E112.trans X113
          refine ⟨E113, ?_⟩
          have S3 := Bs.of_mine M2
          replace M2 := M2.down E112
          (conv => whnf)
          exact hK _ _ ⟨s2, M2, rfl, rfl, rfl⟩
        (conv => whnf)
        refine ⟨?_, ?_⟩
        · have triv := True.intro
          (conv => whnf)
          refine new_step (.cells (([l] : List Int).map (Value.int .i64)).toArray 3) rfl fun g1 hg1 => ?_
          have X114 := Ext.new hg1 (.cells (([l] : List Int).map (Value.int .i64)).toArray 3)
          have G1 := Heap.put_same F101 g1 (.cells (([l] : List Int).map (Value.int .i64)).toArray 3)
          generalize F101.put g1 _ = F114 at X114 G1 ⊢
          have E114 := E101.trans X114
          refine ⟨E114, ?_⟩
          replace G0 := X114 _ _ G0
          replace S0 := S0.mono X114
          (conv => whnf)
          refine ⟨?_, ?_⟩
          · have triv := True.intro
            (conv => whnf)
            refine call_of (rputL 4 (.inr (.inr (.inl rfl))) e2 s0 [d] (some ⟨g0, 0, none⟩) 1 F114 S0 (row_new G0) (by simp) (by simp only [List.length_cons, List.length_nil]; omega)) ?_
            rintro s0 F115 M0
            have X115 := M0.ext
            have E115 := E114.trans X115
            refine ⟨E115, ?_⟩
            replace G1 := X115 _ _ G1
            have S1 := Bs.of_mine M0
            replace M0 := M0.down E114
            (conv => whnf)
            refine ⟨?_, ?_⟩
            · have triv := True.intro
              (conv => whnf)
              refine call_of (rputL 1 (.inl rfl) (putAllM 4 e2 [d]) s0 [l] (some ⟨g1, 0, none⟩) 1 F115 S1 (row_new G1) (by simp) (by simp only [List.length_cons, List.length_nil]; omega)) ?_
              rintro s1 F116 M1
              have X116 := M1.ext
              have E116 := E115.trans X116
              refine ⟨E116, ?_⟩
              have S2 := Bs.of_mine M1
              replace M1 := M1.down E115
              (conv => whnf)
              refine new_step (.cells (([a] : List Int).map (Value.int .i64)).toArray 3) rfl fun g2 hg2 => ?_
              have X117 := Ext.new hg2 (.cells (([a] : List Int).map (Value.int .i64)).toArray 3)
              have G2 := Heap.put_same F116 g2 (.cells (([a] : List Int).map (Value.int .i64)).toArray 3)
              generalize F116.put g2 _ = F117 at X117 G2 ⊢
              have E117 := E116.trans X117
              refine ⟨E117, ?_⟩
              replace S2 := S2.mono X117
              replace M1 := M1.mono X117
              (conv => whnf)
              refine call_of (rputL 8 (.inr (.inr (.inr rfl))) (putAllM 1 (putAllM 4 e2 [d]) [l]) s1 [a] (some ⟨g2, 0, none⟩) 1 F117 S2 (row_new G2) (by simp) (by simp only [List.length_cons, List.length_nil]; omega)) ?_
              rintro s2 F118 M2
              have X118 := M2.ext
              have E118 := E117.trans X118
              refine ⟨E118, ?_⟩
              have S3 := Bs.of_mine M2
              replace M2 := M2.down E117
              (conv => whnf)
              exact hK _ _ ⟨s2, M2, rfl, rfl, rfl⟩
            (conv => whnf)
            refine new_step (.cells (([a] : List Int).map (Value.int .i64)).toArray 3) rfl fun g2 hg2 => ?_
            have X119 := Ext.new hg2 (.cells (([a] : List Int).map (Value.int .i64)).toArray 3)
            have G2 := Heap.put_same F115 g2 (.cells (([a] : List Int).map (Value.int .i64)).toArray 3)
            generalize F115.put g2 _ = F119 at X119 G2 ⊢
            have E119 := E115.trans X119
            refine ⟨E119, ?_⟩
            replace G1 := X119 _ _ G1
            replace S1 := S1.mono X119
            replace M0 := M0.mono X119
            (conv => whnf)
            refine call_of (rputL 1 (.inl rfl) (putAllM 4 e2 [d]) s0 [l] (some ⟨g1, 0, none⟩) 1 F119 S1 (row_new G1) (by simp) (by simp only [List.length_cons, List.length_nil]; omega)) ?_
            rintro s1 F120 M1
            have X120 := M1.ext
            have E120 := E119.trans X120
            refine ⟨E120, ?_⟩
            replace G2 := X120 _ _ G2
            have S2 := Bs.of_mine M1
            replace M1 := M1.down E119
            (conv => whnf)
            refine call_of (rputL 8 (.inr (.inr (.inr rfl))) (putAllM 1 (putAllM 4 e2 [d]) [l]) s1 [a] (some ⟨g2, 0, none⟩) 1 F120 S2 (row_new G2) (by simp) (by simp only [List.length_cons, List.length_nil]; omega)) ?_
            rintro s2 F121 M2
            have X121 := M2.ext
            have E121 := E120.trans X121
            refine ⟨E121, ?_⟩
            have S3 := Bs.of_mine M2
            replace M2 := M2.down E120
            (conv => whnf)
            exact hK _ _ ⟨s2, M2, rfl, rfl, rfl⟩
          (conv => whnf)
          refine new_step (.cells (([a] : List Int).map (Value.int .i64)).toArray 3) rfl fun g2 hg2 => ?_
          have X122 := Ext.new hg2 (.cells (([a] : List Int).map (Value.int .i64)).toArray 3)
          have G2 := Heap.put_same F114 g2 (.cells (([a] : List Int).map (Value.int .i64)).toArray 3)
          generalize F114.put g2 _ = F122 at X122 G2 ⊢
          have E122 := E114.trans X122
          refine ⟨E122, ?_⟩
          replace G0 := X122 _ _ G0
          replace G1 := X122 _ _ G1
          replace S0 := S0.mono X122
          (conv => whnf)
          refine call_of (rputL 4 (.inr (.inr (.inl rfl))) e2 s0 [d] (some ⟨g0, 0, none⟩) 1 F122 S0 (row_new G0) (by simp) (by simp only [List.length_cons, List.length_nil]; omega)) ?_
          rintro s0 F123 M0
          have X123 := M0.ext
          have E123 := E122.trans X123
          refine ⟨E123, ?_⟩
          replace G1 := X123 _ _ G1
          replace G2 := X123 _ _ G2
          have S1 := Bs.of_mine M0
          replace M0 := M0.down E122
          (conv => whnf)
          refine call_of (rputL 1 (.inl rfl) (putAllM 4 e2 [d]) s0 [l] (some ⟨g1, 0, none⟩) 1 F123 S1 (row_new G1) (by simp) (by simp only [List.length_cons, List.length_nil]; omega)) ?_
          rintro s1 F124 M1
          have X124 := M1.ext
          have E124 := E123.trans X124
          refine ⟨E124, ?_⟩
          replace G2 := X124 _ _ G2
          have S2 := Bs.of_mine M1
          replace M1 := M1.down E123
          (conv => whnf)
          refine call_of (rputL 8 (.inr (.inr (.inr rfl))) (putAllM 1 (putAllM 4 e2 [d]) [l]) s1 [a] (some ⟨g2, 0, none⟩) 1 F124 S2 (row_new G2) (by simp) (by simp only [List.length_cons, List.length_nil]; omega)) ?_
          rintro s2 F125 M2
          have X125 := M2.ext
          have E125 := E124.trans X125
          refine ⟨E125, ?_⟩
          have S3 := Bs.of_mine M2
          replace M2 := M2.down E124
          (conv => whnf)
          exact hK _ _ ⟨s2, M2, rfl, rfl, rfl⟩
        (conv => whnf)
        refine new_step (.cells (([a] : List Int).map (Value.int .i64)).toArray 3) rfl fun g2 hg2 => ?_
        have X126 := Ext.new hg2 (.cells (([a] : List Int).map (Value.int .i64)).toArray 3)
        have G2 := Heap.put_same F101 g2 (.cells (([a] : List Int).map (Value.int .i64)).toArray 3)
        generalize F101.put g2 _ = F126 at X126 G2 ⊢
        have E126 := E101.trans X126
        refine ⟨E126, ?_⟩
        replace G0 := X126 _ _ G0
        replace S0 := S0.mono X126
        (conv => whnf)
        refine ⟨?_, ?_⟩
        · have triv := True.intro
          (conv => whnf)
          refine call_of (rputL 4 (.inr (.inr (.inl rfl))) e2 s0 [d] (some ⟨g0, 0, none⟩) 1 F126 S0 (row_new G0) (by simp) (by simp only [List.length_cons, List.length_nil]; omega)) ?_
          rintro s0 F127 M0
          have X127 := M0.ext
          have E127 := E126.trans X127
          refine ⟨E127, ?_⟩
          replace G2 := X127 _ _ G2
          have S1 := Bs.of_mine M0
          replace M0 := M0.down E126
          (conv => whnf)
          refine new_step (.cells (([l] : List Int).map (Value.int .i64)).toArray 3) rfl fun g1 hg1 => ?_
          have X128 := Ext.new hg1 (.cells (([l] : List Int).map (Value.int .i64)).toArray 3)
          have G1 := Heap.put_same F127 g1 (.cells (([l] : List Int).map (Value.int .i64)).toArray 3)
          generalize F127.put g1 _ = F128 at X128 G1 ⊢
          have E128 := E127.trans X128
          refine ⟨E128, ?_⟩
          replace G2 := X128 _ _ G2
          replace S1 := S1.mono X128
          replace M0 := M0.mono X128
          (conv => whnf)
          refine call_of (rputL 1 (.inl rfl) (putAllM 4 e2 [d]) s0 [l] (some ⟨g1, 0, none⟩) 1 F128 S1 (row_new G1) (by simp) (by simp only [List.length_cons, List.length_nil]; omega)) ?_
          rintro s1 F129 M1
          have X129 := M1.ext
          have E129 := E128.trans X129
          refine ⟨E129, ?_⟩
          replace G2 := X129 _ _ G2
          have S2 := Bs.of_mine M1
          replace M1 := M1.down E128
          (conv => whnf)
          refine call_of (rputL 8 (.inr (.inr (.inr rfl))) (putAllM 1 (putAllM 4 e2 [d]) [l]) s1 [a] (some ⟨g2, 0, none⟩) 1 F129 S2 (row_new G2) (by simp) (by simp only [List.length_cons, List.length_nil]; omega)) ?_
          rintro s2 F130 M2
          have X130 := M2.ext
          have E130 := E129.trans X130
          refine ⟨E130, ?_⟩
          have S3 := Bs.of_mine M2
          replace M2 := M2.down E129
          (conv => whnf)
          exact hK _ _ ⟨s2, M2, rfl, rfl, rfl⟩
        (conv => whnf)
        refine new_step (.cells (([l] : List Int).map (Value.int .i64)).toArray 3) rfl fun g1 hg1 => ?_
        have X131 := Ext.new hg1 (.cells (([l] : List Int).map (Value.int .i64)).toArray 3)
        have G1 := Heap.put_same F126 g1 (.cells (([l] : List Int).map (Value.int .i64)).toArray 3)
        generalize F126.put g1 _ = F131 at X131 G1 ⊢
        have E131 := E126.trans X131
        refine ⟨E131, ?_⟩
        replace G0 := X131 _ _ G0
        replace G2 := X131 _ _ G2
        replace S0 := S0.mono X131
        (conv => whnf)
        refine call_of (rputL 4 (.inr (.inr (.inl rfl))) e2 s0 [d] (some ⟨g0, 0, none⟩) 1 F131 S0 (row_new G0) (by simp) (by simp only [List.length_cons, List.length_nil]; omega)) ?_
        rintro s0 F132 M0
        have X132 := M0.ext
        have E132 := E131.trans X132
        refine ⟨E132, ?_⟩
        replace G1 := X132 _ _ G1
        replace G2 := X132 _ _ G2
        have S1 := Bs.of_mine M0
        replace M0 := M0.down E131
        (conv => whnf)
        refine call_of (rputL 1 (.inl rfl) (putAllM 4 e2 [d]) s0 [l] (some ⟨g1, 0, none⟩) 1 F132 S1 (row_new G1) (by simp) (by simp only [List.length_cons, List.length_nil]; omega)) ?_
        rintro s1 F133 M1
        have X133 := M1.ext
        have E133 := E132.trans X133
        refine ⟨E133, ?_⟩
        replace G2 := X133 _ _ G2
        have S2 := Bs.of_mine M1
        replace M1 := M1.down E132
        (conv => whnf)
        refine call_of (rputL 8 (.inr (.inr (.inr rfl))) (putAllM 1 (putAllM 4 e2 [d]) [l]) s1 [a] (some ⟨g2, 0, none⟩) 1 F133 S2 (row_new G2) (by simp) (by simp only [List.length_cons, List.length_nil]; omega)) ?_
        rintro s2 F134 M2
        have X134 := M2.ext
        have E134 := E133.trans X134
        refine ⟨E134, ?_⟩
        have S3 := Bs.of_mine M2
        replace M2 := M2.down E133
        (conv => whnf)
        exact hK _ _ ⟨s2, M2, rfl, rfl, rfl⟩
      (conv => whnf)
      refine ⟨?_, ?_⟩
      · have triv := True.intro
        (conv => whnf)
        refine new_step (.cells (([l] : List Int).map (Value.int .i64)).toArray 3) rfl fun g1 hg1 => ?_
        have X135 := Ext.new hg1 (.cells (([l] : List Int).map (Value.int .i64)).toArray 3)
        have G1 := Heap.put_same F7 g1 (.cells (([l] : List Int).map (Value.int .i64)).toArray 3)
        generalize F7.put g1 _ = F135 at X135 G1 ⊢
        have E135 := E0.trans X135
        refine ⟨E135, ?_⟩
        replace S0 := S0.mono X135
        (conv => whnf)
        refine ⟨?_, ?_⟩
        · have triv := True.intro
          (conv => whnf)
          refine new_step (.cells (([d] : List Int).map (Value.int .i64)).toArray 3) rfl fun g0 hg0 => ?_
          have X136 := Ext.new hg0 (.cells (([d] : List Int).map (Value.int .i64)).toArray 3)
          have G0 := Heap.put_same F135 g0 (.cells (([d] : List Int).map (Value.int .i64)).toArray 3)
          generalize F135.put g0 _ = F136 at X136 G0 ⊢
          have E136 := E135.trans X136
          refine ⟨E136, ?_⟩
          replace G1 := X136 _ _ G1
          replace S0 := S0.mono X136
          (conv => whnf)
          refine ⟨?_, ?_⟩
          · have triv := True.intro
            (conv => whnf)
            refine call_of (rputL 4 (.inr (.inr (.inl rfl))) e2 s0 [d] (some ⟨g0, 0, none⟩) 1 F136 S0 (row_new G0) (by simp) (by simp only [List.length_cons, List.length_nil]; omega)) ?_
            rintro s0 F137 M0
            have X137 := M0.ext
            have E137 := E136.trans X137
            refine ⟨E137, ?_⟩
            replace G1 := X137 _ _ G1
            have S1 := Bs.of_mine M0
            replace M0 := M0.down E136
            (conv => whnf)
            refine ⟨?_, ?_⟩
            · have triv := True.intro
              (conv => whnf)
              refine call_of (rputL 1 (.inl rfl) (putAllM 4 e2 [d]) s0 [l] (some ⟨g1, 0, none⟩) 1 F137 S1 (row_new G1) (by simp) (by simp only [List.length_cons, List.length_nil]; omega)) ?_
              rintro s1 F138 M1
              have X138 := M1.ext
              have E138 := E137.trans X138
              refine ⟨E138, ?_⟩
              have S2 := Bs.of_mine M1
              replace M1 := M1.down E137
              (conv => whnf)
              refine new_step (.cells (([a] : List Int).map (Value.int .i64)).toArray 3) rfl fun g2 hg2 => ?_
              have X139 := Ext.new hg2 (.cells (([a] : List Int).map (Value.int .i64)).toArray 3)
              have G2 := Heap.put_same F138 g2 (.cells (([a] : List Int).map (Value.int .i64)).toArray 3)
              generalize F138.put g2 _ = F139 at X139 G2 ⊢
              have E139 := E138.trans X139
              refine ⟨E139, ?_⟩
              replace S2 := S2.mono X139
              replace M1 := M1.mono X139
              (conv => whnf)
              refine call_of (rputL 8 (.inr (.inr (.inr rfl))) (putAllM 1 (putAllM 4 e2 [d]) [l]) s1 [a] (some ⟨g2, 0, none⟩) 1 F139 S2 (row_new G2) (by simp) (by simp only [List.length_cons, List.length_nil]; omega)) ?_
              rintro s2 F140 M2
              have X140 := M2.ext
              have E140 := E139.trans X140
              refine ⟨E140, ?_⟩
              have S3 := Bs.of_mine M2
              replace M2 := M2.down E139
              (conv => whnf)
              exact hK _ _ ⟨s2, M2, rfl, rfl, rfl⟩
            (conv => whnf)
            refine new_step (.cells (([a] : List Int).map (Value.int .i64)).toArray 3) rfl fun g2 hg2 => ?_
            have X141 := Ext.new hg2 (.cells (([a] : List Int).map (Value.int .i64)).toArray 3)
            have G2 := Heap.put_same F137 g2 (.cells (([a] : List Int).map (Value.int .i64)).toArray 3)
            generalize F137.put g2 _ = F141 at X141 G2 ⊢
            have E141 := E137.trans X141
            refine ⟨E141, ?_⟩
            replace G1 := X141 _ _ G1
            replace S1 := S1.mono X141
            replace M0 := M0.mono X141
            (conv => whnf)
            refine call_of (rputL 1 (.inl rfl) (putAllM 4 e2 [d]) s0 [l] (some ⟨g1, 0, none⟩) 1 F141 S1 (row_new G1) (by simp) (by simp only [List.length_cons, List.length_nil]; omega)) ?_
            rintro s1 F142 M1
            have X142 := M1.ext
            have E142 := E141.trans X142
            refine ⟨E142, ?_⟩
            replace G2 := X142 _ _ G2
            have S2 := Bs.of_mine M1
            replace M1 := M1.down E141
            (conv => whnf)
            refine call_of (rputL 8 (.inr (.inr (.inr rfl))) (putAllM 1 (putAllM 4 e2 [d]) [l]) s1 [a] (some ⟨g2, 0, none⟩) 1 F142 S2 (row_new G2) (by simp) (by simp only [List.length_cons, List.length_nil]; omega)) ?_
            rintro s2 F143 M2
            have X143 := M2.ext
            have E143 := E142.trans X143
            refine ⟨E143, ?_⟩
            have S3 := Bs.of_mine M2
            replace M2 := M2.down E142
            (conv => whnf)
            exact hK _ _ ⟨s2, M2, rfl, rfl, rfl⟩
          (conv => whnf)
          refine new_step (.cells (([a] : List Int).map (Value.int .i64)).toArray 3) rfl fun g2 hg2 => ?_
          have X144 := Ext.new hg2 (.cells (([a] : List Int).map (Value.int .i64)).toArray 3)
          have G2 := Heap.put_same F136 g2 (.cells (([a] : List Int).map (Value.int .i64)).toArray 3)
          generalize F136.put g2 _ = F144 at X144 G2 ⊢
          have E144 := E136.trans X144
          refine ⟨E144, ?_⟩
          replace G0 := X144 _ _ G0
          replace G1 := X144 _ _ G1
          replace S0 := S0.mono X144
          (conv => whnf)
          refine call_of (rputL 4 (.inr (.inr (.inl rfl))) e2 s0 [d] (some ⟨g0, 0, none⟩) 1 F144 S0 (row_new G0) (by simp) (by simp only [List.length_cons, List.length_nil]; omega)) ?_
          rintro s0 F145 M0
          have X145 := M0.ext
          have E145 := E144.trans X145
          refine ⟨E145, ?_⟩
          replace G1 := X145 _ _ G1
          replace G2 := X145 _ _ G2
          have S1 := Bs.of_mine M0
          replace M0 := M0.down E144
          (conv => whnf)
          refine call_of (rputL 1 (.inl rfl) (putAllM 4 e2 [d]) s0 [l] (some ⟨g1, 0, none⟩) 1 F145 S1 (row_new G1) (by simp) (by simp only [List.length_cons, List.length_nil]; omega)) ?_
          rintro s1 F146 M1
          have X146 := M1.ext
          have E146 := E145.trans X146
          refine ⟨E146, ?_⟩
          replace G2 := X146 _ _ G2
          have S2 := Bs.of_mine M1
          replace M1 := M1.down E145
          (conv => whnf)
          refine call_of (rputL 8 (.inr (.inr (.inr rfl))) (putAllM 1 (putAllM 4 e2 [d]) [l]) s1 [a] (some ⟨g2, 0, none⟩) 1 F146 S2 (row_new G2) (by simp) (by simp only [List.length_cons, List.length_nil]; omega)) ?_
          rintro s2 F147 M2
          have X147 := M2.ext
          have E147 := E146.trans X147
          refine ⟨E147, ?_⟩
          have S3 := Bs.of_mine M2
          replace M2 := M2.down E146
          (conv => whnf)
          exact hK _ _ ⟨s2, M2, rfl, rfl, rfl⟩
        (conv => whnf)
        refine new_step (.cells (([a] : List Int).map (Value.int .i64)).toArray 3) rfl fun g2 hg2 => ?_
        have X148 := Ext.new hg2 (.cells (([a] : List Int).map (Value.int .i64)).toArray 3)
        have G2 := Heap.put_same F135 g2 (.cells (([a] : List Int).map (Value.int .i64)).toArray 3)
        generalize F135.put g2 _ = F148 at X148 G2 ⊢
        have E148 := E135.trans X148
        refine ⟨E148, ?_⟩
        replace G1 := X148 _ _ G1
        replace S0 := S0.mono X148
        (conv => whnf)
        refine new_step (.cells (([d] : List Int).map (Value.int .i64)).toArray 3) rfl fun g0 hg0 => ?_
        have X149 := Ext.new hg0 (.cells (([d] : List Int).map (Value.int .i64)).toArray 3)
        have G0 := Heap.put_same F148 g0 (.cells (([d] : List Int).map (Value.int .i64)).toArray 3)
        generalize F148.put g0 _ = F149 at X149 G0 ⊢
        have E149 := E148.trans X149
        refine ⟨E149, ?_⟩
        replace G1 := X149 _ _ G1
        replace G2 := X149 _ _ G2
        replace S0 := S0.mono X149
        (conv => whnf)
        refine call_of (rputL 4 (.inr (.inr (.inl rfl))) e2 s0 [d] (some ⟨g0, 0, none⟩) 1 F149 S0 (row_new G0) (by simp) (by simp only [List.length_cons, List.length_nil]; omega)) ?_
        rintro s0 F150 M0
        have X150 := M0.ext
        have E150 := E149.trans X150
        refine ⟨E150, ?_⟩
        replace G1 := X150 _ _ G1
        replace G2 := X150 _ _ G2
        have S1 := Bs.of_mine M0
        replace M0 := M0.down E149
        (conv => whnf)
        refine call_of (rputL 1 (.inl rfl) (putAllM 4 e2 [d]) s0 [l] (some ⟨g1, 0, none⟩) 1 F150 S1 (row_new G1) (by simp) (by simp only [List.length_cons, List.length_nil]; omega)) ?_
        rintro s1 F151 M1
        have X151 := M1.ext
        have E151 := E150.trans X151
        refine ⟨E151, ?_⟩
        replace G2 := X151 _ _ G2
        have S2 := Bs.of_mine M1
        replace M1 := M1.down E150
        (conv => whnf)
        refine call_of (rputL 8 (.inr (.inr (.inr rfl))) (putAllM 1 (putAllM 4 e2 [d]) [l]) s1 [a] (some ⟨g2, 0, none⟩) 1 F151 S2 (row_new G2) (by simp) (by simp only [List.length_cons, List.length_nil]; omega)) ?_
        rintro s2 F152 M2
        have X152 := M2.ext
        have E152 := E151.trans X152
        refine ⟨E152, ?_⟩
        have S3 := Bs.of_mine M2
        replace M2 := M2.down E151
        (conv => whnf)
        exact hK _ _ ⟨s2, M2, rfl, rfl, rfl⟩
      (conv => whnf)
      refine new_step (.cells (([a] : List Int).map (Value.int .i64)).toArray 3) rfl fun g2 hg2 => ?_
      have X153 := Ext.new hg2 (.cells (([a] : List Int).map (Value.int .i64)).toArray 3)
      have G2 := Heap.put_same F7 g2 (.cells (([a] : List Int).map (Value.int .i64)).toArray 3)
      generalize F7.put g2 _ = F153 at X153 G2 ⊢
      have E153 := E0.trans X153
      refine ⟨E153, ?_⟩
      replace S0 := S0.mono X153
      (conv => whnf)
      refine ⟨?_, ?_⟩
      · have triv := True.intro
        (conv => whnf)
        refine new_step (.cells (([d] : List Int).map (Value.int .i64)).toArray 3) rfl fun g0 hg0 => ?_
        have X154 := Ext.new hg0 (.cells (([d] : List Int).map (Value.int .i64)).toArray 3)
        have G0 := Heap.put_same F153 g0 (.cells (([d] : List Int).map (Value.int .i64)).toArray 3)
        generalize F153.put g0 _ = F154 at X154 G0 ⊢
        have E154 := E153.trans X154
        refine ⟨E154, ?_⟩
        replace G2 := X154 _ _ G2
        replace S0 := S0.mono X154
        (conv => whnf)
        refine ⟨?_, ?_⟩
        · have triv := True.intro
          (conv => whnf)
          refine call_of (rputL 4 (.inr (.inr (.inl rfl))) e2 s0 [d] (some ⟨g0, 0, none⟩) 1 F154 S0 (row_new G0) (by simp) (by simp only [List.length_cons, List.length_nil]; omega)) ?_
          rintro s0 F155 M0
          have X155 := M0.ext
          have E155 := E154.trans X155
          refine ⟨E155, ?_⟩
          replace G2 := X155 _ _ G2
          have S1 := Bs.of_mine M0
          replace M0 := M0.down E154
          (conv => whnf)
          refine new_step (.cells (([l] : List Int).map (Value.int .i64)).toArray 3) rfl fun g1 hg1 => ?_
          have X156 := Ext.new hg1 (.cells (([l] : List Int).map (Value.int .i64)).toArray 3)
          have G1 := Heap.put_same F155 g1 (.cells (([l] : List Int).map (Value.int .i64)).toArray 3)
          generalize F155.put g1 _ = F156 at X156 G1 ⊢
          have E156 := E155.trans X156
          refine ⟨E156, ?_⟩
          replace G2 := X156 _ _ G2
          replace S1 := S1.mono X156
          replace M0 := M0.mono X156
          (conv => whnf)
          refine call_of (rputL 1 (.inl rfl) (putAllM 4 e2 [d]) s0 [l] (some ⟨g1, 0, none⟩) 1 F156 S1 (row_new G1) (by simp) (by simp only [List.length_cons, List.length_nil]; omega)) ?_
          rintro s1 F157 M1
          have X157 := M1.ext
          have E157 := E156.trans X157
          refine ⟨E157, ?_⟩
          replace G2 := X157 _ _ G2
          have S2 := Bs.of_mine M1
          replace M1 := M1.down E156
          (conv => whnf)
          refine call_of (rputL 8 (.inr (.inr (.inr rfl))) (putAllM 1 (putAllM 4 e2 [d]) [l]) s1 [a] (some ⟨g2, 0, none⟩) 1 F157 S2 (row_new G2) (by simp) (by simp only [List.length_cons, List.length_nil]; omega)) ?_
          rintro s2 F158 M2
          have X158 := M2.ext
          have E158 := E157.trans X158
          refine ⟨E158, ?_⟩
          have S3 := Bs.of_mine M2
          replace M2 := M2.down E157
          (conv => whnf)
          exact hK _ _ ⟨s2, M2, rfl, rfl, rfl⟩
        (conv => whnf)
        refine new_step (.cells (([l] : List Int).map (Value.int .i64)).toArray 3) rfl fun g1 hg1 => ?_
        have X159 := Ext.new hg1 (.cells (([l] : List Int).map (Value.int .i64)).toArray 3)
        have G1 := Heap.put_same F154 g1 (.cells (([l] : List Int).map (Value.int .i64)).toArray 3)
        generalize F154.put g1 _ = F159 at X159 G1 ⊢
        have E159 := E154.trans X159
        refine ⟨E159, ?_⟩
        replace G0 := X159 _ _ G0
        replace G2 := X159 _ _ G2
        replace S0 := S0.mono X159
        (conv => whnf)
        refine call_of (rputL 4 (.inr (.inr (.inl rfl))) e2 s0 [d] (some ⟨g0, 0, none⟩) 1 F159 S0 (row_new G0) (by simp) (by simp only [List.length_cons, List.length_nil]; omega)) ?_
        rintro s0 F160 M0
        have X160 := M0.ext
        have E160 := E159.trans X160
        refine ⟨E160, ?_⟩
        replace G1 := X160 _ _ G1
        replace G2 := X160 _ _ G2
        have S1 := Bs.of_mine M0
        replace M0 := M0.down E159
        (conv => whnf)
        refine call_of (rputL 1 (.inl rfl) (putAllM 4 e2 [d]) s0 [l] (some ⟨g1, 0, none⟩) 1 F160 S1 (row_new G1) (by simp) (by simp only [List.length_cons, List.length_nil]; omega)) ?_
        rintro s1 F161 M1
        have X161 := M1.ext
        have E161 := E160.trans X161
        refine ⟨E161, ?_⟩
        replace G2 := X161 _ _ G2
        have S2 := Bs.of_mine M1
        replace M1 := M1.down E160
        (conv => whnf)
        refine call_of (rputL 8 (.inr (.inr (.inr rfl))) (putAllM 1 (putAllM 4 e2 [d]) [l]) s1 [a] (some ⟨g2, 0, none⟩) 1 F161 S2 (row_new G2) (by simp) (by simp only [List.length_cons, List.length_nil]; omega)) ?_
        rintro s2 F162 M2
        have X162 := M2.ext
        have E162 := E161.trans X162
        refine ⟨E162, ?_⟩
        have S3 := Bs.of_mine M2
        replace M2 := M2.down E161
        (conv => whnf)
        exact hK _ _ ⟨s2, M2, rfl, rfl, rfl⟩
      (conv => whnf)
      refine new_step (.cells (([l] : List Int).map (Value.int .i64)).toArray 3) rfl fun g1 hg1 => ?_
      have X163 := Ext.new hg1 (.cells (([l] : List Int).map (Value.int .i64)).toArray 3)
      have G1 := Heap.put_same F153 g1 (.cells (([l] : List Int).map (Value.int .i64)).toArray 3)
      generalize F153.put g1 _ = F163 at X163 G1 ⊢
      have E163 := E153.trans X163
      refine ⟨E163, ?_⟩
      replace G2 := X163 _ _ G2
      replace S0 := S0.mono X163
      (conv => whnf)
      refine new_step (.cells (([d] : List Int).map (Value.int .i64)).toArray 3) rfl fun g0 hg0 => ?_
      have X164 := Ext.new hg0 (.cells (([d] : List Int).map (Value.int .i64)).toArray 3)
      have G0 := Heap.put_same F163 g0 (.cells (([d] : List Int).map (Value.int .i64)).toArray 3)
      generalize F163.put g0 _ = F164 at X164 G0 ⊢
      have E164 := E163.trans X164
      refine ⟨E164, ?_⟩
      replace G1 := X164 _ _ G1
      replace G2 := X164 _ _ G2
      replace S0 := S0.mono X164
      (conv => whnf)
      refine call_of (rputL 4 (.inr (.inr (.inl rfl))) e2 s0 [d] (some ⟨g0, 0, none⟩) 1 F164 S0 (row_new G0) (by simp) (by simp only [List.length_cons, List.length_nil]; omega)) ?_
      rintro s0 F165 M0
      have X165 := M0.ext
      have E165 := E164.trans X165
      refine ⟨E165, ?_⟩
      replace G1 := X165 _ _ G1
      replace G2 := X165 _ _ G2
      have S1 := Bs.of_mine M0
      replace M0 := M0.down E164
      (conv => whnf)
      refine call_of (rputL 1 (.inl rfl) (putAllM 4 e2 [d]) s0 [l] (some ⟨g1, 0, none⟩) 1 F165 S1 (row_new G1) (by simp) (by simp only [List.length_cons, List.length_nil]; omega)) ?_
      rintro s1 F166 M1
      have X166 := M1.ext
      have E166 := E165.trans X166
      refine ⟨E166, ?_⟩
      replace G2 := X166 _ _ G2
      have S2 := Bs.of_mine M1
      replace M1 := M1.down E165
      (conv => whnf)
      refine call_of (rputL 8 (.inr (.inr (.inr rfl))) (putAllM 1 (putAllM 4 e2 [d]) [l]) s1 [a] (some ⟨g2, 0, none⟩) 1 F166 S2 (row_new G2) (by simp) (by simp only [List.length_cons, List.length_nil]; omega)) ?_
      rintro s2 F167 M2
      have X167 := M2.ext
      have E167 := E166.trans X167
      refine ⟨E167, ?_⟩
      have S3 := Bs.of_mine M2
      replace M2 := M2.down E166
      (conv => whnf)
      exact hK _ _ ⟨s2, M2, rfl, rfl, rfl⟩
    · rintro env' F8 ⟨S8, M8, h1', h4', h5'⟩
      have bH : eH.length ≤ 26 := by rw [hH]; omega
      have hB8 := M8.ext _ _ hB7
      have hE8 := hE7.trans M8.ext
      replace M8 := M8.down hE7
      obtain ⟨A8, c8, rfl, _⟩ := M8.own.row
      refine short [1, 4, 5] [.pointer (some ⟨b, 0, none⟩), .int .i64 0, .slice A8 eH.length c8] (by simp only [List.map_cons, List.map_nil, h1', h4', h5']) fun ρ => ?_
      clear h1' h4' h5' hH b2 b3 b4 b5 S0 hB7 hE7
      (conv => whnf)
      refine draw_cut (fun env' F' => ∃ S', Mine F2 F' S' 5 1 (eH ++ [y1, y2] ++ nm).length (bytesOf (eH ++ [y1, y2] ++ nm)) ∧ F' b = some (cmdO k y x f o n p d l a false ⟨nm.toArray⟩ (.slice A ls.length c)) ∧ env' 1 = .pointer (some ⟨b, 0, none⟩) ∧ env' 5 = S') (fun K hK => ?_) ?_
      · refine draw_tree_at tab_ok (by kernel_rfl) [4, 10] (DT.row [0, 1, 2, 3, 4, 5, 6, 9, 10, 7, 8, 11, 12] .nil) (by kernel_rfl) (F8.only b) (only_ext rfl) ?_
        (conv => whnf)
        refine load_blk (only_at hB8) rfl rfl ?_
        (conv => whnf)
        refine load_blk (only_at hB8) rfl rfl ?_
        (conv => whnf)
        refine new_step (.cells (bytesOf [y1, y2]).toArray 5) ?_ fun q hq => ?_
        · rw [show bytesOf [y1, y2] = [Value.int .u8 (y1.toNat : Int), .int .u8 (y2.toNat : Int)] from rfl, ← w1, ← w2]
          rfl
        have hXq := Ext.new hq (.cells (bytesOf [y1, y2]).toArray 5)
        have hQ := Heap.put_same F8 q (.cells (bytesOf [y1, y2]).toArray 5)
        have hB9 := hXq _ _ hB8
        have M9 := M8.mono hXq
        generalize F8.put q _ = F9 at hXq hQ hB9 M9 ⊢
        refine ⟨only_ext (by rw [hB8, hB9]), ?_⟩
        (conv => whnf)
        refine append_mine tab_ok (m := 2) (ys := bytesOf [y1, y2]) (y := .slice (some ⟨q, 0, none⟩) 2 2) rfl rfl rfl rfl rfl ⟨_, rfl, fun k h => by cases h⟩ ⟨_, rfl, rfl⟩ (by decide) M9 ⟨rfl, .inl ⟨_, _, rfl, fun j v hj => ⟨_, rfl, by rw [add_plain, Heap.cell_at hQ, Nat.zero_add]; simpa using hj⟩⟩⟩ (hone_bytes _) (by show 2 * (eH.length + 2) * 1 ≤ _; omega) fun s10 F10 M10 hk10 => ?_
        have hB10 := hk10 _ _ hB9 (M9.own.blk_ne hB9 u8_cmd)
        refine ⟨only_ext (by rw [hB8, hB10]), ?_⟩
        (conv => whnf)
        refine append_mine tab_ok (m := nm.length) (ys := bytesOf nm) (y := .string ⟨nm.toArray⟩) rfl rfl rfl rfl rfl ⟨_, rfl, fun k h => by cases h⟩ ⟨_, rfl, rfl⟩ (by decide) M10 ⟨by simp [bytesOf], .inr ⟨_, rfl, rfl, by show nm.length = nm.toArray.size; simp, by simp [bytesOf]⟩⟩ (hone_bytes nm) (by show 2 * (eH.length + 2 + nm.length) * 1 ≤ _; omega) fun s11 F11 M11 hk11 => ?_
        have hB11 := hk11 _ _ hB10 (M10.own.blk_ne hB10 u8_cmd)
        refine ⟨only_ext (by rw [hB8, hB11]), ?_⟩
        have M12 : Mine F2 F11 s11 5 1 (eH ++ [y1, y2] ++ nm).length (bytesOf (eH ++ [y1, y2] ++ nm)) := by
          rw [List.length_append, List.length_append, bytes_app, bytes_app]; exact M11
        (conv => whnf)
        exact hK _ _ ⟨s11, M12, hB11, rfl, rfl⟩
      · rintro env' F11 ⟨s11, M12, hB11, h1', h5'⟩
        have b12 : (eH ++ [y1, y2] ++ nm).length = eH.length + 2 + nm.length := by rw [List.length_append, List.length_append]; rfl
        generalize eH ++ [y1, y2] ++ nm = e12 at M12 b12 hM1
        clear M8 hB8 hE8
        refine short [1, 5] [.pointer (some ⟨b, 0, none⟩), s11] (by simp only [List.map_cons, List.map_nil, h1', h5']) fun ρ => ?_
        clear h1' h5'
        (conv => whnf)
        refine load_blk hB11 rfl rfl ?_
        (conv => whnf)
        refine new_step (.cells (bytesOf [y3]).toArray 5) ?_ fun q hq => ?_
        · exact congrArg (fun z => Obj.cells #[Value.int .u8 z] 5) w3
        have hXq := Ext.new hq (.cells (bytesOf [y3]).toArray 5)
        have hQ := Heap.put_same F11 q (.cells (bytesOf [y3]).toArray 5)
        have hB13 := hXq _ _ hB11
        have M13 := M12.mono hXq
        generalize F11.put q _ = F13 at hXq hQ hB13 M13 ⊢
        (conv => whnf)
        refine append_mine tab_ok (m := 1) (ys := bytesOf [y3]) (y := .slice (some ⟨q, 0, none⟩) 1 1) rfl rfl rfl rfl rfl ⟨_, rfl, fun k h => by cases h⟩ ⟨_, rfl, rfl⟩ (by decide) M13 ⟨rfl, .inl ⟨_, _, rfl, fun j v hj => ⟨_, rfl, by rw [add_plain, Heap.cell_at hQ, Nat.zero_add]; simpa using hj⟩⟩⟩ (hone_bytes _) (by show 2 * (e12.length + 1) * 1 ≤ _; omega) fun s14 F14 M14 hk14 => ?_
        have hB14 := hk14 _ _ hB13 (M13.own.blk_ne hB13 u8_cmd)
        have M15 : Mine F2 F14 s14 5 1 eM.length (bytesOf eM) := by
          rw [hM1, List.length_append, bytes_app]; exact M14
        clear M14 M13 M12 hk14 hXq hQ hB13 hB11 hM1
        (conv => whnf)
        refine loop_slots [1, 5, 6] (fun mm vs F' => ∃ (j : Nat) (S : Value), j + mm = ls.length ∧ vs = [.pointer (some ⟨b, 0, none⟩), S, .int .i64 (j : Int)] ∧ Mine F2 F' S 5 1 (encL eM (ls.take j)).length (bytesOf (encL eM (ls.take j))) ∧ F' b = some (cmdO k y x f o n p d l a false ⟨nm.toArray⟩ (.slice A ls.length c))) ls.length ⟨0, _, by omega, rfl, M15, hB14⟩ ?_
        clear M15 hB14
        rintro m vs F15 ρ ⟨j, S, hjm, rfl, M15, hB15⟩
        have bj := encL_len (ls.take j) eM
        rw [List.length_take] at bj
        (conv => whnf)
        refine load_blk hB15 rfl rfl ?_
        (conv => whnf)
        refine cond_split (fun h => ?_) (fun h => ?_)
        · have hj : j < ls.length := by have := of_decide_eq_true h; omega
          obtain ⟨ad, rfl⟩ := hr.some (by rw [linesV_len]; omega)
          have hx : ls[j]? = some ls[j] := List.getElem?_eq_getElem hj
          have ht := encL_take eM ls j _ hx
          have hLr := fun (K : Value → Prop) => line_load (K := K) (hr2.mono M15.ext) hj
          have hja : ad.add (Int.toNat (j : Int) * 4) = ad.add (j * 4) := by rw [Int.toNat_natCast]
          rw [← hja] at hLr
          generalize ls[j] = q at ht hLr
          obtain ⟨wf, wo, wn, wa⟩ := q
          dsimp only at ht hLr
          have bj2 : (encL eM (ls.take j)).length ≤ 10000 := by
            have := Nat.min_le_right j ls.length
            omega
          have bj3 := putAllM_len 2 [wf, wo, wn] (encL eM (ls.take j))
          simp only [List.length_cons, List.length_nil] at bj3
          generalize encL eM (ls.take j) = cur at M15 ht bj2 bj3
          (conv => whnf)
          refine load_blk hB15 rfl rfl ?_
          (conv => whnf)
          refine ⟨⟨by omega, by omega⟩, ?_⟩
          (conv => whnf)
          refine hLr _ ?_
          (conv => whnf)
          refine new_step (lineO 0 0 0 0) rfl fun u hu => ?_
          have hU := Heap.put_same F15 u (lineO 0 0 0 0)
          have hEu : ∀ o, Ext F15 ((F15.put u (lineO 0 0 0 0)).put u o) := fun o => ext_put_put hu
          generalize F15.put u _ = F16 at hU hEu ⊢
          have o1 : ∀ v ∈ [Value.int .i64 wf, .int .i64 wo, .int .i64 wn, .int .i64 wa], v.oneCell' = true := by simp [Value.oneCell']
          (conv => whnf)
          refine store_step u 0 _ #[.int .i64 wf, .int .i64 wo, .int .i64 wn, .int .i64 wa] rfl hU rfl rfl (.inl (Nat.le_refl 0)) o1 ?_
          have hU17 := Heap.put_same F16 u (lineO wf wo wn wa)
          have M17 := M15.mono (hEu (lineO wf wo wn wa))
          have hB17 := (hEu (lineO wf wo wn wa)) _ _ hB15
          generalize F16.put u _ = F17 at hU17 M17 hB17 ⊢
          have S0 := Bs.of_mine M17
          refine short [1, 5, 6, 7] [.pointer (some ⟨b, 0, none⟩), S, .int .i64 (j : Int), .pointer (some ⟨u, 0, none⟩)] rfl fun ρ => ?_
          (conv => whnf)
          refine draw_cut (fun env' F' => ∃ S', Mine F17 F' S' 5 1 (putAllM 8 (putAllM 2 cur [wf, wo, wn]) [wa]).length (bytesOf (putAllM 8 (putAllM 2 cur [wf, wo, wn]) [wa])) ∧ env' 1 = .pointer (some ⟨b, 0, none⟩) ∧ env' 6 = .int .i64 (j : Int) ∧ env' 5 = S') (fun K hK => ?_) ?_
          · refine draw_tree tab_ok (by kernel_rfl) [2, 4, 6, 10] (DT.row [0, 1, 2, 3, 4, 5, 6, 9, 10] (.fork (.cons 7 (.fork (.cons 8 (.cons 11 (.cons 12 (DT.row [13] .nil)))) (.cons 11 (.cons 8 (.cons 12 (DT.row [13] .nil)))))) (.cons 11 (.cons 7 (.cons 8 (.cons 12 (DT.row [13] .nil))))))) (by kernel_rfl) ?_
            have E0 := Ext.refl F17
            (conv => whnf)
            refine load_blk hU17 rfl rfl ?_
            (conv => whnf)
            refine load_blk hU17 rfl rfl ?_
            (conv => whnf)
            refine load_blk hU17 rfl rfl ?_
            (conv => whnf)
            refine load_blk hU17 rfl rfl ?_
            (conv => whnf)
            refine ⟨?_, ?_⟩
            · have triv := True.intro
              (conv => whnf)
              refine new_step (.cells (([wf, wo, wn] : List Int).map (Value.int .i64)).toArray 3) rfl fun g0 hg0 => ?_
              have X101 := Ext.new hg0 (.cells (([wf, wo, wn] : List Int).map (Value.int .i64)).toArray 3)
              have G0 := Heap.put_same F17 g0 (.cells (([wf, wo, wn] : List Int).map (Value.int .i64)).toArray 3)
              generalize F17.put g0 _ = F101 at X101 G0 ⊢
              have E101 := E0.trans X101
              refine ⟨E101, ?_⟩
              replace S0 := S0.mono X101
              (conv => whnf)
              refine ⟨?_, ?_⟩
              · have triv := True.intro
                (conv => whnf)
                refine call_of (rputL 2 (.inr (.inl rfl)) cur S [wf, wo, wn] (some ⟨g0, 0, none⟩) 3 F101 S0 (row_new G0) (by simp) (by simp only [List.length_cons, List.length_nil]; omega)) ?_
                rintro s0 F102 M0
                have X102 := M0.ext
                have E102 := E101.trans X102
                refine ⟨E102, ?_⟩
                have S1 := Bs.of_mine M0
                replace M0 := M0.down E101
                (conv => whnf)
                refine new_step (.cells (([wa] : List Int).map (Value.int .i64)).toArray 3) rfl fun g1 hg1 => ?_
                have X103 := Ext.new hg1 (.cells (([wa] : List Int).map (Value.int .i64)).toArray 3)
                have G1 := Heap.put_same F102 g1 (.cells (([wa] : List Int).map (Value.int .i64)).toArray 3)
                generalize F102.put g1 _ = F103 at X103 G1 ⊢
                have E103 := E102.trans X103
                refine ⟨E103, ?_⟩
                replace S1 := S1.mono X103
                replace M0 := M0.mono X103
                (conv => whnf)
                refine call_of (rputL 8 (.inr (.inr (.inr rfl))) (putAllM 2 cur [wf, wo, wn]) s0 [wa] (some ⟨g1, 0, none⟩) 1 F103 S1 (row_new G1) (by simp) (by simp only [List.length_cons, List.length_nil]; omega)) ?_
                rintro s1 F104 M1
                have X104 := M1.ext
                have E104 := E103.trans X104
                refine ⟨E104, ?_⟩
                have S2 := Bs.of_mine M1
                replace M1 := M1.down E103
                (conv => whnf)
                exact hK _ _ ⟨s1, M1, rfl, rfl, rfl⟩
              (conv => whnf)
              refine new_step (.cells (([wa] : List Int).map (Value.int .i64)).toArray 3) rfl fun g1 hg1 => ?_
              have X105 := Ext.new hg1 (.cells (([wa] : List Int).map (Value.int .i64)).toArray 3)
              have G1 := Heap.put_same F101 g1 (.cells (([wa] : List Int).map (Value.int .i64)).toArray 3)
              generalize F101.put g1 _ = F105 at X105 G1 ⊢
              have E105 := E101.trans X105
              refine ⟨E105, ?_⟩
              replace G0 := X105 _ _ G0
              replace S0 := S0.mono X105
              (conv => whnf)
              refine call_of (rputL 2 (.inr (.inl rfl)) cur S [wf, wo, wn] (some ⟨g0, 0, none⟩) 3 F105 S0 (row_new G0) (by simp) (by simp only [List.length_cons, List.length_nil]; omega)) ?_
              rintro s0 F106 M0
              have X106 := M0.ext
              have E106 := E105.trans X106
              refine ⟨E106, ?_⟩
              replace G1 := X106 _ _ G1
              have S1 := Bs.of_mine M0
              replace M0 := M0.down E105
              (conv => whnf)
              refine call_of (rputL 8 (.inr (.inr (.inr rfl))) (putAllM 2 cur [wf, wo, wn]) s0 [wa] (some ⟨g1, 0, none⟩) 1 F106 S1 (row_new G1) (by simp) (by simp only [List.length_cons, List.length_nil]; omega)) ?_
              rintro s1 F107 M1
              have X107 := M1.ext
              have E107 := E106.trans X107
              refine ⟨E107, ?_⟩
              have S2 := Bs.of_mine M1
              replace M1 := M1.down E106
              (conv => whnf)
              exact hK _ _ ⟨s1, M1, rfl, rfl, rfl⟩
            (conv => whnf)
            refine new_step (.cells (([wa] : List Int).map (Value.int .i64)).toArray 3) rfl fun g1 hg1 => ?_
            have X108 := Ext.new hg1 (.cells (([wa] : List Int).map (Value.int .i64)).toArray 3)
            have G1 := Heap.put_same F17 g1 (.cells (([wa] : List Int).map (Value.int .i64)).toArray 3)
            generalize F17.put g1 _ = F108 at X108 G1 ⊢
            have E108 := E0.trans X108
            refine ⟨E108, ?_⟩
            replace S0 := S0.mono X108
            (conv => whnf)
            refine new_step (.cells (([wf, wo, wn] : List Int).map (Value.int .i64)).toArray 3) rfl fun g0 hg0 => ?_
            have X109 := Ext.new hg0 (.cells (([wf, wo, wn] : List Int).map (Value.int .i64)).toArray 3)
            have G0 := Heap.put_same F108 g0 (.cells (([wf, wo, wn] : List Int).map (Value.int .i64)).toArray 3)
            generalize F108.put g0 _ = F109 at X109 G0 ⊢
            have E109 := E108.trans X109
            refine ⟨E109, ?_⟩
            replace G1 := X109 _ _ G1
            replace S0 := S0.mono X109
            (conv => whnf)
            refine call_of (rputL 2 (.inr (.inl rfl)) cur S [wf, wo, wn] (some ⟨g0, 0, none⟩) 3 F109 S0 (row_new G0) (by simp) (by simp only [List.length_cons, List.length_nil]; omega)) ?_
            rintro s0 F110 M0
            have X110 := M0.ext
            have E110 := E109.trans X110
            refine ⟨E110, ?_⟩
            replace G1 := X110 _ _ G1
            have S1 := Bs.of_mine M0
            replace M0 := M0.down E109
            (conv => whnf)
            refine call_of (rputL 8 (.inr (.inr (.inr rfl))) (putAllM 2 cur [wf, wo, wn]) s0 [wa] (some ⟨g1, 0, none⟩) 1 F110 S1 (row_new G1) (by simp) (by simp only [List.length_cons, List.length_nil]; omega)) ?_
            rintro s1 F111 M1
            have X111 := M1.ext
            have E111 := E110.trans X111
            refine ⟨E111, ?_⟩
            have S2 := Bs.of_mine M1
            replace M1 := M1.down E110
            (conv => whnf)
            exact hK _ _ ⟨s1, M1, rfl, rfl, rfl⟩
          · rintro env' F18 ⟨S18, M18, h1', h6', h5'⟩
            refine short [1, 5, 6] [.pointer (some ⟨b, 0, none⟩), S18, .int .i64 (j : Int)] (by simp only [List.map_cons, List.map_nil, h1', h5', h6']) fun ρ => ?_
            (conv => whnf)
            refine ⟨m - 1, by omega, j + 1, S18, by omega, ?_, ?_, M18.ext _ _ hB17⟩
            · have hw : IntKind.i64.wrap ((j : Int) + 1) = ((j + 1 : Nat) : Int) := by rw [IntKind.wrap_i64]; omega
              rw [← hw]
              rfl
            · rw [ht]; exact M18.down M17.ext
        · have hj : j = ls.length := by have := of_decide_eq_false h; omega
          subst hj
          rw [List.take_length, ← hEB] at M15
          (conv => whnf)
          exact ⟨⟨S, rfl, Bs.of_mine M15⟩, hE2.trans M15.ext⟩
end Go.Proofs.Ytkahpaipciooiac.Al
