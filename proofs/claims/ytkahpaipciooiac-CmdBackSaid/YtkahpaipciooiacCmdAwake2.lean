/- The contract of the laws' awake; both decoders in one word. -/
import Derived.Test.YtkahpaipciooiacCmdAwake
namespace Go.Proofs.Ytkahpaipciooiac.Al
open Go Go.Al Go.Proofs Go.RowKit
set_option maxHeartbeats 8000000
set_option maxRecDepth 100000
set_option linter.unusedVariables false
set_option linter.unusedSimpArgs false
theorem cmd_wf {r : CR} {a : Int} {ls : List (Int × Int × Int × Int)} (ha : r.c.a = a) (hl : r.c.ls = ls.map (fun q => ⟨q.1, q.2.1, q.2.2.1, q.2.2.2⟩)) (w : (Lit.int .i64 a).wf = true) (ws : ∀ q ∈ ls, (Lit.int .i64 q.2.2.2).wf = true) : wfC r.c := by
  refine ⟨by rw [ha]; exact wf_i64 w, fun q hq => ?_⟩
  rw [hl] at hq
  obtain ⟨q', h1, rfl⟩ := List.mem_map.1 hq
  exact wf_i64 (ws q' h1)
theorem fill2 (Z a b : List Value) (hz : Z.length = 13) (ha : a.length = 13) (hb : b.length = 13) : putL (putL (zerosL Z 2) (0 * 13) a) (1 * 13) b = a ++ (b ++ []) := by
  have h2 : (zerosL Z 2).length = 26 := by show (Z ++ (Z ++ [])).length = 26; simp [hz]
  rw [putL_eq b _ _ (by rw [length_putL, h2, hb]; decide), putL_eq a _ _ (by rw [h2, ha]; decide)]
  rw [Nat.zero_mul, Nat.zero_add, List.take_zero, List.nil_append, Nat.one_mul, ha, hb, List.take_left' ha]
  rw [List.drop_of_length_le (by rw [List.length_append, List.length_drop, h2, ha]; decide)]
theorem fill1 (Z a : List Value) (hz : Z.length = 13) (ha : a.length = 13) : putL (zerosL Z 1) (0 * 13) a = a ++ [] := by
  have h2 : (zerosL Z 1).length = 13 := by show (Z ++ []).length = 13; simp [hz]
  rw [putL_eq a _ _ (by rw [h2, ha]; decide)]
  rw [Nat.zero_mul, Nat.zero_add, List.take_zero, List.nil_append, ha, List.drop_of_length_le (by rw [h2]; decide)]
theorem one13 (k y x f o n p d l a : Int) (ab : Bool) (nm : ByteArray) (A : Option Addr) (m c : Nat) : ∀ v ∈ [Value.int .i64 k, .int .i64 y, .int .i64 x, .int .i64 f, .int .i64 o, .int .i64 n, .int .i64 p, .int .i64 d, .int .i64 l, .int .i64 a, .bool ab, .string nm, .slice A m c], v.oneCell' = true := by simp [Value.oneCell']
def c0 : CD := ⟨7, 2020, 0, 0, 0, 0, 0, 0, 0, 0, false, [], [⟨100, 5010, 0, -3⟩]⟩
theorem awake (F : Heap) : FnK Try.prog 19 #[] F (fun v F' => v = .bool true ∧ Ext F F') := by
  have hmy : mayB c0 = true := by decide +kernel
  have hw : wfC c0 := ⟨⟨by decide, by decide⟩, fun q hq => by rw [List.mem_singleton.1 hq]; exact ⟨by decide, by decide⟩⟩
  obtain ⟨hok, hcm⟩ := back c0 hmy hw
  have hlen : (encB c0).length = 43 := by decide +kernel
  have hnil : okD [] = false := by decide +kernel
  have hEn := fun A c G hg => encode 7 2020 0 0 0 0 0 0 0 0 false [] [⟨100, 5010, 0, -3⟩] A c G hg (by decide) (by decide)
  have hDe := fun A c G hg h1 h2 => decode (encB c0) A c G hg h1 h2
  have hDn := fun G => decode [] none 0 G (RowAt.nil _ _) (by decide) (Nat.le_refl _)
  change ∀ A c G, _ → FnK _ _ _ G (fun v F' => (∃ r, v = .tuple #[r, .int .i64 (if mayB c0 then 0 else 1)] ∧ Bs F' r (if mayB c0 then encB c0 else [])) ∧ Ext G F') at hEn
  simp only [hmy, if_true] at hEn
  simp only [hok, if_true, hcm, hlen] at hDe
  simp only [hnil, Bool.false_eq_true, if_false] at hDn
  simp only [Bs, hlen] at hEn
  generalize encB c0 = eb at hEn hDe
  have hk := known 1
  have ha := asks 16
  rw [show knownB 1 = true by decide] at hk
  rw [show asksB 16 = true by decide] at ha
  (refine fn_walk tab_ok Try.func19 rfl rfl rfl rfl ?_; (conv => whnf))
  refine new_step (lineO 100 5010 0 (-3)) rfl fun g hg => ?_
  have hE1 := Ext.new hg (lineO 100 5010 0 (-3))
  have hG := Heap.put_same F g (lineO 100 5010 0 (-3))
  generalize F.put g _ = F1 at hE1 hG ⊢
  have hrow : RowAt F1 (some ⟨g, 0, none⟩) (linesV [⟨100, 5010, 0, -3⟩]) := fun j v hj => ⟨_, rfl, by
    rw [add_plain, Heap.cell_at hG, Nat.zero_add, ← Array.getElem?_toList]
    exact hj⟩
  (conv => whnf)
  refine call_of (hEn (some ⟨g, 0, none⟩) 1 F1 hrow) ?_
  rintro v F2 ⟨⟨r, rfl, A, c, rfl, hc, hr⟩, hE2⟩
  replace hE2 := hE1.trans hE2
  (conv => whnf)
  refine call_of (hDe A c F2 hr (by decide) hc) ?_
  rintro v F3 ⟨⟨B, cc, rfl, hB⟩, hE3⟩
  replace hE3 := hE2.trans hE3
  (conv => whnf)
  refine new_step (cmdO 0 0 0 0 0 0 0 0 0 0 false .empty (.slice none 0 0)) rfl fun p hp => ?_
  have hZ := Heap.put_same F3 p (cmdO 0 0 0 0 0 0 0 0 0 0 false .empty (.slice none 0 0))
  have hE4 : ∀ o, Ext F3 ((F3.put p (cmdO 0 0 0 0 0 0 0 0 0 0 false .empty (.slice none 0 0))).put p o) := fun o => ext_put_put hp
  generalize F3.put p _ = F4 at hZ hE4 ⊢
  (conv => whnf)
  refine store_step p 0 _ (cmdC 7 2020 0 0 0 0 0 0 0 0 false ⟨([] : List UInt8).toArray⟩ (.slice B 1 cc)) rfl hZ rfl rfl (.inl (Nat.le_refl 0)) (one13 7 2020 0 0 0 0 0 0 0 0 false ⟨([] : List UInt8).toArray⟩ B 1 cc) ?_
  have hE5 := hE3.trans (hE4 (cmdO 7 2020 0 0 0 0 0 0 0 0 false ⟨([] : List UInt8).toArray⟩ (.slice B 1 cc)))
  have hB5 := hB.mono (hE4 (cmdO 7 2020 0 0 0 0 0 0 0 0 false ⟨([] : List UInt8).toArray⟩ (.slice B 1 cc)))
  have hM := Heap.put_same F4 p (cmdO 7 2020 0 0 0 0 0 0 0 0 false ⟨([] : List UInt8).toArray⟩ (.slice B 1 cc))
  generalize F4.put p _ = F5 at hE5 hM hB5 ⊢
  refine short [1, 2, 3, 18] [.slice A 43 c, .int .i64 0, .pointer (some ⟨p, 0, none⟩), .int .i64 0] rfl fun ρ => ?_
  (conv => whnf)
  refine call_of (hDn F5) ?_
  rintro v F6 ⟨⟨B', cc', rfl, hB'⟩, hE6⟩
  have hM6 := hE6 _ _ hM
  have hB6 := hB5.mono hE6
  replace hE6 := hE5.trans hE6
  (conv => whnf)
  refine new_step (cmdO 0 0 0 0 0 0 0 0 0 0 false .empty (.slice none 0 0)) rfl fun q hq => ?_
  have hZ7 := Heap.put_same F6 q (cmdO 0 0 0 0 0 0 0 0 0 0 false .empty (.slice none 0 0))
  have hE7 : ∀ o, Ext F6 ((F6.put q (cmdO 0 0 0 0 0 0 0 0 0 0 false .empty (.slice none 0 0))).put q o) := fun o => ext_put_put hq
  generalize F6.put q _ = F7 at hZ7 hE7 ⊢
  (conv => whnf)
  refine store_step q 0 _ (cmdC 0 0 0 0 0 0 0 0 0 0 false ⟨([] : List UInt8).toArray⟩ (.slice B' 0 cc')) rfl hZ7 rfl rfl (.inl (Nat.le_refl 0)) (one13 0 0 0 0 0 0 0 0 0 0 false ⟨([] : List UInt8).toArray⟩ B' 0 cc') ?_
  have hX := hE7 (cmdO 0 0 0 0 0 0 0 0 0 0 false ⟨([] : List UInt8).toArray⟩ (.slice B' 0 cc'))
  have hM8 := hX _ _ hM6
  have hB8 := hB6.mono hX
  have hE8 := hE6.trans hX
  generalize F7.put q _ = F8 at hM8 hB8 hE8 ⊢
  obtain ⟨bd, rfl⟩ := hB8.some (by decide)
  have h3 := hB8.cell (j := 3) (v := .int .i64 (-3)) rfl
  refine short [1, 2, 3, 4, 22] [.slice A 43 c, .int .i64 0, .pointer (some ⟨p, 0, none⟩), .int .i64 0, .int .i64 14] rfl fun ρ => ?_
  (conv => whnf)
  refine load_blk hM8 rfl rfl ?_
  (conv => whnf)
  refine ⟨⟨by decide, by decide⟩, ?_⟩
  (conv => whnf)
  refine load_step (v := .int .i64 (-3)) (by show F8.cell? ((bd.add (Int.toNat 0 * 4)).add 3) = _; rw [add_add]; exact h3) ?_
  (conv => whnf)
  refine call_of (ha _) ?_
  rintro v F8 ⟨rfl, rfl⟩
  (conv => whnf)
  refine call_of (hk _) ?_
  rintro v F8 ⟨rfl, rfl⟩
  (conv => whnf)
  exact ⟨rfl, hE8⟩
end Go.Proofs.Ytkahpaipciooiac.Al
