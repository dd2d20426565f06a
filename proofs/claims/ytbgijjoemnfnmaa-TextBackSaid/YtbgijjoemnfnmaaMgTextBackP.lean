/- The law TextBack holds of the program: proved over what is known of memory, each function by its contract. -/
import Derived.Test.YtbgijjoemnfnmaaMgTextBackLaw
import Derived.Test.YtbgijjoemnfnmaaMgText1
import Derived.Test.YtbgijjoemnfnmaaMgText2
import Derived.Test.YtbgijjoemnfnmaaMgText3
import Derived.Test.YtbgijjoemnfnmaaMgText4
import Derived.Test.YtbgijjoemnfnmaaMgText5
import Derived.Test.YtbgijjoemnfnmaaMgText6
namespace Go.Proofs.Ytbgijjoemnfnmaa.AlTextBack
open Go Go.Al Go.Proofs Go.RowKit Go.Proofs.Ytbgijjoemnfnmaa.Al
set_option maxHeartbeats 8000000
set_option maxRecDepth 100000
set_option linter.unusedVariables false
set_option linter.unusedSimpArgs false
theorem law : LawK := by
  intro F xx w cs hK s ws
  obtain ⟨r, rfl, hr, hrc⟩ := cmd_open hK
  have hR : CdR r.c := by rw [hrc]; exact cmd_R w
  clear hK w hrc
  obtain ⟨sl, rfl⟩ : ∃ l : List UInt8, s = ⟨l.toArray⟩ := ⟨s.data.toList, by simp⟩
  have hsl : (⟨sl.toArray⟩ : ByteArray).size = sl.length := by simp [ByteArray.size]
  obtain ⟨⟨k, y, x, f, o, n, p, d, l, a, ab, nm, ls⟩, B, cc⟩ := r
  dsimp only at hr hR
  have hf1 := fun h => few_le (r := ⟨⟨k, y, x, f, o, n, p, d, l, a, ab, nm, ls⟩, B, cc⟩) h
  dsimp only at hf1
  have h1 := fun F h (hh : nm.length ≤ 100 ∧ ls.length ≤ 20) => printT ⟨k, y, x, f, o, n, p, d, l, a, ab, nm, ls⟩ hR B cc F h (Nat.le_trans hh.1 (by decide)) (Nat.le_trans hh.2 (by decide))
  have hcm := fun A c G hg => cmds [(⟨⟨k, y, x, f, o, n, p, d, l, a, ab, nm, ls⟩, B, cc⟩ : CR)] A c 1 G hg (by simp) (by decide)
  rw [show List.all [(⟨⟨k, y, x, f, o, n, p, d, l, a, ab, nm, ls⟩, B, cc⟩ : CR)] few = few ⟨⟨k, y, x, f, o, n, p, d, l, a, ab, nm, ls⟩, B, cc⟩ by simp] at hcm
  generalize few ⟨⟨k, y, x, f, o, n, p, d, l, a, ab, nm, ls⟩, B, cc⟩ = z1 at hcm hf1
  replace h1 : ∀ F, RowAt F B (linesV ls) → (nm.length ≤ 100 ∧ ls.length ≤ 20) → FnK Try.prog 14 #[.agg (cmdC k y x f o n p d l a ab ⟨nm.toArray⟩ (.slice B ls.length cc))] F (fun v F' => (∃ out : List UInt8 × Int, v = .tuple #[.string ⟨out.1.toArray⟩, .int .i64 out.2] ∧ PrintRel parseS ⟨k, y, x, f, o, n, p, d, l, a, ab, nm, ls⟩ out) ∧ Ext F F') := h1
  have out : ∀ F', Ext F F' → FnK Try.prog 6 #[] F' (fun v F' => v = .bool true ∧ Ext F F') := fun F' hF' => (awake F').mono fun v G h => ⟨h.1, hF'.trans h.2⟩
  have h3 : ∀ t e, PrintRel parseS ⟨k, y, x, f, o, n, p, d, l, a, ab, nm, ls⟩ (t, e) → (e = 0 ∧ ∀ G, FnK Try.prog 7 #[.string ⟨t.toArray⟩] G (fun v F' => (∃ A cc, v = .tuple #[.agg (cmdC k y x f o n p d l a ab ⟨nm.toArray⟩ (.slice A ls.length cc)), .int .i64 0] ∧ RowAt F' A (linesV ls)) ∧ Ext G F')) ∨ e = 1 := by
    intro t e h
    rcases rel_cases h with ⟨ho, _, hpa⟩ | ⟨ho, _⟩
    · obtain ⟨rfl, rfl⟩ := Prod.mk.inj ho
      refine .inl ⟨rfl, fun G => ?_⟩
      have := parse (printP ⟨k, y, x, f, o, n, p, d, l, a, ab, nm, ls⟩) G
      rw [hpa] at this
      exact this
    · exact .inr (Prod.mk.inj ho).2
  have pS := fun G => parse sl G
  have pZ := parseS_len sl
  have pB := fun d h => parse_back sl d h
  have pN := fun d e h he => parse_no sl d e h he
  generalize hq : parseS sl = q at pS pZ pB pN
  obtain ⟨⟨k', y', x', f', o', n', p', d', l', a', ab', nm', ls'⟩, e'⟩ := q
  replace pS : ∀ G, FnK Try.prog 7 #[.string ⟨sl.toArray⟩] G (fun v F' => (∃ A cc, v = .tuple #[.agg (cmdC k' y' x' f' o' n' p' d' l' a' ab' ⟨nm'.toArray⟩ (.slice A ls'.length cc)), .int .i64 e'] ∧ RowAt F' A (linesV ls')) ∧ Ext G F') := pS
  have h5 : e' = 0 → ∀ A c G, RowAt G A (linesV ls') → FnK Try.prog 14 #[.agg (cmdC k' y' x' f' o' n' p' d' l' a' ab' ⟨nm'.toArray⟩ (.slice A ls'.length c))] G (fun v F' => v = .tuple #[.string ⟨sl.toArray⟩, .int .i64 0] ∧ Ext G F') := by
    rintro rfl A c G hg
    obtain ⟨b1, b2, b3, b4, b5⟩ := pB _ rfl
    refine (printT ⟨k', y', x', f', o', n', p', d', l', a', ab', nm', ls'⟩ b3 A c G hg (Nat.le_trans b4 (by decide)) (Nat.le_trans b5 (by decide))).mono ?_
    rintro v G' ⟨⟨out, rfl, ho⟩, hE⟩
    refine ⟨?_, hE⟩
    rcases rel_cases ho with ⟨rfl, _, _⟩ | ⟨_, hn⟩
    · rw [b2]
    · exact absurd ⟨b1, by rw [b2]; exact hq⟩ hn
  have h6 : e' ≠ 0 → ∀ A c G, FnK Try.prog 9 #[.agg (cmdC k' y' x' f' o' n' p' d' l' a' ab' ⟨nm'.toArray⟩ (.slice A ls'.length c)), .agg (cmdC 0 0 0 0 0 0 0 0 0 0 false ⟨([] : List UInt8).toArray⟩ (.slice none 0 0))] G (fun v F' => v = .bool true ∧ Ext G F') := by
    intro he A c G
    obtain ⟨rfl, rfl, rfl, rfl, rfl, rfl, rfl, rfl, rfl, rfl, rfl, rfl, rfl⟩ := CD.mk.inj (pN _ _ rfl he)
    refine (rsame 0 0 0 0 0 0 0 0 0 0 false [] [] 0 0 0 0 0 0 0 0 0 0 false [] [] A none c 0 G (RowAt.nil _ _) (RowAt.nil _ _) (by decide) (by decide)).mono ?_
    rintro v G' ⟨⟨z, rfl, hz⟩, hE⟩
    obtain rfl : z = true := hz.2 rfl
    exact ⟨rfl, hE⟩
  clear pB pN pZ hq hR
  have hsm := fun (h1 : ls.length ≤ 20) B' cc' G hx hy => rsame k y x f o n p d l a ab nm ls k y x f o n p d l a ab nm ls B B' cc cc' G hx hy (by omega) (by omega)
  change FnK _ _ #[.agg (cmdC k y x f o n p d l a ab ⟨nm.toArray⟩ (.slice B ls.length cc)), .string ⟨sl.toArray⟩] _ _
  (refine fn_walk tab_ok Try.func5 rfl rfl rfl rfl ?_; (conv => whnf))
  refine new_step (cmdO k y x f o n p d l a ab ⟨nm.toArray⟩ (.slice B ls.length cc)) rfl fun bb hbb => ?_
  have hE := Ext.new hbb (cmdO k y x f o n p d l a ab ⟨nm.toArray⟩ (.slice B ls.length cc))
  have hC := Heap.put_same F bb (cmdO k y x f o n p d l a ab ⟨nm.toArray⟩ (.slice B ls.length cc))
  generalize F.put bb _ = F2 at hE hC ⊢
  ((conv => whnf); repeat (first | (apply load_at; (conv => lhs; whnf); (with_reducible assumption); rfl; (conv => whnf)) | (apply load_at; (conv => lhs; rw [add_plain, add_plain]); (with_reducible assumption); rfl; (conv => whnf)) | (apply loads_at; (conv => lhs; whnf); (with_reducible assumption); rfl; (conv => whnf)) | (refine ⟨⟨by omega, by omega⟩, ?_⟩; (conv => whnf))))
  refine new_step (.cells (rowsV [(⟨⟨k, y, x, f, o, n, p, d, l, a, ab, nm, ls⟩, B, cc⟩ : CR)]).toArray 25) ?_ fun g hg => ?_
  · refine congrArg (fun l => Obj.cells (List.toArray l) 25) ?_
    exact fill1t _ (cmdC k y x f o n p d l a ab ⟨nm.toArray⟩ (.slice B ls.length cc)).toList rfl rfl
  have hXg := Ext.new hg (.cells (rowsV [(⟨⟨k, y, x, f, o, n, p, d, l, a, ab, nm, ls⟩, B, cc⟩ : CR)]).toArray 25)
  have hG := Heap.put_same F2 g (.cells (rowsV [(⟨⟨k, y, x, f, o, n, p, d, l, a, ab, nm, ls⟩, B, cc⟩ : CR)]).toArray 25)
  generalize F2.put g _ = F3 at hXg hG ⊢
  have hrow : RowAt F3 (some ⟨g, 0, none⟩) (rowsV [(⟨⟨k, y, x, f, o, n, p, d, l, a, ab, nm, ls⟩, B, cc⟩ : CR)]) := fun j v hj => ⟨_, rfl, by
    rw [add_plain, Heap.cell_at hG, Nat.zero_add, ← Array.getElem?_toList]
    exact hj⟩
  replace hC := hXg _ _ hC
  replace hE := hE.trans hXg
  (conv => whnf)
  refine call_of (hcm (some ⟨g, 0, none⟩) 1 F3 hrow) ?_
  rintro v F4 ⟨rfl, hE4⟩
  replace hC := hE4 _ _ hC
  replace hE := hE.trans hE4
  clear hG hrow hXg hE4
  refine short [1, 2, 15] [.string ⟨sl.toArray⟩, .pointer (some ⟨bb, 0, none⟩), .bool z1] rfl fun ρ => ?_
  cases z1 with
  | false =>
    (conv => whnf)
    refine call_of (out _ hE) ?_
    rintro v F9 ⟨rfl, hF9⟩
    (conv => whnf)
    exact ⟨rfl, hF9⟩
  | true =>
  have hh := hf1 rfl
  ((conv => whnf); repeat (first | (apply load_at; (conv => lhs; whnf); (with_reducible assumption); rfl; (conv => whnf)) | (apply load_at; (conv => lhs; rw [add_plain, add_plain]); (with_reducible assumption); rfl; (conv => whnf)) | (apply loads_at; (conv => lhs; whnf); (with_reducible assumption); rfl; (conv => whnf)) | (refine ⟨⟨by omega, by omega⟩, ?_⟩; (conv => whnf))))
  refine cond_split (fun h => ?_) (fun h => ?_)
  · (conv => whnf)
    refine call_of (out _ hE) ?_
    rintro v F9 ⟨rfl, hF9⟩
    (conv => whnf)
    exact ⟨rfl, hF9⟩
  clear h
  ((conv => whnf); repeat (first | (apply load_at; (conv => lhs; whnf); (with_reducible assumption); rfl; (conv => whnf)) | (apply load_at; (conv => lhs; rw [add_plain, add_plain]); (with_reducible assumption); rfl; (conv => whnf)) | (apply loads_at; (conv => lhs; whnf); (with_reducible assumption); rfl; (conv => whnf)) | (refine ⟨⟨by omega, by omega⟩, ?_⟩; (conv => whnf))))
  refine call_of (h1 F4 (hr.mono hE) hh) ?_
  rintro v F5 ⟨⟨⟨t, e⟩, rfl, hp⟩, hE5⟩
  replace hC := hE5 _ _ hC
  replace hE5 := hE.trans hE5
  rcases h3 t e hp with ⟨he, h4⟩ | he
  subst he
  ((conv => whnf); repeat (first | (apply load_at; (conv => lhs; whnf); (with_reducible assumption); rfl; (conv => whnf)) | (apply load_at; (conv => lhs; rw [add_plain, add_plain]); (with_reducible assumption); rfl; (conv => whnf)) | (apply loads_at; (conv => lhs; whnf); (with_reducible assumption); rfl; (conv => whnf)) | (refine ⟨⟨by omega, by omega⟩, ?_⟩; (conv => whnf))))
  refine call_of (h4 F5) ?_
  rintro v F6 ⟨⟨A2, c2, rfl, hr2⟩, hE6⟩
  replace hC := hE6 _ _ hC
  have hE7 := hE5.trans hE6
  ((conv => whnf); repeat (first | (apply load_at; (conv => lhs; whnf); (with_reducible assumption); rfl; (conv => whnf)) | (apply load_at; (conv => lhs; rw [add_plain, add_plain]); (with_reducible assumption); rfl; (conv => whnf)) | (apply loads_at; (conv => lhs; whnf); (with_reducible assumption); rfl; (conv => whnf)) | (refine ⟨⟨by omega, by omega⟩, ?_⟩; (conv => whnf))))
  refine new_step (cmdO 0 0 0 0 0 0 0 0 0 0 false ⟨#[]⟩ (.slice none 0 0)) rfl fun u h0_u => ?_
  have hE_u := Ext.new h0_u (cmdO 0 0 0 0 0 0 0 0 0 0 false ⟨#[]⟩ (.slice none 0 0))
  have hB_u := Heap.put_same F6 u (cmdO 0 0 0 0 0 0 0 0 0 0 false ⟨#[]⟩ (.slice none 0 0))
  generalize F6.put u _ = F7 at hE_u hB_u ⊢
  ((conv => whnf); repeat (first | (apply load_at; (conv => lhs; whnf); (with_reducible assumption); rfl; (conv => whnf)) | (apply load_at; (conv => lhs; rw [add_plain, add_plain]); (with_reducible assumption); rfl; (conv => whnf)) | (apply loads_at; (conv => lhs; whnf); (with_reducible assumption); rfl; (conv => whnf)) | (refine ⟨⟨by omega, by omega⟩, ?_⟩; (conv => whnf))))
  refine store_step u 0 _ (cmdC k y x f o n p d l a ab ⟨nm.toArray⟩ (.slice A2 ls.length c2)) rfl hB_u rfl rfl (.inl (Nat.le_refl 0)) (cmd_ones _ _ _ _ _ _ _ _ _ _ _ _ _ _ _) ?_
  have hu := Heap.put_same F7 u (cmdO k y x f o n p d l a ab ⟨nm.toArray⟩ (.slice A2 ls.length c2))
  have hE8 : Ext F6 (F7.put u (cmdO k y x f o n p d l a ab ⟨nm.toArray⟩ (.slice A2 ls.length c2))) := hE_u.put h0_u _
  generalize F7.put u _ = F8 at hu hE8 ⊢
  replace hC := hE8 _ _ hC
  replace hr2 := hr2.mono hE8
  have hE9 := hE7.trans hE8
  refine short [1, 2, 7, 34] [.string ⟨sl.toArray⟩, .pointer (some ⟨bb, 0, none⟩), .pointer (some ⟨u, 0, none⟩), .int .i64 0] rfl fun ρ => ?_
  ((conv => whnf); repeat (first | (apply load_at; (conv => lhs; whnf); (with_reducible assumption); rfl; (conv => whnf)) | (apply load_at; (conv => lhs; rw [add_plain, add_plain]); (with_reducible assumption); rfl; (conv => whnf)) | (apply loads_at; (conv => lhs; whnf); (with_reducible assumption); rfl; (conv => whnf)) | (refine ⟨⟨by omega, by omega⟩, ?_⟩; (conv => whnf))))
  refine call_of (hsm hh.2 A2 c2 F8 (hr.mono hE9) hr2) ?_
  rintro v FX ⟨⟨z, rfl, hz⟩, hE10⟩
  obtain rfl : z = true := hz.2 rfl
  have hEX := hE9.trans hE10
  refine short [1, 37, 40] [.string ⟨sl.toArray⟩, .bool false, .bool true] rfl fun ρ => ?_
  clear hz hE10 hE9 hE8 hu hr2 hC h4 hp hE5 hE6 hE_u hB_u h0_u
  rotate_left
  subst he
  refine short [1, 25] [.string ⟨sl.toArray⟩, .tuple #[.string ⟨t.toArray⟩, .int .i64 1]] rfl fun ρ => ?_
  have hEX := hE5
  generalize F5 = FX at hEX ⊢
  rotate_left
  all_goals
    ((conv => whnf); repeat (first | (apply load_at; (conv => lhs; whnf); (with_reducible assumption); rfl; (conv => whnf)) | (apply load_at; (conv => lhs; rw [add_plain, add_plain]); (with_reducible assumption); rfl; (conv => whnf)) | (apply loads_at; (conv => lhs; whnf); (with_reducible assumption); rfl; (conv => whnf)) | (refine ⟨⟨by omega, by omega⟩, ?_⟩; (conv => whnf))))
    refine call_of (pS FX) ?_
    rintro v F11 ⟨⟨A3, c3, rfl, hr3⟩, hE11⟩
    have hE12 := hEX.trans hE11
    ((conv => whnf); repeat (first | (apply load_at; (conv => lhs; whnf); (with_reducible assumption); rfl; (conv => whnf)) | (apply load_at; (conv => lhs; rw [add_plain, add_plain]); (with_reducible assumption); rfl; (conv => whnf)) | (apply loads_at; (conv => lhs; whnf); (with_reducible assumption); rfl; (conv => whnf)) | (refine ⟨⟨by omega, by omega⟩, ?_⟩; (conv => whnf))))
    refine new_step (cmdO 0 0 0 0 0 0 0 0 0 0 false ⟨#[]⟩ (.slice none 0 0)) rfl fun w h0_w => ?_
    have hE_w := Ext.new h0_w (cmdO 0 0 0 0 0 0 0 0 0 0 false ⟨#[]⟩ (.slice none 0 0))
    have hB_w := Heap.put_same F11 w (cmdO 0 0 0 0 0 0 0 0 0 0 false ⟨#[]⟩ (.slice none 0 0))
    generalize F11.put w _ = F12 at hE_w hB_w ⊢
    ((conv => whnf); repeat (first | (apply load_at; (conv => lhs; whnf); (with_reducible assumption); rfl; (conv => whnf)) | (apply load_at; (conv => lhs; rw [add_plain, add_plain]); (with_reducible assumption); rfl; (conv => whnf)) | (apply loads_at; (conv => lhs; whnf); (with_reducible assumption); rfl; (conv => whnf)) | (refine ⟨⟨by omega, by omega⟩, ?_⟩; (conv => whnf))))
    refine store_step w 0 _ (cmdC k' y' x' f' o' n' p' d' l' a' ab' ⟨nm'.toArray⟩ (.slice A3 ls'.length c3)) rfl hB_w rfl rfl (.inl (Nat.le_refl 0)) (cmd_ones _ _ _ _ _ _ _ _ _ _ _ _ _ _ _) ?_
    have hw := Heap.put_same F12 w (cmdO k' y' x' f' o' n' p' d' l' a' ab' ⟨nm'.toArray⟩ (.slice A3 ls'.length c3))
    have hE13 : Ext F11 (F12.put w (cmdO k' y' x' f' o' n' p' d' l' a' ab' ⟨nm'.toArray⟩ (.slice A3 ls'.length c3))) := hE_w.put h0_w _
    generalize F12.put w _ = F13 at hw hE13 ⊢
    have hr13 := hr3.mono hE13
    have hE14 := hE12.trans hE13
    refine short [1, 9, 47] [.string ⟨sl.toArray⟩, .pointer (some ⟨w, 0, none⟩), .int .i64 e'] rfl fun ρ => ?_
    ((conv => whnf); repeat (first | (apply load_at; (conv => lhs; whnf); (with_reducible assumption); rfl; (conv => whnf)) | (apply load_at; (conv => lhs; rw [add_plain, add_plain]); (with_reducible assumption); rfl; (conv => whnf)) | (apply loads_at; (conv => lhs; whnf); (with_reducible assumption); rfl; (conv => whnf)) | (refine ⟨⟨by omega, by omega⟩, ?_⟩; (conv => whnf))))
    refine cond_split (fun h => ?_) (fun h => ?_)
    · have he : e' ≠ 0 := by
        have h : (!decide (e' = 0)) = true := h
        simpa using h
      ((conv => whnf); repeat (first | (apply load_at; (conv => lhs; whnf); (with_reducible assumption); rfl; (conv => whnf)) | (apply load_at; (conv => lhs; rw [add_plain, add_plain]); (with_reducible assumption); rfl; (conv => whnf)) | (apply loads_at; (conv => lhs; whnf); (with_reducible assumption); rfl; (conv => whnf)) | (refine ⟨⟨by omega, by omega⟩, ?_⟩; (conv => whnf))))
      refine call_of (h6 he A3 c3 F13) ?_
      rintro v F14 ⟨rfl, hE15⟩
      ((conv => whnf); repeat (first | (apply load_at; (conv => lhs; whnf); (with_reducible assumption); rfl; (conv => whnf)) | (apply load_at; (conv => lhs; rw [add_plain, add_plain]); (with_reducible assumption); rfl; (conv => whnf)) | (apply loads_at; (conv => lhs; whnf); (with_reducible assumption); rfl; (conv => whnf)) | (refine ⟨⟨by omega, by omega⟩, ?_⟩; (conv => whnf))))
      refine call_of (out F14 (hE14.trans hE15)) ?_
      rintro v F9 ⟨rfl, hF9⟩
      (conv => whnf)
      exact ⟨rfl, hF9⟩
    · have he : e' = 0 := by
        have h : (!decide (e' = 0)) = false := h
        simpa using h
      subst he
      ((conv => whnf); repeat (first | (apply load_at; (conv => lhs; whnf); (with_reducible assumption); rfl; (conv => whnf)) | (apply load_at; (conv => lhs; rw [add_plain, add_plain]); (with_reducible assumption); rfl; (conv => whnf)) | (apply loads_at; (conv => lhs; whnf); (with_reducible assumption); rfl; (conv => whnf)) | (refine ⟨⟨by omega, by omega⟩, ?_⟩; (conv => whnf))))
      refine call_of (h5 rfl A3 c3 F13 hr13) ?_
      rintro v F14 ⟨rfl, hE15⟩
      ((conv => whnf); repeat (first | (apply load_at; (conv => lhs; whnf); (with_reducible assumption); rfl; (conv => whnf)) | (apply load_at; (conv => lhs; rw [add_plain, add_plain]); (with_reducible assumption); rfl; (conv => whnf)) | (apply loads_at; (conv => lhs; whnf); (with_reducible assumption); rfl; (conv => whnf)) | (refine ⟨⟨by omega, by omega⟩, ?_⟩; (conv => whnf))))
      (refine cond_split (fun _ => ?_) (fun h_ => absurd h_ (by simp)); (conv => whnf))
      refine call_of (out F14 (hE14.trans hE15)) ?_
      rintro v F9 ⟨rfl, hF9⟩
      (conv => whnf)
      exact ⟨rfl, hF9⟩
end Go.Proofs.Ytbgijjoemnfnmaa.AlTextBack
