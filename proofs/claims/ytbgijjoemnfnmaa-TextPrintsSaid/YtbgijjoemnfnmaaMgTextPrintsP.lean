/- The law TextPrints holds of the program: proved over what is known of memory, each function by its contract. -/
import Derived.Test.YtbgijjoemnfnmaaMgTextPrintsLaw
import Derived.Test.YtbgijjoemnfnmaaMgText1
import Derived.Test.YtbgijjoemnfnmaaMgText2
import Derived.Test.YtbgijjoemnfnmaaMgText3
import Derived.Test.YtbgijjoemnfnmaaMgText4
import Derived.Test.YtbgijjoemnfnmaaMgText5
import Derived.Test.YtbgijjoemnfnmaaMgText6
namespace Go.Proofs.Ytbgijjoemnfnmaa.AlTextPrints
open Go Go.Al Go.Proofs Go.RowKit Go.Proofs.Ytbgijjoemnfnmaa.Al
set_option maxHeartbeats 8000000
set_option maxRecDepth 100000
set_option linter.unusedVariables false
set_option linter.unusedSimpArgs false
theorem law : LawK := by
  intro F xx w cs hK
  obtain ⟨r, rfl, hr, hrc⟩ := cmd_open hK
  have hR : CdR r.c := by rw [hrc]; exact cmd_R w
  clear hK w hrc
  obtain ⟨⟨k, y, x, f, o, n, p, d, l, a, ab, nm, ls⟩, B, cc⟩ := r
  dsimp only at hr hR
  have hf1 := fun h => few_le (r := ⟨⟨k, y, x, f, o, n, p, d, l, a, ab, nm, ls⟩, B, cc⟩) h
  dsimp only at hf1
  have h1 := fun F h (hh : nm.length ≤ 100 ∧ ls.length ≤ 20) => printT ⟨k, y, x, f, o, n, p, d, l, a, ab, nm, ls⟩ hR B cc F h (Nat.le_trans hh.1 (by decide)) (Nat.le_trans hh.2 (by decide))
  have h2 := fun F h (hh : nm.length ≤ 100 ∧ ls.length ≤ 20) => rprintT ⟨k, y, x, f, o, n, p, d, l, a, ab, nm, ls⟩ hR B cc F h (Nat.le_trans hh.1 (by decide)) (Nat.le_trans hh.2 (by decide))
  have hcm := fun A c G hg => cmds [(⟨⟨k, y, x, f, o, n, p, d, l, a, ab, nm, ls⟩, B, cc⟩ : CR)] A c 1 G hg (by simp) (by decide)
  rw [show List.all [(⟨⟨k, y, x, f, o, n, p, d, l, a, ab, nm, ls⟩, B, cc⟩ : CR)] few = few ⟨⟨k, y, x, f, o, n, p, d, l, a, ab, nm, ls⟩, B, cc⟩ by simp] at hcm
  generalize few ⟨⟨k, y, x, f, o, n, p, d, l, a, ab, nm, ls⟩, B, cc⟩ = z1 at hcm hf1
  replace h1 : ∀ F, RowAt F B (linesV ls) → (nm.length ≤ 100 ∧ ls.length ≤ 20) → FnK Try.prog 14 #[.agg (cmdC k y x f o n p d l a ab ⟨nm.toArray⟩ (.slice B ls.length cc))] F (fun v F' => (∃ out : List UInt8 × Int, v = .tuple #[.string ⟨out.1.toArray⟩, .int .i64 out.2] ∧ PrintRel parseS ⟨k, y, x, f, o, n, p, d, l, a, ab, nm, ls⟩ out) ∧ Ext F F') := h1
  replace h2 : ∀ F, RowAt F B (linesV ls) → (nm.length ≤ 100 ∧ ls.length ≤ 20) → FnK Try.prog 15 #[.agg (cmdC k y x f o n p d l a ab ⟨nm.toArray⟩ (.slice B ls.length cc))] F (fun v F' => (∃ out : List UInt8 × Int, v = .tuple #[.string ⟨out.1.toArray⟩, .int .i64 out.2] ∧ PrintRel rparseS ⟨k, y, x, f, o, n, p, d, l, a, ab, nm, ls⟩ out) ∧ Ext F F') := h2
  have out : ∀ F', Ext F F' → FnK Try.prog 6 #[] F' (fun v F' => v = .bool true ∧ Ext F F') := fun F' hF' => (awake F').mono fun v G h => ⟨h.1, hF'.trans h.2⟩
  change FnK _ _ #[.agg (cmdC k y x f o n p d l a ab ⟨nm.toArray⟩ (.slice B ls.length cc))] _ _
  (refine fn_walk tab_ok Try.func4 rfl rfl rfl rfl ?_; (conv => whnf))
  refine new_step (cmdO k y x f o n p d l a ab ⟨nm.toArray⟩ (.slice B ls.length cc)) rfl fun bb hbb => ?_
  have hE := Ext.new hbb (cmdO k y x f o n p d l a ab ⟨nm.toArray⟩ (.slice B ls.length cc))
  have hC := Heap.put_same F bb (cmdO k y x f o n p d l a ab ⟨nm.toArray⟩ (.slice B ls.length cc))
  generalize F.put bb _ = F2 at hE hC ⊢
  ((conv => whnf); repeat (first | (apply load_at; (conv => lhs; whnf); (with_reducible assumption); rfl; (conv => whnf)) | (apply load_at; (conv => lhs; rw [add_plain, add_plain]); (with_reducible assumption); rfl; (conv => whnf)) | (apply loads_at; (conv => lhs; whnf); (with_reducible assumption); rfl; (conv => whnf)) | (refine ⟨⟨by omega, by omega⟩, ?_⟩; (conv => whnf))))
  refine new_step (.cells (rowsV [(⟨⟨k, y, x, f, o, n, p, d, l, a, ab, nm, ls⟩, B, cc⟩ : CR)]).toArray 25) ?_ fun g hg => ?_
  · refine congrArg (fun l => Obj.cells (List.toArray l) 25) ?_
    exact fill1t _ (cmdC k y x f o n p d l a ab ⟨nm.toArray⟩ (.slice B ls.length cc)).toList rfl rfl
  have hXg := Ext.new hg (.cells (rowsV [(⟨⟨k, y, x, f, o, n, p, d, l, a, ab, nm, ls⟩, B, cc⟩ : CR)]).toArray 25)
  have hG := Heap.put_same F2 g (.cells (rowsV [(⟨⟨k, y, x, f, o, n, p, d, l, a, ab, nm, ls⟩, B, cc⟩ : CR)]).toArray 25)
  generalize F2.put g _ = F3 at hXg hG ⊢
  have hrow : RowAt F3 (some ⟨g, 0, none⟩) (rowsV [(⟨⟨k, y, x, f, o, n, p, d, l, a, ab, nm, ls⟩, B, cc⟩ : CR)]) := fun j v hj => ⟨_, rfl, by
    rw [add_plain, Heap.cell_at hG, Nat.zero_add, ← Array.getElem?_toList]
    exact hj⟩
  replace hC := hXg _ _ hC
  replace hE := hE.trans hXg
  (conv => whnf)
  refine call_of (hcm (some ⟨g, 0, none⟩) 1 F3 hrow) ?_
  rintro v F4 ⟨rfl, hE4⟩
  replace hC := hE4 _ _ hC
  replace hE := hE.trans hE4
  clear hG hrow hXg hE4
  cases z1 with
  | false =>
    (conv => whnf)
    refine call_of (out _ hE) ?_
    rintro v F9 ⟨rfl, hF9⟩
    (conv => whnf)
    exact ⟨rfl, hF9⟩
  | true =>
  have hh := hf1 rfl
  ((conv => whnf); repeat (first | (apply load_at; (conv => lhs; whnf); (with_reducible assumption); rfl; (conv => whnf)) | (apply load_at; (conv => lhs; rw [add_plain, add_plain]); (with_reducible assumption); rfl; (conv => whnf)) | (apply loads_at; (conv => lhs; whnf); (with_reducible assumption); rfl; (conv => whnf)) | (refine ⟨⟨by omega, by omega⟩, ?_⟩; (conv => whnf))))
  refine call_of (h1 F4 (hr.mono hE) hh) ?_
  rintro v F5 ⟨⟨⟨s, e⟩, rfl, hp⟩, hE5⟩
  replace hC := hE5 _ _ hC
  replace hE5 := hE.trans hE5
  ((conv => whnf); repeat (first | (apply load_at; (conv => lhs; whnf); (with_reducible assumption); rfl; (conv => whnf)) | (apply load_at; (conv => lhs; rw [add_plain, add_plain]); (with_reducible assumption); rfl; (conv => whnf)) | (apply loads_at; (conv => lhs; whnf); (with_reducible assumption); rfl; (conv => whnf)) | (refine ⟨⟨by omega, by omega⟩, ?_⟩; (conv => whnf))))
  refine call_of (h2 F5 (hr.mono hE5) hh) ?_
  rintro v F6 ⟨⟨o2, rfl, hp2⟩, hE6⟩
  have ho := rel_same hp hp2
  subst ho
  replace hE6 := hE5.trans hE6
  clear hp hp2
  ((conv => whnf); repeat (first | (apply load_at; (conv => lhs; whnf); (with_reducible assumption); rfl; (conv => whnf)) | (apply load_at; (conv => lhs; rw [add_plain, add_plain]); (with_reducible assumption); rfl; (conv => whnf)) | (apply loads_at; (conv => lhs; whnf); (with_reducible assumption); rfl; (conv => whnf)) | (refine ⟨⟨by omega, by omega⟩, ?_⟩; (conv => whnf))))
  (refine cond_split (fun _ => ?_) (fun h_ => absurd h_ (by simp)); (conv => whnf))
  (refine cond_split (fun _ => ?_) (fun h_ => absurd h_ (by simp)); (conv => whnf))
  refine call_of (out F6 hE6) ?_
  rintro v F9 ⟨rfl, hF9⟩
  (conv => whnf)
  exact ⟨rfl, hF9⟩
end Go.Proofs.Ytbgijjoemnfnmaa.AlTextPrints
