/- The law TextParses holds of the program: proved over what is known of memory, each function by its contract. -/
import Derived.Test.YtbgijjoemnfnmaaMgTextParsesLaw
import Derived.Test.YtbgijjoemnfnmaaMgText1
import Derived.Test.YtbgijjoemnfnmaaMgText2
import Derived.Test.YtbgijjoemnfnmaaMgText3
import Derived.Test.YtbgijjoemnfnmaaMgText4
import Derived.Test.YtbgijjoemnfnmaaMgText5
import Derived.Test.YtbgijjoemnfnmaaMgText6
namespace Go.Proofs.Ytbgijjoemnfnmaa.AlTextParses
open Go Go.Al Go.Proofs Go.RowKit Go.Proofs.Ytbgijjoemnfnmaa.Al
set_option maxHeartbeats 8000000
set_option maxRecDepth 100000
set_option linter.unusedVariables false
set_option linter.unusedSimpArgs false
theorem law : LawK := by
  intro F s ws
  obtain ⟨l, rfl⟩ : ∃ l : List UInt8, s = ⟨l.toArray⟩ := ⟨s.data.toList, by simp⟩
  have h1 := fun F => parse l F
  have h2 := fun F => rparse l F
  rw [← parse_eq] at h2
  have hlen := parseS_len l
  generalize parseS l = q at h1 h2 hlen
  obtain ⟨⟨k, y, x, f, o, n, p, d, ll, a, ab, nm, ls⟩, e⟩ := q
  replace hlen : ls.length ≤ 10000 := hlen
  have h3 := fun A c A' c' F h h' => rsame k y x f o n p d ll a ab nm ls k y x f o n p d ll a ab nm ls A A' c c' F h h' hlen hlen
  replace h1 : ∀ F, FnK Try.prog 7 #[.string ⟨l.toArray⟩] F (fun v F' => (∃ A cc, v = .tuple #[.agg (cmdC k y x f o n p d ll a ab ⟨nm.toArray⟩ (.slice A ls.length cc)), .int .i64 e] ∧ RowAt F' A (linesV ls)) ∧ Ext F F') := h1
  replace h2 : ∀ F, FnK Try.prog 8 #[.string ⟨l.toArray⟩] F (fun v F' => (∃ A cc, v = .tuple #[.agg (cmdC k y x f o n p d ll a ab ⟨nm.toArray⟩ (.slice A ls.length cc)), .int .i64 e] ∧ RowAt F' A (linesV ls)) ∧ Ext F F') := h2
  generalize (⟨l.toArray⟩ : ByteArray) = s at h1 h2
  have out : ∀ F', Ext F F' → FnK Try.prog 6 #[] F' (fun v F' => v = .bool true ∧ Ext F F') := fun F' hF' => (awake F').mono fun v G h => ⟨h.1, hF'.trans h.2⟩
  have hee : (e == e) = true := by simp
  (refine fn_walk tab_ok Try.func3 rfl rfl rfl rfl ?_; (conv => whnf))
  refine cond_split (fun h => ?_) (fun h => ?_)
  · ((conv => whnf); repeat (first | (apply load_at; (conv => lhs; whnf); (with_reducible assumption); rfl; (conv => whnf)) | (apply load_at; (conv => lhs; rw [add_plain, add_plain]); (with_reducible assumption); rfl; (conv => whnf)) | (apply loads_at; (conv => lhs; whnf); (with_reducible assumption); rfl; (conv => whnf)) | (refine ⟨⟨by omega, by omega⟩, ?_⟩; (conv => whnf))))
    refine call_of (out F (Ext.refl F)) ?_
    rintro v F1 ⟨rfl, hE⟩
    ((conv => whnf); repeat (first | (apply load_at; (conv => lhs; whnf); (with_reducible assumption); rfl; (conv => whnf)) | (apply load_at; (conv => lhs; rw [add_plain, add_plain]); (with_reducible assumption); rfl; (conv => whnf)) | (apply loads_at; (conv => lhs; whnf); (with_reducible assumption); rfl; (conv => whnf)) | (refine ⟨⟨by omega, by omega⟩, ?_⟩; (conv => whnf))))
    exact ⟨rfl, hE⟩
  ((conv => whnf); repeat (first | (apply load_at; (conv => lhs; whnf); (with_reducible assumption); rfl; (conv => whnf)) | (apply load_at; (conv => lhs; rw [add_plain, add_plain]); (with_reducible assumption); rfl; (conv => whnf)) | (apply loads_at; (conv => lhs; whnf); (with_reducible assumption); rfl; (conv => whnf)) | (refine ⟨⟨by omega, by omega⟩, ?_⟩; (conv => whnf))))
  refine call_of (h1 F) ?_
  rintro v F1 ⟨⟨A, c, rfl, hr⟩, hE1⟩
  ((conv => whnf); repeat (first | (apply load_at; (conv => lhs; whnf); (with_reducible assumption); rfl; (conv => whnf)) | (apply load_at; (conv => lhs; rw [add_plain, add_plain]); (with_reducible assumption); rfl; (conv => whnf)) | (apply loads_at; (conv => lhs; whnf); (with_reducible assumption); rfl; (conv => whnf)) | (refine ⟨⟨by omega, by omega⟩, ?_⟩; (conv => whnf))))
  refine new_step (cmdO 0 0 0 0 0 0 0 0 0 0 false ⟨#[]⟩ (.slice none 0 0)) rfl fun b h0_b => ?_
  have hE_b := Ext.new h0_b (cmdO 0 0 0 0 0 0 0 0 0 0 false ⟨#[]⟩ (.slice none 0 0))
  have hB_b := Heap.put_same F1 b (cmdO 0 0 0 0 0 0 0 0 0 0 false ⟨#[]⟩ (.slice none 0 0))
  generalize F1.put b _ = F2 at hE_b hB_b ⊢
  ((conv => whnf); repeat (first | (apply load_at; (conv => lhs; whnf); (with_reducible assumption); rfl; (conv => whnf)) | (apply load_at; (conv => lhs; rw [add_plain, add_plain]); (with_reducible assumption); rfl; (conv => whnf)) | (apply loads_at; (conv => lhs; whnf); (with_reducible assumption); rfl; (conv => whnf)) | (refine ⟨⟨by omega, by omega⟩, ?_⟩; (conv => whnf))))
  refine store_step b 0 _ (cmdC k y x f o n p d ll a ab ⟨nm.toArray⟩ (.slice A ls.length c)) rfl hB_b rfl rfl (.inl (Nat.le_refl 0)) (cmd_ones _ _ _ _ _ _ _ _ _ _ _ _ _ _ _) ?_
  have hb3 := Heap.put_same F2 b (cmdO k y x f o n p d ll a ab ⟨nm.toArray⟩ (.slice A ls.length c))
  have hE3 : Ext F1 (F2.put b (cmdO k y x f o n p d ll a ab ⟨nm.toArray⟩ (.slice A ls.length c))) := hE_b.put h0_b _
  generalize F2.put b _ = F3 at hb3 hE3 ⊢
  have hr3 := hr.mono hE3
  have hE13 := hE1.trans hE3
  ((conv => whnf); repeat (first | (apply load_at; (conv => lhs; whnf); (with_reducible assumption); rfl; (conv => whnf)) | (apply load_at; (conv => lhs; rw [add_plain, add_plain]); (with_reducible assumption); rfl; (conv => whnf)) | (apply loads_at; (conv => lhs; whnf); (with_reducible assumption); rfl; (conv => whnf)) | (refine ⟨⟨by omega, by omega⟩, ?_⟩; (conv => whnf))))
  refine call_of (h2 F3) ?_
  rintro v F4 ⟨⟨A', c', rfl, hr'⟩, hE4⟩
  ((conv => whnf); repeat (first | (apply load_at; (conv => lhs; whnf); (with_reducible assumption); rfl; (conv => whnf)) | (apply load_at; (conv => lhs; rw [add_plain, add_plain]); (with_reducible assumption); rfl; (conv => whnf)) | (apply loads_at; (conv => lhs; whnf); (with_reducible assumption); rfl; (conv => whnf)) | (refine ⟨⟨by omega, by omega⟩, ?_⟩; (conv => whnf))))
  refine new_step (cmdO 0 0 0 0 0 0 0 0 0 0 false ⟨#[]⟩ (.slice none 0 0)) rfl fun t h0_t => ?_
  have hE_t := Ext.new h0_t (cmdO 0 0 0 0 0 0 0 0 0 0 false ⟨#[]⟩ (.slice none 0 0))
  have hB_t := Heap.put_same F4 t (cmdO 0 0 0 0 0 0 0 0 0 0 false ⟨#[]⟩ (.slice none 0 0))
  generalize F4.put t _ = F5 at hE_t hB_t ⊢
  ((conv => whnf); repeat (first | (apply load_at; (conv => lhs; whnf); (with_reducible assumption); rfl; (conv => whnf)) | (apply load_at; (conv => lhs; rw [add_plain, add_plain]); (with_reducible assumption); rfl; (conv => whnf)) | (apply loads_at; (conv => lhs; whnf); (with_reducible assumption); rfl; (conv => whnf)) | (refine ⟨⟨by omega, by omega⟩, ?_⟩; (conv => whnf))))
  refine store_step t 0 _ (cmdC k y x f o n p d ll a ab ⟨nm.toArray⟩ (.slice A' ls.length c')) rfl hB_t rfl rfl (.inl (Nat.le_refl 0)) (cmd_ones _ _ _ _ _ _ _ _ _ _ _ _ _ _ _) ?_
  have ht6 := Heap.put_same F5 t (cmdO k y x f o n p d ll a ab ⟨nm.toArray⟩ (.slice A' ls.length c'))
  have hE6 : Ext F4 (F5.put t (cmdO k y x f o n p d ll a ab ⟨nm.toArray⟩ (.slice A' ls.length c'))) := hE_t.put h0_t _
  generalize F5.put t _ = F6 at ht6 hE6 ⊢
  have hr6' := hr'.mono hE6
  have hX := hE4.trans hE6
  have hr6 := hr3.mono hX
  have hb6 := hX _ _ hb3
  have hE06 := hE13.trans hX
  refine short [3, 4, 5, 20] [.pointer (some ⟨b, 0, none⟩), .int .i64 e, .pointer (some ⟨t, 0, none⟩), .int .i64 e] rfl fun ρ => ?_
  ((conv => whnf); repeat (first | (apply load_at; (conv => lhs; whnf); (with_reducible assumption); rfl; (conv => whnf)) | (apply load_at; (conv => lhs; rw [add_plain, add_plain]); (with_reducible assumption); rfl; (conv => whnf)) | (apply loads_at; (conv => lhs; whnf); (with_reducible assumption); rfl; (conv => whnf)) | (refine ⟨⟨by omega, by omega⟩, ?_⟩; (conv => whnf))))
  (refine cond_split (fun _ => ?_) (fun h_ => absurd h_ (by simp)); (conv => whnf))
  ((conv => whnf); repeat (first | (apply load_at; (conv => lhs; whnf); (with_reducible assumption); rfl; (conv => whnf)) | (apply load_at; (conv => lhs; rw [add_plain, add_plain]); (with_reducible assumption); rfl; (conv => whnf)) | (apply loads_at; (conv => lhs; whnf); (with_reducible assumption); rfl; (conv => whnf)) | (refine ⟨⟨by omega, by omega⟩, ?_⟩; (conv => whnf))))
  refine call_of (h3 A c A' c' F6 hr6 hr6') ?_
  rintro v F7 ⟨⟨z, rfl, hz⟩, hE7⟩
  obtain rfl : z = true := hz.2 rfl
  have hE07 := hE06.trans hE7
  ((conv => whnf); repeat (first | (apply load_at; (conv => lhs; whnf); (with_reducible assumption); rfl; (conv => whnf)) | (apply load_at; (conv => lhs; rw [add_plain, add_plain]); (with_reducible assumption); rfl; (conv => whnf)) | (apply loads_at; (conv => lhs; whnf); (with_reducible assumption); rfl; (conv => whnf)) | (refine ⟨⟨by omega, by omega⟩, ?_⟩; (conv => whnf))))
  refine call_of (words F7) ?_
  rintro v F8 ⟨g, rfl, hg, _, hE8⟩
  ((conv => whnf); repeat (first | (apply load_at; (conv => lhs; whnf); (with_reducible assumption); rfl; (conv => whnf)) | (apply load_at; (conv => lhs; rw [add_plain, add_plain]); (with_reducible assumption); rfl; (conv => whnf)) | (apply loads_at; (conv => lhs; whnf); (with_reducible assumption); rfl; (conv => whnf)) | (refine ⟨⟨by omega, by omega⟩, ?_⟩; (conv => whnf))))
  refine call_of (rwords F8) ?_
  rintro v F9 ⟨g', rfl, hg', _, hE9⟩
  ((conv => whnf); repeat (first | (apply load_at; (conv => lhs; whnf); (with_reducible assumption); rfl; (conv => whnf)) | (apply load_at; (conv => lhs; rw [add_plain, add_plain]); (with_reducible assumption); rfl; (conv => whnf)) | (apply loads_at; (conv => lhs; whnf); (with_reducible assumption); rfl; (conv => whnf)) | (refine ⟨⟨by omega, by omega⟩, ?_⟩; (conv => whnf))))
  refine call_of (eqStr wordsL _ _ 20 20 F9 (hg.mono hE9) hg' (by decide)) ?_
  rintro v F10 ⟨rfl, rfl⟩
  ((conv => whnf); repeat (first | (apply load_at; (conv => lhs; whnf); (with_reducible assumption); rfl; (conv => whnf)) | (apply load_at; (conv => lhs; rw [add_plain, add_plain]); (with_reducible assumption); rfl; (conv => whnf)) | (apply loads_at; (conv => lhs; whnf); (with_reducible assumption); rfl; (conv => whnf)) | (refine ⟨⟨by omega, by omega⟩, ?_⟩; (conv => whnf))))
  refine call_of (out F10 ((hE07.trans hE8).trans hE9)) ?_
  rintro v F11 ⟨rfl, hE⟩
  ((conv => whnf); repeat (first | (apply load_at; (conv => lhs; whnf); (with_reducible assumption); rfl; (conv => whnf)) | (apply load_at; (conv => lhs; rw [add_plain, add_plain]); (with_reducible assumption); rfl; (conv => whnf)) | (apply loads_at; (conv => lhs; whnf); (with_reducible assumption); rfl; (conv => whnf)) | (refine ⟨⟨by omega, by omega⟩, ?_⟩; (conv => whnf))))
  exact ⟨rfl, hE⟩
end Go.Proofs.Ytbgijjoemnfnmaa.AlTextParses
