/- The law DirKeeps holds of the program: proved over what is known of memory, each function by its contract. -/
import Derived.Test.YtmpiggcooboenaaDoorMgDirKeepsLaw
import Derived.Test.YtmpiggcooboenaaDoorMgDir1
import Derived.Test.YtmpiggcooboenaaDoorMgDir2
import Derived.Test.YtmpiggcooboenaaDoorMgDir3
import Derived.Test.YtmpiggcooboenaaDoorMgDir4
import Derived.Test.YtmpiggcooboenaaDoorMgDir5
namespace Go.Proofs.YtmpiggcooboenaaDoor.AlDirKeeps
open Go Go.Al Go.Proofs Go.RowKit Go.Proofs.YtmpiggcooboenaaDoor.Al
set_option maxHeartbeats 8000000
set_option maxRecDepth 100000
set_option linter.unusedVariables false
set_option linter.unusedSimpArgs false
theorem wf_u16 {a : Int} (w : (Lit.int .u16 a).wf = true) : 0 ≤ a ∧ a < 65536 := by
  simp [Lit.wf, IntKind.min, IntKind.max, IntKind.signed, IntKind.bits] at w
  omega
theorem wf_u32 {a : Int} (w : (Lit.int .u32 a).wf = true) : 0 ≤ a ∧ a < 4294967296 := by
  simp [Lit.wf, IntKind.min, IntKind.max, IntKind.signed, IntKind.bits] at w
  omega
def ms18 : List Int := [1, 2, 3, 4, 5, 6, 7, 8, 9, 10, 11, 12, 13, 14, 15, 16, 17, 18]
theorem slot_eq {a : Int} (h : 0 ≤ a ∧ a < 65536) : IntKind.i64.wrap (a.tmod 1024) = a % 1024 := by
  rw [Int.tmod_eq_emod_of_nonneg (by omega), wrap_eq (by omega) (by omega)]
theorem ms_at : ∀ j : Nat, j < 18 → (ms18[j]?).getD 0 = (j : Int) + 1 := by decide
theorem ok18 {slot : Int} (h : 0 ≤ slot ∧ slot < 1024) : okF 10 ms18.length slot = true ∧ fdP 10 ms18 slot = slot / 60 + 1 ∧ fdA 10 ms18 slot = slot % 60 * 4 := by
  have hk : okF 10 ms18.length slot = true := decide_eq_true ⟨by decide, by decide, by decide, h.1, by rw [show ((2 ^ dpN 10 : Nat) : Int) = 1024 by decide]; exact h.2⟩
  refine ⟨hk, ?_, ?_⟩
  · unfold fdP
    rw [if_pos hk, ms_at _ (by omega)]
    omega
  · unfold fdA
    rw [if_pos hk]
theorem pg18 {n : Int} (hn : n = 61) {slot : Int} (h : 0 ≤ slot ∧ slot < 1024) : isPg n (fdP 10 ms18 slot) = true := by
  subst hn
  rw [(ok18 h).2.1]
  refine isPg_iff.2 ?_
  rw [show pagesN 61 = 30 by decide]
  omega
theorem in4 {p : Int} (h : 0 ≤ p ∧ p < 4294967296) : inM 4 p = true := by
  show (decide (0 ≤ p) && decide (p < 4294967296)) = true
  rw [Bool.and_eq_true]
  exact ⟨decide_eq_true h.1, decide_eq_true h.2⟩
theorem fill18 (ev : Operand → Value) (e : ∀ v, ev (.const v) = v) : fillL (fun i => some (i * 1, 1)) (zerosL [Value.int .i64 0] 18) ((#[(0, Operand.const (Value.int IntKind.i64 1)), (1, Operand.const (Value.int IntKind.i64 2)), (2, Operand.const (Value.int IntKind.i64 3)), (3, Operand.const (Value.int IntKind.i64 4)), (4, Operand.const (Value.int IntKind.i64 5)), (5, Operand.const (Value.int IntKind.i64 6)), (6, Operand.const (Value.int IntKind.i64 7)), (7, Operand.const (Value.int IntKind.i64 8)), (8, Operand.const (Value.int IntKind.i64 9)), (9, Operand.const (Value.int IntKind.i64 10)), (10, Operand.const (Value.int IntKind.i64 11)), (11, Operand.const (Value.int IntKind.i64 12)), (12, Operand.const (Value.int IntKind.i64 13)), (13, Operand.const (Value.int IntKind.i64 14)), (14, Operand.const (Value.int IntKind.i64 15)), (15, Operand.const (Value.int IntKind.i64 16)), (16, Operand.const (Value.int IntKind.i64 17)), (17, Operand.const (Value.int IntKind.i64 18))] : Array (Nat × Operand)).toList.map fun p => (p.1, ev p.2)) = some [.int .i64 1, .int .i64 2, .int .i64 3, .int .i64 4, .int .i64 5, .int .i64 6, .int .i64 7, .int .i64 8, .int .i64 9, .int .i64 10, .int .i64 11, .int .i64 12, .int .i64 13, .int .i64 14, .int .i64 15, .int .i64 16, .int .i64 17, .int .i64 18] := by
  simp only [List.map_cons, List.map_nil]
  simp only [e]
  rfl
theorem law : LawK := by
  intro F hN x0 w0 A0 c0 hc0 hK0 a w1 b w2 pg w3
  have ha := wf_u16 w1
  have hb := wf_u16 w2
  have hpg := wf_u32 w3
  have hx : ∀ x ∈ x0, 0 ≤ x ∧ x < 65536 := fun x h => wf_u16 (w0.2 x h)
  have hrow := elems_ints hK0
  clear hK0 w0 w1 w2 w3 hc0
  have out : ∀ F', Ext F F' → FnK Tryd.prog 10 #[] F' (fun v F' => v = .bool true ∧ Ext F F') := fun F' hF' => (awake11 F' (hN.mono hF')).mono fun v G h => ⟨h.1, hF'.trans h.2⟩
  (refine fn_walk tab_ok Tryd.func4 rfl rfl rfl rfl ?_; (conv => whnf))
  refine call_of (fresh11 F hN) ?_
  rintro v F2 ⟨pb, xb, D, X, s, r, rfl, E2, H2, aD, aX, P2, R2, hS, ff⟩
  refine short [0, 1, 2, 3, 21] [.slice A0 x0.length c0, .int .u16 a, .int .u16 b, .int .u32 pg, .tuple #[.pointer (some ⟨pb, 0, none⟩), .pointer (some ⟨xb, 0, none⟩)]] rfl fun ρ => ?_
  ((conv => whnf); repeat (first | (apply load_at; (conv => lhs; whnf); (with_reducible assumption); rfl; (conv => whnf)) | (apply load_at; (conv => lhs; rw [add_plain, add_plain]); (with_reducible assumption); rfl; (conv => whnf)) | (apply loads_at; (conv => lhs; whnf); (with_reducible assumption); rfl; (conv => whnf)) | (refine ⟨⟨by omega, by omega⟩, ?_⟩; (conv => whnf))))
  cases hd : decide ((x0.length : Int) > 40) with
  | true =>
    ((conv => whnf); repeat (first | (apply load_at; (conv => lhs; whnf); (with_reducible assumption); rfl; (conv => whnf)) | (apply load_at; (conv => lhs; rw [add_plain, add_plain]); (with_reducible assumption); rfl; (conv => whnf)) | (apply loads_at; (conv => lhs; whnf); (with_reducible assumption); rfl; (conv => whnf)) | (refine ⟨⟨by omega, by omega⟩, ?_⟩; (conv => whnf))))
    refine call_of (out F2 E2) ?_
    rintro v F9 ⟨rfl, hE⟩
    ((conv => whnf); repeat (first | (apply load_at; (conv => lhs; whnf); (with_reducible assumption); rfl; (conv => whnf)) | (apply load_at; (conv => lhs; rw [add_plain, add_plain]); (with_reducible assumption); rfl; (conv => whnf)) | (apply loads_at; (conv => lhs; whnf); (with_reducible assumption); rfl; (conv => whnf)) | (refine ⟨⟨by omega, by omega⟩, ?_⟩; (conv => whnf))))
    exact ⟨rfl, hE⟩
  | false =>
  have hxl := of_decide_eq_false hd
  clear hd
  ((conv => whnf); repeat (first | (apply load_at; (conv => lhs; whnf); (with_reducible assumption); rfl; (conv => whnf)) | (apply load_at; (conv => lhs; rw [add_plain, add_plain]); (with_reducible assumption); rfl; (conv => whnf)) | (apply loads_at; (conv => lhs; whnf); (with_reducible assumption); rfl; (conv => whnf)) | (refine ⟨⟨by omega, by omega⟩, ?_⟩; (conv => whnf))))
  refine ⟨by decide, ?_⟩
  ((conv => whnf); repeat (first | (apply load_at; (conv => lhs; whnf); (with_reducible assumption); rfl; (conv => whnf)) | (apply load_at; (conv => lhs; rw [add_plain, add_plain]); (with_reducible assumption); rfl; (conv => whnf)) | (apply loads_at; (conv => lhs; whnf); (with_reducible assumption); rfl; (conv => whnf)) | (refine ⟨⟨by omega, by omega⟩, ?_⟩; (conv => whnf))))
  refine ⟨by decide, ?_⟩
  ((conv => whnf); repeat (first | (apply load_at; (conv => lhs; whnf); (with_reducible assumption); rfl; (conv => whnf)) | (apply load_at; (conv => lhs; rw [add_plain, add_plain]); (with_reducible assumption); rfl; (conv => whnf)) | (apply loads_at; (conv => lhs; whnf); (with_reducible assumption); rfl; (conv => whnf)) | (refine ⟨⟨by omega, by omega⟩, ?_⟩; (conv => whnf))))
  cases hd : (a.tmod 1024 == b.tmod 1024) with
  | true =>
    ((conv => whnf); repeat (first | (apply load_at; (conv => lhs; whnf); (with_reducible assumption); rfl; (conv => whnf)) | (apply load_at; (conv => lhs; rw [add_plain, add_plain]); (with_reducible assumption); rfl; (conv => whnf)) | (apply loads_at; (conv => lhs; whnf); (with_reducible assumption); rfl; (conv => whnf)) | (refine ⟨⟨by omega, by omega⟩, ?_⟩; (conv => whnf))))
    refine call_of (out F2 E2) ?_
    rintro v F9 ⟨rfl, hE⟩
    ((conv => whnf); repeat (first | (apply load_at; (conv => lhs; whnf); (with_reducible assumption); rfl; (conv => whnf)) | (apply load_at; (conv => lhs; rw [add_plain, add_plain]); (with_reducible assumption); rfl; (conv => whnf)) | (apply loads_at; (conv => lhs; whnf); (with_reducible assumption); rfl; (conv => whnf)) | (refine ⟨⟨by omega, by omega⟩, ?_⟩; (conv => whnf))))
    exact ⟨rfl, hE⟩
  | false =>
  have hab : a % 1024 ≠ b % 1024 := by
    rw [Int.tmod_eq_emod_of_nonneg (by omega), Int.tmod_eq_emod_of_nonneg (by omega)] at hd
    simpa using hd
  clear hd
  have hs := ff.up.down
  have hz := ff.size
  have E2' := E2
  ((conv => whnf); repeat (first | (apply load_at; (conv => lhs; whnf); (with_reducible assumption); rfl; (conv => whnf)) | (apply load_at; (conv => lhs; rw [add_plain, add_plain]); (with_reducible assumption); rfl; (conv => whnf)) | (apply loads_at; (conv => lhs; whnf); (with_reducible assumption); rfl; (conv => whnf)) | (refine ⟨⟨by omega, by omega⟩, ?_⟩; (conv => whnf))))
  refine op_buildSlice tab_ok rfl rfl rfl rfl rfl (fill18 _ fun _ => rfl) fun g h0_g => ?_
  have hE_g := Ext.new h0_g (.cells #[.int .i64 1, .int .i64 2, .int .i64 3, .int .i64 4, .int .i64 5, .int .i64 6, .int .i64 7, .int .i64 8, .int .i64 9, .int .i64 10, .int .i64 11, .int .i64 12, .int .i64 13, .int .i64 14, .int .i64 15, .int .i64 16, .int .i64 17, .int .i64 18] 3)
  have hB_g := Heap.put_same F2 g (.cells #[.int .i64 1, .int .i64 2, .int .i64 3, .int .i64 4, .int .i64 5, .int .i64 6, .int .i64 7, .int .i64 8, .int .i64 9, .int .i64 10, .int .i64 11, .int .i64 12, .int .i64 13, .int .i64 14, .int .i64 15, .int .i64 16, .int .i64 17, .int .i64 18] 3)
  generalize F2.put g _ = F3 at hE_g hB_g ⊢
  ((conv => whnf); repeat (first | (apply load_at; (conv => lhs; whnf); (with_reducible assumption); rfl; (conv => whnf)) | (apply load_at; (conv => lhs; rw [add_plain, add_plain]); (with_reducible assumption); rfl; (conv => whnf)) | (apply loads_at; (conv => lhs; whnf); (with_reducible assumption); rfl; (conv => whnf)) | (refine ⟨⟨by omega, by omega⟩, ?_⟩; (conv => whnf))))
  refine new_step (.cells (mtC 0 0 0 0 none 0 0) 24) rfl fun u h0_u => ?_
  have hU_u := Heap.put_same F3 u (.cells (mtC 0 0 0 0 none 0 0) 24)
  have hX_u := fun o => (ext_put_put h0_u (o := .cells (mtC 0 0 0 0 none 0 0) 24) (o' := o))
  generalize F3.put u (.cells (mtC 0 0 0 0 none 0 0) 24) = F4 at hU_u hX_u ⊢
  (conv => whnf)
  refine store_step u 0 _ (mtC 10 0 0 0 (some ⟨g, 0, none⟩) 18 18) rfl hU_u rfl rfl (.inl (Nat.le_refl 0)) (mt_one 10 0 0 0 (some ⟨g, 0, none⟩) 18 18) ?_
  have hB_u := Heap.put_same F4 u (.cells (mtC 10 0 0 0 (some ⟨g, 0, none⟩) 18 18) 24)
  have hE_u := hX_u (.cells (mtC 10 0 0 0 (some ⟨g, 0, none⟩) 18 18) 24)
  clear hU_u hX_u
  generalize F4.put u _ = F4 at hB_u hE_u ⊢
  have hE4 := hE_g.trans hE_u
  have E4 := E2.trans hE4
  have hms : RowAt F4 (some ⟨g, 0, none⟩) (ms18.map (.int .i64)) := (row_blk hB_g).mono hE_u
  have eR := side_ext (side_ext E2 hE_g hB_g) hE_u hB_u
  have aR := side_apart (side_apart aD H2.d h0_g (.cells #[.int .i64 1, .int .i64 2, .int .i64 3, .int .i64 4, .int .i64 5, .int .i64 6, .int .i64 7, .int .i64 8, .int .i64 9, .int .i64 10, .int .i64 11, .int .i64 12, .int .i64 13, .int .i64 14, .int .i64 15, .int .i64 16, .int .i64 17, .int .i64 18] 3)) (H2.d.trans hE_g) h0_u (.cells (mtC 10 0 0 0 (some ⟨g, 0, none⟩) 18 18) 24)
  have eFR : Ext F ((F.put g (.cells #[.int .i64 1, .int .i64 2, .int .i64 3, .int .i64 4, .int .i64 5, .int .i64 6, .int .i64 7, .int .i64 8, .int .i64 9, .int .i64 10, .int .i64 11, .int .i64 12, .int .i64 13, .int .i64 14, .int .i64 15, .int .i64 16, .int .i64 17, .int .i64 18] 3)).put u (.cells (mtC 10 0 0 0 (some ⟨g, 0, none⟩) 18 18) 24)) := ((Ext.refl F).put (E2.none h0_g) _).put ((E2.trans hE_g).none h0_u) _
  have hRu := Heap.put_same (F.put g (.cells #[.int .i64 1, .int .i64 2, .int .i64 3, .int .i64 4, .int .i64 5, .int .i64 6, .int .i64 7, .int .i64 8, .int .i64 9, .int .i64 10, .int .i64 11, .int .i64 12, .int .i64 13, .int .i64 14, .int .i64 15, .int .i64 16, .int .i64 17, .int .i64 18] 3)) u (.cells (mtC 10 0 0 0 (some ⟨g, 0, none⟩) 18 18) 24)
  have hgu : g ≠ u := fun e => by rw [← e, hB_g] at h0_u; cases h0_u
  have hRg := (Heap.put_other (F.put g (.cells #[.int .i64 1, .int .i64 2, .int .i64 3, .int .i64 4, .int .i64 5, .int .i64 6, .int .i64 7, .int .i64 8, .int .i64 9, .int .i64 10, .int .i64 11, .int .i64 12, .int .i64 13, .int .i64 14, .int .i64 15, .int .i64 16, .int .i64 17, .int .i64 18] 3)) (.cells (mtC 10 0 0 0 (some ⟨g, 0, none⟩) 18 18) 24) hgu).trans (Heap.put_same F g _)
  generalize (F.put g (.cells #[.int .i64 1, .int .i64 2, .int .i64 3, .int .i64 4, .int .i64 5, .int .i64 6, .int .i64 7, .int .i64 8, .int .i64 9, .int .i64 10, .int .i64 11, .int .i64 12, .int .i64 13, .int .i64 14, .int .i64 15, .int .i64 16, .int .i64 17, .int .i64 18] 3)).put u (.cells (mtC 10 0 0 0 (some ⟨g, 0, none⟩) 18 18) 24) = R at eR aR eFR hRu hRg
  have hrR : RowAt R (some ⟨g, 0, none⟩) (ms18.map (.int .i64)) := row_blk hRg
  have hNR : NibAt R := hN.mono eFR
  have kset := fun F' D' S (h1 : Ext D' F') (h2 : Pg D' pb s 1 S) (h3 : Ext R F') slot page => dirSet h1 h2 (hNR.mono h3) 10 0 0 0 (some ⟨g, 0, none⟩) ms18 18 slot page (hrR.mono h3) (by decide)
  have kget := fun F' D' S (h1 : Ext D' F') (h2 : Pg D' pb s 1 S) (h3 : Ext R F') slot => dirGet h1 h2 (hNR.mono h3) 10 0 0 0 (some ⟨g, 0, none⟩) ms18 18 slot (hrR.mono h3) (by decide)
  have hsg := fun (S : PgL) (hS : OkS s.size S) (a : Int) (ha : 0 ≤ a ∧ a < 1024) (p : Int) (hp : 0 ≤ p ∧ p < 4294967296) => set_get hs hS (d := 10) (ms := ms18) (slot := a) (page := p) (ok18 ha).1 (in4 hp) (pg18 hz ha)
  have hge := fun (S : PgL) (a : Int) (ha : 0 ≤ a ∧ a < 1024) => (show dgE dsO s S 10 ms18 a = 0 from by unfold dgE; rw [if_pos (ok18 ha).1]; exact pgE_up hs (pg18 hz ha))
  refine short [0, 1, 2, 3, 9, 11] [.slice A0 x0.length c0, .int .u16 a, .int .u16 b, .int .u32 pg, .pointer (some ⟨pb, 0, none⟩), .pointer (some ⟨u, 0, none⟩)] rfl fun ρ => ?_
  ((conv => whnf); repeat (first | (apply load_at; (conv => lhs; whnf); (with_reducible assumption); rfl; (conv => whnf)) | (apply load_at; (conv => lhs; rw [add_plain, add_plain]); (with_reducible assumption); rfl; (conv => whnf)) | (apply loads_at; (conv => lhs; whnf); (with_reducible assumption); rfl; (conv => whnf)) | (refine ⟨⟨by omega, by omega⟩, ?_⟩; (conv => whnf))))
  refine loop_slots [1, 2, 3, 9, 11, 45, 46, 47] (fun k vs F' => ∃ (j : Nat) (D : Heap) (S : PgL), j + k = x0.length ∧ vs = [.int .u16 a, .int .u16 b, .int .u32 pg, .pointer (some ⟨pb, 0, none⟩), .pointer (some ⟨u, 0, none⟩), .slice A0 x0.length c0, .int .i64 (x0.length : Int), .int .i64 (j : Int)] ∧ Ext D F' ∧ Pg D pb s 1 S ∧ Ext R F' ∧ Apart D R) x0.length ⟨0, D, [], by omega, rfl, H2.d.trans hE4, P2, eR, aR⟩ ?_
  clear H2 P2 R2 hS aD aX eR aR hms hE4 E4 E2 E2' hB_g hB_u hE_g hE_u
  rintro k vs F5 ρ1 ⟨j, D, S, hjk, rfl, hDF, P5, eR, aR⟩
  have hBu := eR _ _ hRu
  ((conv => whnf); repeat (first | (apply load_at; (conv => lhs; whnf); (with_reducible assumption); rfl; (conv => whnf)) | (apply load_at; (conv => lhs; rw [add_plain, add_plain]); (with_reducible assumption); rfl; (conv => whnf)) | (apply loads_at; (conv => lhs; whnf); (with_reducible assumption); rfl; (conv => whnf)) | (refine ⟨⟨by omega, by omega⟩, ?_⟩; (conv => whnf))))
  refine cond_split (fun h => ?_) (fun h => ?_)
  · have hj : j < x0.length := by
      have h : decide ((j : Int) < (x0.length : Int)) = true := h
      have := of_decide_eq_true h
      omega
    clear h
    obtain ⟨ad, rfl⟩ := hrow.some (by rw [List.length_map]; omega)
    have hxm := hx _ (List.getElem_mem hj)
    have hcl := one_cell (j := j) (v := .int .u16 x0[j]) (hrow.mono (eFR.trans eR)) (by rw [List.getElem?_map, List.getElem?_eq_getElem hj]; rfl)
    generalize x0[j] = e at hxm hcl
    have hsl := slot_eq hxm
    have hj1 : IntKind.i64.wrap ((j : Int) + 1) = ((j + 1 : Nat) : Int) := wrap_succ (j := j) (by omega)
    have k1 := kset F5 D S hDF P5 eR (e % 1024) (j : Int)
    obtain ⟨q1, _⟩ := hsg S P5.2.1 (e % 1024) (by omega) (j : Int) (by omega)
    rw [q1, ← hsl] at k1
    ((conv => whnf); repeat (first | (apply load_at; (conv => lhs; whnf); (with_reducible assumption); rfl; (conv => whnf)) | (apply load_at; (conv => lhs; rw [add_plain, add_plain]); (with_reducible assumption); rfl; (conv => whnf)) | (apply loads_at; (conv => lhs; whnf); (with_reducible assumption); rfl; (conv => whnf)) | (refine ⟨⟨by omega, by omega⟩, ?_⟩; (conv => whnf))))
    refine load_step hcl ?_
    ((conv => whnf); repeat (first | (apply load_at; (conv => lhs; whnf); (with_reducible assumption); rfl; (conv => whnf)) | (apply load_at; (conv => lhs; rw [add_plain, add_plain]); (with_reducible assumption); rfl; (conv => whnf)) | (apply loads_at; (conv => lhs; whnf); (with_reducible assumption); rfl; (conv => whnf)) | (refine ⟨⟨by omega, by omega⟩, ?_⟩; (conv => whnf))))
    refine ⟨by decide, ?_⟩
    ((conv => whnf); repeat (first | (apply load_at; (conv => lhs; whnf); (with_reducible assumption); rfl; (conv => whnf)) | (apply load_at; (conv => lhs; rw [add_plain, add_plain]); (with_reducible assumption); rfl; (conv => whnf)) | (apply loads_at; (conv => lhs; whnf); (with_reducible assumption); rfl; (conv => whnf)) | (refine ⟨⟨by omega, by omega⟩, ?_⟩; (conv => whnf))))
    refine call_of k1 ?_
    rintro v F6 ⟨rfl, D6, M6, P6⟩
    have eR6 := M6.keep eR aR
    have aR6 := M6.apart eR aR
    refine short [1, 2, 3, 9, 11, 45, 46, 47, 58] [.int .u16 a, .int .u16 b, .int .u32 pg, .pointer (some ⟨pb, 0, none⟩), .pointer (some ⟨u, 0, none⟩), .slice (some ad) x0.length c0, .int .i64 (x0.length : Int), .int .i64 (j : Int), .int .i64 0] rfl fun ρ => ?_
    ((conv => whnf); repeat (first | (apply load_at; (conv => lhs; whnf); (with_reducible assumption); rfl; (conv => whnf)) | (apply load_at; (conv => lhs; rw [add_plain, add_plain]); (with_reducible assumption); rfl; (conv => whnf)) | (apply loads_at; (conv => lhs; whnf); (with_reducible assumption); rfl; (conv => whnf)) | (refine ⟨⟨by omega, by omega⟩, ?_⟩; (conv => whnf))))
    refine ⟨k - 1, by omega, j + 1, D6, _, by omega, ?_, M6.inn, P6, eR6, aR6⟩
    exact Eq.trans (b := [.int .u16 a, .int .u16 b, .int .u32 pg, .pointer (some ⟨pb, 0, none⟩), .pointer (some ⟨u, 0, none⟩), .slice (some ad) x0.length c0, .int .i64 (x0.length : Int), .int .i64 (IntKind.i64.wrap ((j : Int) + 1))]) rfl (by rw [hj1])
  clear h
  have hsa := slot_eq ha
  have hsb := slot_eq hb
  have hwp : IntKind.i64.wrap pg = pg := wrap_eq (by omega) (by omega)
  have k1 := kget F5 D S hDF P5 eR (b % 1024)
  rw [hge S (b % 1024) (by omega), ← hsb] at k1
  obtain ⟨q1, q2, q3, q4, q5⟩ := hsg S P5.2.1 (a % 1024) (by omega) pg hpg
  have q5 := q5 (b % 1024) (ok18 (by omega)).1 (pg18 hz (by omega)) (by
    rw [(ok18 (slot := b % 1024) (by omega)).2.1, (ok18 (slot := a % 1024) (by omega)).2.1, (ok18 (slot := b % 1024) (by omega)).2.2, (ok18 (slot := a % 1024) (by omega)).2.2]
    omega)
  rw [← hsb] at q5
  generalize hS2 : dsS dsO s S 10 ms18 (a % 1024) pg = S2 at q2 q3 q4 q5
  ((conv => whnf); repeat (first | (apply load_at; (conv => lhs; whnf); (with_reducible assumption); rfl; (conv => whnf)) | (apply load_at; (conv => lhs; rw [add_plain, add_plain]); (with_reducible assumption); rfl; (conv => whnf)) | (apply loads_at; (conv => lhs; whnf); (with_reducible assumption); rfl; (conv => whnf)) | (refine ⟨⟨by omega, by omega⟩, ?_⟩; (conv => whnf))))
  refine ⟨by decide, ?_⟩
  ((conv => whnf); repeat (first | (apply load_at; (conv => lhs; whnf); (with_reducible assumption); rfl; (conv => whnf)) | (apply load_at; (conv => lhs; rw [add_plain, add_plain]); (with_reducible assumption); rfl; (conv => whnf)) | (apply loads_at; (conv => lhs; whnf); (with_reducible assumption); rfl; (conv => whnf)) | (refine ⟨⟨by omega, by omega⟩, ?_⟩; (conv => whnf))))
  refine call_of k1 ?_
  rintro v F6 ⟨rfl, hE6⟩
  have eR6 := eR.trans hE6
  have hBu6 := eR6 _ _ hRu
  have k2 := kset F6 D S (hDF.trans hE6) P5 eR6 (a % 1024) pg
  rw [q1, hS2, ← hsa, ← hwp] at k2
  generalize hw0 : dgN dsO s S 10 ms18 (IntKind.i64.wrap (b.tmod 1024)) = was at q5
  refine short [1, 2, 3, 9, 11, 67] [.int .u16 a, .int .u16 b, .int .u32 pg, .pointer (some ⟨pb, 0, none⟩), .pointer (some ⟨u, 0, none⟩), .tuple #[.int .i64 was, .int .i64 0]] (by rw [← hw0]; rfl) fun ρ => ?_
  ((conv => whnf); repeat (first | (apply load_at; (conv => lhs; whnf); (with_reducible assumption); rfl; (conv => whnf)) | (apply load_at; (conv => lhs; rw [add_plain, add_plain]); (with_reducible assumption); rfl; (conv => whnf)) | (apply loads_at; (conv => lhs; whnf); (with_reducible assumption); rfl; (conv => whnf)) | (refine ⟨⟨by omega, by omega⟩, ?_⟩; (conv => whnf))))
  refine ⟨by decide, ?_⟩
  ((conv => whnf); repeat (first | (apply load_at; (conv => lhs; whnf); (with_reducible assumption); rfl; (conv => whnf)) | (apply load_at; (conv => lhs; rw [add_plain, add_plain]); (with_reducible assumption); rfl; (conv => whnf)) | (apply loads_at; (conv => lhs; whnf); (with_reducible assumption); rfl; (conv => whnf)) | (refine ⟨⟨by omega, by omega⟩, ?_⟩; (conv => whnf))))
  refine call_of k2 ?_
  rintro v F7 ⟨rfl, D7, M7, P7⟩
  have eR7 := M7.keep eR6 aR
  have aR7 := M7.apart eR6 aR
  have hBu7 := eR7 _ _ hRu
  have k3 := kget F7 D7 S2 M7.inn P7 eR7 (a % 1024)
  rw [q2, q3, ← hsa] at k3
  refine short [1, 2, 3, 9, 11, 14, 72, 80] [.int .u16 a, .int .u16 b, .int .u32 pg, .pointer (some ⟨pb, 0, none⟩), .pointer (some ⟨u, 0, none⟩), .int .i64 was, .bool false, .int .i64 0] rfl fun ρ => ?_
  ((conv => whnf); repeat (first | (apply load_at; (conv => lhs; whnf); (with_reducible assumption); rfl; (conv => whnf)) | (apply load_at; (conv => lhs; rw [add_plain, add_plain]); (with_reducible assumption); rfl; (conv => whnf)) | (apply loads_at; (conv => lhs; whnf); (with_reducible assumption); rfl; (conv => whnf)) | (refine ⟨⟨by omega, by omega⟩, ?_⟩; (conv => whnf))))
  refine ⟨by decide, ?_⟩
  ((conv => whnf); repeat (first | (apply load_at; (conv => lhs; whnf); (with_reducible assumption); rfl; (conv => whnf)) | (apply load_at; (conv => lhs; rw [add_plain, add_plain]); (with_reducible assumption); rfl; (conv => whnf)) | (apply loads_at; (conv => lhs; whnf); (with_reducible assumption); rfl; (conv => whnf)) | (refine ⟨⟨by omega, by omega⟩, ?_⟩; (conv => whnf))))
  refine call_of k3 ?_
  rintro v F8 ⟨rfl, hE8⟩
  have eR8 := eR7.trans hE8
  have hBu8 := eR8 _ _ hRu
  have k4 := kget F8 D7 S2 (M7.inn.trans hE8) P7 eR8 (b % 1024)
  rw [hge S2 (b % 1024) (by omega), ← hsb, q5] at k4
  refine short [2, 3, 9, 11, 14, 89] [.int .u16 b, .int .u32 pg, .pointer (some ⟨pb, 0, none⟩), .pointer (some ⟨u, 0, none⟩), .int .i64 was, .tuple #[.int .i64 pg, .int .i64 0]] rfl fun ρ => ?_
  ((conv => whnf); repeat (first | (apply load_at; (conv => lhs; whnf); (with_reducible assumption); rfl; (conv => whnf)) | (apply load_at; (conv => lhs; rw [add_plain, add_plain]); (with_reducible assumption); rfl; (conv => whnf)) | (apply loads_at; (conv => lhs; whnf); (with_reducible assumption); rfl; (conv => whnf)) | (refine ⟨⟨by omega, by omega⟩, ?_⟩; (conv => whnf))))
  refine ⟨by decide, ?_⟩
  ((conv => whnf); repeat (first | (apply load_at; (conv => lhs; whnf); (with_reducible assumption); rfl; (conv => whnf)) | (apply load_at; (conv => lhs; rw [add_plain, add_plain]); (with_reducible assumption); rfl; (conv => whnf)) | (apply loads_at; (conv => lhs; whnf); (with_reducible assumption); rfl; (conv => whnf)) | (refine ⟨⟨by omega, by omega⟩, ?_⟩; (conv => whnf))))
  refine call_of k4 ?_
  rintro v F9 ⟨rfl, hE9⟩
  have eR9 := eR8.trans hE9
  refine short [3, 14, 16, 17, 98] [.int .u32 pg, .int .i64 was, .int .i64 pg, .int .i64 0, .tuple #[.int .i64 was, .int .i64 0]] rfl fun ρ => ?_
  ((conv => whnf); repeat (first | (apply load_at; (conv => lhs; whnf); (with_reducible assumption); rfl; (conv => whnf)) | (apply load_at; (conv => lhs; rw [add_plain, add_plain]); (with_reducible assumption); rfl; (conv => whnf)) | (apply loads_at; (conv => lhs; whnf); (with_reducible assumption); rfl; (conv => whnf)) | (refine ⟨⟨by omega, by omega⟩, ?_⟩; (conv => whnf))))
  rw [hwp, beq_self_eq_true]
  ((conv => whnf); repeat (first | (apply load_at; (conv => lhs; whnf); (with_reducible assumption); rfl; (conv => whnf)) | (apply load_at; (conv => lhs; rw [add_plain, add_plain]); (with_reducible assumption); rfl; (conv => whnf)) | (apply loads_at; (conv => lhs; whnf); (with_reducible assumption); rfl; (conv => whnf)) | (refine ⟨⟨by omega, by omega⟩, ?_⟩; (conv => whnf))))
  rw [beq_self_eq_true]
  ((conv => whnf); repeat (first | (apply load_at; (conv => lhs; whnf); (with_reducible assumption); rfl; (conv => whnf)) | (apply load_at; (conv => lhs; rw [add_plain, add_plain]); (with_reducible assumption); rfl; (conv => whnf)) | (apply loads_at; (conv => lhs; whnf); (with_reducible assumption); rfl; (conv => whnf)) | (refine ⟨⟨by omega, by omega⟩, ?_⟩; (conv => whnf))))
  refine call_of (out F9 (eFR.trans eR9)) ?_
  rintro v F10 ⟨rfl, hE⟩
  ((conv => whnf); repeat (first | (apply load_at; (conv => lhs; whnf); (with_reducible assumption); rfl; (conv => whnf)) | (apply load_at; (conv => lhs; rw [add_plain, add_plain]); (with_reducible assumption); rfl; (conv => whnf)) | (apply loads_at; (conv => lhs; whnf); (with_reducible assumption); rfl; (conv => whnf)) | (refine ⟨⟨by omega, by omega⟩, ?_⟩; (conv => whnf))))
  exact ⟨rfl, hE⟩
end Go.Proofs.YtmpiggcooboenaaDoor.AlDirKeeps
