/- The law DirLives holds of the program: proved over what is known of memory, each function by its contract. -/
import Derived.Test.YtmpiggcooboenaaDoorMgDirLivesLaw
import Derived.Test.YtmpiggcooboenaaDoorMgDir1
import Derived.Test.YtmpiggcooboenaaDoorMgDir2
import Derived.Test.YtmpiggcooboenaaDoorMgDir3
import Derived.Test.YtmpiggcooboenaaDoorMgDir4
import Derived.Test.YtmpiggcooboenaaDoorMgDir5
import Derived.Test.YtmpiggcooboenaaDoorMgDir6
import Derived.Test.YtmpiggcooboenaaDoorMgDir7
namespace Go.Proofs.YtmpiggcooboenaaDoor.AlDirLives
open Go Go.Al Go.Proofs Go.RowKit Go.Proofs.YtmpiggcooboenaaDoor.Al
set_option maxHeartbeats 8000000
set_option maxRecDepth 100000
set_option linter.unusedVariables false
set_option linter.unusedSimpArgs false
structure DvR where
  set : Bool
  slot : Int
  page : Int
def dvC (r : DvR) : List Value := [.bool r.set, .int .i64 r.slot, .int .i64 r.page]
theorem dvC_len (r : DvR) : (dvC r).length = 3 := rfl
theorem dv_one (r : DvR) : ∀ v ∈ dvC r, v.oneCell' = true := by simp [dvC, Value.oneCell']
theorem dv_open {F : Heap} {A : Option Addr} {xs : List (Bool × (Int × Int))} (h : Elems F A 3 (kPair 1 kBool (kPair 1 (kInt .i64) (kInt .i64))) xs) : ∃ rs : List DvR, rs.length = xs.length ∧ RowAt F A (rowS dvC rs) := by
  obtain ⟨rs, h1, h2, _⟩ := rowS_open (f := dvC) (G := fun _ => True) (Q := fun _ _ => True) dvC_len (by decide) (fun _ _ => trivial) h (by
    rintro ⟨b, i, p⟩ c _ hK
    obtain ⟨c1, d1, rfl, hl1, rfl, c2, d2, rfl, hl2, rfl, rfl⟩ := hK
    exact ⟨⟨b, i, p⟩, rfl, trivial⟩)
  exact ⟨rs, h1, h2⟩
theorem mt_open {F : Heap} {x : Int × (Int × (Int × (Int × (List Int))))} {cs : Array Value} (h : (kPair 1 (kInt .i64) (kPair 1 (kInt .i64) (kPair 1 (kInt .i64) (kPair 1 (kInt .i64) (kSlice 1 (kInt .i64)))))) F x cs.toList) : ∃ (d f n k : Int) (A : Option Addr) (ms : List Int) (c : Nat), cs = mtC d f n k A ms.length c ∧ RowAt F A (ms.map (.int .i64)) := by
  obtain ⟨d, f, n, k, ms⟩ := x
  obtain ⟨cl, hcl⟩ : ∃ cl, cl = cs.toList := ⟨_, rfl⟩
  rw [← hcl] at h
  obtain ⟨c1, d1, rfl, hl1, rfl, c2, d2, rfl, hl2, rfl, c3, d3, rfl, hl3, rfl, c4, d4, rfl, hl4, rfl, A, c, rfl, hc, hE⟩ := h
  exact ⟨d, f, n, k, A, ms, c, Array.ext' hcl.symm, elems_ints hE⟩
abbrev dvZ : Obj := .cells #[.bool false, .int .i64 0, .int .i64 0] 32
theorem law : LawK := by
  intro F hN x0 w0 cs0 hK0 x1 w1 A1 c1 hc1 hK1 a2 w2
  obtain ⟨d, f, n, k, A, ms, c, rfl, hmr⟩ := mt_open hK0
  obtain ⟨rs, hrl, hrow⟩ := dv_open hK1
  rw [← hrl]
  clear hK0 hK1 w0 w1 hc1
  have out : ∀ F', Ext F F' → FnK Tryd.prog 10 #[] F' (fun v F' => v = .bool true ∧ Ext F F') := fun F' hF' => (awake11 F' (hN.mono hF')).mono fun v G h => ⟨h.1, hF'.trans h.2⟩
  (refine fn_walk tab_ok Tryd.func3 rfl rfl rfl rfl ?_; (conv => whnf))
  refine new_step (.cells (mtC d f n k A ms.length c) 24) rfl fun t h0_t => ?_
  have hE_t := Ext.new h0_t (.cells (mtC d f n k A ms.length c) 24)
  have hB_t := Heap.put_same F t (.cells (mtC d f n k A ms.length c) 24)
  generalize F.put t _ = F1 at hE_t hB_t ⊢
  replace hmr := hmr.mono hE_t
  replace hrow := hrow.mono hE_t
  have hN1 : NibAt F1 := hN.mono hE_t
  ((conv => whnf); repeat (first | (apply load_at; (conv => lhs; whnf); (with_reducible assumption); rfl; (conv => whnf)) | (apply load_at; (conv => lhs; rw [add_plain, add_plain]); (with_reducible assumption); rfl; (conv => whnf)) | (apply loads_at; (conv => lhs; whnf); (with_reducible assumption); rfl; (conv => whnf)) | (refine ⟨⟨by omega, by omega⟩, ?_⟩; (conv => whnf))))
  refine call_of (fresh11 F1 hN1) ?_
  rintro v F2 ⟨pb, xb, D, X, s, r, rfl, E2, H2, aD, aX, P2, R2, hS, ff⟩
  refine short [1, 2, 3, 16] [.slice A1 rs.length c1, .int .i64 a2, .pointer (some ⟨t, 0, none⟩), .tuple #[.pointer (some ⟨pb, 0, none⟩), .pointer (some ⟨xb, 0, none⟩)]] rfl fun ρ => ?_
  have hB2 := E2 _ _ hB_t
  ((conv => whnf); repeat (first | (apply load_at; (conv => lhs; whnf); (with_reducible assumption); rfl; (conv => whnf)) | (apply load_at; (conv => lhs; rw [add_plain, add_plain]); (with_reducible assumption); rfl; (conv => whnf)) | (apply loads_at; (conv => lhs; whnf); (with_reducible assumption); rfl; (conv => whnf)) | (refine ⟨⟨by omega, by omega⟩, ?_⟩; (conv => whnf))))
  cases hd : decide ((ms.length : Int) > 60) with
  | true =>
    ((conv => whnf); repeat (first | (apply load_at; (conv => lhs; whnf); (with_reducible assumption); rfl; (conv => whnf)) | (apply load_at; (conv => lhs; rw [add_plain, add_plain]); (with_reducible assumption); rfl; (conv => whnf)) | (apply loads_at; (conv => lhs; whnf); (with_reducible assumption); rfl; (conv => whnf)) | (refine ⟨⟨by omega, by omega⟩, ?_⟩; (conv => whnf))))
    refine call_of (out F2 (hE_t.trans E2)) ?_
    rintro v F9 ⟨rfl, hE⟩
    ((conv => whnf); repeat (first | (apply load_at; (conv => lhs; whnf); (with_reducible assumption); rfl; (conv => whnf)) | (apply load_at; (conv => lhs; rw [add_plain, add_plain]); (with_reducible assumption); rfl; (conv => whnf)) | (apply loads_at; (conv => lhs; whnf); (with_reducible assumption); rfl; (conv => whnf)) | (refine ⟨⟨by omega, by omega⟩, ?_⟩; (conv => whnf))))
    exact ⟨rfl, hE⟩
  | false =>
  have hml := of_decide_eq_false hd
  ((conv => whnf); repeat (first | (apply load_at; (conv => lhs; whnf); (with_reducible assumption); rfl; (conv => whnf)) | (apply load_at; (conv => lhs; rw [add_plain, add_plain]); (with_reducible assumption); rfl; (conv => whnf)) | (apply loads_at; (conv => lhs; whnf); (with_reducible assumption); rfl; (conv => whnf)) | (refine ⟨⟨by omega, by omega⟩, ?_⟩; (conv => whnf))))
  refine cond_split (fun h => ?_) (fun h => ?_)
  · ((conv => whnf); repeat (first | (apply load_at; (conv => lhs; whnf); (with_reducible assumption); rfl; (conv => whnf)) | (apply load_at; (conv => lhs; rw [add_plain, add_plain]); (with_reducible assumption); rfl; (conv => whnf)) | (apply loads_at; (conv => lhs; whnf); (with_reducible assumption); rfl; (conv => whnf)) | (refine ⟨⟨by omega, by omega⟩, ?_⟩; (conv => whnf))))
    refine call_of (out F2 (hE_t.trans E2)) ?_
    rintro v F9 ⟨rfl, hE⟩
    ((conv => whnf); repeat (first | (apply load_at; (conv => lhs; whnf); (with_reducible assumption); rfl; (conv => whnf)) | (apply load_at; (conv => lhs; rw [add_plain, add_plain]); (with_reducible assumption); rfl; (conv => whnf)) | (apply loads_at; (conv => lhs; whnf); (with_reducible assumption); rfl; (conv => whnf)) | (refine ⟨⟨by omega, by omega⟩, ?_⟩; (conv => whnf))))
    exact ⟨rfl, hE⟩
  have hrsl := of_decide_eq_false (show decide ((rs.length : Int) > 60) = false from h)
  clear h hd
  have kn := need_ a2
  have krn := rneed a2
  generalize needI a2 = nd at kn krn
  ((conv => whnf); repeat (first | (apply load_at; (conv => lhs; whnf); (with_reducible assumption); rfl; (conv => whnf)) | (apply load_at; (conv => lhs; rw [add_plain, add_plain]); (with_reducible assumption); rfl; (conv => whnf)) | (apply loads_at; (conv => lhs; whnf); (with_reducible assumption); rfl; (conv => whnf)) | (refine ⟨⟨by omega, by omega⟩, ?_⟩; (conv => whnf))))
  refine loop_slots [2, 3, 7, 8, 37, 38, 39] (fun k vs F' => ∃ (j : Nat) (D X : Heap) (S : PgL), j + k = rs.length ∧ vs = [.int .i64 a2, .pointer (some ⟨t, 0, none⟩), .pointer (some ⟨pb, 0, none⟩), .pointer (some ⟨xb, 0, none⟩), .slice A1 rs.length c1, .int .i64 (rs.length : Int), .int .i64 (j : Int)] ∧ Duo F' D X ∧ Pg D pb s 1 S ∧ Rp X xb r 1 S ∧ Ext F1 F' ∧ Apart D F1 ∧ Apart X F1 ∧ S.length ≤ j) rs.length ⟨0, D, X, [], by omega, rfl, H2, P2, R2, E2, aD, aX, Nat.le_refl 0⟩ ?_
  clear H2 P2 R2 E2 aD aX hB2
  rintro k2 vs F3 ρ ⟨j, D, X, S, hjk, rfl, H3, P3, R3, E3, aD, aX, hSl⟩
  have hBt3 := E3 _ _ hB_t
  ((conv => whnf); repeat (first | (apply load_at; (conv => lhs; whnf); (with_reducible assumption); rfl; (conv => whnf)) | (apply load_at; (conv => lhs; rw [add_plain, add_plain]); (with_reducible assumption); rfl; (conv => whnf)) | (apply loads_at; (conv => lhs; whnf); (with_reducible assumption); rfl; (conv => whnf)) | (refine ⟨⟨by omega, by omega⟩, ?_⟩; (conv => whnf))))
  refine cond_split (fun h => ?_) (fun h => ?_)
  · have hj : j < rs.length := by
      have h : decide ((j : Int) < (rs.length : Int)) = true := h
      have := of_decide_eq_true h
      omega
    clear h
    obtain ⟨ad, rfl⟩ := hrow.some (by rw [rowS_len dvC_len]; omega)
    obtain ⟨⟨z, slot, page⟩, hx⟩ : ∃ x, rs[j]? = some x := ⟨_, List.getElem?_eq_getElem hj⟩
    ((conv => whnf); repeat (first | (apply load_at; (conv => lhs; whnf); (with_reducible assumption); rfl; (conv => whnf)) | (apply load_at; (conv => lhs; rw [add_plain, add_plain]); (with_reducible assumption); rfl; (conv => whnf)) | (apply loads_at; (conv => lhs; whnf); (with_reducible assumption); rfl; (conv => whnf)) | (refine ⟨⟨by omega, by omega⟩, ?_⟩; (conv => whnf))))
    refine rowS_loads dvC_len (by decide) (hrow.mono E3) hx ?_
    ((conv => whnf); repeat (first | (apply load_at; (conv => lhs; whnf); (with_reducible assumption); rfl; (conv => whnf)) | (apply load_at; (conv => lhs; rw [add_plain, add_plain]); (with_reducible assumption); rfl; (conv => whnf)) | (apply loads_at; (conv => lhs; whnf); (with_reducible assumption); rfl; (conv => whnf)) | (refine ⟨⟨by omega, by omega⟩, ?_⟩; (conv => whnf))))
    refine new_step (dvZ) rfl fun g h0_g => ?_
    have hU_g := Heap.put_same F3 g (dvZ)
    have hX_g := fun o => (ext_put_put h0_g (o := dvZ) (o' := o))
    generalize F3.put g (dvZ) = F4 at hU_g hX_g ⊢
    (conv => whnf)
    refine store_step g 0 _ ((dvC ⟨z, slot, page⟩).toArray) rfl hU_g rfl rfl (.inl (Nat.le_refl 0)) (dv_one ⟨z, slot, page⟩) ?_
    have hB_g := Heap.put_same F4 g (.cells (dvC ⟨z, slot, page⟩).toArray 32)
    have hE_g := hX_g (.cells (dvC ⟨z, slot, page⟩).toArray 32)
    clear hU_g hX_g
    generalize F4.put g _ = F4 at hB_g hE_g ⊢
    obtain ⟨H4, T4⟩ := H3.ext hE_g
    have eR := side_ext E3 hE_g hB_g
    have aRD := side_apart aD H3.d h0_g (.cells (dvC ⟨z, slot, page⟩).toArray 32)
    have aRX := side_apart aX H3.x h0_g (.cells (dvC ⟨z, slot, page⟩).toArray 32)
    have eFR : Ext F1 (F1.put g (.cells (dvC ⟨z, slot, page⟩).toArray 32)) := (Ext.refl F1).put (E3.none h0_g) _
    have hRg : (F1.put g (.cells (dvC ⟨z, slot, page⟩).toArray 32)) g = _ := Heap.put_same _ _ _
    generalize F1.put g (.cells (dvC ⟨z, slot, page⟩).toArray 32) = R at eR aRD aRX eFR hRg
    have hRt := eFR _ _ hB_t
    have hmR := hmr.mono eFR
    have hNR : NibAt R := hN1.mono eFR
    have hj1 : IntKind.i64.wrap ((j : Int) + 1) = ((j + 1 : Nat) : Int) := wrap_succ (j := j) (by omega)
    have gets : ∀ (F' D' X' : Heap) (S' : PgL), Duo F' D' X' → Pg D' pb s 1 S' → Rp X' xb r 1 S' → Ext R F' → FnK Tryd.prog 13 #[.pointer (some ⟨pb, 0, none⟩), .agg (mtC d f n k A ms.length c), .int .i64 slot] F' (fun v F'' => v = .tuple #[.int .i64 (dgN dsO s S' d ms slot), .int .i64 (dgE dsO s S' d ms slot)] ∧ Ext F' F'') := fun F' D' X' S' h1 h2 h3 h4 => dirGet h1.d h2 (hNR.mono h4) d f n k A ms c slot (hmR.mono h4) (by omega)
    have rgets : ∀ (F' D' X' : Heap) (S' : PgL), Duo F' D' X' → Pg D' pb s 1 S' → Rp X' xb r 1 S' → Ext R F' → FnK Tryd.prog 14 #[.pointer (some ⟨xb, 0, none⟩), .agg (mtC d f n k A ms.length c), .int .i64 slot] F' (fun v F'' => v = .tuple #[.int .i64 (dgN dsO s S' d ms slot), .int .i64 (dgE dsO s S' d ms slot)] ∧ Ext F' F'') := fun F' D' X' S' h1 h2 h3 h4 => by
      obtain ⟨e1, e2, _⟩ := sim_dir hS S' d ms slot
      rw [e1, e2]
      exact rdirGet h1.x h3 d f n k A ms c slot (hmR.mono h4) (by omega)
    refine short [2, 3, 7, 8, 10, 37, 38, 39] [.int .i64 a2, .pointer (some ⟨t, 0, none⟩), .pointer (some ⟨pb, 0, none⟩), .pointer (some ⟨xb, 0, none⟩), .pointer (some ⟨g, 0, none⟩), .slice (some ad) rs.length c1, .int .i64 (rs.length : Int), .int .i64 (j : Int)] rfl fun ρ => ?_
    cases z with
    | true =>
      obtain ⟨_, _, eS⟩ := sim_dir hS S d ms slot
      obtain ⟨eS1, eS2⟩ := eS page
      have ka := fun F' D' (h1 : Ext D' F') (h2 : Pg D' pb s 1 S) (h4 : Ext R F') => dirSet h1 h2 (hNR.mono h4) d f n k A ms c slot page (hmR.mono h4) (by omega)
      have kb := fun F' X' (h1 : Ext X' F') (h2 : Rp X' xb r 1 S) (h4 : Ext R F') => rdirSet h1 h2 d f n k A ms c slot page (hmR.mono h4) (by omega) (by omega)
      have hlS : (dsS dsO s S d ms slot page).length ≤ S.length + 1 := by
        unfold dsS
        split
        · split
          · omega
          · exact ps_len _ _
        · omega
      rw [← eS1, ← eS2] at kb
      generalize dsE dsO s S d ms slot page = se at ka kb
      generalize dsS dsO s S d ms slot page = S2 at ka kb hlS
      have hBg4 := eR _ _ hRg
      ((conv => whnf); repeat (first | (apply load_at; (conv => lhs; whnf); (with_reducible assumption); rfl; (conv => whnf)) | (apply load_at; (conv => lhs; rw [add_plain, add_plain]); (with_reducible assumption); rfl; (conv => whnf)) | (apply loads_at; (conv => lhs; whnf); (with_reducible assumption); rfl; (conv => whnf)) | (refine ⟨⟨by omega, by omega⟩, ?_⟩; (conv => whnf))))
      refine draw_tree_at tab_ok (by kernel_rfl) [1, 3, 5, 8, 10, 12] (DT.row [0, 1, 2, 3, 4, 5, 7, 8, 9, 10, 11, 12, 6, 13, 14] .nil) (by kernel_rfl) R eR ?_
      ((conv => whnf); repeat (first | (apply load_at; (conv => lhs; whnf); (with_reducible assumption); rfl; (conv => whnf)) | (apply load_at; (conv => lhs; rw [add_plain, add_plain]); (with_reducible assumption); rfl; (conv => whnf)) | (apply loads_at; (conv => lhs; whnf); (with_reducible assumption); rfl; (conv => whnf)) | (refine ⟨⟨by omega, by omega⟩, ?_⟩; (conv => whnf))))
      refine call_of (ka F4 D H4.d P3 eR) ?_
      rintro v F5 ⟨rfl, D5, M5, P5⟩
      obtain ⟨H5, T5⟩ := H4.onD M5
      obtain ⟨x1, x2, x3⟩ := T5 R eR aRD aRX
      (conv => whnf)
      refine ⟨x1, ?_⟩
      ((conv => whnf); repeat (first | (apply load_at; (conv => lhs; whnf); (with_reducible assumption); rfl; (conv => whnf)) | (apply load_at; (conv => lhs; rw [add_plain, add_plain]); (with_reducible assumption); rfl; (conv => whnf)) | (apply loads_at; (conv => lhs; whnf); (with_reducible assumption); rfl; (conv => whnf)) | (refine ⟨⟨by omega, by omega⟩, ?_⟩; (conv => whnf))))
      refine call_of (kb F5 X H5.x R3 x1) ?_
      rintro v F6 ⟨rfl, X6, M6, R6⟩
      obtain ⟨H6, T6⟩ := H5.onX M6
      obtain ⟨y1, y2, y3⟩ := T6 R x1 x2 x3
      (conv => whnf)
      refine ⟨y1, ?_⟩
      ((conv => whnf); repeat (first | (apply load_at; (conv => lhs; whnf); (with_reducible assumption); rfl; (conv => whnf)) | (apply load_at; (conv => lhs; rw [add_plain, add_plain]); (with_reducible assumption); rfl; (conv => whnf)) | (apply loads_at; (conv => lhs; whnf); (with_reducible assumption); rfl; (conv => whnf)) | (refine ⟨⟨by omega, by omega⟩, ?_⟩; (conv => whnf))))
      refine cond_split (fun h_ => absurd h_ (by simp)) (fun h => ?_)
      clear h
      have kg := fun F' D' X' h1 h2 h3 h4 => gets F' D' X' S2 h1 h2 h3 h4
      have krg := fun F' D' X' h1 h2 h3 h4 => rgets F' D' X' S2 h1 h2 h3 h4
      clear gets rgets
      generalize dgN dsO s S2 d ms slot = gn at kg krg
      generalize dgE dsO s S2 d ms slot = ge at kg krg
      have hBg6 := y1 _ _ hRg
      have hBt6 := y1 _ _ hRt
      ((conv => whnf); repeat (first | (apply load_at; (conv => lhs; whnf); (with_reducible assumption); rfl; (conv => whnf)) | (apply load_at; (conv => lhs; rw [add_plain, add_plain]); (with_reducible assumption); rfl; (conv => whnf)) | (apply loads_at; (conv => lhs; whnf); (with_reducible assumption); rfl; (conv => whnf)) | (refine ⟨⟨by omega, by omega⟩, ?_⟩; (conv => whnf))))
      refine call_of (kg F6 D5 X6 H6 P5 R6 y1) ?_
      rintro v F7 ⟨rfl, hE7⟩
      obtain ⟨H7, T7⟩ := Duo.ext H6 hE7
      refine short [2, 3, 7, 8, 10, 37, 38, 39, 65] [.int .i64 a2, .pointer (some ⟨t, 0, none⟩), .pointer (some ⟨pb, 0, none⟩), .pointer (some ⟨xb, 0, none⟩), .pointer (some ⟨g, 0, none⟩), .slice (some ad) rs.length c1, .int .i64 (rs.length : Int), .int .i64 (j : Int), .tuple #[.int .i64 gn, .int .i64 ge]] rfl fun ρ => ?_
      have hBg7 := hE7 _ _ hBg6
      have hBt7 := hE7 _ _ hBt6
      ((conv => whnf); repeat (first | (apply load_at; (conv => lhs; whnf); (with_reducible assumption); rfl; (conv => whnf)) | (apply load_at; (conv => lhs; rw [add_plain, add_plain]); (with_reducible assumption); rfl; (conv => whnf)) | (apply loads_at; (conv => lhs; whnf); (with_reducible assumption); rfl; (conv => whnf)) | (refine ⟨⟨by omega, by omega⟩, ?_⟩; (conv => whnf))))
      refine call_of (krg F7 D5 X6 H7 P5 R6 (Ext.trans y1 hE7)) ?_
      rintro v F8 ⟨rfl, hE8⟩
      obtain ⟨H8, T8⟩ := H7.ext hE8
      obtain ⟨u1, u2, u3⟩ := (T7.trans T8) R y1 y2 y3
      refine short [2, 3, 7, 8, 11, 12, 37, 38, 39, 73] [.int .i64 a2, .pointer (some ⟨t, 0, none⟩), .pointer (some ⟨pb, 0, none⟩), .pointer (some ⟨xb, 0, none⟩), .int .i64 gn, .int .i64 ge, .slice (some ad) rs.length c1, .int .i64 (rs.length : Int), .int .i64 (j : Int), .tuple #[.int .i64 gn, .int .i64 ge]] rfl fun ρ => ?_
      ((conv => whnf); repeat (first | (apply load_at; (conv => lhs; whnf); (with_reducible assumption); rfl; (conv => whnf)) | (apply load_at; (conv => lhs; rw [add_plain, add_plain]); (with_reducible assumption); rfl; (conv => whnf)) | (apply loads_at; (conv => lhs; whnf); (with_reducible assumption); rfl; (conv => whnf)) | (refine ⟨⟨by omega, by omega⟩, ?_⟩; (conv => whnf))))
      (refine cond_split (fun _ => ?_) (fun h_ => absurd h_ (by simp)); (conv => whnf))
      ((conv => whnf); repeat (first | (apply load_at; (conv => lhs; whnf); (with_reducible assumption); rfl; (conv => whnf)) | (apply load_at; (conv => lhs; rw [add_plain, add_plain]); (with_reducible assumption); rfl; (conv => whnf)) | (apply loads_at; (conv => lhs; whnf); (with_reducible assumption); rfl; (conv => whnf)) | (refine ⟨⟨by omega, by omega⟩, ?_⟩; (conv => whnf))))
      refine cond_split (fun h_ => absurd h_ (by simp)) (fun h => ?_)
      ((conv => whnf); repeat (first | (apply load_at; (conv => lhs; whnf); (with_reducible assumption); rfl; (conv => whnf)) | (apply load_at; (conv => lhs; rw [add_plain, add_plain]); (with_reducible assumption); rfl; (conv => whnf)) | (apply loads_at; (conv => lhs; whnf); (with_reducible assumption); rfl; (conv => whnf)) | (refine ⟨⟨by omega, by omega⟩, ?_⟩; (conv => whnf))))
      refine ⟨k2 - 1, by omega, j + 1, D5, X6, S2, by omega, ?_, H8, P5, R6, eFR.trans u1, (fun c hc => eFR.none (u2 c hc)), (fun c hc => eFR.none (u3 c hc)), by omega⟩
      exact Eq.trans (b := [.int .i64 a2, .pointer (some ⟨t, 0, none⟩), .pointer (some ⟨pb, 0, none⟩), .pointer (some ⟨xb, 0, none⟩), .slice (some ad) rs.length c1, .int .i64 (rs.length : Int), .int .i64 (IntKind.i64.wrap ((j : Int) + 1))]) rfl (by rw [hj1])
    | false =>
      have kg := fun F' D' X' h1 h2 h3 h4 => gets F' D' X' S h1 h2 h3 h4
      have krg := fun F' D' X' h1 h2 h3 h4 => rgets F' D' X' S h1 h2 h3 h4
      clear gets rgets
      generalize dgN dsO s S d ms slot = gn at kg krg
      generalize dgE dsO s S d ms slot = ge at kg krg
      have hBg6 := eR _ _ hRg
      have hBt6 := eR _ _ hRt
      ((conv => whnf); repeat (first | (apply load_at; (conv => lhs; whnf); (with_reducible assumption); rfl; (conv => whnf)) | (apply load_at; (conv => lhs; rw [add_plain, add_plain]); (with_reducible assumption); rfl; (conv => whnf)) | (apply loads_at; (conv => lhs; whnf); (with_reducible assumption); rfl; (conv => whnf)) | (refine ⟨⟨by omega, by omega⟩, ?_⟩; (conv => whnf))))
      refine call_of (kg F4 D X H4 P3 R3 eR) ?_
      rintro v F7 ⟨rfl, hE7⟩
      obtain ⟨H7, T7⟩ := Duo.ext H4 hE7
      refine short [2, 3, 7, 8, 10, 37, 38, 39, 65] [.int .i64 a2, .pointer (some ⟨t, 0, none⟩), .pointer (some ⟨pb, 0, none⟩), .pointer (some ⟨xb, 0, none⟩), .pointer (some ⟨g, 0, none⟩), .slice (some ad) rs.length c1, .int .i64 (rs.length : Int), .int .i64 (j : Int), .tuple #[.int .i64 gn, .int .i64 ge]] rfl fun ρ => ?_
      have hBg7 := hE7 _ _ hBg6
      have hBt7 := hE7 _ _ hBt6
      ((conv => whnf); repeat (first | (apply load_at; (conv => lhs; whnf); (with_reducible assumption); rfl; (conv => whnf)) | (apply load_at; (conv => lhs; rw [add_plain, add_plain]); (with_reducible assumption); rfl; (conv => whnf)) | (apply loads_at; (conv => lhs; whnf); (with_reducible assumption); rfl; (conv => whnf)) | (refine ⟨⟨by omega, by omega⟩, ?_⟩; (conv => whnf))))
      refine call_of (krg F7 D X H7 P3 R3 (Ext.trans eR hE7)) ?_
      rintro v F8 ⟨rfl, hE8⟩
      obtain ⟨H8, T8⟩ := H7.ext hE8
      obtain ⟨u1, u2, u3⟩ := (T7.trans T8) R eR aRD aRX
      refine short [2, 3, 7, 8, 11, 12, 37, 38, 39, 73] [.int .i64 a2, .pointer (some ⟨t, 0, none⟩), .pointer (some ⟨pb, 0, none⟩), .pointer (some ⟨xb, 0, none⟩), .int .i64 gn, .int .i64 ge, .slice (some ad) rs.length c1, .int .i64 (rs.length : Int), .int .i64 (j : Int), .tuple #[.int .i64 gn, .int .i64 ge]] rfl fun ρ => ?_
      ((conv => whnf); repeat (first | (apply load_at; (conv => lhs; whnf); (with_reducible assumption); rfl; (conv => whnf)) | (apply load_at; (conv => lhs; rw [add_plain, add_plain]); (with_reducible assumption); rfl; (conv => whnf)) | (apply loads_at; (conv => lhs; whnf); (with_reducible assumption); rfl; (conv => whnf)) | (refine ⟨⟨by omega, by omega⟩, ?_⟩; (conv => whnf))))
      (refine cond_split (fun _ => ?_) (fun h_ => absurd h_ (by simp)); (conv => whnf))
      ((conv => whnf); repeat (first | (apply load_at; (conv => lhs; whnf); (with_reducible assumption); rfl; (conv => whnf)) | (apply load_at; (conv => lhs; rw [add_plain, add_plain]); (with_reducible assumption); rfl; (conv => whnf)) | (apply loads_at; (conv => lhs; whnf); (with_reducible assumption); rfl; (conv => whnf)) | (refine ⟨⟨by omega, by omega⟩, ?_⟩; (conv => whnf))))
      refine cond_split (fun h_ => absurd h_ (by simp)) (fun h => ?_)
      ((conv => whnf); repeat (first | (apply load_at; (conv => lhs; whnf); (with_reducible assumption); rfl; (conv => whnf)) | (apply load_at; (conv => lhs; rw [add_plain, add_plain]); (with_reducible assumption); rfl; (conv => whnf)) | (apply loads_at; (conv => lhs; whnf); (with_reducible assumption); rfl; (conv => whnf)) | (refine ⟨⟨by omega, by omega⟩, ?_⟩; (conv => whnf))))
      refine ⟨k2 - 1, by omega, j + 1, D, X, S, by omega, ?_, H8, P3, R3, eFR.trans u1, (fun c hc => eFR.none (u2 c hc)), (fun c hc => eFR.none (u3 c hc)), by omega⟩
      exact Eq.trans (b := [.int .i64 a2, .pointer (some ⟨t, 0, none⟩), .pointer (some ⟨pb, 0, none⟩), .pointer (some ⟨xb, 0, none⟩), .slice (some ad) rs.length c1, .int .i64 (rs.length : Int), .int .i64 (IntKind.i64.wrap ((j : Int) + 1))]) rfl (by rw [hj1])
  · clear h
    ((conv => whnf); repeat (first | (apply load_at; (conv => lhs; whnf); (with_reducible assumption); rfl; (conv => whnf)) | (apply load_at; (conv => lhs; rw [add_plain, add_plain]); (with_reducible assumption); rfl; (conv => whnf)) | (apply loads_at; (conv => lhs; whnf); (with_reducible assumption); rfl; (conv => whnf)) | (refine ⟨⟨by omega, by omega⟩, ?_⟩; (conv => whnf))))
    refine call_of (kn F3) ?_
    rintro v F3 ⟨rfl, rfl⟩
    ((conv => whnf); repeat (first | (apply load_at; (conv => lhs; whnf); (with_reducible assumption); rfl; (conv => whnf)) | (apply load_at; (conv => lhs; rw [add_plain, add_plain]); (with_reducible assumption); rfl; (conv => whnf)) | (apply loads_at; (conv => lhs; whnf); (with_reducible assumption); rfl; (conv => whnf)) | (refine ⟨⟨by omega, by omega⟩, ?_⟩; (conv => whnf))))
    refine call_of (krn F3) ?_
    rintro v F3 ⟨rfl, rfl⟩
    ((conv => whnf); repeat (first | (apply load_at; (conv => lhs; whnf); (with_reducible assumption); rfl; (conv => whnf)) | (apply load_at; (conv => lhs; rw [add_plain, add_plain]); (with_reducible assumption); rfl; (conv => whnf)) | (apply loads_at; (conv => lhs; whnf); (with_reducible assumption); rfl; (conv => whnf)) | (refine ⟨⟨by omega, by omega⟩, ?_⟩; (conv => whnf))))
    (refine cond_split (fun _ => ?_) (fun h_ => absurd h_ (by simp)); (conv => whnf))
    ((conv => whnf); repeat (first | (apply load_at; (conv => lhs; whnf); (with_reducible assumption); rfl; (conv => whnf)) | (apply load_at; (conv => lhs; rw [add_plain, add_plain]); (with_reducible assumption); rfl; (conv => whnf)) | (apply loads_at; (conv => lhs; whnf); (with_reducible assumption); rfl; (conv => whnf)) | (refine ⟨⟨by omega, by omega⟩, ?_⟩; (conv => whnf))))
    refine call_of (out F3 (hE_t.trans E3)) ?_
    rintro v F9 ⟨rfl, hE⟩
    ((conv => whnf); repeat (first | (apply load_at; (conv => lhs; whnf); (with_reducible assumption); rfl; (conv => whnf)) | (apply load_at; (conv => lhs; rw [add_plain, add_plain]); (with_reducible assumption); rfl; (conv => whnf)) | (apply loads_at; (conv => lhs; whnf); (with_reducible assumption); rfl; (conv => whnf)) | (refine ⟨⟨by omega, by omega⟩, ?_⟩; (conv => whnf))))
    exact ⟨rfl, hE⟩
end Go.Proofs.YtmpiggcooboenaaDoor.AlDirLives
