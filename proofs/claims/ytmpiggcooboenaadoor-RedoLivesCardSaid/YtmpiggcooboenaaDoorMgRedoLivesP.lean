/- The law RedoLives holds of the program: proved over what is known of memory, each function by its contract. -/
import Derived.Test.YtmpiggcooboenaaDoorMgRedoLivesLaw
import Derived.Test.YtmpiggcooboenaaDoorMgRedo1
import Derived.Test.YtmpiggcooboenaaDoorMgRedo2
import Derived.Test.YtmpiggcooboenaaDoorMgRedo3
import Derived.Test.YtmpiggcooboenaaDoorMgRedo4
import Derived.Test.YtmpiggcooboenaaDoorMgRedo5
import Derived.Test.YtmpiggcooboenaaDoorMgRedo6
namespace Go.Proofs.YtmpiggcooboenaaDoor.AlRedoLives
open Go Go.Al Go.Proofs Go.RowKit Go.Proofs.YtmpiggcooboenaaDoor.Al
set_option maxHeartbeats 8000000
set_option maxRecDepth 100000
set_option linter.unusedVariables false
set_option linter.unusedSimpArgs false
abbrev lvZ : Obj := .cells #[.int .i64 0, .int .i64 0, .int .u8 0, .slice none 0 0, .slice none 0 0] 82
theorem one5 (r : LvR) : ∀ v ∈ lvC r, v.oneCell' = true := by simp [lvC, Value.oneCell']
theorem apart_new {F D F' : Heap} (h : Moves emptyH F D F') : Apart D F := fun c hc => by
  rcases h.new c hc with h1 | h1
  · exact absurd rfl h1
  · exact h1
theorem u8_rem (x : UInt8) : ∃ m : Nat, m < 40 ∧ ((x.toNat : Int).tmod 40) = (m : Int) := ⟨x.toNat % 40, Nat.mod_lt _ (by decide), by rw [Int.tmod_eq_emod_of_nonneg (by omega)]; omega⟩
theorem law : LawK := by
  intro F hN a0 w0 x1 w1 A1 c1 hc1 hK1
  obtain ⟨rs, hrl, hrow, hok⟩ := lv_open w1.2 hK1
  rw [← hrl]
  clear hK1 w1
  obtain ⟨l0, hl0⟩ := bytes_of_wf (xs := [a0]) (by intro y hy; rw [List.mem_singleton.1 hy]; exact w0)
  obtain ⟨x0, rfl⟩ : ∃ x0 : UInt8, a0 = (x0.toNat : Int) := by
    match l0, hl0 with
    | [b], hl => exact ⟨b, by simpa using hl⟩
  clear hl0 w0
  obtain ⟨m40, hm40, hme⟩ := u8_rem x0
  obtain ⟨n, hn⟩ : ∃ n : Nat, n = 3 + m40 := ⟨_, rfl⟩
  have hn3 : (3 : Int) ≤ (n : Int) ∧ (n : Int) ≤ 65536 := by omega
  have hn42 : n ≤ 42 := by omega
  have out : ∀ F', Ext F F' → FnK Tryd.prog 23 #[] F' (fun v F' => v = .bool true ∧ Ext F F') := fun F' hF' => (awake6 F' (hN.mono hF')).mono fun v G h => ⟨h.1, hF'.trans h.2⟩
  (refine fn_walk tab_ok Tryd.func8 rfl rfl rfl rfl ?_; (conv => whnf))
  refine ⟨by decide, ?_⟩
  ((conv => whnf); repeat (first | (apply load_at; (conv => lhs; whnf); (with_reducible assumption); rfl; (conv => whnf)) | (apply load_at; (conv => lhs; rw [add_plain, add_plain]); (with_reducible assumption); rfl; (conv => whnf)) | (apply loads_at; (conv => lhs; whnf); (with_reducible assumption); rfl; (conv => whnf)) | (refine ⟨⟨by omega, by omega⟩, ?_⟩; (conv => whnf))))
  rw [hme]
  have hw1 : IntKind.i64.wrap (3 + IntKind.i64.wrap (m40 : Int)) = (n : Int) := by rw [wrap_eq (x := (m40 : Int)) (by omega) (by omega), wrap_eq (by omega) (by omega)]; omega
  rw [hw1]
  refine call_of (new_n hn3 F) ?_
  rintro v F1 ⟨b, D1, rfl, M1, K1⟩
  refine short [1, 5, 29] [.slice A1 rs.length c1, .int .i64 (n : Int), .tuple #[.pointer (some ⟨b, 0, none⟩), .int .i64 0]] rfl fun ρ => ?_
  ((conv => whnf); repeat (first | (apply load_at; (conv => lhs; whnf); (with_reducible assumption); rfl; (conv => whnf)) | (apply load_at; (conv => lhs; rw [add_plain, add_plain]); (with_reducible assumption); rfl; (conv => whnf)) | (apply loads_at; (conv => lhs; whnf); (with_reducible assumption); rfl; (conv => whnf)) | (refine ⟨⟨by omega, by omega⟩, ?_⟩; (conv => whnf))))
  refine call_of (rnew (n : Int) F1) ?_
  rintro v F2 h
  rcases h with ⟨h1, _⟩ | ⟨_, _, xb, X2, rfl, M2, K2⟩
  · omega
  rw [Int.toNat_natCast] at K2
  have E1 : Ext F F1 := fun c o hc => M1.out c o hc rfl
  have E2 : Ext F1 F2 := fun c o hc => M2.out c o hc rfl
  have H2 : Duo F2 D1 X2 := ⟨M1.inn.trans E2, M2.inn, (apart_new M2).symm.mono M1.inn⟩
  have aD : Apart D1 F := apart_new M1
  have aX : Apart X2 F := fun c hc => E1.none (apart_new M2 c hc)
  have E02 := E1.trans E2
  have hfw := fun G (h : Ext F G) => few6 rs A1 c1 G (hrow.mono h)
  have hfe := fewVs_of (rs := rs)
  generalize fewVs rs = fw at hfw hfe
  refine short [1, 5, 6, 7, 34] [.slice A1 rs.length c1, .int .i64 (n : Int), .pointer (some ⟨b, 0, none⟩), .int .i64 0, .tuple #[.pointer (some ⟨xb, 0, none⟩), .int .i64 0]] rfl fun ρ => ?_
  ((conv => whnf); repeat (first | (apply load_at; (conv => lhs; whnf); (with_reducible assumption); rfl; (conv => whnf)) | (apply load_at; (conv => lhs; rw [add_plain, add_plain]); (with_reducible assumption); rfl; (conv => whnf)) | (apply loads_at; (conv => lhs; whnf); (with_reducible assumption); rfl; (conv => whnf)) | (refine ⟨⟨by omega, by omega⟩, ?_⟩; (conv => whnf))))
  refine call_of (hfw F2 E02) ?_
  rintro v F3 ⟨rfl, E3⟩
  obtain ⟨H3, T3⟩ := H2.ext E3
  have E03 := E02.trans E3
  refine short [1, 5, 6, 7, 8, 9, 44, 46] [.slice A1 rs.length c1, .int .i64 (n : Int), .pointer (some ⟨b, 0, none⟩), .int .i64 0, .pointer (some ⟨xb, 0, none⟩), .int .i64 0, .bool false, .bool fw] rfl fun ρ => ?_
  cases fw with
  | false =>
    ((conv => whnf); repeat (first | (apply load_at; (conv => lhs; whnf); (with_reducible assumption); rfl; (conv => whnf)) | (apply load_at; (conv => lhs; rw [add_plain, add_plain]); (with_reducible assumption); rfl; (conv => whnf)) | (apply loads_at; (conv => lhs; whnf); (with_reducible assumption); rfl; (conv => whnf)) | (refine ⟨⟨by omega, by omega⟩, ?_⟩; (conv => whnf))))
    refine call_of (hfw F3 E03) ?_
    rintro v F4 ⟨rfl, E4⟩
    ((conv => whnf); repeat (first | (apply load_at; (conv => lhs; whnf); (with_reducible assumption); rfl; (conv => whnf)) | (apply load_at; (conv => lhs; rw [add_plain, add_plain]); (with_reducible assumption); rfl; (conv => whnf)) | (apply loads_at; (conv => lhs; whnf); (with_reducible assumption); rfl; (conv => whnf)) | (refine ⟨⟨by omega, by omega⟩, ?_⟩; (conv => whnf))))
    refine call_of (out F4 (E03.trans E4)) ?_
    rintro v F9 ⟨rfl, hE⟩
    ((conv => whnf); repeat (first | (apply load_at; (conv => lhs; whnf); (with_reducible assumption); rfl; (conv => whnf)) | (apply load_at; (conv => lhs; rw [add_plain, add_plain]); (with_reducible assumption); rfl; (conv => whnf)) | (apply loads_at; (conv => lhs; whnf); (with_reducible assumption); rfl; (conv => whnf)) | (refine ⟨⟨by omega, by omega⟩, ?_⟩; (conv => whnf))))
    exact ⟨rfl, hE⟩
  | true =>
  obtain ⟨hl, hkl⟩ := hfe rfl
  clear hfw hfe
  have S0 := sim_new n
  obtain ⟨e1, S1, w1⟩ := sim_run [(0, noteB 0 1)] _ _ S0 K1.1 (by show (0 : Int) + ((1 : Nat) : Int) < _; omega)
  have b1 := runW_le [(0, noteB 0 1)] (newS (n : Int))
  replace b1 : (runW dsO (newS (n : Int)) [(0, noteB 0 1)]).1.writes ≤ 0 + ((1 : Nat) : Int) ∧ (runW dsO (newS (n : Int)) [(0, noteB 0 1)]).1.size = n := b1
  have kf := fun F hE hN => redoFormat (F := F) hE K1 hN (by show (0 : Int) + 1 < _; omega)
  have kg := fun F hE => rformat (F := F) hE K2 (by show (0 : Int) + 1 < _; omega)
  rw [← e1] at kg
  generalize runW dsO (newS (n : Int)) [(0, noteB 0 1)] = p1 at *
  generalize runW rsO (newR n) [(0, noteB 0 1)] = p2 at *
  obtain ⟨s1, ee⟩ := p1
  obtain ⟨r1, ee2⟩ := p2
  dsimp only at S1 w1 b1 kf kg
  ((conv => whnf); repeat (first | (apply load_at; (conv => lhs; whnf); (with_reducible assumption); rfl; (conv => whnf)) | (apply load_at; (conv => lhs; rw [add_plain, add_plain]); (with_reducible assumption); rfl; (conv => whnf)) | (apply loads_at; (conv => lhs; whnf); (with_reducible assumption); rfl; (conv => whnf)) | (refine ⟨⟨by omega, by omega⟩, ?_⟩; (conv => whnf))))
  refine call_of (kf F3 H3.d (hN.mono E03)) ?_
  rintro v F4 ⟨rfl, D4, M4, K4⟩
  obtain ⟨H4, T4⟩ := H3.onD M4
  refine short [1, 5, 6, 7, 8, 9, 49, 51] [.slice A1 rs.length c1, .int .i64 (n : Int), .pointer (some ⟨b, 0, none⟩), .int .i64 0, .pointer (some ⟨xb, 0, none⟩), .int .i64 0, .bool false, .int .i64 ee] rfl fun ρ => ?_
  ((conv => whnf); repeat (first | (apply load_at; (conv => lhs; whnf); (with_reducible assumption); rfl; (conv => whnf)) | (apply load_at; (conv => lhs; rw [add_plain, add_plain]); (with_reducible assumption); rfl; (conv => whnf)) | (apply loads_at; (conv => lhs; whnf); (with_reducible assumption); rfl; (conv => whnf)) | (refine ⟨⟨by omega, by omega⟩, ?_⟩; (conv => whnf))))
  refine call_of (kg F4 H4.x) ?_
  rintro v F5 ⟨rfl, X5, M5, K5⟩
  obtain ⟨H5, T5⟩ := H4.onX M5
  obtain ⟨E05, aD5, aX5⟩ := (T4.trans T5) F E03 aD aX
  refine short [1, 5, 6, 7, 8, 9, 49, 51, 53] [.slice A1 rs.length c1, .int .i64 (n : Int), .pointer (some ⟨b, 0, none⟩), .int .i64 0, .pointer (some ⟨xb, 0, none⟩), .int .i64 0, .bool false, .int .i64 ee, .int .i64 ee] rfl fun ρ => ?_
  ((conv => whnf); repeat (first | (apply load_at; (conv => lhs; whnf); (with_reducible assumption); rfl; (conv => whnf)) | (apply load_at; (conv => lhs; rw [add_plain, add_plain]); (with_reducible assumption); rfl; (conv => whnf)) | (apply loads_at; (conv => lhs; whnf); (with_reducible assumption); rfl; (conv => whnf)) | (refine ⟨⟨by omega, by omega⟩, ?_⟩; (conv => whnf))))
  refine cond_split (fun h_ => absurd h_ (by simp)) (fun h => ?_)
  clear h
  obtain ⟨e2, S2, b2w, b2z⟩ := sim_open S1 w1 (by omega)
  have ka := fun F E X (H : Duo F E X) (hL : LgS E b s1 (.pointer none) none) hN => open_s H hL hN (by omega)
  have kb := fun F E X (H : Duo F E X) (hL : RgS X xb r1 (.pointer none) none) => ropen_s H hL (by have := S1.wr; omega)
  rw [← e2] at kb
  generalize openS dsO s1 = o1 at *
  generalize openS rsO r1 = o2 at *
  obtain ⟨s2, eA, oA⟩ := o1
  obtain ⟨r2, eB, oB⟩ := o2
  dsimp only at S2 b2w b2z ka kb
  ((conv => whnf); repeat (first | (apply load_at; (conv => lhs; whnf); (with_reducible assumption); rfl; (conv => whnf)) | (apply load_at; (conv => lhs; rw [add_plain, add_plain]); (with_reducible assumption); rfl; (conv => whnf)) | (apply loads_at; (conv => lhs; whnf); (with_reducible assumption); rfl; (conv => whnf)) | (refine ⟨⟨by omega, by omega⟩, ?_⟩; (conv => whnf))))
  refine call_of (ka F5 D4 X5 H5 ⟨rfl, K4⟩ (hN.mono E05)) ?_
  rintro v F6 ⟨va, E6, rfl, H6, T6, L6⟩
  refine short [1, 5, 6, 8, 9, 73] [.slice A1 rs.length c1, .int .i64 (n : Int), .pointer (some ⟨b, 0, none⟩), .pointer (some ⟨xb, 0, none⟩), .int .i64 0, .tuple #[va, .int .i64 eA]] rfl fun ρ => ?_
  ((conv => whnf); repeat (first | (apply load_at; (conv => lhs; whnf); (with_reducible assumption); rfl; (conv => whnf)) | (apply load_at; (conv => lhs; rw [add_plain, add_plain]); (with_reducible assumption); rfl; (conv => whnf)) | (apply loads_at; (conv => lhs; whnf); (with_reducible assumption); rfl; (conv => whnf)) | (refine ⟨⟨by omega, by omega⟩, ?_⟩; (conv => whnf))))
  refine call_of (kb F6 E6 X5 H6 ⟨rfl, K5⟩) ?_
  rintro v F7 ⟨vb, X7, rfl, H7, T7, L7⟩
  obtain ⟨E07, aE7, aX7⟩ := (T6.trans T7) F E05 aD5 aX5
  refine short [1, 5, 6, 7, 8, 10, 78] [.slice A1 rs.length c1, .int .i64 (n : Int), .pointer (some ⟨b, 0, none⟩), .int .i64 eA, .pointer (some ⟨xb, 0, none⟩), va, .tuple #[vb, .int .i64 eA]] rfl fun ρ => ?_
  ((conv => whnf); repeat (first | (apply load_at; (conv => lhs; whnf); (with_reducible assumption); rfl; (conv => whnf)) | (apply load_at; (conv => lhs; rw [add_plain, add_plain]); (with_reducible assumption); rfl; (conv => whnf)) | (apply loads_at; (conv => lhs; whnf); (with_reducible assumption); rfl; (conv => whnf)) | (refine ⟨⟨by omega, by omega⟩, ?_⟩; (conv => whnf))))
  refine loop_slots [5, 6, 7, 8, 9, 10, 11, 81, 82, 83] (fun k vs F' => ∃ (j : Nat) (E X : Heap) (s : DS) (r : RS) (va vb : Value) (o : Option Int) (e : Int), j + k = rs.length ∧ vs = [.int .i64 (n : Int), .pointer (some ⟨b, 0, none⟩), .int .i64 e, .pointer (some ⟨xb, 0, none⟩), .int .i64 e, va, vb, .slice A1 rs.length c1, .int .i64 (rs.length : Int), .int .i64 (j : Int)] ∧ Duo F' E X ∧ LgS E b s va o ∧ RgS X xb r vb o ∧ Sim s r ∧ Ext F F' ∧ Apart E F ∧ Apart X F ∧ s.writes ≤ 300000 * (j + 1) ∧ s.size = n) rs.length ⟨0, E6, X7, s2, r2, va, vb, oA, eA, by omega, rfl, H7, L6, L7, S2, E07, aE7, aX7, by omega, by rw [b2z, b1.2]⟩ ?_
  clear H2 H3 H4 H5 H6 H7 T3 T4 T5 T6 T7 L6 L7 S0 S1 S2 K1 K2 K4 K5 M1 M2 M4 M5 ka kb kf kg aD aX aD5 aX5 aE7 aX7 E1 E2 E3 E02 E03 E05 E07 e1 e2 b1 b2w b2z w1
  rintro k vs F4 ρ ⟨j, E, X, s, r, va, vb, o, e, hjk, rfl, H, L, M, hS, hE, aE, aX, hw, hsz⟩
  ((conv => whnf); repeat (first | (apply load_at; (conv => lhs; whnf); (with_reducible assumption); rfl; (conv => whnf)) | (apply load_at; (conv => lhs; rw [add_plain, add_plain]); (with_reducible assumption); rfl; (conv => whnf)) | (apply loads_at; (conv => lhs; whnf); (with_reducible assumption); rfl; (conv => whnf)) | (refine ⟨⟨by omega, by omega⟩, ?_⟩; (conv => whnf))))
  refine cond_split (fun h => ?_) (fun h => ?_)
  · have hj : j < rs.length := by have := of_decide_eq_true h; omega
    obtain ⟨ad, rfl⟩ := hrow.some (by rw [rowS_len lvC_len]; omega)
    obtain ⟨k0, ho⟩ : ∃ k0, rs[j]? = some k0 := ⟨_, List.getElem?_eq_getElem hj⟩
    have hom := List.mem_of_getElem? ho
    ((conv => whnf); repeat (first | (apply load_at; (conv => lhs; whnf); (with_reducible assumption); rfl; (conv => whnf)) | (apply load_at; (conv => lhs; rw [add_plain, add_plain]); (with_reducible assumption); rfl; (conv => whnf)) | (apply loads_at; (conv => lhs; whnf); (with_reducible assumption); rfl; (conv => whnf)) | (refine ⟨⟨by omega, by omega⟩, ?_⟩; (conv => whnf))))
    refine rowS_loads lvC_len (by decide) (hrow.mono hE) ho ?_
    ((conv => whnf); repeat (first | (apply load_at; (conv => lhs; whnf); (with_reducible assumption); rfl; (conv => whnf)) | (apply load_at; (conv => lhs; rw [add_plain, add_plain]); (with_reducible assumption); rfl; (conv => whnf)) | (apply loads_at; (conv => lhs; whnf); (with_reducible assumption); rfl; (conv => whnf)) | (refine ⟨⟨by omega, by omega⟩, ?_⟩; (conv => whnf))))
    refine new_step (lvZ) rfl fun g h0_g => ?_
    have hU_g := Heap.put_same F4 g (lvZ)
    have hX_g := fun o => (ext_put_put h0_g (o := lvZ) (o' := o))
    generalize F4.put g (lvZ) = F5 at hU_g hX_g ⊢
    (conv => whnf)
    refine store_step g 0 _ ((lvC k0).toArray) rfl hU_g rfl rfl (.inl (Nat.le_refl 0)) (one5 k0) ?_
    have hB_g := Heap.put_same F5 g (.cells (lvC k0).toArray 82)
    have hE_g := hX_g (.cells (lvC k0).toArray 82)
    clear hU_g hX_g
    generalize F5.put g _ = F5 at hB_g hE_g ⊢
    obtain ⟨H5, T5⟩ := H.ext hE_g
    have E5 := hE.trans hE_g
    have eR := side_ext hE hE_g hB_g
    have aRE := side_apart aE H.d h0_g (.cells (lvC k0).toArray 82)
    have aRX := side_apart aX H.x h0_g (.cells (lvC k0).toArray 82)
    have eFR : Ext F (F.put g (.cells (lvC k0).toArray 82)) := (Ext.refl F).put (hE.none h0_g) _
    have hRg : (F.put g (.cells (lvC k0).toArray 82)) g = _ := Heap.put_same _ _ _
    generalize F.put g (.cells (lvC k0).toArray 82) = R at eR aRE aRX eFR hRg
    have hokR := (hok k0 hom).mono eFR
    obtain ⟨kl1, kl2⟩ := hkl k0 hom
    have hNR : NibAt R := hN.mono eFR
    refine short [5, 6, 7, 8, 9, 10, 11, 13, 81, 82, 83] [.int .i64 (n : Int), .pointer (some ⟨b, 0, none⟩), .int .i64 e, .pointer (some ⟨xb, 0, none⟩), .int .i64 e, va, vb, .pointer (some ⟨g, 0, none⟩), .slice (some ad) rs.length c1, .int .i64 (rs.length : Int), .int .i64 (j : Int)] rfl fun ρ => ?_
    obtain ⟨Dd, hDd, hDE, _⟩ := L.disk
    obtain ⟨Xd, hXd, hXE, _⟩ := M.disk
    have kw := dk_writes (hDE.trans H5.d) hDd
    have kd := dk_down (hDE.trans H5.d) hDd
    rw [hS.wr] at kw
    rw [hS.dn] at kd
    obtain ⟨q', hxc⟩ := rk_cell hXd
    replace hxc := H5.x _ _ (hXE _ _ hxc)
    ((conv => whnf); repeat (first | (apply load_at; (conv => lhs; whnf); (with_reducible assumption); rfl; (conv => whnf)) | (apply load_at; (conv => lhs; rw [add_plain, add_plain]); (with_reducible assumption); rfl; (conv => whnf)) | (apply loads_at; (conv => lhs; whnf); (with_reducible assumption); rfl; (conv => whnf)) | (refine ⟨⟨by omega, by omega⟩, ?_⟩; (conv => whnf))))
    refine draw_cut (fun env' F' => [5, 6, 7, 8, 9, 10, 11, 13, 81, 82, 83, 127].map env' = [.int .i64 (n : Int), .pointer (some ⟨b, 0, none⟩), .int .i64 e, .pointer (some ⟨xb, 0, none⟩), .int .i64 e, va, vb, .pointer (some ⟨g, 0, none⟩), .slice (some ad) rs.length c1, .int .i64 (rs.length : Int), .int .i64 (j : Int), .bool (r.down != r.down)] ∧ F' = F5) (fun K hK => ?_) ?_
    · cases o with
      | none =>
        obtain ⟨rfl, _⟩ := L
        obtain ⟨rfl, _⟩ := M
        refine draw_tree_at tab_ok (by kernel_rfl) [] (DT.row [0, 1, 2, 3, 4, 5, 6, 7, 8, 9, 10, 11, 12, 13, 14, 16, 17, 18, 19, 15, 20, 21, 22, 23, 24, 26, 27, 28, 29, 25, 30, 31, 32, 33, 35, 36, 37, 38, 34, 39, 40] .nil) (by kernel_rfl) (fun _ => none) (fun _ _ h => by cases h) ?_
        ((conv => whnf); repeat (first | (apply load_at; (conv => lhs; whnf); (with_reducible assumption); rfl; (conv => whnf)) | (apply load_at; (conv => lhs; rw [add_plain, add_plain]); (with_reducible assumption); rfl; (conv => whnf)) | (apply loads_at; (conv => lhs; whnf); (with_reducible assumption); rfl; (conv => whnf)) | (refine ⟨⟨by omega, by omega⟩, ?_⟩; (conv => whnf))))
        (refine cond_split (fun _ => ?_) (fun h_ => absurd h_ (by simp)); (conv => whnf))
        ((conv => whnf); repeat (first | (apply load_at; (conv => lhs; whnf); (with_reducible assumption); rfl; (conv => whnf)) | (apply load_at; (conv => lhs; rw [add_plain, add_plain]); (with_reducible assumption); rfl; (conv => whnf)) | (apply loads_at; (conv => lhs; whnf); (with_reducible assumption); rfl; (conv => whnf)) | (refine ⟨⟨by omega, by omega⟩, ?_⟩; (conv => whnf))))
        refine call_of kw ?_
        rintro v F5 ⟨rfl, rfl⟩
        (conv => whnf)
        refine ⟨(fun _ _ h => by cases h), Ext.refl _, ?_⟩
        ((conv => whnf); repeat (first | (apply load_at; (conv => lhs; whnf); (with_reducible assumption); rfl; (conv => whnf)) | (apply load_at; (conv => lhs; rw [add_plain, add_plain]); (with_reducible assumption); rfl; (conv => whnf)) | (apply loads_at; (conv => lhs; whnf); (with_reducible assumption); rfl; (conv => whnf)) | (refine ⟨⟨by omega, by omega⟩, ?_⟩; (conv => whnf))))
        (refine cond_split (fun _ => ?_) (fun h_ => absurd h_ (by simp)); (conv => whnf))
        ((conv => whnf); repeat (first | (apply load_at; (conv => lhs; whnf); (with_reducible assumption); rfl; (conv => whnf)) | (apply load_at; (conv => lhs; rw [add_plain, add_plain]); (with_reducible assumption); rfl; (conv => whnf)) | (apply loads_at; (conv => lhs; whnf); (with_reducible assumption); rfl; (conv => whnf)) | (refine ⟨⟨by omega, by omega⟩, ?_⟩; (conv => whnf))))
        refine call_of kd ?_
        rintro v F5 ⟨rfl, rfl⟩
        (conv => whnf)
        refine ⟨(fun _ _ h => by cases h), Ext.refl _, ?_⟩
        ((conv => whnf); repeat (first | (apply load_at; (conv => lhs; whnf); (with_reducible assumption); rfl; (conv => whnf)) | (apply load_at; (conv => lhs; rw [add_plain, add_plain]); (with_reducible assumption); rfl; (conv => whnf)) | (apply loads_at; (conv => lhs; whnf); (with_reducible assumption); rfl; (conv => whnf)) | (refine ⟨⟨by omega, by omega⟩, ?_⟩; (conv => whnf))))
        exact hK _ _ ⟨rfl, rfl⟩
      | some q =>
        obtain ⟨la, rfl, L⟩ := L
        obtain ⟨lb, rfl, M⟩ := M
        obtain ⟨_, _, _, hla⟩ := L.disk
        obtain ⟨_, _, _, hlb⟩ := M.disk
        have ks := lgSeq (H5.d _ _ hla)
        replace hlb := H5.x _ _ hlb
        refine draw_tree_at tab_ok (by kernel_rfl) [] (DT.row [0, 1, 2, 3, 4, 5, 6, 7, 8, 9, 10, 11, 12, 13, 14, 16, 17, 18, 19, 15, 20, 21, 22, 23, 24, 26, 27, 28, 29, 25, 30, 31, 32, 33, 35, 36, 37, 38, 34, 39, 40] .nil) (by kernel_rfl) (fun _ => none) (fun _ _ h => by cases h) ?_
        ((conv => whnf); repeat (first | (apply load_at; (conv => lhs; whnf); (with_reducible assumption); rfl; (conv => whnf)) | (apply load_at; (conv => lhs; rw [add_plain, add_plain]); (with_reducible assumption); rfl; (conv => whnf)) | (apply loads_at; (conv => lhs; whnf); (with_reducible assumption); rfl; (conv => whnf)) | (refine ⟨⟨by omega, by omega⟩, ?_⟩; (conv => whnf))))
        (refine cond_split (fun _ => ?_) (fun h_ => absurd h_ (by simp)); (conv => whnf))
        ((conv => whnf); repeat (first | (apply load_at; (conv => lhs; whnf); (with_reducible assumption); rfl; (conv => whnf)) | (apply load_at; (conv => lhs; rw [add_plain, add_plain]); (with_reducible assumption); rfl; (conv => whnf)) | (apply loads_at; (conv => lhs; whnf); (with_reducible assumption); rfl; (conv => whnf)) | (refine ⟨⟨by omega, by omega⟩, ?_⟩; (conv => whnf))))
        refine call_of ks ?_
        rintro v F5 ⟨rfl, rfl⟩
        (conv => whnf)
        refine ⟨(fun _ _ h => by cases h), Ext.refl _, ?_⟩
        ((conv => whnf); repeat (first | (apply load_at; (conv => lhs; whnf); (with_reducible assumption); rfl; (conv => whnf)) | (apply load_at; (conv => lhs; rw [add_plain, add_plain]); (with_reducible assumption); rfl; (conv => whnf)) | (apply loads_at; (conv => lhs; whnf); (with_reducible assumption); rfl; (conv => whnf)) | (refine ⟨⟨by omega, by omega⟩, ?_⟩; (conv => whnf))))
        (refine cond_split (fun _ => ?_) (fun h_ => absurd h_ (by simp)); (conv => whnf))
        ((conv => whnf); repeat (first | (apply load_at; (conv => lhs; whnf); (with_reducible assumption); rfl; (conv => whnf)) | (apply load_at; (conv => lhs; rw [add_plain, add_plain]); (with_reducible assumption); rfl; (conv => whnf)) | (apply loads_at; (conv => lhs; whnf); (with_reducible assumption); rfl; (conv => whnf)) | (refine ⟨⟨by omega, by omega⟩, ?_⟩; (conv => whnf))))
        refine call_of kw ?_
        rintro v F5 ⟨rfl, rfl⟩
        (conv => whnf)
        refine ⟨(fun _ _ h => by cases h), Ext.refl _, ?_⟩
        ((conv => whnf); repeat (first | (apply load_at; (conv => lhs; whnf); (with_reducible assumption); rfl; (conv => whnf)) | (apply load_at; (conv => lhs; rw [add_plain, add_plain]); (with_reducible assumption); rfl; (conv => whnf)) | (apply loads_at; (conv => lhs; whnf); (with_reducible assumption); rfl; (conv => whnf)) | (refine ⟨⟨by omega, by omega⟩, ?_⟩; (conv => whnf))))
        (refine cond_split (fun _ => ?_) (fun h_ => absurd h_ (by simp)); (conv => whnf))
        ((conv => whnf); repeat (first | (apply load_at; (conv => lhs; whnf); (with_reducible assumption); rfl; (conv => whnf)) | (apply load_at; (conv => lhs; rw [add_plain, add_plain]); (with_reducible assumption); rfl; (conv => whnf)) | (apply loads_at; (conv => lhs; whnf); (with_reducible assumption); rfl; (conv => whnf)) | (refine ⟨⟨by omega, by omega⟩, ?_⟩; (conv => whnf))))
        refine call_of kd ?_
        rintro v F5 ⟨rfl, rfl⟩
        (conv => whnf)
        refine ⟨(fun _ _ h => by cases h), Ext.refl _, ?_⟩
        ((conv => whnf); repeat (first | (apply load_at; (conv => lhs; whnf); (with_reducible assumption); rfl; (conv => whnf)) | (apply load_at; (conv => lhs; rw [add_plain, add_plain]); (with_reducible assumption); rfl; (conv => whnf)) | (apply loads_at; (conv => lhs; whnf); (with_reducible assumption); rfl; (conv => whnf)) | (refine ⟨⟨by omega, by omega⟩, ?_⟩; (conv => whnf))))
        exact hK _ _ ⟨rfl, rfl⟩
    · rintro env' F5 ⟨hev, rfl⟩
      refine short [5, 6, 7, 8, 9, 10, 11, 13, 81, 82, 83, 127] [.int .i64 (n : Int), .pointer (some ⟨b, 0, none⟩), .int .i64 e, .pointer (some ⟨xb, 0, none⟩), .int .i64 e, va, vb, .pointer (some ⟨g, 0, none⟩), .slice (some ad) rs.length c1, .int .i64 (rs.length : Int), .int .i64 (j : Int), .bool (r.down != r.down)] hev fun ρ => ?_
      ((conv => whnf); repeat (first | (apply load_at; (conv => lhs; whnf); (with_reducible assumption); rfl; (conv => whnf)) | (apply load_at; (conv => lhs; rw [add_plain, add_plain]); (with_reducible assumption); rfl; (conv => whnf)) | (apply loads_at; (conv => lhs; whnf); (with_reducible assumption); rfl; (conv => whnf)) | (refine ⟨⟨by omega, by omega⟩, ?_⟩; (conv => whnf))))
      refine cond_split (fun h_ => absurd h_ (by simp)) (fun h => ?_)
      clear h kw kd hxc
      obtain ⟨op, ii, x, pgs, P, pc, keep, KA, kc⟩ := k0
      dsimp only at kl1 kl2
      have hj1 : IntKind.i64.wrap ((j : Int) + 1) = ((j + 1 : Nat) : Int) := wrap_succ (j := j) (by omega)
      have hB5 := eR _ _ hRg
      ((conv => whnf); repeat (first | (apply load_at; (conv => lhs; whnf); (with_reducible assumption); rfl; (conv => whnf)) | (apply load_at; (conv => lhs; rw [add_plain, add_plain]); (with_reducible assumption); rfl; (conv => whnf)) | (apply loads_at; (conv => lhs; whnf); (with_reducible assumption); rfl; (conv => whnf)) | (refine ⟨⟨by omega, by omega⟩, ?_⟩; (conv => whnf))))
      refine cond_split (fun h => ?_) (fun h => ?_)
      · have S2 := sim_arm hS ii
        have ka := onD H5 L (fun D hD h1 _ => arms h1 hD ii (by have := hokR.i.2; show ii ≤ _; have : ii < 9223372036854775808 := this; omega))
        have kb := fun F E (H : Duo F E X) => onX H M (fun D hD h1 _ => rfuse h1 hD ii (by have := hokR.i.2; show ii ≤ _; have : ii < 9223372036854775808 := this; omega))
        have hwo : ({ s with armed := decide (ii ≥ 0), left := max ii 0 } : DS).writes ≤ 300000 * (((j + 1 : Nat) : Int) + 1) := (by omega : s.writes ≤ 300000 * (((j + 1 : Nat) : Int) + 1))
        have hzo : ({ s with armed := decide (ii ≥ 0), left := max ii 0 } : DS).size = n := hsz
        generalize ({ s with armed := decide (ii ≥ 0), left := max ii 0 } : DS) = s2 at S2 ka hwo hzo
        generalize ({ r with armed := decide (ii ≥ 0), arm := max ii 0 } : RS) = r2 at S2 kb
        ((conv => whnf); repeat (first | (apply load_at; (conv => lhs; whnf); (with_reducible assumption); rfl; (conv => whnf)) | (apply load_at; (conv => lhs; rw [add_plain, add_plain]); (with_reducible assumption); rfl; (conv => whnf)) | (apply loads_at; (conv => lhs; whnf); (with_reducible assumption); rfl; (conv => whnf)) | (refine ⟨⟨by omega, by omega⟩, ?_⟩; (conv => whnf))))
        refine call_of ka ?_
        rintro v F6 ⟨rfl, E6, H6, T6, L6⟩
        have hB6 := (T6 R eR aRE aRX).1 _ _ hRg
        ((conv => whnf); repeat (first | (apply load_at; (conv => lhs; whnf); (with_reducible assumption); rfl; (conv => whnf)) | (apply load_at; (conv => lhs; rw [add_plain, add_plain]); (with_reducible assumption); rfl; (conv => whnf)) | (apply loads_at; (conv => lhs; whnf); (with_reducible assumption); rfl; (conv => whnf)) | (refine ⟨⟨by omega, by omega⟩, ?_⟩; (conv => whnf))))
        refine call_of (kb F6 E6 H6) ?_
        rintro v F7 ⟨rfl, X7, H7, T7, M7⟩
        obtain ⟨x1, x2, x3⟩ := (T6.trans T7) R eR aRE aRX
        ((conv => whnf); repeat (first | (apply load_at; (conv => lhs; whnf); (with_reducible assumption); rfl; (conv => whnf)) | (apply load_at; (conv => lhs; rw [add_plain, add_plain]); (with_reducible assumption); rfl; (conv => whnf)) | (apply loads_at; (conv => lhs; whnf); (with_reducible assumption); rfl; (conv => whnf)) | (refine ⟨⟨by omega, by omega⟩, ?_⟩; (conv => whnf))))
        refine ⟨k - 1, by omega, j + 1, E6, X7, s2, r2, va, vb, o, e, by omega, ?_, H7, L6, M7, S2, eFR.trans x1, (fun c hc => eFR.none (x2 c hc)), (fun c hc => eFR.none (x3 c hc)), hwo, hzo⟩
        exact Eq.trans (b := [.int .i64 (n : Int), .pointer (some ⟨b, 0, none⟩), .int .i64 e, .pointer (some ⟨xb, 0, none⟩), .int .i64 e, va, vb, .slice (some ad) rs.length c1, .int .i64 (rs.length : Int), .int .i64 (IntKind.i64.wrap ((j : Int) + 1))]) rfl (by rw [hj1])
      clear h
      ((conv => whnf); repeat (first | (apply load_at; (conv => lhs; whnf); (with_reducible assumption); rfl; (conv => whnf)) | (apply load_at; (conv => lhs; rw [add_plain, add_plain]); (with_reducible assumption); rfl; (conv => whnf)) | (apply loads_at; (conv => lhs; whnf); (with_reducible assumption); rfl; (conv => whnf)) | (refine ⟨⟨by omega, by omega⟩, ?_⟩; (conv => whnf))))
      refine cond_split (fun h => ?_) (fun h => ?_)
      · ((conv => whnf); repeat (first | (apply load_at; (conv => lhs; whnf); (with_reducible assumption); rfl; (conv => whnf)) | (apply load_at; (conv => lhs; rw [add_plain, add_plain]); (with_reducible assumption); rfl; (conv => whnf)) | (apply loads_at; (conv => lhs; whnf); (with_reducible assumption); rfl; (conv => whnf)) | (refine ⟨⟨by omega, by omega⟩, ?_⟩; (conv => whnf))))
        refine cond_split (fun h => ?_) (fun h => ?_)
        · have S2 := sim_crash hS hDd.1 keep
          have ka := onD H5 L (fun D hD h1 h2 => crash h1 hD eR (aRE.mono h2) keep KA kc hokR.row (by omega))
          have kb := fun F E (H : Duo F E X) (h : Ext R F) => onX H M (fun D hD h1 h2 => rcrash h1 hD h (aRX.mono h2) keep KA kc hokR.row (by omega))
          have hwo : (crashS s keep).writes ≤ 300000 * (j + 1) := hw
          have hzo : (crashS s keep).size = n := hsz
          generalize crashS s keep = s1 at S2 ka hwo hzo
          generalize rcrashS r keep = r1 at S2 kb
          ((conv => whnf); repeat (first | (apply load_at; (conv => lhs; whnf); (with_reducible assumption); rfl; (conv => whnf)) | (apply load_at; (conv => lhs; rw [add_plain, add_plain]); (with_reducible assumption); rfl; (conv => whnf)) | (apply loads_at; (conv => lhs; whnf); (with_reducible assumption); rfl; (conv => whnf)) | (refine ⟨⟨by omega, by omega⟩, ?_⟩; (conv => whnf))))
          refine call_of ka ?_
          rintro v F6 ⟨rfl, E6, H6, T6, L6⟩
          have y6 := (T6 R eR aRE aRX).1
          have hB6 := y6 _ _ hRg
          ((conv => whnf); repeat (first | (apply load_at; (conv => lhs; whnf); (with_reducible assumption); rfl; (conv => whnf)) | (apply load_at; (conv => lhs; rw [add_plain, add_plain]); (with_reducible assumption); rfl; (conv => whnf)) | (apply loads_at; (conv => lhs; whnf); (with_reducible assumption); rfl; (conv => whnf)) | (refine ⟨⟨by omega, by omega⟩, ?_⟩; (conv => whnf))))
          refine call_of (kb F6 E6 H6 y6) ?_
          rintro v F7 ⟨rfl, X7, H7, T7, M7⟩
          have y7 := ((T6.trans T7) R eR aRE aRX).1
          obtain ⟨D7, hD7, _⟩ := L6.disk
          have hwf7 := hD7.1
          obtain ⟨e2, S3, w2, z2⟩ := sim_open S2 hwf7 (by omega)
          have ka := open_s H7 L6 (hNR.mono y7) (by omega)
          have kb := fun F E (H : Duo F E X7) => ropen_s H M7 (by have := S2.wr; omega)
          rw [← e2] at kb
          have hwo2 : (openS dsO s1).1.writes ≤ 300000 * (((j + 1 : Nat) : Int) + 1) := by omega
          have hzo2 : (openS dsO s1).1.size = n := z2.trans hzo
          clear w2 z2
          generalize openS dsO s1 = o1 at *
          generalize openS rsO r1 = o2 at *
          obtain ⟨s2, eA, oA⟩ := o1
          obtain ⟨r2, eB, oB⟩ := o2
          dsimp only at S3 hwo2 hzo2 ka kb
          ((conv => whnf); repeat (first | (apply load_at; (conv => lhs; whnf); (with_reducible assumption); rfl; (conv => whnf)) | (apply load_at; (conv => lhs; rw [add_plain, add_plain]); (with_reducible assumption); rfl; (conv => whnf)) | (apply loads_at; (conv => lhs; whnf); (with_reducible assumption); rfl; (conv => whnf)) | (refine ⟨⟨by omega, by omega⟩, ?_⟩; (conv => whnf))))
          refine call_of ka ?_
          rintro v F8 ⟨va8, E8, rfl, H8, T8, L8⟩
          ((conv => whnf); repeat (first | (apply load_at; (conv => lhs; whnf); (with_reducible assumption); rfl; (conv => whnf)) | (apply load_at; (conv => lhs; rw [add_plain, add_plain]); (with_reducible assumption); rfl; (conv => whnf)) | (apply loads_at; (conv => lhs; whnf); (with_reducible assumption); rfl; (conv => whnf)) | (refine ⟨⟨by omega, by omega⟩, ?_⟩; (conv => whnf))))
          refine call_of (kb F8 E8 H8) ?_
          rintro v F9 ⟨vb9, X9, rfl, H9, T9, M9⟩
          obtain ⟨x1, x2, x3⟩ := ((T6.trans T7).trans (T8.trans T9)) R eR aRE aRX
          ((conv => whnf); repeat (first | (apply load_at; (conv => lhs; whnf); (with_reducible assumption); rfl; (conv => whnf)) | (apply load_at; (conv => lhs; rw [add_plain, add_plain]); (with_reducible assumption); rfl; (conv => whnf)) | (apply loads_at; (conv => lhs; whnf); (with_reducible assumption); rfl; (conv => whnf)) | (refine ⟨⟨by omega, by omega⟩, ?_⟩; (conv => whnf))))
          refine ⟨k - 1, by omega, j + 1, E8, X9, s2, r2, va8, vb9, oA, eA, by omega, ?_, H9, L8, M9, S3, eFR.trans x1, (fun c hc => eFR.none (x2 c hc)), (fun c hc => eFR.none (x3 c hc)), hwo2, hzo2⟩
          exact Eq.trans (b := [.int .i64 (n : Int), .pointer (some ⟨b, 0, none⟩), .int .i64 eA, .pointer (some ⟨xb, 0, none⟩), .int .i64 eA, va8, vb9, .slice (some ad) rs.length c1, .int .i64 (rs.length : Int), .int .i64 (IntKind.i64.wrap ((j : Int) + 1))]) rfl (by rw [hj1])
        · have hwf7 := hDd.1
          obtain ⟨e2, S2, w2, z2⟩ := sim_open hS hwf7 (by omega)
          have ka := open_s H5 L (hNR.mono eR) (by omega)
          have kb := fun F E (H : Duo F E X) => ropen_s H M (by have := hS.wr; omega)
          rw [← e2] at kb
          have hwo : (openS dsO s).1.writes ≤ 300000 * (((j + 1 : Nat) : Int) + 1) := by omega
          have hzo : (openS dsO s).1.size = n := z2.trans hsz
          clear w2 z2
          generalize openS dsO s = o1 at *
          generalize openS rsO r = o2 at *
          obtain ⟨s2, eA, oA⟩ := o1
          obtain ⟨r2, eB, oB⟩ := o2
          dsimp only at S2 hwo hzo ka kb
          ((conv => whnf); repeat (first | (apply load_at; (conv => lhs; whnf); (with_reducible assumption); rfl; (conv => whnf)) | (apply load_at; (conv => lhs; rw [add_plain, add_plain]); (with_reducible assumption); rfl; (conv => whnf)) | (apply loads_at; (conv => lhs; whnf); (with_reducible assumption); rfl; (conv => whnf)) | (refine ⟨⟨by omega, by omega⟩, ?_⟩; (conv => whnf))))
          refine call_of ka ?_
          rintro v F8 ⟨va8, E8, rfl, H8, T8, L8⟩
          ((conv => whnf); repeat (first | (apply load_at; (conv => lhs; whnf); (with_reducible assumption); rfl; (conv => whnf)) | (apply load_at; (conv => lhs; rw [add_plain, add_plain]); (with_reducible assumption); rfl; (conv => whnf)) | (apply loads_at; (conv => lhs; whnf); (with_reducible assumption); rfl; (conv => whnf)) | (refine ⟨⟨by omega, by omega⟩, ?_⟩; (conv => whnf))))
          refine call_of (kb F8 E8 H8) ?_
          rintro v F9 ⟨vb9, X9, rfl, H9, T9, M9⟩
          obtain ⟨x1, x2, x3⟩ := ((T8.trans T9)) R eR aRE aRX
          ((conv => whnf); repeat (first | (apply load_at; (conv => lhs; whnf); (with_reducible assumption); rfl; (conv => whnf)) | (apply load_at; (conv => lhs; rw [add_plain, add_plain]); (with_reducible assumption); rfl; (conv => whnf)) | (apply loads_at; (conv => lhs; whnf); (with_reducible assumption); rfl; (conv => whnf)) | (refine ⟨⟨by omega, by omega⟩, ?_⟩; (conv => whnf))))
          refine ⟨k - 1, by omega, j + 1, E8, X9, s2, r2, va8, vb9, oA, eA, by omega, ?_, H9, L8, M9, S2, eFR.trans x1, (fun c hc => eFR.none (x2 c hc)), (fun c hc => eFR.none (x3 c hc)), hwo, hzo⟩
          exact Eq.trans (b := [.int .i64 (n : Int), .pointer (some ⟨b, 0, none⟩), .int .i64 eA, .pointer (some ⟨xb, 0, none⟩), .int .i64 eA, va8, vb9, .slice (some ad) rs.length c1, .int .i64 (rs.length : Int), .int .i64 (IntKind.i64.wrap ((j : Int) + 1))]) rfl (by rw [hj1])
      clear h
      cases o with
      | none =>
        have L0 := L
        have M0 := M
        obtain ⟨rfl, _⟩ := L
        obtain ⟨rfl, _⟩ := M
        ((conv => whnf); repeat (first | (apply load_at; (conv => lhs; whnf); (with_reducible assumption); rfl; (conv => whnf)) | (apply load_at; (conv => lhs; rw [add_plain, add_plain]); (with_reducible assumption); rfl; (conv => whnf)) | (apply loads_at; (conv => lhs; whnf); (with_reducible assumption); rfl; (conv => whnf)) | (refine ⟨⟨by omega, by omega⟩, ?_⟩; (conv => whnf))))
        refine ⟨k - 1, by omega, j + 1, E, X, s, r, (.pointer none), (.pointer none), none, e, by omega, ?_, H5, L0, M0, hS, eFR.trans eR, (fun c hc => eFR.none (aRE c hc)), (fun c hc => eFR.none (aRX c hc)), (by omega), hsz⟩
        exact Eq.trans (b := [.int .i64 (n : Int), .pointer (some ⟨b, 0, none⟩), .int .i64 e, .pointer (some ⟨xb, 0, none⟩), .int .i64 e, (.pointer none), (.pointer none), .slice (some ad) rs.length c1, .int .i64 (rs.length : Int), .int .i64 (IntKind.i64.wrap ((j : Int) + 1))]) rfl (by rw [hj1])
      | some q =>
        have L0 := L
        have M0 := M
        obtain ⟨la, rfl, LL⟩ := L
        obtain ⟨lb, rfl, MM⟩ := M
        ((conv => whnf); repeat (first | (apply load_at; (conv => lhs; whnf); (with_reducible assumption); rfl; (conv => whnf)) | (apply load_at; (conv => lhs; rw [add_plain, add_plain]); (with_reducible assumption); rfl; (conv => whnf)) | (apply loads_at; (conv => lhs; whnf); (with_reducible assumption); rfl; (conv => whnf)) | (refine ⟨⟨by omega, by omega⟩, ?_⟩; (conv => whnf))))
        refine cond_split (fun h => ?_) (fun h => ?_)
        · obtain ⟨D1, g1, g2, g3⟩ := LL.disk
          obtain ⟨X1, g4, g5, g6⟩ := MM.disk
          obtain ⟨l1, l2⟩ := sim_load hS ii
          have ka := lgLoad (g2.trans H5.d) g1 (H5.d _ _ g3) (hNR.mono eR) ii
          have kb := fun F (h : Ext F5 F) => rgLoad ((g5.trans H5.x).trans h) g4 (h _ _ (H5.x _ _ g6)) ii
          rw [← l1, ← l2] at kb
          generalize loadE dsO s ii = eL at ka kb
          generalize loadL dsO s ii = lL at ka kb
          ((conv => whnf); repeat (first | (apply load_at; (conv => lhs; whnf); (with_reducible assumption); rfl; (conv => whnf)) | (apply load_at; (conv => lhs; rw [add_plain, add_plain]); (with_reducible assumption); rfl; (conv => whnf)) | (apply loads_at; (conv => lhs; whnf); (with_reducible assumption); rfl; (conv => whnf)) | (refine ⟨⟨by omega, by omega⟩, ?_⟩; (conv => whnf))))
          refine call_of ka ?_
          rintro v F6 ⟨u, rfl, ⟨UA, uc, rfl, _, hu, _⟩, hE6⟩
          have hB6 := hE6 _ _ hB5
          ((conv => whnf); repeat (first | (apply load_at; (conv => lhs; whnf); (with_reducible assumption); rfl; (conv => whnf)) | (apply load_at; (conv => lhs; rw [add_plain, add_plain]); (with_reducible assumption); rfl; (conv => whnf)) | (apply loads_at; (conv => lhs; whnf); (with_reducible assumption); rfl; (conv => whnf)) | (refine ⟨⟨by omega, by omega⟩, ?_⟩; (conv => whnf))))
          refine call_of (kb F6 hE6) ?_
          rintro v F7 ⟨u, rfl, ⟨VA, vc, rfl, _, hv, _⟩, hE7⟩
          have kq := bytesEqual lL lL UA VA uc vc F7 (hu.mono hE7) hv
          rw [beq_self_eq_true] at kq
          obtain ⟨H7, T7⟩ := H5.ext (hE6.trans hE7)
          obtain ⟨x1, x2, x3⟩ := T7 R eR aRE aRX
          ((conv => whnf); repeat (first | (apply load_at; (conv => lhs; whnf); (with_reducible assumption); rfl; (conv => whnf)) | (apply load_at; (conv => lhs; rw [add_plain, add_plain]); (with_reducible assumption); rfl; (conv => whnf)) | (apply loads_at; (conv => lhs; whnf); (with_reducible assumption); rfl; (conv => whnf)) | (refine ⟨⟨by omega, by omega⟩, ?_⟩; (conv => whnf))))
          refine call_of kq ?_
          rintro v F7 ⟨rfl, rfl⟩
          refine short [5, 6, 7, 8, 9, 10, 11, 15, 17, 81, 82, 83, 197] [.int .i64 (n : Int), .pointer (some ⟨b, 0, none⟩), .int .i64 e, .pointer (some ⟨xb, 0, none⟩), .int .i64 e, .pointer (some ⟨la, 0, none⟩), .pointer (some ⟨lb, 0, none⟩), .int .i64 eL, .int .i64 eL, .slice (some ad) rs.length c1, .int .i64 (rs.length : Int), .int .i64 (j : Int), .bool true] rfl fun ρ => ?_
          ((conv => whnf); repeat (first | (apply load_at; (conv => lhs; whnf); (with_reducible assumption); rfl; (conv => whnf)) | (apply load_at; (conv => lhs; rw [add_plain, add_plain]); (with_reducible assumption); rfl; (conv => whnf)) | (apply loads_at; (conv => lhs; whnf); (with_reducible assumption); rfl; (conv => whnf)) | (refine ⟨⟨by omega, by omega⟩, ?_⟩; (conv => whnf))))
          refine cond_split (fun h_ => absurd h_ (by simp)) (fun h => ?_)
          ((conv => whnf); repeat (first | (apply load_at; (conv => lhs; whnf); (with_reducible assumption); rfl; (conv => whnf)) | (apply load_at; (conv => lhs; rw [add_plain, add_plain]); (with_reducible assumption); rfl; (conv => whnf)) | (apply loads_at; (conv => lhs; whnf); (with_reducible assumption); rfl; (conv => whnf)) | (refine ⟨⟨by omega, by omega⟩, ?_⟩; (conv => whnf))))
          refine ⟨k - 1, by omega, j + 1, E, X, s, r, (.pointer (some ⟨la, 0, none⟩)), (.pointer (some ⟨lb, 0, none⟩)), (some q), e, by omega, ?_, H7, L0, M0, hS, eFR.trans x1, (fun c hc => eFR.none (x2 c hc)), (fun c hc => eFR.none (x3 c hc)), (by omega), hsz⟩
          exact Eq.trans (b := [.int .i64 (n : Int), .pointer (some ⟨b, 0, none⟩), .int .i64 e, .pointer (some ⟨xb, 0, none⟩), .int .i64 e, (.pointer (some ⟨la, 0, none⟩)), (.pointer (some ⟨lb, 0, none⟩)), .slice (some ad) rs.length c1, .int .i64 (rs.length : Int), .int .i64 (IntKind.i64.wrap ((j : Int) + 1))]) rfl (by rw [hj1])
        clear h
        have hDw := hDd.1
        obtain ⟨e2, S2, w2, z2⟩ := sim_commit hS hDw q (imgS x pgs) (by omega) (by unfold imgS; rw [List.length_map]; omega)
        have hwo : (commitS dsO s q (imgS x pgs)).1.writes ≤ 300000 * (((j + 1 : Nat) : Int) + 1) := by omega
        have hzo := z2.trans hsz
        have ka := fun F R6 hE hR hA hN ims A c hr hp => lgCommit (E := E) (F := F) (R := R6) (b := b) (lb := la) (s := s) (q := q) hE LL hR hA hN ims A c hr hp (by omega)
        have kb := fun F R6 hE hR hA ims A c hr hp => rgCommit (E := X) (F := F) (R := R6) (b := xb) (lb := lb) (r := r) (q := q) hE MM hR hA ims A c hr hp (by have := hS.wr; omega)
        have ki := fun F h => images6 ⟨op, ii, x, pgs, P, pc, keep, KA, kc⟩ F h (by show pgs.length ≤ 1000; omega)
        have him : (imgS x pgs).length = pgs.length := by unfold imgS; rw [List.length_map]
        clear w2 z2
        generalize imgS x pgs = iS at *
        ((conv => whnf); repeat (first | (apply load_at; (conv => lhs; whnf); (with_reducible assumption); rfl; (conv => whnf)) | (apply load_at; (conv => lhs; rw [add_plain, add_plain]); (with_reducible assumption); rfl; (conv => whnf)) | (apply loads_at; (conv => lhs; whnf); (with_reducible assumption); rfl; (conv => whnf)) | (refine ⟨⟨by omega, by omega⟩, ?_⟩; (conv => whnf))))
        refine draw_tree_at tab_ok (by kernel_rfl) [1, 5] (DT.row [0, 1, 4, 5, 2, 3, 6, 7, 8] .nil) (by kernel_rfl) R eR ?_
        ((conv => whnf); repeat (first | (apply load_at; (conv => lhs; whnf); (with_reducible assumption); rfl; (conv => whnf)) | (apply load_at; (conv => lhs; rw [add_plain, add_plain]); (with_reducible assumption); rfl; (conv => whnf)) | (apply loads_at; (conv => lhs; whnf); (with_reducible assumption); rfl; (conv => whnf)) | (refine ⟨⟨by omega, by omega⟩, ?_⟩; (conv => whnf))))
        refine call_of (ki F5 (hokR.pgs.mono eR)) ?_
        rintro v F6 ⟨⟨ps, B, bc, rfl, hr, hf, hps, hpe⟩, hE6⟩
        replace hpe : ps.map pcW = iS := hpe
        obtain ⟨H6, T6⟩ := H5.ext hE6
        obtain ⟨r1, r2, r3⟩ := side_gain H5.d eR aRE hE6
        have kc1 := ka F6 (gain R F5 F6) H6.d r1 r2 (hNR.mono r3) ps B bc (rowAt_gain hr hf) (fun p hp => ⟨rowAt_gain (hps p hp).1.row (hps p hp).2, (hps p hp).1.len⟩) (by have := congrArg List.length hpe; rw [List.length_map] at this; omega)
        rw [hpe] at kc1
        refine ⟨eR.trans hE6, ?_⟩
        ((conv => whnf); repeat (first | (apply load_at; (conv => lhs; whnf); (with_reducible assumption); rfl; (conv => whnf)) | (apply load_at; (conv => lhs; rw [add_plain, add_plain]); (with_reducible assumption); rfl; (conv => whnf)) | (apply loads_at; (conv => lhs; whnf); (with_reducible assumption); rfl; (conv => whnf)) | (refine ⟨⟨by omega, by omega⟩, ?_⟩; (conv => whnf))))
        refine call_of kc1 ?_
        rintro v F7 ⟨rfl, E7, hM7, hL7⟩
        obtain ⟨H7, T7⟩ := H6.onD hM7
        obtain ⟨y1, y2, y3⟩ := (T6.trans T7) R eR aRE aRX
        refine ⟨y1, ?_⟩
        ((conv => whnf); repeat (first | (apply load_at; (conv => lhs; whnf); (with_reducible assumption); rfl; (conv => whnf)) | (apply load_at; (conv => lhs; rw [add_plain, add_plain]); (with_reducible assumption); rfl; (conv => whnf)) | (apply loads_at; (conv => lhs; whnf); (with_reducible assumption); rfl; (conv => whnf)) | (refine ⟨⟨by omega, by omega⟩, ?_⟩; (conv => whnf))))
        refine call_of (ki F7 (hokR.pgs.mono y1)) ?_
        rintro v F8 ⟨⟨ps2, B2, bc2, rfl, hr2, hf2, hps2, hpe2⟩, hE8⟩
        replace hpe2 : ps2.map pcW = iS := hpe2
        obtain ⟨H8, T8⟩ := H7.ext hE8
        obtain ⟨u1, u2, u3⟩ := side_gain H7.x y1 y3 hE8
        have kc2 := kb F8 (gain R F7 F8) H8.x u1 u2 ps2 B2 bc2 (rowAt_gain hr2 hf2) (fun p hp => ⟨rowAt_gain (hps2 p hp).1.row (hps2 p hp).2, (hps2 p hp).1.len⟩) (by have := congrArg List.length hpe2; rw [List.length_map] at this; omega)
        rw [hpe2, ← e2] at kc2
        refine ⟨y1.trans hE8, ?_⟩
        ((conv => whnf); repeat (first | (apply load_at; (conv => lhs; whnf); (with_reducible assumption); rfl; (conv => whnf)) | (apply load_at; (conv => lhs; rw [add_plain, add_plain]); (with_reducible assumption); rfl; (conv => whnf)) | (apply loads_at; (conv => lhs; whnf); (with_reducible assumption); rfl; (conv => whnf)) | (refine ⟨⟨by omega, by omega⟩, ?_⟩; (conv => whnf))))
        refine call_of kc2 ?_
        rintro v F9 ⟨rfl, X9, hM9, hL9⟩
        obtain ⟨H9, T9⟩ := H8.onX hM9
        obtain ⟨x1, x2, x3⟩ := (T6.trans (T7.trans (T8.trans T9))) R eR aRE aRX
        refine ⟨x1, ?_⟩
        ((conv => whnf); repeat (first | (apply load_at; (conv => lhs; whnf); (with_reducible assumption); rfl; (conv => whnf)) | (apply load_at; (conv => lhs; rw [add_plain, add_plain]); (with_reducible assumption); rfl; (conv => whnf)) | (apply loads_at; (conv => lhs; whnf); (with_reducible assumption); rfl; (conv => whnf)) | (refine ⟨⟨by omega, by omega⟩, ?_⟩; (conv => whnf))))
        refine cond_split (fun h_ => absurd h_ (by simp)) (fun h => ?_)
        ((conv => whnf); repeat (first | (apply load_at; (conv => lhs; whnf); (with_reducible assumption); rfl; (conv => whnf)) | (apply load_at; (conv => lhs; rw [add_plain, add_plain]); (with_reducible assumption); rfl; (conv => whnf)) | (apply loads_at; (conv => lhs; whnf); (with_reducible assumption); rfl; (conv => whnf)) | (refine ⟨⟨by omega, by omega⟩, ?_⟩; (conv => whnf))))
        refine ⟨k - 1, by omega, j + 1, E7, X9, _, _, (.pointer (some ⟨la, 0, none⟩)), (.pointer (some ⟨lb, 0, none⟩)), (some _), e, by omega, ?_, H9, ⟨la, rfl, hL7⟩, ⟨lb, rfl, hL9⟩, S2, eFR.trans x1, (fun c hc => eFR.none (x2 c hc)), (fun c hc => eFR.none (x3 c hc)), hwo, hzo⟩
        exact Eq.trans (b := [.int .i64 (n : Int), .pointer (some ⟨b, 0, none⟩), .int .i64 e, .pointer (some ⟨xb, 0, none⟩), .int .i64 e, (.pointer (some ⟨la, 0, none⟩)), (.pointer (some ⟨lb, 0, none⟩)), .slice (some ad) rs.length c1, .int .i64 (rs.length : Int), .int .i64 (IntKind.i64.wrap ((j : Int) + 1))]) rfl (by rw [hj1])
  · clear h
    obtain ⟨Dd, hDd, hDE, _⟩ := L.disk
    obtain ⟨Xd, hXd, hXE, _⟩ := M.disk
    have hDF := hDE.trans H.d
    have hXF := hXE.trans H.x
    cases o with
    | none =>
      obtain ⟨rfl, _⟩ := L
      obtain ⟨rfl, _⟩ := M
      ((conv => whnf); repeat (first | (apply load_at; (conv => lhs; whnf); (with_reducible assumption); rfl; (conv => whnf)) | (apply load_at; (conv => lhs; rw [add_plain, add_plain]); (with_reducible assumption); rfl; (conv => whnf)) | (apply loads_at; (conv => lhs; whnf); (with_reducible assumption); rfl; (conv => whnf)) | (refine ⟨⟨by omega, by omega⟩, ?_⟩; (conv => whnf))))
      (refine cond_split (fun _ => ?_) (fun h_ => absurd h_ (by simp)); (conv => whnf))
      ((conv => whnf); repeat (first | (apply load_at; (conv => lhs; whnf); (with_reducible assumption); rfl; (conv => whnf)) | (apply load_at; (conv => lhs; rw [add_plain, add_plain]); (with_reducible assumption); rfl; (conv => whnf)) | (apply loads_at; (conv => lhs; whnf); (with_reducible assumption); rfl; (conv => whnf)) | (refine ⟨⟨by omega, by omega⟩, ?_⟩; (conv => whnf))))
      refine loop_slots [6, 8, 215, 216] (fun k vs F' => ∃ i : Nat, i + k = n ∧ vs = [.pointer (some ⟨b, 0, none⟩), .pointer (some ⟨xb, 0, none⟩), .int .i64 (n : Int), .int .i64 (i : Int)] ∧ Ext F4 F') n ⟨0, by omega, rfl, Ext.refl _⟩ ?_
      rintro k2 vs F5 ρ2 ⟨i, hik, rfl, hE5⟩
      ((conv => whnf); repeat (first | (apply load_at; (conv => lhs; whnf); (with_reducible assumption); rfl; (conv => whnf)) | (apply load_at; (conv => lhs; rw [add_plain, add_plain]); (with_reducible assumption); rfl; (conv => whnf)) | (apply loads_at; (conv => lhs; whnf); (with_reducible assumption); rfl; (conv => whnf)) | (refine ⟨⟨by omega, by omega⟩, ?_⟩; (conv => whnf))))
      refine cond_split (fun h => ?_) (fun h => ?_)
      · have hi : i < n := by have := of_decide_eq_true h; omega
        have ka := Go.Proofs.YtmpiggcooboenaaDoor.Al.read (hDF.trans hE5) hDd (i : Int)
        have kb := fun F (h : Ext F5 F) => rread ((hXF.trans hE5).trans h) hXd (i : Int)
        obtain ⟨l1, l2⟩ := sim_read hS (i : Int)
        rw [← l1, ← l2] at kb
        generalize readE s (i : Int) = eL at ka kb
        generalize readL s (i : Int) = lL at ka kb
        ((conv => whnf); repeat (first | (apply load_at; (conv => lhs; whnf); (with_reducible assumption); rfl; (conv => whnf)) | (apply load_at; (conv => lhs; rw [add_plain, add_plain]); (with_reducible assumption); rfl; (conv => whnf)) | (apply loads_at; (conv => lhs; whnf); (with_reducible assumption); rfl; (conv => whnf)) | (refine ⟨⟨by omega, by omega⟩, ?_⟩; (conv => whnf))))
        refine call_of ka ?_
        rintro v F6 ⟨u, rfl, ⟨UA, uc, rfl, _, hu, _⟩, hE6⟩
        ((conv => whnf); repeat (first | (apply load_at; (conv => lhs; whnf); (with_reducible assumption); rfl; (conv => whnf)) | (apply load_at; (conv => lhs; rw [add_plain, add_plain]); (with_reducible assumption); rfl; (conv => whnf)) | (apply loads_at; (conv => lhs; whnf); (with_reducible assumption); rfl; (conv => whnf)) | (refine ⟨⟨by omega, by omega⟩, ?_⟩; (conv => whnf))))
        refine call_of (kb F6 hE6) ?_
        rintro v F7 ⟨u, rfl, ⟨VA, vc, rfl, _, hv, _⟩, hE7⟩
        have kq := bytesEqual lL lL UA VA uc vc F7 (hu.mono hE7) hv
        rw [beq_self_eq_true] at kq
        ((conv => whnf); repeat (first | (apply load_at; (conv => lhs; whnf); (with_reducible assumption); rfl; (conv => whnf)) | (apply load_at; (conv => lhs; rw [add_plain, add_plain]); (with_reducible assumption); rfl; (conv => whnf)) | (apply loads_at; (conv => lhs; whnf); (with_reducible assumption); rfl; (conv => whnf)) | (refine ⟨⟨by omega, by omega⟩, ?_⟩; (conv => whnf))))
        refine call_of kq ?_
        rintro v F7 ⟨rfl, rfl⟩
        refine short [6, 8, 20, 22, 215, 216, 233] [.pointer (some ⟨b, 0, none⟩), .pointer (some ⟨xb, 0, none⟩), .int .i64 eL, .int .i64 eL, .int .i64 (n : Int), .int .i64 (i : Int), .bool true] rfl fun ρ => ?_
        ((conv => whnf); repeat (first | (apply load_at; (conv => lhs; whnf); (with_reducible assumption); rfl; (conv => whnf)) | (apply load_at; (conv => lhs; rw [add_plain, add_plain]); (with_reducible assumption); rfl; (conv => whnf)) | (apply loads_at; (conv => lhs; whnf); (with_reducible assumption); rfl; (conv => whnf)) | (refine ⟨⟨by omega, by omega⟩, ?_⟩; (conv => whnf))))
        refine cond_split (fun h_ => absurd h_ (by simp)) (fun h => ?_)
        ((conv => whnf); repeat (first | (apply load_at; (conv => lhs; whnf); (with_reducible assumption); rfl; (conv => whnf)) | (apply load_at; (conv => lhs; rw [add_plain, add_plain]); (with_reducible assumption); rfl; (conv => whnf)) | (apply loads_at; (conv => lhs; whnf); (with_reducible assumption); rfl; (conv => whnf)) | (refine ⟨⟨by omega, by omega⟩, ?_⟩; (conv => whnf))))
        refine ⟨k2 - 1, by omega, i + 1, by omega, ?_, hE5.trans (hE6.trans hE7)⟩
        exact Eq.trans (b := [.pointer (some ⟨b, 0, none⟩), .pointer (some ⟨xb, 0, none⟩), .int .i64 (n : Int), .int .i64 (IntKind.i64.wrap ((i : Int) + 1))]) rfl (by rw [wrap_succ (j := i) (by omega)])
      · ((conv => whnf); repeat (first | (apply load_at; (conv => lhs; whnf); (with_reducible assumption); rfl; (conv => whnf)) | (apply load_at; (conv => lhs; rw [add_plain, add_plain]); (with_reducible assumption); rfl; (conv => whnf)) | (apply loads_at; (conv => lhs; whnf); (with_reducible assumption); rfl; (conv => whnf)) | (refine ⟨⟨by omega, by omega⟩, ?_⟩; (conv => whnf))))
        refine call_of (out F5 (hE.trans hE5)) ?_
        rintro v F9 ⟨rfl, hF9⟩
        ((conv => whnf); repeat (first | (apply load_at; (conv => lhs; whnf); (with_reducible assumption); rfl; (conv => whnf)) | (apply load_at; (conv => lhs; rw [add_plain, add_plain]); (with_reducible assumption); rfl; (conv => whnf)) | (apply loads_at; (conv => lhs; whnf); (with_reducible assumption); rfl; (conv => whnf)) | (refine ⟨⟨by omega, by omega⟩, ?_⟩; (conv => whnf))))
        exact ⟨rfl, hF9⟩
    | some q =>
      obtain ⟨la, rfl, _⟩ := L
      obtain ⟨lb, rfl, _⟩ := M
      ((conv => whnf); repeat (first | (apply load_at; (conv => lhs; whnf); (with_reducible assumption); rfl; (conv => whnf)) | (apply load_at; (conv => lhs; rw [add_plain, add_plain]); (with_reducible assumption); rfl; (conv => whnf)) | (apply loads_at; (conv => lhs; whnf); (with_reducible assumption); rfl; (conv => whnf)) | (refine ⟨⟨by omega, by omega⟩, ?_⟩; (conv => whnf))))
      (refine cond_split (fun _ => ?_) (fun h_ => absurd h_ (by simp)); (conv => whnf))
      ((conv => whnf); repeat (first | (apply load_at; (conv => lhs; whnf); (with_reducible assumption); rfl; (conv => whnf)) | (apply load_at; (conv => lhs; rw [add_plain, add_plain]); (with_reducible assumption); rfl; (conv => whnf)) | (apply loads_at; (conv => lhs; whnf); (with_reducible assumption); rfl; (conv => whnf)) | (refine ⟨⟨by omega, by omega⟩, ?_⟩; (conv => whnf))))
      refine loop_slots [6, 8, 215, 216] (fun k vs F' => ∃ i : Nat, i + k = n ∧ vs = [.pointer (some ⟨b, 0, none⟩), .pointer (some ⟨xb, 0, none⟩), .int .i64 (n : Int), .int .i64 (i : Int)] ∧ Ext F4 F') n ⟨0, by omega, rfl, Ext.refl _⟩ ?_
      rintro k2 vs F5 ρ2 ⟨i, hik, rfl, hE5⟩
      ((conv => whnf); repeat (first | (apply load_at; (conv => lhs; whnf); (with_reducible assumption); rfl; (conv => whnf)) | (apply load_at; (conv => lhs; rw [add_plain, add_plain]); (with_reducible assumption); rfl; (conv => whnf)) | (apply loads_at; (conv => lhs; whnf); (with_reducible assumption); rfl; (conv => whnf)) | (refine ⟨⟨by omega, by omega⟩, ?_⟩; (conv => whnf))))
      refine cond_split (fun h => ?_) (fun h => ?_)
      · have hi : i < n := by have := of_decide_eq_true h; omega
        have ka := Go.Proofs.YtmpiggcooboenaaDoor.Al.read (hDF.trans hE5) hDd (i : Int)
        have kb := fun F (h : Ext F5 F) => rread ((hXF.trans hE5).trans h) hXd (i : Int)
        obtain ⟨l1, l2⟩ := sim_read hS (i : Int)
        rw [← l1, ← l2] at kb
        generalize readE s (i : Int) = eL at ka kb
        generalize readL s (i : Int) = lL at ka kb
        ((conv => whnf); repeat (first | (apply load_at; (conv => lhs; whnf); (with_reducible assumption); rfl; (conv => whnf)) | (apply load_at; (conv => lhs; rw [add_plain, add_plain]); (with_reducible assumption); rfl; (conv => whnf)) | (apply loads_at; (conv => lhs; whnf); (with_reducible assumption); rfl; (conv => whnf)) | (refine ⟨⟨by omega, by omega⟩, ?_⟩; (conv => whnf))))
        refine call_of ka ?_
        rintro v F6 ⟨u, rfl, ⟨UA, uc, rfl, _, hu, _⟩, hE6⟩
        ((conv => whnf); repeat (first | (apply load_at; (conv => lhs; whnf); (with_reducible assumption); rfl; (conv => whnf)) | (apply load_at; (conv => lhs; rw [add_plain, add_plain]); (with_reducible assumption); rfl; (conv => whnf)) | (apply loads_at; (conv => lhs; whnf); (with_reducible assumption); rfl; (conv => whnf)) | (refine ⟨⟨by omega, by omega⟩, ?_⟩; (conv => whnf))))
        refine call_of (kb F6 hE6) ?_
        rintro v F7 ⟨u, rfl, ⟨VA, vc, rfl, _, hv, _⟩, hE7⟩
        have kq := bytesEqual lL lL UA VA uc vc F7 (hu.mono hE7) hv
        rw [beq_self_eq_true] at kq
        ((conv => whnf); repeat (first | (apply load_at; (conv => lhs; whnf); (with_reducible assumption); rfl; (conv => whnf)) | (apply load_at; (conv => lhs; rw [add_plain, add_plain]); (with_reducible assumption); rfl; (conv => whnf)) | (apply loads_at; (conv => lhs; whnf); (with_reducible assumption); rfl; (conv => whnf)) | (refine ⟨⟨by omega, by omega⟩, ?_⟩; (conv => whnf))))
        refine call_of kq ?_
        rintro v F7 ⟨rfl, rfl⟩
        refine short [6, 8, 20, 22, 215, 216, 233] [.pointer (some ⟨b, 0, none⟩), .pointer (some ⟨xb, 0, none⟩), .int .i64 eL, .int .i64 eL, .int .i64 (n : Int), .int .i64 (i : Int), .bool true] rfl fun ρ => ?_
        ((conv => whnf); repeat (first | (apply load_at; (conv => lhs; whnf); (with_reducible assumption); rfl; (conv => whnf)) | (apply load_at; (conv => lhs; rw [add_plain, add_plain]); (with_reducible assumption); rfl; (conv => whnf)) | (apply loads_at; (conv => lhs; whnf); (with_reducible assumption); rfl; (conv => whnf)) | (refine ⟨⟨by omega, by omega⟩, ?_⟩; (conv => whnf))))
        refine cond_split (fun h_ => absurd h_ (by simp)) (fun h => ?_)
        ((conv => whnf); repeat (first | (apply load_at; (conv => lhs; whnf); (with_reducible assumption); rfl; (conv => whnf)) | (apply load_at; (conv => lhs; rw [add_plain, add_plain]); (with_reducible assumption); rfl; (conv => whnf)) | (apply loads_at; (conv => lhs; whnf); (with_reducible assumption); rfl; (conv => whnf)) | (refine ⟨⟨by omega, by omega⟩, ?_⟩; (conv => whnf))))
        refine ⟨k2 - 1, by omega, i + 1, by omega, ?_, hE5.trans (hE6.trans hE7)⟩
        exact Eq.trans (b := [.pointer (some ⟨b, 0, none⟩), .pointer (some ⟨xb, 0, none⟩), .int .i64 (n : Int), .int .i64 (IntKind.i64.wrap ((i : Int) + 1))]) rfl (by rw [wrap_succ (j := i) (by omega)])
      · ((conv => whnf); repeat (first | (apply load_at; (conv => lhs; whnf); (with_reducible assumption); rfl; (conv => whnf)) | (apply load_at; (conv => lhs; rw [add_plain, add_plain]); (with_reducible assumption); rfl; (conv => whnf)) | (apply loads_at; (conv => lhs; whnf); (with_reducible assumption); rfl; (conv => whnf)) | (refine ⟨⟨by omega, by omega⟩, ?_⟩; (conv => whnf))))
        refine call_of (out F5 (hE.trans hE5)) ?_
        rintro v F9 ⟨rfl, hF9⟩
        ((conv => whnf); repeat (first | (apply load_at; (conv => lhs; whnf); (with_reducible assumption); rfl; (conv => whnf)) | (apply load_at; (conv => lhs; rw [add_plain, add_plain]); (with_reducible assumption); rfl; (conv => whnf)) | (apply loads_at; (conv => lhs; whnf); (with_reducible assumption); rfl; (conv => whnf)) | (refine ⟨⟨by omega, by omega⟩, ?_⟩; (conv => whnf))))
        exact ⟨rfl, hF9⟩
end Go.Proofs.YtmpiggcooboenaaDoor.AlRedoLives
