/- The law PagerAborts holds of the program: proved over what is known of memory, each function by its contract. -/
import Derived.Test.YtmpiggcooboenaaGreatDoorMgPagerAbortsLaw
import Derived.Test.YtmpiggcooboenaaGreatDoorMgPag1
import Derived.Test.YtmpiggcooboenaaGreatDoorMgPag2
import Derived.Test.YtmpiggcooboenaaGreatDoorMgPag3
import Derived.Test.YtmpiggcooboenaaGreatDoorMgPag4
import Derived.Test.YtmpiggcooboenaaGreatDoorMgPag5
import Derived.Test.YtmpiggcooboenaaGreatDoorMgPag6
namespace Go.Proofs.YtmpiggcooboenaaGreatDoor.AlPagerAborts
open Go Go.Al Go.Proofs Go.RowKit Go.Proofs.YtmpiggcooboenaaGreatDoor.Al
set_option maxHeartbeats 8000000
set_option maxRecDepth 100000
set_option linter.unusedVariables false
set_option linter.unusedSimpArgs false
theorem law : LawK := by
  intro F hN x0 w0 A0 c0 hc0 hK0 x1 w1 A1 c1 hc1 hK1
  obtain ⟨rs, hrl, hrow⟩ := po_open w0.2 hK0
  obtain ⟨ts, htl, htrow⟩ := po_open w1.2 hK1
  rw [← hrl, ← htl]
  clear hK0 hK1 w0 w1 hc0 hc1 hrl htl
  have out : ∀ F', Ext F F' → FnK Tryz.prog 7 #[] F' (fun v F' => v = .bool true ∧ Ext F F') := fun F' hF' => (awake7 F' (hN.mono hF')).mono fun v G h => ⟨h.1, hF'.trans h.2⟩
  have kf := fresh7 (n := 33) (by decide) (by decide) F hN
  (refine fn_walk tab_ok Tryz.func3 rfl rfl rfl rfl ?_; (conv => whnf))
  refine call_of kf ?_
  rintro v F2 ⟨pb, xb, D, X, s, r, rfl, E2, H2, aD, aX, P2, R2, hS, ff⟩
  refine short [0, 1, 16] [.slice A0 rs.length c0, .slice A1 ts.length c1, .tuple #[.pointer (some ⟨pb, 0, none⟩), .pointer (some ⟨xb, 0, none⟩)]] rfl fun ρ => ?_
  ((conv => whnf); repeat (first | (apply load_at; (conv => lhs; whnf); (with_reducible assumption); rfl; (conv => whnf)) | (apply load_at; (conv => lhs; rw [add_plain, add_plain]); (with_reducible assumption); rfl; (conv => whnf)) | (apply loads_at; (conv => lhs; whnf); (with_reducible assumption); rfl; (conv => whnf)) | (refine ⟨⟨by omega, by omega⟩, ?_⟩; (conv => whnf))))
  cases hd : decide ((rs.length : Int) > 40) with
  | true =>
    ((conv => whnf); repeat (first | (apply load_at; (conv => lhs; whnf); (with_reducible assumption); rfl; (conv => whnf)) | (apply load_at; (conv => lhs; rw [add_plain, add_plain]); (with_reducible assumption); rfl; (conv => whnf)) | (apply loads_at; (conv => lhs; whnf); (with_reducible assumption); rfl; (conv => whnf)) | (refine ⟨⟨by omega, by omega⟩, ?_⟩; (conv => whnf))))
    refine call_of (out F2 E2) ?_
    rintro v F9 ⟨rfl, hE⟩
    ((conv => whnf); repeat (first | (apply load_at; (conv => lhs; whnf); (with_reducible assumption); rfl; (conv => whnf)) | (apply load_at; (conv => lhs; rw [add_plain, add_plain]); (with_reducible assumption); rfl; (conv => whnf)) | (apply loads_at; (conv => lhs; whnf); (with_reducible assumption); rfl; (conv => whnf)) | (refine ⟨⟨by omega, by omega⟩, ?_⟩; (conv => whnf))))
    exact ⟨rfl, hE⟩
  | false =>
  have hrsl := of_decide_eq_false hd
  ((conv => whnf); repeat (first | (apply load_at; (conv => lhs; whnf); (with_reducible assumption); rfl; (conv => whnf)) | (apply load_at; (conv => lhs; rw [add_plain, add_plain]); (with_reducible assumption); rfl; (conv => whnf)) | (apply loads_at; (conv => lhs; whnf); (with_reducible assumption); rfl; (conv => whnf)) | (refine ⟨⟨by omega, by omega⟩, ?_⟩; (conv => whnf))))
  refine cond_split (fun h => ?_) (fun h => ?_)
  · ((conv => whnf); repeat (first | (apply load_at; (conv => lhs; whnf); (with_reducible assumption); rfl; (conv => whnf)) | (apply load_at; (conv => lhs; rw [add_plain, add_plain]); (with_reducible assumption); rfl; (conv => whnf)) | (apply loads_at; (conv => lhs; whnf); (with_reducible assumption); rfl; (conv => whnf)) | (refine ⟨⟨by omega, by omega⟩, ?_⟩; (conv => whnf))))
    refine call_of (out F2 E2) ?_
    rintro v F9 ⟨rfl, hE⟩
    ((conv => whnf); repeat (first | (apply load_at; (conv => lhs; whnf); (with_reducible assumption); rfl; (conv => whnf)) | (apply load_at; (conv => lhs; rw [add_plain, add_plain]); (with_reducible assumption); rfl; (conv => whnf)) | (apply loads_at; (conv => lhs; whnf); (with_reducible assumption); rfl; (conv => whnf)) | (refine ⟨⟨by omega, by omega⟩, ?_⟩; (conv => whnf))))
    exact ⟨rfl, hE⟩
  have htsl := of_decide_eq_false (show decide ((ts.length : Int) > 40) = false from h)
  clear h hd
  refine short [0, 1, 5] [.slice A0 rs.length c0, .slice A1 ts.length c1, .pointer (some ⟨pb, 0, none⟩)] rfl fun ρ => ?_
  ((conv => whnf); repeat (first | (apply load_at; (conv => lhs; whnf); (with_reducible assumption); rfl; (conv => whnf)) | (apply load_at; (conv => lhs; rw [add_plain, add_plain]); (with_reducible assumption); rfl; (conv => whnf)) | (apply loads_at; (conv => lhs; whnf); (with_reducible assumption); rfl; (conv => whnf)) | (refine ⟨⟨by omega, by omega⟩, ?_⟩; (conv => whnf))))
  refine new_step (.cells (bytesOf (List.replicate 16 0)).toArray 28) rfl fun w h0_w => ?_
  have hE_w := Ext.new h0_w (.cells (bytesOf (List.replicate 16 0)).toArray 28)
  have hB_w := Heap.put_same F2 w (.cells (bytesOf (List.replicate 16 0)).toArray 28)
  generalize F2.put w _ = F3 at hE_w hB_w ⊢
  ((conv => whnf); repeat (first | (apply load_at; (conv => lhs; whnf); (with_reducible assumption); rfl; (conv => whnf)) | (apply load_at; (conv => lhs; rw [add_plain, add_plain]); (with_reducible assumption); rfl; (conv => whnf)) | (apply loads_at; (conv => lhs; whnf); (with_reducible assumption); rfl; (conv => whnf)) | (refine ⟨⟨by omega, by omega⟩, ?_⟩; (conv => whnf))))
  have E3 := E2.trans hE_w
  refine loop_slots [1, 5, 7, 36, 37, 38] (fun k vs F' => ∃ (j : Nat) (D : Heap) (S : PgL) (wl : List UInt8), j + k = rs.length ∧ vs = [.slice A1 ts.length c1, .pointer (some ⟨pb, 0, none⟩), .pointer (some ⟨w, 0, none⟩), .slice A0 rs.length c0, .int .i64 (rs.length : Int), .int .i64 (j : Int)] ∧ Ext D F' ∧ Pg D pb s 1 S ∧ Ext F F' ∧ Apart D F ∧ WantR S wl ∧ F' w = some (.cells (bytesOf wl).toArray 28) ∧ D w = none ∧ S.length ≤ j) rs.length ⟨0, D, [], List.replicate 16 0, by omega, rfl, H2.d.trans hE_w, P2, E3, aD, WantR.nil, hB_w, H2.d.none h0_w, Nat.le_refl 0⟩ ?_
  clear H2 P2 R2 hS aD aX hB_w E3
  rintro k vs F4 ρ1 ⟨j, D, S, wl, hjk, rfl, hDF, P4, E4, aD, hW, hB4, hDw, hSl⟩
  ((conv => whnf); repeat (first | (apply load_at; (conv => lhs; whnf); (with_reducible assumption); rfl; (conv => whnf)) | (apply load_at; (conv => lhs; rw [add_plain, add_plain]); (with_reducible assumption); rfl; (conv => whnf)) | (apply loads_at; (conv => lhs; whnf); (with_reducible assumption); rfl; (conv => whnf)) | (refine ⟨⟨by omega, by omega⟩, ?_⟩; (conv => whnf))))
  refine cond_split (fun h => ?_) (fun h => ?_)
  · have hj : j < rs.length := by
      have h : decide ((j : Int) < (rs.length : Int)) = true := h
      have := of_decide_eq_true h
      omega
    clear h
    obtain ⟨ad, rfl⟩ := hrow.some (by rw [rowS_len poC_len]; omega)
    obtain ⟨⟨op, ii, x⟩, hx⟩ : ∃ x, rs[j]? = some x := ⟨_, List.getElem?_eq_getElem hj⟩
    ((conv => whnf); repeat (first | (apply load_at; (conv => lhs; whnf); (with_reducible assumption); rfl; (conv => whnf)) | (apply load_at; (conv => lhs; rw [add_plain, add_plain]); (with_reducible assumption); rfl; (conv => whnf)) | (apply loads_at; (conv => lhs; whnf); (with_reducible assumption); rfl; (conv => whnf)) | (refine ⟨⟨by omega, by omega⟩, ?_⟩; (conv => whnf))))
    refine rowS_loads poC_len (by decide) (hrow.mono E4) hx ?_
    ((conv => whnf); repeat (first | (apply load_at; (conv => lhs; whnf); (with_reducible assumption); rfl; (conv => whnf)) | (apply load_at; (conv => lhs; rw [add_plain, add_plain]); (with_reducible assumption); rfl; (conv => whnf)) | (apply loads_at; (conv => lhs; whnf); (with_reducible assumption); rfl; (conv => whnf)) | (refine ⟨⟨by omega, by omega⟩, ?_⟩; (conv => whnf))))
    refine new_step (poZ) rfl fun g h0_g => ?_
    have hU_g := Heap.put_same F4 g (poZ)
    have hX_g := fun o => (ext_put_put h0_g (o := poZ) (o' := o))
    generalize F4.put g (poZ) = F5 at hU_g hX_g ⊢
    (conv => whnf)
    refine store_step g 0 _ (#[.int .i64 op, .int .i64 ii, .int .u8 x.toNat]) rfl hU_g rfl rfl (.inl (Nat.le_refl 0)) (po_one ⟨op, ii, x⟩) ?_
    have hB_g := Heap.put_same F5 g (.cells #[.int .i64 op, .int .i64 ii, .int .u8 x.toNat] 30)
    have hE_g := hX_g (.cells #[.int .i64 op, .int .i64 ii, .int .u8 x.toNat] 30)
    clear hU_g hX_g
    generalize F5.put g _ = F5 at hB_g hE_g ⊢
    have hDg : D g = none := hDF.none h0_g
    have hB5 := hE_g _ _ hB4
    have hj1 : IntKind.i64.wrap ((j : Int) + 1) = ((j + 1 : Nat) : Int) := wrap_succ (j := j) (by omega)
    obtain ⟨m, hm, hraw⟩ := pand15 ii
    refine short [1, 5, 7, 9, 36, 37, 38] [.slice A1 ts.length c1, .pointer (some ⟨pb, 0, none⟩), .pointer (some ⟨w, 0, none⟩), .pointer (some ⟨g, 0, none⟩), .slice (some ad) rs.length c0, .int .i64 (rs.length : Int), .int .i64 (j : Int)] rfl fun ρ => ?_
    ((conv => whnf); repeat (first | (apply load_at; (conv => lhs; whnf); (with_reducible assumption); rfl; (conv => whnf)) | (apply load_at; (conv => lhs; rw [add_plain, add_plain]); (with_reducible assumption); rfl; (conv => whnf)) | (apply loads_at; (conv => lhs; whnf); (with_reducible assumption); rfl; (conv => whnf)) | (refine ⟨⟨by omega, by omega⟩, ?_⟩; (conv => whnf))))
    refine draw_walk tab_ok (by kernel_rfl) [0, 1, 2, 3, 4, 5, 6, 7] (by kernel_rfl) ?_
    ((conv => whnf); repeat (first | (apply load_at; (conv => lhs; whnf); (with_reducible assumption); rfl; (conv => whnf)) | (apply load_at; (conv => lhs; rw [add_plain, add_plain]); (with_reducible assumption); rfl; (conv => whnf)) | (apply loads_at; (conv => lhs; whnf); (with_reducible assumption); rfl; (conv => whnf)) | (refine ⟨⟨by omega, by omega⟩, ?_⟩; (conv => whnf))))
    refine call_of (page7 x F5) ?_
    rintro v F6 ⟨⟨B, bc, rfl, _, hbr, _⟩, hE6⟩
    have hD6 := (hDF.trans hE_g).trans hE6
    have ks := pgSet hD6 P4 (List.replicate 240 x) B bc hbr (by rw [List.length_replicate]; decide) (m : Int)
    obtain ⟨e1, e2⟩ := ps_yes (n := s.size) (S := S) (p := (m : Int)) (d := List.replicate 240 x) (by rw [ff.size]; exact is33 hm) List.length_replicate
    rw [e1, e2, List.length_replicate, ← hraw] at ks
    have hW2 := hW.set hm x
    have hBg6 := hE6 _ _ hB_g
    have hB6 := hE6 _ _ hB5
    (conv => whnf)
    refine ⟨hE6, ?_⟩
    rw [List.length_replicate]
    ((conv => whnf); repeat (first | (apply load_at; (conv => lhs; whnf); (with_reducible assumption); rfl; (conv => whnf)) | (apply load_at; (conv => lhs; rw [add_plain, add_plain]); (with_reducible assumption); rfl; (conv => whnf)) | (apply loads_at; (conv => lhs; whnf); (with_reducible assumption); rfl; (conv => whnf)) | (refine ⟨⟨by omega, by omega⟩, ?_⟩; (conv => whnf))))
    refine call_of ks ?_
    rintro v F7 ⟨rfl, D7, M7, P7⟩
    have hBg7 := M7.out _ _ hBg6 hDg
    have hB7 := M7.out _ _ hB6 hDw
    have E6 := (E4.trans hE_g).trans hE6
    have E7 := M7.keep E6 aD
    have aD7 := M7.apart E6 aD
    have hDw7 := moves_not M7 hDw hB6
    have hlS := ps_len (n := s.size) (S := S) (m : Int) (List.replicate 240 x)
    rw [e2] at hlS
    rw [hraw] at P7
    have hl16 : m + 1 ≤ (bytesOf wl).toArray.size := by rw [List.size_toArray, bytes_len, hW.len]; omega
    ((conv => whnf); repeat (first | (apply load_at; (conv => lhs; whnf); (with_reducible assumption); rfl; (conv => whnf)) | (apply load_at; (conv => lhs; rw [add_plain, add_plain]); (with_reducible assumption); rfl; (conv => whnf)) | (apply loads_at; (conv => lhs; whnf); (with_reducible assumption); rfl; (conv => whnf)) | (refine ⟨⟨by omega, by omega⟩, ?_⟩; (conv => whnf))))
    refine store_step w m _ (bytesOf (wl.set m x)).toArray ?ha hB7 ?hc ?hl (.inl (Nat.le_refl 0)) (one_int .u8 _) ?_
    case ha =>
      rw [hraw, Int.toNat_natCast, add_plain, Nat.zero_add]
      show (⟨w, m * 1, none⟩ : Addr) = _
      rw [Nat.mul_one]
    case hc => exact want_store
    case hl => exact Nat.ble_eq_true_of_le hl16
    have hB8 := Heap.put_same F7 w (.cells (bytesOf (wl.set m x)).toArray 28)
    have E8 := E7.put (E2.none h0_w) (.cells (bytesOf (wl.set m x)).toArray 28)
    have hD8 := M7.inn.put hDw7 (.cells (bytesOf (wl.set m x)).toArray 28)
    generalize F7.put w _ = F8 at hB8 E8 hD8 ⊢
    ((conv => whnf); repeat (first | (apply load_at; (conv => lhs; whnf); (with_reducible assumption); rfl; (conv => whnf)) | (apply load_at; (conv => lhs; rw [add_plain, add_plain]); (with_reducible assumption); rfl; (conv => whnf)) | (apply loads_at; (conv => lhs; whnf); (with_reducible assumption); rfl; (conv => whnf)) | (refine ⟨⟨by omega, by omega⟩, ?_⟩; (conv => whnf))))
    refine ⟨k - 1, by omega, j + 1, D7, _, wl.set m x, by omega, ?_, hD8, P7, E8, aD7, hW2, hB8, hDw7, by omega⟩
    exact Eq.trans (b := [.slice A1 ts.length c1, .pointer (some ⟨pb, 0, none⟩), .pointer (some ⟨w, 0, none⟩), .slice (some ad) rs.length c0, .int .i64 (rs.length : Int), .int .i64 (IntKind.i64.wrap ((j : Int) + 1))]) rfl (by rw [hj1])
  clear h
  have kc := pgCommit hDF P4 E4 aD hN (by omega) (by have := ff.writes; omega)
  obtain ⟨s5, q5, x1, x2⟩ := commit_pg ff P4.1 (by have := P4.2.1; rwa [ff.size] at this)
  rw [x1] at kc
  replace kc : FnK Tryz.prog 10 #[.pointer (some ⟨pb, 0, none⟩)] F4 (fun v F' => v = .int .i64 0 ∧ ∃ D', Moves D F4 D' F' ∧ Pg D' pb s5 q5 []) := kc
  ((conv => whnf); repeat (first | (apply load_at; (conv => lhs; whnf); (with_reducible assumption); rfl; (conv => whnf)) | (apply load_at; (conv => lhs; rw [add_plain, add_plain]); (with_reducible assumption); rfl; (conv => whnf)) | (apply loads_at; (conv => lhs; whnf); (with_reducible assumption); rfl; (conv => whnf)) | (refine ⟨⟨by omega, by omega⟩, ?_⟩; (conv => whnf))))
  refine call_of kc ?_
  rintro v F5 ⟨rfl, D5, M5, P5⟩
  have hB5 := M5.out _ _ hB4 hDw
  have E5 := M5.keep E4 aD
  have aD5 := M5.apart E4 aD
  have hDw5 := moves_not M5 hDw hB4
  have hD5 := M5.inn
  clear kc x1 M5 P4 hDF aD hDw hB4 E4
  refine short [1, 5, 7, 58] [.slice A1 ts.length c1, .pointer (some ⟨pb, 0, none⟩), .pointer (some ⟨w, 0, none⟩), .int .i64 0] rfl fun ρ => ?_
  ((conv => whnf); repeat (first | (apply load_at; (conv => lhs; whnf); (with_reducible assumption); rfl; (conv => whnf)) | (apply load_at; (conv => lhs; rw [add_plain, add_plain]); (with_reducible assumption); rfl; (conv => whnf)) | (apply loads_at; (conv => lhs; whnf); (with_reducible assumption); rfl; (conv => whnf)) | (refine ⟨⟨by omega, by omega⟩, ?_⟩; (conv => whnf))))
  refine loop_slots [5, 7, 60, 61, 62] (fun k vs F' => ∃ (j : Nat) (D : Heap) (S : PgL), j + k = ts.length ∧ vs = [.pointer (some ⟨pb, 0, none⟩), .pointer (some ⟨w, 0, none⟩), .slice A1 ts.length c1, .int .i64 (ts.length : Int), .int .i64 (j : Int)] ∧ Ext D F' ∧ Pg D pb s5 q5 S ∧ Ext F F' ∧ Apart D F ∧ F' w = some (.cells (bytesOf wl).toArray 28) ∧ D w = none) ts.length ⟨0, D5, [], by omega, rfl, hD5, P5, E5, aD5, hB5, hDw5⟩ ?_
  clear hD5 P5 E5 aD5 hB5 hDw5
  rintro k vs F4 ρ2 ⟨j, D, S2, hjk, rfl, hDF, P4, E4, aD, hB4, hDw⟩
  ((conv => whnf); repeat (first | (apply load_at; (conv => lhs; whnf); (with_reducible assumption); rfl; (conv => whnf)) | (apply load_at; (conv => lhs; rw [add_plain, add_plain]); (with_reducible assumption); rfl; (conv => whnf)) | (apply loads_at; (conv => lhs; whnf); (with_reducible assumption); rfl; (conv => whnf)) | (refine ⟨⟨by omega, by omega⟩, ?_⟩; (conv => whnf))))
  refine cond_split (fun h => ?_) (fun h => ?_)
  · have hj : j < ts.length := by
      have h : decide ((j : Int) < (ts.length : Int)) = true := h
      have := of_decide_eq_true h
      omega
    clear h
    obtain ⟨ad, rfl⟩ := htrow.some (by rw [rowS_len poC_len]; omega)
    obtain ⟨⟨op, ii, x⟩, hx⟩ : ∃ x, ts[j]? = some x := ⟨_, List.getElem?_eq_getElem hj⟩
    ((conv => whnf); repeat (first | (apply load_at; (conv => lhs; whnf); (with_reducible assumption); rfl; (conv => whnf)) | (apply load_at; (conv => lhs; rw [add_plain, add_plain]); (with_reducible assumption); rfl; (conv => whnf)) | (apply loads_at; (conv => lhs; whnf); (with_reducible assumption); rfl; (conv => whnf)) | (refine ⟨⟨by omega, by omega⟩, ?_⟩; (conv => whnf))))
    refine rowS_loads poC_len (by decide) (htrow.mono E4) hx ?_
    ((conv => whnf); repeat (first | (apply load_at; (conv => lhs; whnf); (with_reducible assumption); rfl; (conv => whnf)) | (apply load_at; (conv => lhs; rw [add_plain, add_plain]); (with_reducible assumption); rfl; (conv => whnf)) | (apply loads_at; (conv => lhs; whnf); (with_reducible assumption); rfl; (conv => whnf)) | (refine ⟨⟨by omega, by omega⟩, ?_⟩; (conv => whnf))))
    refine new_step (poZ) rfl fun g h0_g => ?_
    have hU_g := Heap.put_same F4 g (poZ)
    have hX_g := fun o => (ext_put_put h0_g (o := poZ) (o' := o))
    generalize F4.put g (poZ) = F5 at hU_g hX_g ⊢
    (conv => whnf)
    refine store_step g 0 _ (#[.int .i64 op, .int .i64 ii, .int .u8 x.toNat]) rfl hU_g rfl rfl (.inl (Nat.le_refl 0)) (po_one ⟨op, ii, x⟩) ?_
    have hB_g := Heap.put_same F5 g (.cells #[.int .i64 op, .int .i64 ii, .int .u8 x.toNat] 30)
    have hE_g := hX_g (.cells #[.int .i64 op, .int .i64 ii, .int .u8 x.toNat] 30)
    clear hU_g hX_g
    generalize F5.put g _ = F5 at hB_g hE_g ⊢
    have hDg : D g = none := hDF.none h0_g
    have hB5 := hE_g _ _ hB4
    have hj1 : IntKind.i64.wrap ((j : Int) + 1) = ((j + 1 : Nat) : Int) := wrap_succ (j := j) (by omega)
    obtain ⟨m, hm, hraw⟩ := pand15 ii
    refine short [5, 7, 11, 60, 61, 62] [.pointer (some ⟨pb, 0, none⟩), .pointer (some ⟨w, 0, none⟩), .pointer (some ⟨g, 0, none⟩), .slice (some ad) ts.length c1, .int .i64 (ts.length : Int), .int .i64 (j : Int)] rfl fun ρ => ?_
    ((conv => whnf); repeat (first | (apply load_at; (conv => lhs; whnf); (with_reducible assumption); rfl; (conv => whnf)) | (apply load_at; (conv => lhs; rw [add_plain, add_plain]); (with_reducible assumption); rfl; (conv => whnf)) | (apply loads_at; (conv => lhs; whnf); (with_reducible assumption); rfl; (conv => whnf)) | (refine ⟨⟨by omega, by omega⟩, ?_⟩; (conv => whnf))))
    refine draw_walk tab_ok (by kernel_rfl) [0, 1, 2, 3, 4, 5, 6, 7] (by kernel_rfl) ?_
    ((conv => whnf); repeat (first | (apply load_at; (conv => lhs; whnf); (with_reducible assumption); rfl; (conv => whnf)) | (apply load_at; (conv => lhs; rw [add_plain, add_plain]); (with_reducible assumption); rfl; (conv => whnf)) | (apply loads_at; (conv => lhs; whnf); (with_reducible assumption); rfl; (conv => whnf)) | (refine ⟨⟨by omega, by omega⟩, ?_⟩; (conv => whnf))))
    refine call_of (page7 x F5) ?_
    rintro v F6 ⟨⟨B, bc, rfl, _, hbr, _⟩, hE6⟩
    have hD6 := (hDF.trans hE_g).trans hE6
    have ks := pgSet hD6 P4 (List.replicate 240 x) B bc hbr (by rw [List.length_replicate]; decide) (m : Int)
    rw [List.length_replicate, ← hraw] at ks
    have hB6 := hE6 _ _ hB5
    (conv => whnf)
    refine ⟨hE6, ?_⟩
    rw [List.length_replicate]
    ((conv => whnf); repeat (first | (apply load_at; (conv => lhs; whnf); (with_reducible assumption); rfl; (conv => whnf)) | (apply load_at; (conv => lhs; rw [add_plain, add_plain]); (with_reducible assumption); rfl; (conv => whnf)) | (apply loads_at; (conv => lhs; whnf); (with_reducible assumption); rfl; (conv => whnf)) | (refine ⟨⟨by omega, by omega⟩, ?_⟩; (conv => whnf))))
    refine call_of ks ?_
    rintro v F7 ⟨rfl, D7, M7, P7⟩
    have hB7 := M7.out _ _ hB6 hDw
    have E6 := (E4.trans hE_g).trans hE6
    have E7 := M7.keep E6 aD
    have aD7 := M7.apart E6 aD
    have hDw7 := moves_not M7 hDw hB6
    ((conv => whnf); repeat (first | (apply load_at; (conv => lhs; whnf); (with_reducible assumption); rfl; (conv => whnf)) | (apply load_at; (conv => lhs; rw [add_plain, add_plain]); (with_reducible assumption); rfl; (conv => whnf)) | (apply loads_at; (conv => lhs; whnf); (with_reducible assumption); rfl; (conv => whnf)) | (refine ⟨⟨by omega, by omega⟩, ?_⟩; (conv => whnf))))
    refine ⟨k - 1, by omega, j + 1, D7, _, by omega, ?_, M7.inn, P7, E7, aD7, hB7, hDw7⟩
    exact Eq.trans (b := [.pointer (some ⟨pb, 0, none⟩), .pointer (some ⟨w, 0, none⟩), .slice (some ad) ts.length c1, .int .i64 (ts.length : Int), .int .i64 (IntKind.i64.wrap ((j : Int) + 1))]) rfl (by rw [hj1])
  clear h
  ((conv => whnf); repeat (first | (apply load_at; (conv => lhs; whnf); (with_reducible assumption); rfl; (conv => whnf)) | (apply load_at; (conv => lhs; rw [add_plain, add_plain]); (with_reducible assumption); rfl; (conv => whnf)) | (apply loads_at; (conv => lhs; whnf); (with_reducible assumption); rfl; (conv => whnf)) | (refine ⟨⟨by omega, by omega⟩, ?_⟩; (conv => whnf))))
  refine call_of (pgAbort hDF P4) ?_
  rintro v F8 ⟨rfl, D8, M8, P8⟩
  have hB8 := M8.out _ _ hB4 hDw
  have E8 := M8.keep E4 aD
  have hD8 := M8.inn
  clear M8 P4 hDF aD hDw hB4 E4
  refine short [5, 7, 76] [.pointer (some ⟨pb, 0, none⟩), .pointer (some ⟨w, 0, none⟩), .tuple #[]] rfl fun ρ => ?_
  ((conv => whnf); repeat (first | (apply load_at; (conv => lhs; whnf); (with_reducible assumption); rfl; (conv => whnf)) | (apply load_at; (conv => lhs; rw [add_plain, add_plain]); (with_reducible assumption); rfl; (conv => whnf)) | (apply loads_at; (conv => lhs; whnf); (with_reducible assumption); rfl; (conv => whnf)) | (refine ⟨⟨by omega, by omega⟩, ?_⟩; (conv => whnf))))
  refine loop_slots [5, 7, 77] (fun k vs F' => ∃ i : Nat, i + k = 16 ∧ vs = [.pointer (some ⟨pb, 0, none⟩), .pointer (some ⟨w, 0, none⟩), .int .i64 (i : Int)] ∧ Ext F8 F') 16 ⟨0, by omega, rfl, Ext.refl _⟩ ?_
  rintro k vs F9 ρ3 ⟨i, hik, rfl, hE9⟩
  ((conv => whnf); repeat (first | (apply load_at; (conv => lhs; whnf); (with_reducible assumption); rfl; (conv => whnf)) | (apply load_at; (conv => lhs; rw [add_plain, add_plain]); (with_reducible assumption); rfl; (conv => whnf)) | (apply loads_at; (conv => lhs; whnf); (with_reducible assumption); rfl; (conv => whnf)) | (refine ⟨⟨by omega, by omega⟩, ?_⟩; (conv => whnf))))
  refine cond_split (fun h => ?_) (fun h => ?_)
  · have hi : i < 16 := by
      have h : decide ((i : Int) < 16) = true := h
      have := of_decide_eq_true h
      omega
    clear h
    have hi1 : IntKind.i64.wrap ((i : Int) + 1) = ((i + 1 : Nat) : Int) := wrap_succ (j := i) (by omega)
    have kg := pgGet (hD8.trans hE9) P8 (hN.mono (E8.trans hE9)) (i : Int)
    obtain ⟨g1, g2⟩ := x2.get (is33 hi)
    rw [g1, g2, hW.at_ i hi] at kg
    have hcw := byte_cell (l := wl) (j := i) (row_blk (hE9 _ _ hB8)) (by rw [hW.len]; exact hi)
    have hb0 : (wl[i]?).getD 0 = wl[i]'(by rw [hW.len]; exact hi) := by rw [List.getElem?_eq_getElem (by rw [hW.len]; exact hi)]; rfl
    have kp := fun F => page7 ((wl[i]?).getD 0) F
    rw [← hb0] at hcw
    generalize (wl[i]?).getD 0 = bb at hcw kp kg
    have hd := (List.length_replicate : (List.replicate 240 bb).length = 240)
    generalize List.replicate 240 bb = d at kp kg hd
    ((conv => whnf); repeat (first | (apply load_at; (conv => lhs; whnf); (with_reducible assumption); rfl; (conv => whnf)) | (apply load_at; (conv => lhs; rw [add_plain, add_plain]); (with_reducible assumption); rfl; (conv => whnf)) | (apply loads_at; (conv => lhs; whnf); (with_reducible assumption); rfl; (conv => whnf)) | (refine ⟨⟨by omega, by omega⟩, ?_⟩; (conv => whnf))))
    refine call_of kg ?_
    rintro v F10 ⟨u, rfl, ⟨B, bc, rfl, _, hbr, _⟩, hE10⟩
    have hcw10 := hE10.cell hcw
    refine short [5, 7, 12, 77, 83] [.pointer (some ⟨pb, 0, none⟩), .pointer (some ⟨w, 0, none⟩), .int .i64 (i : Int), .int .i64 (i : Int), .tuple #[.slice B d.length bc, .int .i64 0]] rfl fun ρ => ?_
    ((conv => whnf); repeat (first | (apply load_at; (conv => lhs; whnf); (with_reducible assumption); rfl; (conv => whnf)) | (apply load_at; (conv => lhs; rw [add_plain, add_plain]); (with_reducible assumption); rfl; (conv => whnf)) | (apply loads_at; (conv => lhs; whnf); (with_reducible assumption); rfl; (conv => whnf)) | (refine ⟨⟨by omega, by omega⟩, ?_⟩; (conv => whnf))))
    refine load_step hcw10 ?_
    ((conv => whnf); repeat (first | (apply load_at; (conv => lhs; whnf); (with_reducible assumption); rfl; (conv => whnf)) | (apply load_at; (conv => lhs; rw [add_plain, add_plain]); (with_reducible assumption); rfl; (conv => whnf)) | (apply loads_at; (conv => lhs; whnf); (with_reducible assumption); rfl; (conv => whnf)) | (refine ⟨⟨by omega, by omega⟩, ?_⟩; (conv => whnf))))
    refine call_of (kp F10) ?_
    rintro v F11 ⟨⟨C, cc, rfl, _, hcr, _⟩, hE11⟩
    have kq := bytesEqual d d B C bc cc F11 (hbr.mono hE11) hcr
    rw [beq_self_eq_true] at kq
    ((conv => whnf); repeat (first | (apply load_at; (conv => lhs; whnf); (with_reducible assumption); rfl; (conv => whnf)) | (apply load_at; (conv => lhs; rw [add_plain, add_plain]); (with_reducible assumption); rfl; (conv => whnf)) | (apply loads_at; (conv => lhs; whnf); (with_reducible assumption); rfl; (conv => whnf)) | (refine ⟨⟨by omega, by omega⟩, ?_⟩; (conv => whnf))))
    refine call_of kq ?_
    rintro v F11 ⟨rfl, rfl⟩
    ((conv => whnf); repeat (first | (apply load_at; (conv => lhs; whnf); (with_reducible assumption); rfl; (conv => whnf)) | (apply load_at; (conv => lhs; rw [add_plain, add_plain]); (with_reducible assumption); rfl; (conv => whnf)) | (apply loads_at; (conv => lhs; whnf); (with_reducible assumption); rfl; (conv => whnf)) | (refine ⟨⟨by omega, by omega⟩, ?_⟩; (conv => whnf))))
    refine ⟨k - 1, by omega, i + 1, by omega, ?_, hE9.trans (hE10.trans hE11)⟩
    exact Eq.trans (b := [.pointer (some ⟨pb, 0, none⟩), .pointer (some ⟨w, 0, none⟩), .int .i64 (IntKind.i64.wrap ((i : Int) + 1))]) rfl (by rw [hi1])
  clear h
  ((conv => whnf); repeat (first | (apply load_at; (conv => lhs; whnf); (with_reducible assumption); rfl; (conv => whnf)) | (apply load_at; (conv => lhs; rw [add_plain, add_plain]); (with_reducible assumption); rfl; (conv => whnf)) | (apply loads_at; (conv => lhs; whnf); (with_reducible assumption); rfl; (conv => whnf)) | (refine ⟨⟨by omega, by omega⟩, ?_⟩; (conv => whnf))))
  refine call_of (pgChanged (hD8.trans hE9) P8 (Nat.zero_le _)) ?_
  rintro v F10 hM
  obtain ⟨C, cc, rfl, _, _⟩ := hM.own.row
  have E10 := (E8.trans hE9).trans hM.ext
  ((conv => whnf); repeat (first | (apply load_at; (conv => lhs; whnf); (with_reducible assumption); rfl; (conv => whnf)) | (apply load_at; (conv => lhs; rw [add_plain, add_plain]); (with_reducible assumption); rfl; (conv => whnf)) | (apply loads_at; (conv => lhs; whnf); (with_reducible assumption); rfl; (conv => whnf)) | (refine ⟨⟨by omega, by omega⟩, ?_⟩; (conv => whnf))))
  refine call_of (out F10 E10) ?_
  rintro v F11 ⟨rfl, hE⟩
  ((conv => whnf); repeat (first | (apply load_at; (conv => lhs; whnf); (with_reducible assumption); rfl; (conv => whnf)) | (apply load_at; (conv => lhs; rw [add_plain, add_plain]); (with_reducible assumption); rfl; (conv => whnf)) | (apply loads_at; (conv => lhs; whnf); (with_reducible assumption); rfl; (conv => whnf)) | (refine ⟨⟨by omega, by omega⟩, ?_⟩; (conv => whnf))))
  exact ⟨rfl, hE⟩
end Go.Proofs.YtmpiggcooboenaaGreatDoor.AlPagerAborts
