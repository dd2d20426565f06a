/- The law PagerLives holds of the program: proved over what is known of memory, each function by its contract. -/
import Derived.Test.YtmpiggcooboenaaGreatDoorMgPagerLivesLaw
import Derived.Test.YtmpiggcooboenaaGreatDoorMgPag1
import Derived.Test.YtmpiggcooboenaaGreatDoorMgPag2
import Derived.Test.YtmpiggcooboenaaGreatDoorMgPag3
import Derived.Test.YtmpiggcooboenaaGreatDoorMgPag4
import Derived.Test.YtmpiggcooboenaaGreatDoorMgPag5
import Derived.Test.YtmpiggcooboenaaGreatDoorMgPag6
namespace Go.Proofs.YtmpiggcooboenaaGreatDoor.AlPagerLives
open Go Go.Al Go.Proofs Go.RowKit Go.Proofs.YtmpiggcooboenaaGreatDoor.Al
set_option maxHeartbeats 16000000
set_option maxRecDepth 100000
set_option linter.unusedVariables false
set_option linter.unusedSimpArgs false
theorem pg_some : ∀ m : Nat, m < 40 → pagesN ((3 + m : Nat) : Int) ≠ 0 := by decide
theorem law : LawK := by
  intro F hN a0 w0 x1 w1 A1 c1 hc1 hK1
  obtain ⟨rs, hrl, hrow⟩ := po_open w1.2 hK1
  rw [← hrl]
  clear hK1 w1 hc1 hrl
  obtain ⟨l0, hl0⟩ := bytes_of_wf (xs := [a0]) (by intro y hy; rw [List.mem_singleton.1 hy]; exact w0)
  obtain ⟨x0, rfl⟩ : ∃ x0 : UInt8, a0 = (x0.toNat : Int) := by
    match l0, hl0 with
    | [b], hl => exact ⟨b, by simpa using hl⟩
  clear hl0 w0
  obtain ⟨m40, hm40, hme⟩ : ∃ m : Nat, m < 40 ∧ ((x0.toNat : Int).tmod 40) = (m : Int) := ⟨x0.toNat % 40, Nat.mod_lt _ (by decide), by rw [Int.tmod_eq_emod_of_nonneg (by omega)]; omega⟩
  have hpn := pg_some m40 hm40
  obtain ⟨n, hn⟩ : ∃ n : Nat, n = 3 + m40 := ⟨_, rfl⟩
  rw [← hn] at hpn
  have hn3 : (3 : Int) ≤ (n : Int) ∧ (n : Int) ≤ 65536 := by omega
  have hn42 : n ≤ 42 := by omega
  have out : ∀ F', Ext F F' → FnK Tryz.prog 7 #[] F' (fun v F' => v = .bool true ∧ Ext F F') := fun F' hF' => (awake7 F' (hN.mono hF')).mono fun v G h => ⟨h.1, hF'.trans h.2⟩
  have kf := fresh7 hn3 hpn F hN
  (refine fn_walk tab_ok Tryz.func5 rfl rfl rfl rfl ?_; (conv => whnf))
  refine ⟨by decide, ?_⟩
  ((conv => whnf); repeat (first | (apply load_at; (conv => lhs; whnf); (with_reducible assumption); rfl; (conv => whnf)) | (apply load_at; (conv => lhs; rw [add_plain, add_plain]); (with_reducible assumption); rfl; (conv => whnf)) | (apply loads_at; (conv => lhs; whnf); (with_reducible assumption); rfl; (conv => whnf)) | (refine ⟨⟨by omega, by omega⟩, ?_⟩; (conv => whnf))))
  rw [hme]
  have hw1 : IntKind.i64.wrap (3 + IntKind.i64.wrap (m40 : Int)) = (n : Int) := by rw [wrap_eq (x := (m40 : Int)) (by omega) (by omega), wrap_eq (by omega) (by omega)]; omega
  rw [hw1]
  refine call_of kf ?_
  rintro v F2 ⟨pb, xb, D, X, s, r, rfl, E2, H2, aD, aX, P2, R2, hS, ff⟩
  refine short [1, 19] [.slice A1 rs.length c1, .tuple #[.pointer (some ⟨pb, 0, none⟩), .pointer (some ⟨xb, 0, none⟩)]] rfl fun ρ => ?_
  ((conv => whnf); repeat (first | (apply load_at; (conv => lhs; whnf); (with_reducible assumption); rfl; (conv => whnf)) | (apply load_at; (conv => lhs; rw [add_plain, add_plain]); (with_reducible assumption); rfl; (conv => whnf)) | (apply loads_at; (conv => lhs; whnf); (with_reducible assumption); rfl; (conv => whnf)) | (refine ⟨⟨by omega, by omega⟩, ?_⟩; (conv => whnf))))
  refine cond_split (fun h => ?_) (fun h => ?_)
  · ((conv => whnf); repeat (first | (apply load_at; (conv => lhs; whnf); (with_reducible assumption); rfl; (conv => whnf)) | (apply load_at; (conv => lhs; rw [add_plain, add_plain]); (with_reducible assumption); rfl; (conv => whnf)) | (apply loads_at; (conv => lhs; whnf); (with_reducible assumption); rfl; (conv => whnf)) | (refine ⟨⟨by omega, by omega⟩, ?_⟩; (conv => whnf))))
    refine call_of (out F2 E2) ?_
    rintro v F9 ⟨rfl, hE⟩
    ((conv => whnf); repeat (first | (apply load_at; (conv => lhs; whnf); (with_reducible assumption); rfl; (conv => whnf)) | (apply load_at; (conv => lhs; rw [add_plain, add_plain]); (with_reducible assumption); rfl; (conv => whnf)) | (apply loads_at; (conv => lhs; whnf); (with_reducible assumption); rfl; (conv => whnf)) | (refine ⟨⟨by omega, by omega⟩, ?_⟩; (conv => whnf))))
    exact ⟨rfl, hE⟩
  have hrsl := of_decide_eq_false (show decide ((rs.length : Int) > 60) = false from h)
  clear h
  ((conv => whnf); repeat (first | (apply load_at; (conv => lhs; whnf); (with_reducible assumption); rfl; (conv => whnf)) | (apply load_at; (conv => lhs; rw [add_plain, add_plain]); (with_reducible assumption); rfl; (conv => whnf)) | (apply loads_at; (conv => lhs; whnf); (with_reducible assumption); rfl; (conv => whnf)) | (refine ⟨⟨by omega, by omega⟩, ?_⟩; (conv => whnf))))
  refine loop_slots [5, 6, 42, 43, 44] (fun k vs F' => ∃ (j : Nat) (D X : Heap) (S : PgL) (s : DS) (r : RS) (q : Int), j + k = rs.length ∧ vs = [.pointer (some ⟨pb, 0, none⟩), .pointer (some ⟨xb, 0, none⟩), .slice A1 rs.length c1, .int .i64 (rs.length : Int), .int .i64 (j : Int)] ∧ Duo F' D X ∧ Pg D pb s q S ∧ Rp X xb r q S ∧ Sim s r ∧ Ext F F' ∧ Apart D F ∧ Apart X F ∧ S.length ≤ j ∧ s.writes ≤ 300000 * (j + 1) ∧ s.size = n) rs.length ⟨0, D, X, [], s, r, 1, by omega, rfl, H2, P2, R2, hS, E2, aD, aX, Nat.le_refl 0, by rw [ff.writes]; decide, ff.size⟩ ?_
  clear H2 P2 R2 E2 aD aX hS ff
  rintro k2 vs F3 ρ ⟨j, D, X, S, s, r, q, hjk, rfl, H3, P3, R3, hS, E3, aD, aX, hSl, hw, hz⟩
  ((conv => whnf); repeat (first | (apply load_at; (conv => lhs; whnf); (with_reducible assumption); rfl; (conv => whnf)) | (apply load_at; (conv => lhs; rw [add_plain, add_plain]); (with_reducible assumption); rfl; (conv => whnf)) | (apply loads_at; (conv => lhs; whnf); (with_reducible assumption); rfl; (conv => whnf)) | (refine ⟨⟨by omega, by omega⟩, ?_⟩; (conv => whnf))))
  refine cond_split (fun h => ?_) (fun h => ?_)
  · have hj : j < rs.length := by
      have h : decide ((j : Int) < (rs.length : Int)) = true := h
      have := of_decide_eq_true h
      omega
    clear h
    obtain ⟨ad, rfl⟩ := hrow.some (by rw [rowS_len poC_len]; omega)
    obtain ⟨⟨op, ii, x⟩, hx⟩ : ∃ x, rs[j]? = some x := ⟨_, List.getElem?_eq_getElem hj⟩
    have hj1 : IntKind.i64.wrap ((j : Int) + 1) = ((j + 1 : Nat) : Int) := wrap_succ (j := j) (by omega)
    have hsz : s.size = (r.L.length : Int) := (sim_same hS).sz
    ((conv => whnf); repeat (first | (apply load_at; (conv => lhs; whnf); (with_reducible assumption); rfl; (conv => whnf)) | (apply load_at; (conv => lhs; rw [add_plain, add_plain]); (with_reducible assumption); rfl; (conv => whnf)) | (apply loads_at; (conv => lhs; whnf); (with_reducible assumption); rfl; (conv => whnf)) | (refine ⟨⟨by omega, by omega⟩, ?_⟩; (conv => whnf))))
    refine rowS_loads poC_len (by decide) (hrow.mono E3) hx ?_
    ((conv => whnf); repeat (first | (apply load_at; (conv => lhs; whnf); (with_reducible assumption); rfl; (conv => whnf)) | (apply load_at; (conv => lhs; rw [add_plain, add_plain]); (with_reducible assumption); rfl; (conv => whnf)) | (apply loads_at; (conv => lhs; whnf); (with_reducible assumption); rfl; (conv => whnf)) | (refine ⟨⟨by omega, by omega⟩, ?_⟩; (conv => whnf))))
    refine new_step (poZ) rfl fun g h0_g => ?_
    have hU_g := Heap.put_same F3 g (poZ)
    have hX_g := fun o => (ext_put_put h0_g (o := poZ) (o' := o))
    generalize F3.put g (poZ) = F4 at hU_g hX_g ⊢
    (conv => whnf)
    refine store_step g 0 _ (#[.int .i64 op, .int .i64 ii, .int .u8 x.toNat]) rfl hU_g rfl rfl (.inl (Nat.le_refl 0)) (po_one ⟨op, ii, x⟩) ?_
    have hB_g := Heap.put_same F4 g (.cells #[.int .i64 op, .int .i64 ii, .int .u8 x.toNat] 30)
    have hE_g := hX_g (.cells #[.int .i64 op, .int .i64 ii, .int .u8 x.toNat] 30)
    clear hU_g hX_g
    generalize F4.put g _ = F4 at hB_g hE_g ⊢
    obtain ⟨H4, T4⟩ := H3.ext hE_g
    have eR := side_ext E3 hE_g hB_g
    have aRD := side_apart aD H3.d h0_g (.cells #[.int .i64 op, .int .i64 ii, .int .u8 x.toNat] 30)
    have aRX := side_apart aX H3.x h0_g (.cells #[.int .i64 op, .int .i64 ii, .int .u8 x.toNat] 30)
    have eFR : Ext F (F.put g (.cells #[.int .i64 op, .int .i64 ii, .int .u8 x.toNat] 30)) := (Ext.refl F).put (E3.none h0_g) _
    have hRg : (F.put g (.cells #[.int .i64 op, .int .i64 ii, .int .u8 x.toNat] 30)) g = _ := Heap.put_same _ _ _
    generalize F.put g (.cells #[.int .i64 op, .int .i64 ii, .int .u8 x.toNat] 30) = R at eR aRD aRX eFR hRg
    have hNR : NibAt R := hN.mono eFR
    have hBg4 := eR _ _ hRg
    refine short [5, 6, 8, 42, 43, 44] [.pointer (some ⟨pb, 0, none⟩), .pointer (some ⟨xb, 0, none⟩), .pointer (some ⟨g, 0, none⟩), .slice (some ad) rs.length c1, .int .i64 (rs.length : Int), .int .i64 (j : Int)] rfl fun ρ => ?_
    by_cases h0 : op = 0
    · subst h0
      have ks := fun F' (h : Ext D F') B bc hbr => pgSet h P3 (List.replicate 240 x) B bc hbr (by rw [List.length_replicate]; decide) ii
      have kr := fun F' (h : Ext X F') B bc hbr => rpSet h R3 (List.replicate 240 x) B bc hbr (by rw [List.length_replicate]; decide) ii (by omega)
      have kpg := fun F => page7 x F
      have hlS := ps_len (n := s.size) (S := S) ii (List.replicate 240 x)
      have hrep := (List.length_replicate : (List.replicate 240 x).length = 240)
      generalize List.replicate 240 x = dd at ks kr kpg hlS hrep
      rw [← hsz] at kr
      generalize psE s.size ii dd = pe at ks kr
      generalize psS s.size S ii dd = S5 at ks kr hlS
      ((conv => whnf); repeat (first | (apply load_at; (conv => lhs; whnf); (with_reducible assumption); rfl; (conv => whnf)) | (apply load_at; (conv => lhs; rw [add_plain, add_plain]); (with_reducible assumption); rfl; (conv => whnf)) | (apply loads_at; (conv => lhs; whnf); (with_reducible assumption); rfl; (conv => whnf)) | (refine ⟨⟨by omega, by omega⟩, ?_⟩; (conv => whnf))))
      refine draw_cut (fun env' F' => [5, 6, 9, 42, 43, 44].map env' = [.pointer (some ⟨pb, 0, none⟩), .pointer (some ⟨xb, 0, none⟩), .bool (pe == pe), .slice (some ad) rs.length c1, .int .i64 (rs.length : Int), .int .i64 (j : Int)] ∧ ∃ D6 X6, Duo F' D6 X6 ∧ Pg D6 pb s q S5 ∧ Rp X6 xb r q S5 ∧ Ext R F' ∧ Apart D6 R ∧ Apart X6 R) (fun K hK => ?_) ?_
      · refine draw_tree_at tab_ok (by kernel_rfl) [2, 4, 9, 11] (DT.row [0, 1, 2, 3, 4, 7, 8, 9, 10, 11, 5, 6, 12, 13, 14, 15] .nil) (by kernel_rfl) R eR ?_
        ((conv => whnf); repeat (first | (apply load_at; (conv => lhs; whnf); (with_reducible assumption); rfl; (conv => whnf)) | (apply load_at; (conv => lhs; rw [add_plain, add_plain]); (with_reducible assumption); rfl; (conv => whnf)) | (apply loads_at; (conv => lhs; whnf); (with_reducible assumption); rfl; (conv => whnf)) | (refine ⟨⟨by omega, by omega⟩, ?_⟩; (conv => whnf))))
        refine call_of (kpg F4) ?_
        rintro v F5 ⟨⟨B, bc, rfl, _, hbr, _⟩, hE5⟩
        obtain ⟨H5, T5⟩ := H4.ext hE5
        obtain ⟨y1, y2, y3⟩ := T5 R eR aRD aRX
        (conv => whnf)
        refine ⟨y1, ?_⟩
        ((conv => whnf); repeat (first | (apply load_at; (conv => lhs; whnf); (with_reducible assumption); rfl; (conv => whnf)) | (apply load_at; (conv => lhs; rw [add_plain, add_plain]); (with_reducible assumption); rfl; (conv => whnf)) | (apply loads_at; (conv => lhs; whnf); (with_reducible assumption); rfl; (conv => whnf)) | (refine ⟨⟨by omega, by omega⟩, ?_⟩; (conv => whnf))))
        refine call_of (ks F5 H5.d B bc hbr) ?_
        rintro v F6 ⟨rfl, D6, M6, P6⟩
        obtain ⟨H6, T6⟩ := H5.onD M6
        obtain ⟨z1, z2, z3⟩ := T6 R y1 y2 y3
        (conv => whnf)
        refine ⟨z1, ?_⟩
        ((conv => whnf); repeat (first | (apply load_at; (conv => lhs; whnf); (with_reducible assumption); rfl; (conv => whnf)) | (apply load_at; (conv => lhs; rw [add_plain, add_plain]); (with_reducible assumption); rfl; (conv => whnf)) | (apply loads_at; (conv => lhs; whnf); (with_reducible assumption); rfl; (conv => whnf)) | (refine ⟨⟨by omega, by omega⟩, ?_⟩; (conv => whnf))))
        refine call_of (kpg F6) ?_
        rintro v F7 ⟨⟨C, cc, rfl, _, hcr, _⟩, hE7⟩
        obtain ⟨H7, T7⟩ := H6.ext hE7
        obtain ⟨u1, u2, u3⟩ := T7 R z1 z2 z3
        (conv => whnf)
        refine ⟨u1, ?_⟩
        ((conv => whnf); repeat (first | (apply load_at; (conv => lhs; whnf); (with_reducible assumption); rfl; (conv => whnf)) | (apply load_at; (conv => lhs; rw [add_plain, add_plain]); (with_reducible assumption); rfl; (conv => whnf)) | (apply loads_at; (conv => lhs; whnf); (with_reducible assumption); rfl; (conv => whnf)) | (refine ⟨⟨by omega, by omega⟩, ?_⟩; (conv => whnf))))
        refine call_of (kr F7 H7.x C cc hcr) ?_
        rintro v F8 ⟨rfl, X8, M8, R8⟩
        obtain ⟨H8, T8⟩ := H7.onX M8
        obtain ⟨w1, w2, w3⟩ := T8 R u1 u2 u3
        (conv => whnf)
        refine ⟨w1, ?_⟩
        ((conv => whnf); repeat (first | (apply load_at; (conv => lhs; whnf); (with_reducible assumption); rfl; (conv => whnf)) | (apply load_at; (conv => lhs; rw [add_plain, add_plain]); (with_reducible assumption); rfl; (conv => whnf)) | (apply loads_at; (conv => lhs; whnf); (with_reducible assumption); rfl; (conv => whnf)) | (refine ⟨⟨by omega, by omega⟩, ?_⟩; (conv => whnf))))
        exact hK _ _ ⟨rfl, D6, X8, H8, P6, R8, w1, w2, w3⟩
      rintro env' F6 ⟨hev, D6, X6, H6, P6, R6, y1, y2, y3⟩
      rw [beq_self_eq_true] at hev
      refine short [5, 6, 9, 42, 43, 44] [.pointer (some ⟨pb, 0, none⟩), .pointer (some ⟨xb, 0, none⟩), .bool true, .slice (some ad) rs.length c1, .int .i64 (rs.length : Int), .int .i64 (j : Int)] hev fun ρ => ?_
      ((conv => whnf); repeat (first | (apply load_at; (conv => lhs; whnf); (with_reducible assumption); rfl; (conv => whnf)) | (apply load_at; (conv => lhs; rw [add_plain, add_plain]); (with_reducible assumption); rfl; (conv => whnf)) | (apply loads_at; (conv => lhs; whnf); (with_reducible assumption); rfl; (conv => whnf)) | (refine ⟨⟨by omega, by omega⟩, ?_⟩; (conv => whnf))))
      have kc := pgChanged H6.d P6 (by omega)
      have kp := fun F' (h : Ext F6 F') => pgPages (H6.d.trans h) P6
      have hsz6 : pagesN s.size = pagesN (r.L.length : Int) := congrArg pagesN (sim_same hS).sz
      have R6' := R6
      obtain ⟨_, _, _, lb6, b6, T6', L6', ps6, G6, hP6⟩ := R6'
      have kr := fun F' (h : Ext F6 F') => rpChanged (H6.x.trans h) R6
      have kq := fun F' (h : Ext F6 F') => Rg.pages ((hP6.baseL.trans H6.x).trans h) hP6.log
      have hcx := fun F' (h : Ext F6 F') => h _ _ (H6.x _ _ hP6.cell)
      rw [← hsz6] at kq
      generalize pagesN s.size = PN at kp kq
      have hml : (S5.map (·.1)).length = S5.length := List.length_map _
      generalize S5.map (·.1) = L1 at kc kr hml
      refine draw_cut (fun env' F' => [5, 6, 42, 43, 44, 135].map env' = [.pointer (some ⟨pb, 0, none⟩), .pointer (some ⟨xb, 0, none⟩), .slice (some ad) rs.length c1, .int .i64 (rs.length : Int), .int .i64 (j : Int), .bool (PN != PN)] ∧ Ext F6 F') (fun K hK => ?_) ?_
      · refine draw_tree_at tab_ok (by kernel_rfl) [] (DT.row [0, 1, 2, 3, 5, 4, 6, 7, 8, 9, 10, 11, 13, 14, 15, 16, 12, 17, 18, 19] .nil) (by kernel_rfl) (fun _ => none) (fun _ _ h => by cases h) ?_
        ((conv => whnf); repeat (first | (apply load_at; (conv => lhs; whnf); (with_reducible assumption); rfl; (conv => whnf)) | (apply load_at; (conv => lhs; rw [add_plain, add_plain]); (with_reducible assumption); rfl; (conv => whnf)) | (apply loads_at; (conv => lhs; whnf); (with_reducible assumption); rfl; (conv => whnf)) | (refine ⟨⟨by omega, by omega⟩, ?_⟩; (conv => whnf))))
        refine call_of kc ?_
        rintro v F7 hM7
        obtain ⟨C7, c7, rfl, _, hr7⟩ := hM7.own.row
        (conv => whnf)
        refine ⟨(fun _ _ h => by cases h), ?_⟩
        ((conv => whnf); repeat (first | (apply load_at; (conv => lhs; whnf); (with_reducible assumption); rfl; (conv => whnf)) | (apply load_at; (conv => lhs; rw [add_plain, add_plain]); (with_reducible assumption); rfl; (conv => whnf)) | (apply loads_at; (conv => lhs; whnf); (with_reducible assumption); rfl; (conv => whnf)) | (refine ⟨⟨by omega, by omega⟩, ?_⟩; (conv => whnf))))
        refine call_of (kr F7 hM7.ext) ?_
        rintro v F8 hM8
        obtain ⟨C8, c8, rfl, _, hr8⟩ := hM8.own.row
        (conv => whnf)
        refine ⟨(fun _ _ h => by cases h), ?_⟩
        have ke := slicesEqual L1 L1 C7 C8 c7 c8 F8 (hr7.mono hM8.ext) hr8 (by omega) (by omega)
        rw [beq_self_eq_true, hml] at ke
        ((conv => whnf); repeat (first | (apply load_at; (conv => lhs; whnf); (with_reducible assumption); rfl; (conv => whnf)) | (apply load_at; (conv => lhs; rw [add_plain, add_plain]); (with_reducible assumption); rfl; (conv => whnf)) | (apply loads_at; (conv => lhs; whnf); (with_reducible assumption); rfl; (conv => whnf)) | (refine ⟨⟨by omega, by omega⟩, ?_⟩; (conv => whnf))))
        refine call_of ke ?_
        rintro v F8 ⟨rfl, rfl⟩
        have hE8 := hM7.ext.trans hM8.ext
        have hcx8 := hcx F8 hE8
        (conv => whnf)
        refine ⟨(fun _ _ h => by cases h), ?_⟩
        ((conv => whnf); repeat (first | (apply load_at; (conv => lhs; whnf); (with_reducible assumption); rfl; (conv => whnf)) | (apply load_at; (conv => lhs; rw [add_plain, add_plain]); (with_reducible assumption); rfl; (conv => whnf)) | (apply loads_at; (conv => lhs; whnf); (with_reducible assumption); rfl; (conv => whnf)) | (refine ⟨⟨by omega, by omega⟩, ?_⟩; (conv => whnf))))
        refine call_of (kp F8 hE8) ?_
        rintro v F8 ⟨rfl, rfl⟩
        (conv => whnf)
        refine ⟨(fun _ _ h => by cases h), Ext.refl _, ?_⟩
        ((conv => whnf); repeat (first | (apply load_at; (conv => lhs; whnf); (with_reducible assumption); rfl; (conv => whnf)) | (apply load_at; (conv => lhs; rw [add_plain, add_plain]); (with_reducible assumption); rfl; (conv => whnf)) | (apply loads_at; (conv => lhs; whnf); (with_reducible assumption); rfl; (conv => whnf)) | (refine ⟨⟨by omega, by omega⟩, ?_⟩; (conv => whnf))))
        refine call_of (kq F8 hE8) ?_
        rintro v F8 ⟨rfl, rfl⟩
        (conv => whnf)
        refine ⟨(fun _ _ h => by cases h), ?_⟩
        ((conv => whnf); repeat (first | (apply load_at; (conv => lhs; whnf); (with_reducible assumption); rfl; (conv => whnf)) | (apply load_at; (conv => lhs; rw [add_plain, add_plain]); (with_reducible assumption); rfl; (conv => whnf)) | (apply loads_at; (conv => lhs; whnf); (with_reducible assumption); rfl; (conv => whnf)) | (refine ⟨⟨by omega, by omega⟩, ?_⟩; (conv => whnf))))
        exact hK _ _ ⟨rfl, hE8⟩
      rintro env' F7 ⟨hev7, hE7⟩
      obtain ⟨H7, T7⟩ := H6.ext hE7
      obtain ⟨u1, u2, u3⟩ := T7 R y1 y2 y3
      refine short [5, 6, 42, 43, 44, 135] [.pointer (some ⟨pb, 0, none⟩), .pointer (some ⟨xb, 0, none⟩), .slice (some ad) rs.length c1, .int .i64 (rs.length : Int), .int .i64 (j : Int), .bool (PN != PN)] hev7 fun ρ => ?_
      ((conv => whnf); repeat (first | (apply load_at; (conv => lhs; whnf); (with_reducible assumption); rfl; (conv => whnf)) | (apply load_at; (conv => lhs; rw [add_plain, add_plain]); (with_reducible assumption); rfl; (conv => whnf)) | (apply loads_at; (conv => lhs; whnf); (with_reducible assumption); rfl; (conv => whnf)) | (refine ⟨⟨by omega, by omega⟩, ?_⟩; (conv => whnf))))
      refine cond_split (fun h_ => absurd h_ (by simp)) (fun h => ?_)
      ((conv => whnf); repeat (first | (apply load_at; (conv => lhs; whnf); (with_reducible assumption); rfl; (conv => whnf)) | (apply load_at; (conv => lhs; rw [add_plain, add_plain]); (with_reducible assumption); rfl; (conv => whnf)) | (apply loads_at; (conv => lhs; whnf); (with_reducible assumption); rfl; (conv => whnf)) | (refine ⟨⟨by omega, by omega⟩, ?_⟩; (conv => whnf))))
      refine ⟨k2 - 1, by omega, j + 1, D6, X6, S5, s, r, q, by omega, ?_, H7, P6, R6, hS, eFR.trans u1, (fun c hc => eFR.none (u2 c hc)), (fun c hc => eFR.none (u3 c hc)), (by omega), (by omega), hz⟩
      exact Eq.trans (b := [.pointer (some ⟨pb, 0, none⟩), .pointer (some ⟨xb, 0, none⟩), .slice (some ad) rs.length c1, .int .i64 (rs.length : Int), .int .i64 (IntKind.i64.wrap ((j : Int) + 1))]) rfl (by rw [hj1])
    by_cases h1 : op = 1
    · subst h1
      have ks := fun F' (h : Ext D F') B bc hbr => pgSet h P3 (List.replicate 240 x) B bc hbr (by rw [List.length_replicate]; decide) ii
      have kr := fun F' (h : Ext X F') B bc hbr => rpSet h R3 (List.replicate 240 x) B bc hbr (by rw [List.length_replicate]; decide) ii (by omega)
      have kpg := fun F => page7 x F
      have hlS := ps_len (n := s.size) (S := S) ii (List.replicate 240 x)
      have hrep := (List.length_replicate : (List.replicate 240 x).length = 240)
      generalize List.replicate 240 x = dd at ks kr kpg hlS hrep
      rw [← hsz] at kr
      generalize psE s.size ii dd = pe at ks kr
      generalize psS s.size S ii dd = S5 at ks kr hlS
      ((conv => whnf); repeat (first | (apply load_at; (conv => lhs; whnf); (with_reducible assumption); rfl; (conv => whnf)) | (apply load_at; (conv => lhs; rw [add_plain, add_plain]); (with_reducible assumption); rfl; (conv => whnf)) | (apply loads_at; (conv => lhs; whnf); (with_reducible assumption); rfl; (conv => whnf)) | (refine ⟨⟨by omega, by omega⟩, ?_⟩; (conv => whnf))))
      refine draw_cut (fun env' F' => [5, 6, 9, 42, 43, 44].map env' = [.pointer (some ⟨pb, 0, none⟩), .pointer (some ⟨xb, 0, none⟩), .bool (pe == pe), .slice (some ad) rs.length c1, .int .i64 (rs.length : Int), .int .i64 (j : Int)] ∧ ∃ D6 X6, Duo F' D6 X6 ∧ Pg D6 pb s q S5 ∧ Rp X6 xb r q S5 ∧ Ext R F' ∧ Apart D6 R ∧ Apart X6 R) (fun K hK => ?_) ?_
      · refine draw_tree_at tab_ok (by kernel_rfl) [2, 4, 9, 11] (DT.row [0, 1, 2, 3, 4, 7, 8, 9, 10, 11, 5, 6, 12, 13, 14, 15] .nil) (by kernel_rfl) R eR ?_
        ((conv => whnf); repeat (first | (apply load_at; (conv => lhs; whnf); (with_reducible assumption); rfl; (conv => whnf)) | (apply load_at; (conv => lhs; rw [add_plain, add_plain]); (with_reducible assumption); rfl; (conv => whnf)) | (apply loads_at; (conv => lhs; whnf); (with_reducible assumption); rfl; (conv => whnf)) | (refine ⟨⟨by omega, by omega⟩, ?_⟩; (conv => whnf))))
        refine call_of (kpg F4) ?_
        rintro v F5 ⟨⟨B, bc, rfl, _, hbr, _⟩, hE5⟩
        obtain ⟨H5, T5⟩ := H4.ext hE5
        obtain ⟨y1, y2, y3⟩ := T5 R eR aRD aRX
        (conv => whnf)
        refine ⟨y1, ?_⟩
        ((conv => whnf); repeat (first | (apply load_at; (conv => lhs; whnf); (with_reducible assumption); rfl; (conv => whnf)) | (apply load_at; (conv => lhs; rw [add_plain, add_plain]); (with_reducible assumption); rfl; (conv => whnf)) | (apply loads_at; (conv => lhs; whnf); (with_reducible assumption); rfl; (conv => whnf)) | (refine ⟨⟨by omega, by omega⟩, ?_⟩; (conv => whnf))))
        refine call_of (ks F5 H5.d B bc hbr) ?_
        rintro v F6 ⟨rfl, D6, M6, P6⟩
        obtain ⟨H6, T6⟩ := H5.onD M6
        obtain ⟨z1, z2, z3⟩ := T6 R y1 y2 y3
        (conv => whnf)
        refine ⟨z1, ?_⟩
        ((conv => whnf); repeat (first | (apply load_at; (conv => lhs; whnf); (with_reducible assumption); rfl; (conv => whnf)) | (apply load_at; (conv => lhs; rw [add_plain, add_plain]); (with_reducible assumption); rfl; (conv => whnf)) | (apply loads_at; (conv => lhs; whnf); (with_reducible assumption); rfl; (conv => whnf)) | (refine ⟨⟨by omega, by omega⟩, ?_⟩; (conv => whnf))))
        refine call_of (kpg F6) ?_
        rintro v F7 ⟨⟨C, cc, rfl, _, hcr, _⟩, hE7⟩
        obtain ⟨H7, T7⟩ := H6.ext hE7
        obtain ⟨u1, u2, u3⟩ := T7 R z1 z2 z3
        (conv => whnf)
        refine ⟨u1, ?_⟩
        ((conv => whnf); repeat (first | (apply load_at; (conv => lhs; whnf); (with_reducible assumption); rfl; (conv => whnf)) | (apply load_at; (conv => lhs; rw [add_plain, add_plain]); (with_reducible assumption); rfl; (conv => whnf)) | (apply loads_at; (conv => lhs; whnf); (with_reducible assumption); rfl; (conv => whnf)) | (refine ⟨⟨by omega, by omega⟩, ?_⟩; (conv => whnf))))
        refine call_of (kr F7 H7.x C cc hcr) ?_
        rintro v F8 ⟨rfl, X8, M8, R8⟩
        obtain ⟨H8, T8⟩ := H7.onX M8
        obtain ⟨w1, w2, w3⟩ := T8 R u1 u2 u3
        (conv => whnf)
        refine ⟨w1, ?_⟩
        ((conv => whnf); repeat (first | (apply load_at; (conv => lhs; whnf); (with_reducible assumption); rfl; (conv => whnf)) | (apply load_at; (conv => lhs; rw [add_plain, add_plain]); (with_reducible assumption); rfl; (conv => whnf)) | (apply loads_at; (conv => lhs; whnf); (with_reducible assumption); rfl; (conv => whnf)) | (refine ⟨⟨by omega, by omega⟩, ?_⟩; (conv => whnf))))
        exact hK _ _ ⟨rfl, D6, X8, H8, P6, R8, w1, w2, w3⟩
      rintro env' F6 ⟨hev, D6, X6, H6, P6, R6, y1, y2, y3⟩
      rw [beq_self_eq_true] at hev
      refine short [5, 6, 9, 42, 43, 44] [.pointer (some ⟨pb, 0, none⟩), .pointer (some ⟨xb, 0, none⟩), .bool true, .slice (some ad) rs.length c1, .int .i64 (rs.length : Int), .int .i64 (j : Int)] hev fun ρ => ?_
      ((conv => whnf); repeat (first | (apply load_at; (conv => lhs; whnf); (with_reducible assumption); rfl; (conv => whnf)) | (apply load_at; (conv => lhs; rw [add_plain, add_plain]); (with_reducible assumption); rfl; (conv => whnf)) | (apply loads_at; (conv => lhs; whnf); (with_reducible assumption); rfl; (conv => whnf)) | (refine ⟨⟨by omega, by omega⟩, ?_⟩; (conv => whnf))))
      have kc := pgChanged H6.d P6 (by omega)
      have kp := fun F' (h : Ext F6 F') => pgPages (H6.d.trans h) P6
      have hsz6 : pagesN s.size = pagesN (r.L.length : Int) := congrArg pagesN (sim_same hS).sz
      have R6' := R6
      obtain ⟨_, _, _, lb6, b6, T6', L6', ps6, G6, hP6⟩ := R6'
      have kr := fun F' (h : Ext F6 F') => rpChanged (H6.x.trans h) R6
      have kq := fun F' (h : Ext F6 F') => Rg.pages ((hP6.baseL.trans H6.x).trans h) hP6.log
      have hcx := fun F' (h : Ext F6 F') => h _ _ (H6.x _ _ hP6.cell)
      rw [← hsz6] at kq
      generalize pagesN s.size = PN at kp kq
      have hml : (S5.map (·.1)).length = S5.length := List.length_map _
      generalize S5.map (·.1) = L1 at kc kr hml
      refine draw_cut (fun env' F' => [5, 6, 42, 43, 44, 135].map env' = [.pointer (some ⟨pb, 0, none⟩), .pointer (some ⟨xb, 0, none⟩), .slice (some ad) rs.length c1, .int .i64 (rs.length : Int), .int .i64 (j : Int), .bool (PN != PN)] ∧ Ext F6 F') (fun K hK => ?_) ?_
      · refine draw_tree_at tab_ok (by kernel_rfl) [] (DT.row [0, 1, 2, 3, 5, 4, 6, 7, 8, 9, 10, 11, 13, 14, 15, 16, 12, 17, 18, 19] .nil) (by kernel_rfl) (fun _ => none) (fun _ _ h => by cases h) ?_
        ((conv => whnf); repeat (first | (apply load_at; (conv => lhs; whnf); (with_reducible assumption); rfl; (conv => whnf)) | (apply load_at; (conv => lhs; rw [add_plain, add_plain]); (with_reducible assumption); rfl; (conv => whnf)) | (apply loads_at; (conv => lhs; whnf); (with_reducible assumption); rfl; (conv => whnf)) | (refine ⟨⟨by omega, by omega⟩, ?_⟩; (conv => whnf))))
        refine call_of kc ?_
        rintro v F7 hM7
        obtain ⟨C7, c7, rfl, _, hr7⟩ := hM7.own.row
        (conv => whnf)
        refine ⟨(fun _ _ h => by cases h), ?_⟩
        ((conv => whnf); repeat (first | (apply load_at; (conv => lhs; whnf); (with_reducible assumption); rfl; (conv => whnf)) | (apply load_at; (conv => lhs; rw [add_plain, add_plain]); (with_reducible assumption); rfl; (conv => whnf)) | (apply loads_at; (conv => lhs; whnf); (with_reducible assumption); rfl; (conv => whnf)) | (refine ⟨⟨by omega, by omega⟩, ?_⟩; (conv => whnf))))
        refine call_of (kr F7 hM7.ext) ?_
        rintro v F8 hM8
        obtain ⟨C8, c8, rfl, _, hr8⟩ := hM8.own.row
        (conv => whnf)
        refine ⟨(fun _ _ h => by cases h), ?_⟩
        have ke := slicesEqual L1 L1 C7 C8 c7 c8 F8 (hr7.mono hM8.ext) hr8 (by omega) (by omega)
        rw [beq_self_eq_true, hml] at ke
        ((conv => whnf); repeat (first | (apply load_at; (conv => lhs; whnf); (with_reducible assumption); rfl; (conv => whnf)) | (apply load_at; (conv => lhs; rw [add_plain, add_plain]); (with_reducible assumption); rfl; (conv => whnf)) | (apply loads_at; (conv => lhs; whnf); (with_reducible assumption); rfl; (conv => whnf)) | (refine ⟨⟨by omega, by omega⟩, ?_⟩; (conv => whnf))))
        refine call_of ke ?_
        rintro v F8 ⟨rfl, rfl⟩
        have hE8 := hM7.ext.trans hM8.ext
        have hcx8 := hcx F8 hE8
        (conv => whnf)
        refine ⟨(fun _ _ h => by cases h), ?_⟩
        ((conv => whnf); repeat (first | (apply load_at; (conv => lhs; whnf); (with_reducible assumption); rfl; (conv => whnf)) | (apply load_at; (conv => lhs; rw [add_plain, add_plain]); (with_reducible assumption); rfl; (conv => whnf)) | (apply loads_at; (conv => lhs; whnf); (with_reducible assumption); rfl; (conv => whnf)) | (refine ⟨⟨by omega, by omega⟩, ?_⟩; (conv => whnf))))
        refine call_of (kp F8 hE8) ?_
        rintro v F8 ⟨rfl, rfl⟩
        (conv => whnf)
        refine ⟨(fun _ _ h => by cases h), Ext.refl _, ?_⟩
        ((conv => whnf); repeat (first | (apply load_at; (conv => lhs; whnf); (with_reducible assumption); rfl; (conv => whnf)) | (apply load_at; (conv => lhs; rw [add_plain, add_plain]); (with_reducible assumption); rfl; (conv => whnf)) | (apply loads_at; (conv => lhs; whnf); (with_reducible assumption); rfl; (conv => whnf)) | (refine ⟨⟨by omega, by omega⟩, ?_⟩; (conv => whnf))))
        refine call_of (kq F8 hE8) ?_
        rintro v F8 ⟨rfl, rfl⟩
        (conv => whnf)
        refine ⟨(fun _ _ h => by cases h), ?_⟩
        ((conv => whnf); repeat (first | (apply load_at; (conv => lhs; whnf); (with_reducible assumption); rfl; (conv => whnf)) | (apply load_at; (conv => lhs; rw [add_plain, add_plain]); (with_reducible assumption); rfl; (conv => whnf)) | (apply loads_at; (conv => lhs; whnf); (with_reducible assumption); rfl; (conv => whnf)) | (refine ⟨⟨by omega, by omega⟩, ?_⟩; (conv => whnf))))
        exact hK _ _ ⟨rfl, hE8⟩
      rintro env' F7 ⟨hev7, hE7⟩
      obtain ⟨H7, T7⟩ := H6.ext hE7
      obtain ⟨u1, u2, u3⟩ := T7 R y1 y2 y3
      refine short [5, 6, 42, 43, 44, 135] [.pointer (some ⟨pb, 0, none⟩), .pointer (some ⟨xb, 0, none⟩), .slice (some ad) rs.length c1, .int .i64 (rs.length : Int), .int .i64 (j : Int), .bool (PN != PN)] hev7 fun ρ => ?_
      ((conv => whnf); repeat (first | (apply load_at; (conv => lhs; whnf); (with_reducible assumption); rfl; (conv => whnf)) | (apply load_at; (conv => lhs; rw [add_plain, add_plain]); (with_reducible assumption); rfl; (conv => whnf)) | (apply loads_at; (conv => lhs; whnf); (with_reducible assumption); rfl; (conv => whnf)) | (refine ⟨⟨by omega, by omega⟩, ?_⟩; (conv => whnf))))
      refine cond_split (fun h_ => absurd h_ (by simp)) (fun h => ?_)
      ((conv => whnf); repeat (first | (apply load_at; (conv => lhs; whnf); (with_reducible assumption); rfl; (conv => whnf)) | (apply load_at; (conv => lhs; rw [add_plain, add_plain]); (with_reducible assumption); rfl; (conv => whnf)) | (apply loads_at; (conv => lhs; whnf); (with_reducible assumption); rfl; (conv => whnf)) | (refine ⟨⟨by omega, by omega⟩, ?_⟩; (conv => whnf))))
      refine ⟨k2 - 1, by omega, j + 1, D6, X6, S5, s, r, q, by omega, ?_, H7, P6, R6, hS, eFR.trans u1, (fun c hc => eFR.none (u2 c hc)), (fun c hc => eFR.none (u3 c hc)), (by omega), (by omega), hz⟩
      exact Eq.trans (b := [.pointer (some ⟨pb, 0, none⟩), .pointer (some ⟨xb, 0, none⟩), .slice (some ad) rs.length c1, .int .i64 (rs.length : Int), .int .i64 (IntKind.i64.wrap ((j : Int) + 1))]) rfl (by rw [hj1])
    by_cases h2 : op = 2
    · subst h2
      have ks := fun F' (h : Ext D F') B bc hbr => pgSet h P3 (List.replicate 240 x) B bc hbr (by rw [List.length_replicate]; decide) ii
      have kr := fun F' (h : Ext X F') B bc hbr => rpSet h R3 (List.replicate 240 x) B bc hbr (by rw [List.length_replicate]; decide) ii (by omega)
      have kpg := fun F => page7 x F
      have hlS := ps_len (n := s.size) (S := S) ii (List.replicate 240 x)
      have hrep := (List.length_replicate : (List.replicate 240 x).length = 240)
      generalize List.replicate 240 x = dd at ks kr kpg hlS hrep
      rw [← hsz] at kr
      generalize psE s.size ii dd = pe at ks kr
      generalize psS s.size S ii dd = S5 at ks kr hlS
      ((conv => whnf); repeat (first | (apply load_at; (conv => lhs; whnf); (with_reducible assumption); rfl; (conv => whnf)) | (apply load_at; (conv => lhs; rw [add_plain, add_plain]); (with_reducible assumption); rfl; (conv => whnf)) | (apply loads_at; (conv => lhs; whnf); (with_reducible assumption); rfl; (conv => whnf)) | (refine ⟨⟨by omega, by omega⟩, ?_⟩; (conv => whnf))))
      refine draw_cut (fun env' F' => [5, 6, 9, 42, 43, 44].map env' = [.pointer (some ⟨pb, 0, none⟩), .pointer (some ⟨xb, 0, none⟩), .bool (pe == pe), .slice (some ad) rs.length c1, .int .i64 (rs.length : Int), .int .i64 (j : Int)] ∧ ∃ D6 X6, Duo F' D6 X6 ∧ Pg D6 pb s q S5 ∧ Rp X6 xb r q S5 ∧ Ext R F' ∧ Apart D6 R ∧ Apart X6 R) (fun K hK => ?_) ?_
      · refine draw_tree_at tab_ok (by kernel_rfl) [2, 4, 9, 11] (DT.row [0, 1, 2, 3, 4, 7, 8, 9, 10, 11, 5, 6, 12, 13, 14, 15] .nil) (by kernel_rfl) R eR ?_
        ((conv => whnf); repeat (first | (apply load_at; (conv => lhs; whnf); (with_reducible assumption); rfl; (conv => whnf)) | (apply load_at; (conv => lhs; rw [add_plain, add_plain]); (with_reducible assumption); rfl; (conv => whnf)) | (apply loads_at; (conv => lhs; whnf); (with_reducible assumption); rfl; (conv => whnf)) | (refine ⟨⟨by omega, by omega⟩, ?_⟩; (conv => whnf))))
        refine call_of (kpg F4) ?_
        rintro v F5 ⟨⟨B, bc, rfl, _, hbr, _⟩, hE5⟩
        obtain ⟨H5, T5⟩ := H4.ext hE5
        obtain ⟨y1, y2, y3⟩ := T5 R eR aRD aRX
        (conv => whnf)
        refine ⟨y1, ?_⟩
        ((conv => whnf); repeat (first | (apply load_at; (conv => lhs; whnf); (with_reducible assumption); rfl; (conv => whnf)) | (apply load_at; (conv => lhs; rw [add_plain, add_plain]); (with_reducible assumption); rfl; (conv => whnf)) | (apply loads_at; (conv => lhs; whnf); (with_reducible assumption); rfl; (conv => whnf)) | (refine ⟨⟨by omega, by omega⟩, ?_⟩; (conv => whnf))))
        refine call_of (ks F5 H5.d B bc hbr) ?_
        rintro v F6 ⟨rfl, D6, M6, P6⟩
        obtain ⟨H6, T6⟩ := H5.onD M6
        obtain ⟨z1, z2, z3⟩ := T6 R y1 y2 y3
        (conv => whnf)
        refine ⟨z1, ?_⟩
        ((conv => whnf); repeat (first | (apply load_at; (conv => lhs; whnf); (with_reducible assumption); rfl; (conv => whnf)) | (apply load_at; (conv => lhs; rw [add_plain, add_plain]); (with_reducible assumption); rfl; (conv => whnf)) | (apply loads_at; (conv => lhs; whnf); (with_reducible assumption); rfl; (conv => whnf)) | (refine ⟨⟨by omega, by omega⟩, ?_⟩; (conv => whnf))))
        refine call_of (kpg F6) ?_
        rintro v F7 ⟨⟨C, cc, rfl, _, hcr, _⟩, hE7⟩
        obtain ⟨H7, T7⟩ := H6.ext hE7
        obtain ⟨u1, u2, u3⟩ := T7 R z1 z2 z3
        (conv => whnf)
        refine ⟨u1, ?_⟩
        ((conv => whnf); repeat (first | (apply load_at; (conv => lhs; whnf); (with_reducible assumption); rfl; (conv => whnf)) | (apply load_at; (conv => lhs; rw [add_plain, add_plain]); (with_reducible assumption); rfl; (conv => whnf)) | (apply loads_at; (conv => lhs; whnf); (with_reducible assumption); rfl; (conv => whnf)) | (refine ⟨⟨by omega, by omega⟩, ?_⟩; (conv => whnf))))
        refine call_of (kr F7 H7.x C cc hcr) ?_
        rintro v F8 ⟨rfl, X8, M8, R8⟩
        obtain ⟨H8, T8⟩ := H7.onX M8
        obtain ⟨w1, w2, w3⟩ := T8 R u1 u2 u3
        (conv => whnf)
        refine ⟨w1, ?_⟩
        ((conv => whnf); repeat (first | (apply load_at; (conv => lhs; whnf); (with_reducible assumption); rfl; (conv => whnf)) | (apply load_at; (conv => lhs; rw [add_plain, add_plain]); (with_reducible assumption); rfl; (conv => whnf)) | (apply loads_at; (conv => lhs; whnf); (with_reducible assumption); rfl; (conv => whnf)) | (refine ⟨⟨by omega, by omega⟩, ?_⟩; (conv => whnf))))
        exact hK _ _ ⟨rfl, D6, X8, H8, P6, R8, w1, w2, w3⟩
      rintro env' F6 ⟨hev, D6, X6, H6, P6, R6, y1, y2, y3⟩
      rw [beq_self_eq_true] at hev
      refine short [5, 6, 9, 42, 43, 44] [.pointer (some ⟨pb, 0, none⟩), .pointer (some ⟨xb, 0, none⟩), .bool true, .slice (some ad) rs.length c1, .int .i64 (rs.length : Int), .int .i64 (j : Int)] hev fun ρ => ?_
      ((conv => whnf); repeat (first | (apply load_at; (conv => lhs; whnf); (with_reducible assumption); rfl; (conv => whnf)) | (apply load_at; (conv => lhs; rw [add_plain, add_plain]); (with_reducible assumption); rfl; (conv => whnf)) | (apply loads_at; (conv => lhs; whnf); (with_reducible assumption); rfl; (conv => whnf)) | (refine ⟨⟨by omega, by omega⟩, ?_⟩; (conv => whnf))))
      have kc := pgChanged H6.d P6 (by omega)
      have kp := fun F' (h : Ext F6 F') => pgPages (H6.d.trans h) P6
      have hsz6 : pagesN s.size = pagesN (r.L.length : Int) := congrArg pagesN (sim_same hS).sz
      have R6' := R6
      obtain ⟨_, _, _, lb6, b6, T6', L6', ps6, G6, hP6⟩ := R6'
      have kr := fun F' (h : Ext F6 F') => rpChanged (H6.x.trans h) R6
      have kq := fun F' (h : Ext F6 F') => Rg.pages ((hP6.baseL.trans H6.x).trans h) hP6.log
      have hcx := fun F' (h : Ext F6 F') => h _ _ (H6.x _ _ hP6.cell)
      rw [← hsz6] at kq
      generalize pagesN s.size = PN at kp kq
      have hml : (S5.map (·.1)).length = S5.length := List.length_map _
      generalize S5.map (·.1) = L1 at kc kr hml
      refine draw_cut (fun env' F' => [5, 6, 42, 43, 44, 135].map env' = [.pointer (some ⟨pb, 0, none⟩), .pointer (some ⟨xb, 0, none⟩), .slice (some ad) rs.length c1, .int .i64 (rs.length : Int), .int .i64 (j : Int), .bool (PN != PN)] ∧ Ext F6 F') (fun K hK => ?_) ?_
      · refine draw_tree_at tab_ok (by kernel_rfl) [] (DT.row [0, 1, 2, 3, 5, 4, 6, 7, 8, 9, 10, 11, 13, 14, 15, 16, 12, 17, 18, 19] .nil) (by kernel_rfl) (fun _ => none) (fun _ _ h => by cases h) ?_
        ((conv => whnf); repeat (first | (apply load_at; (conv => lhs; whnf); (with_reducible assumption); rfl; (conv => whnf)) | (apply load_at; (conv => lhs; rw [add_plain, add_plain]); (with_reducible assumption); rfl; (conv => whnf)) | (apply loads_at; (conv => lhs; whnf); (with_reducible assumption); rfl; (conv => whnf)) | (refine ⟨⟨by omega, by omega⟩, ?_⟩; (conv => whnf))))
        refine call_of kc ?_
        rintro v F7 hM7
        obtain ⟨C7, c7, rfl, _, hr7⟩ := hM7.own.row
        (conv => whnf)
        refine ⟨(fun _ _ h => by cases h), ?_⟩
        ((conv => whnf); repeat (first | (apply load_at; (conv => lhs; whnf); (with_reducible assumption); rfl; (conv => whnf)) | (apply load_at; (conv => lhs; rw [add_plain, add_plain]); (with_reducible assumption); rfl; (conv => whnf)) | (apply loads_at; (conv => lhs; whnf); (with_reducible assumption); rfl; (conv => whnf)) | (refine ⟨⟨by omega, by omega⟩, ?_⟩; (conv => whnf))))
        refine call_of (kr F7 hM7.ext) ?_
        rintro v F8 hM8
        obtain ⟨C8, c8, rfl, _, hr8⟩ := hM8.own.row
        (conv => whnf)
        refine ⟨(fun _ _ h => by cases h), ?_⟩
        have ke := slicesEqual L1 L1 C7 C8 c7 c8 F8 (hr7.mono hM8.ext) hr8 (by omega) (by omega)
        rw [beq_self_eq_true, hml] at ke
        ((conv => whnf); repeat (first | (apply load_at; (conv => lhs; whnf); (with_reducible assumption); rfl; (conv => whnf)) | (apply load_at; (conv => lhs; rw [add_plain, add_plain]); (with_reducible assumption); rfl; (conv => whnf)) | (apply loads_at; (conv => lhs; whnf); (with_reducible assumption); rfl; (conv => whnf)) | (refine ⟨⟨by omega, by omega⟩, ?_⟩; (conv => whnf))))
        refine call_of ke ?_
        rintro v F8 ⟨rfl, rfl⟩
        have hE8 := hM7.ext.trans hM8.ext
        have hcx8 := hcx F8 hE8
        (conv => whnf)
        refine ⟨(fun _ _ h => by cases h), ?_⟩
        ((conv => whnf); repeat (first | (apply load_at; (conv => lhs; whnf); (with_reducible assumption); rfl; (conv => whnf)) | (apply load_at; (conv => lhs; rw [add_plain, add_plain]); (with_reducible assumption); rfl; (conv => whnf)) | (apply loads_at; (conv => lhs; whnf); (with_reducible assumption); rfl; (conv => whnf)) | (refine ⟨⟨by omega, by omega⟩, ?_⟩; (conv => whnf))))
        refine call_of (kp F8 hE8) ?_
        rintro v F8 ⟨rfl, rfl⟩
        (conv => whnf)
        refine ⟨(fun _ _ h => by cases h), Ext.refl _, ?_⟩
        ((conv => whnf); repeat (first | (apply load_at; (conv => lhs; whnf); (with_reducible assumption); rfl; (conv => whnf)) | (apply load_at; (conv => lhs; rw [add_plain, add_plain]); (with_reducible assumption); rfl; (conv => whnf)) | (apply loads_at; (conv => lhs; whnf); (with_reducible assumption); rfl; (conv => whnf)) | (refine ⟨⟨by omega, by omega⟩, ?_⟩; (conv => whnf))))
        refine call_of (kq F8 hE8) ?_
        rintro v F8 ⟨rfl, rfl⟩
        (conv => whnf)
        refine ⟨(fun _ _ h => by cases h), ?_⟩
        ((conv => whnf); repeat (first | (apply load_at; (conv => lhs; whnf); (with_reducible assumption); rfl; (conv => whnf)) | (apply load_at; (conv => lhs; rw [add_plain, add_plain]); (with_reducible assumption); rfl; (conv => whnf)) | (apply loads_at; (conv => lhs; whnf); (with_reducible assumption); rfl; (conv => whnf)) | (refine ⟨⟨by omega, by omega⟩, ?_⟩; (conv => whnf))))
        exact hK _ _ ⟨rfl, hE8⟩
      rintro env' F7 ⟨hev7, hE7⟩
      obtain ⟨H7, T7⟩ := H6.ext hE7
      obtain ⟨u1, u2, u3⟩ := T7 R y1 y2 y3
      refine short [5, 6, 42, 43, 44, 135] [.pointer (some ⟨pb, 0, none⟩), .pointer (some ⟨xb, 0, none⟩), .slice (some ad) rs.length c1, .int .i64 (rs.length : Int), .int .i64 (j : Int), .bool (PN != PN)] hev7 fun ρ => ?_
      ((conv => whnf); repeat (first | (apply load_at; (conv => lhs; whnf); (with_reducible assumption); rfl; (conv => whnf)) | (apply load_at; (conv => lhs; rw [add_plain, add_plain]); (with_reducible assumption); rfl; (conv => whnf)) | (apply loads_at; (conv => lhs; whnf); (with_reducible assumption); rfl; (conv => whnf)) | (refine ⟨⟨by omega, by omega⟩, ?_⟩; (conv => whnf))))
      refine cond_split (fun h_ => absurd h_ (by simp)) (fun h => ?_)
      ((conv => whnf); repeat (first | (apply load_at; (conv => lhs; whnf); (with_reducible assumption); rfl; (conv => whnf)) | (apply load_at; (conv => lhs; rw [add_plain, add_plain]); (with_reducible assumption); rfl; (conv => whnf)) | (apply loads_at; (conv => lhs; whnf); (with_reducible assumption); rfl; (conv => whnf)) | (refine ⟨⟨by omega, by omega⟩, ?_⟩; (conv => whnf))))
      refine ⟨k2 - 1, by omega, j + 1, D6, X6, S5, s, r, q, by omega, ?_, H7, P6, R6, hS, eFR.trans u1, (fun c hc => eFR.none (u2 c hc)), (fun c hc => eFR.none (u3 c hc)), (by omega), (by omega), hz⟩
      exact Eq.trans (b := [.pointer (some ⟨pb, 0, none⟩), .pointer (some ⟨xb, 0, none⟩), .slice (some ad) rs.length c1, .int .i64 (rs.length : Int), .int .i64 (IntKind.i64.wrap ((j : Int) + 1))]) rfl (by rw [hj1])
    by_cases h3 : op = 3
    · subst h3
      have ka := pgGet H4.d P3 (hNR.mono eR) ii
      have kb := fun F' (h : Ext X F') => rpGet h R3 ii
      obtain ⟨e1, e2⟩ := sim_pg hS S ii
      rw [← e1, ← e2] at kb
      generalize pgE dsO s S ii = ge at ka kb
      generalize pgD dsO s S ii = gd at ka kb
      ((conv => whnf); repeat (first | (apply load_at; (conv => lhs; whnf); (with_reducible assumption); rfl; (conv => whnf)) | (apply load_at; (conv => lhs; rw [add_plain, add_plain]); (with_reducible assumption); rfl; (conv => whnf)) | (apply loads_at; (conv => lhs; whnf); (with_reducible assumption); rfl; (conv => whnf)) | (refine ⟨⟨by omega, by omega⟩, ?_⟩; (conv => whnf))))
      refine call_of ka ?_
      rintro v F5 ⟨u, rfl, ⟨B, bc, rfl, _, hbr, _⟩, hE5⟩
      obtain ⟨H5, T5⟩ := H4.ext hE5
      have hBg5 := hE5 _ _ hBg4
      refine short [5, 6, 8, 9, 42, 43, 44, 84] [.pointer (some ⟨pb, 0, none⟩), .pointer (some ⟨xb, 0, none⟩), .pointer (some ⟨g, 0, none⟩), .bool true, .slice (some ad) rs.length c1, .int .i64 (rs.length : Int), .int .i64 (j : Int), .tuple #[.slice B gd.length bc, .int .i64 ge]] rfl fun ρ => ?_
      ((conv => whnf); repeat (first | (apply load_at; (conv => lhs; whnf); (with_reducible assumption); rfl; (conv => whnf)) | (apply load_at; (conv => lhs; rw [add_plain, add_plain]); (with_reducible assumption); rfl; (conv => whnf)) | (apply loads_at; (conv => lhs; whnf); (with_reducible assumption); rfl; (conv => whnf)) | (refine ⟨⟨by omega, by omega⟩, ?_⟩; (conv => whnf))))
      refine call_of (kb F5 H5.x) ?_
      rintro v F6 ⟨u, rfl, ⟨C, cc, rfl, _, hcr, _⟩, hE6⟩
      obtain ⟨H6, T6⟩ := H5.ext hE6
      obtain ⟨y1, y2, y3⟩ := (T5.trans T6) R eR aRD aRX
      have kq := bytesEqual gd gd B C bc cc F6 (hbr.mono hE6) hcr
      rw [beq_self_eq_true] at kq
      refine short [5, 6, 10, 11, 42, 43, 44, 91] [.pointer (some ⟨pb, 0, none⟩), .pointer (some ⟨xb, 0, none⟩), .slice B gd.length bc, .int .i64 ge, .slice (some ad) rs.length c1, .int .i64 (rs.length : Int), .int .i64 (j : Int), .tuple #[.slice C gd.length cc, .int .i64 ge]] rfl fun ρ => ?_
      ((conv => whnf); repeat (first | (apply load_at; (conv => lhs; whnf); (with_reducible assumption); rfl; (conv => whnf)) | (apply load_at; (conv => lhs; rw [add_plain, add_plain]); (with_reducible assumption); rfl; (conv => whnf)) | (apply loads_at; (conv => lhs; whnf); (with_reducible assumption); rfl; (conv => whnf)) | (refine ⟨⟨by omega, by omega⟩, ?_⟩; (conv => whnf))))
      refine call_of kq ?_
      rintro v F6 ⟨rfl, rfl⟩
      refine short [5, 6, 11, 13, 42, 43, 44, 96] [.pointer (some ⟨pb, 0, none⟩), .pointer (some ⟨xb, 0, none⟩), .int .i64 ge, .int .i64 ge, .slice (some ad) rs.length c1, .int .i64 (rs.length : Int), .int .i64 (j : Int), .bool true] rfl fun ρ => ?_
      ((conv => whnf); repeat (first | (apply load_at; (conv => lhs; whnf); (with_reducible assumption); rfl; (conv => whnf)) | (apply load_at; (conv => lhs; rw [add_plain, add_plain]); (with_reducible assumption); rfl; (conv => whnf)) | (apply loads_at; (conv => lhs; whnf); (with_reducible assumption); rfl; (conv => whnf)) | (refine ⟨⟨by omega, by omega⟩, ?_⟩; (conv => whnf))))
      rw [beq_self_eq_true]
      have kc := pgChanged H6.d P3 (by omega)
      have kp := fun F' (h : Ext F6 F') => pgPages (H6.d.trans h) P3
      have hsz6 : pagesN s.size = pagesN (r.L.length : Int) := congrArg pagesN (sim_same hS).sz
      have R6' := R3
      obtain ⟨_, _, _, lb6, b6, T6', L6', ps6, G6, hP6⟩ := R6'
      have kr := fun F' (h : Ext F6 F') => rpChanged (H6.x.trans h) R3
      have kq := fun F' (h : Ext F6 F') => Rg.pages ((hP6.baseL.trans H6.x).trans h) hP6.log
      have hcx := fun F' (h : Ext F6 F') => h _ _ (H6.x _ _ hP6.cell)
      rw [← hsz6] at kq
      generalize pagesN s.size = PN at kp kq
      have hml : (S.map (·.1)).length = S.length := List.length_map _
      generalize S.map (·.1) = L1 at kc kr hml
      refine draw_cut (fun env' F' => [5, 6, 42, 43, 44, 135].map env' = [.pointer (some ⟨pb, 0, none⟩), .pointer (some ⟨xb, 0, none⟩), .slice (some ad) rs.length c1, .int .i64 (rs.length : Int), .int .i64 (j : Int), .bool (PN != PN)] ∧ Ext F6 F') (fun K hK => ?_) ?_
      · refine draw_tree_at tab_ok (by kernel_rfl) [] (DT.row [0, 1, 2, 3, 5, 4, 6, 7, 8, 9, 10, 11, 13, 14, 15, 16, 12, 17, 18, 19] .nil) (by kernel_rfl) (fun _ => none) (fun _ _ h => by cases h) ?_
        ((conv => whnf); repeat (first | (apply load_at; (conv => lhs; whnf); (with_reducible assumption); rfl; (conv => whnf)) | (apply load_at; (conv => lhs; rw [add_plain, add_plain]); (with_reducible assumption); rfl; (conv => whnf)) | (apply loads_at; (conv => lhs; whnf); (with_reducible assumption); rfl; (conv => whnf)) | (refine ⟨⟨by omega, by omega⟩, ?_⟩; (conv => whnf))))
        refine call_of kc ?_
        rintro v F7 hM7
        obtain ⟨C7, c7, rfl, _, hr7⟩ := hM7.own.row
        (conv => whnf)
        refine ⟨(fun _ _ h => by cases h), ?_⟩
        ((conv => whnf); repeat (first | (apply load_at; (conv => lhs; whnf); (with_reducible assumption); rfl; (conv => whnf)) | (apply load_at; (conv => lhs; rw [add_plain, add_plain]); (with_reducible assumption); rfl; (conv => whnf)) | (apply loads_at; (conv => lhs; whnf); (with_reducible assumption); rfl; (conv => whnf)) | (refine ⟨⟨by omega, by omega⟩, ?_⟩; (conv => whnf))))
        refine call_of (kr F7 hM7.ext) ?_
        rintro v F8 hM8
        obtain ⟨C8, c8, rfl, _, hr8⟩ := hM8.own.row
        (conv => whnf)
        refine ⟨(fun _ _ h => by cases h), ?_⟩
        have ke := slicesEqual L1 L1 C7 C8 c7 c8 F8 (hr7.mono hM8.ext) hr8 (by omega) (by omega)
        rw [beq_self_eq_true, hml] at ke
        ((conv => whnf); repeat (first | (apply load_at; (conv => lhs; whnf); (with_reducible assumption); rfl; (conv => whnf)) | (apply load_at; (conv => lhs; rw [add_plain, add_plain]); (with_reducible assumption); rfl; (conv => whnf)) | (apply loads_at; (conv => lhs; whnf); (with_reducible assumption); rfl; (conv => whnf)) | (refine ⟨⟨by omega, by omega⟩, ?_⟩; (conv => whnf))))
        refine call_of ke ?_
        rintro v F8 ⟨rfl, rfl⟩
        have hE8 := hM7.ext.trans hM8.ext
        have hcx8 := hcx F8 hE8
        (conv => whnf)
        refine ⟨(fun _ _ h => by cases h), ?_⟩
        ((conv => whnf); repeat (first | (apply load_at; (conv => lhs; whnf); (with_reducible assumption); rfl; (conv => whnf)) | (apply load_at; (conv => lhs; rw [add_plain, add_plain]); (with_reducible assumption); rfl; (conv => whnf)) | (apply loads_at; (conv => lhs; whnf); (with_reducible assumption); rfl; (conv => whnf)) | (refine ⟨⟨by omega, by omega⟩, ?_⟩; (conv => whnf))))
        refine call_of (kp F8 hE8) ?_
        rintro v F8 ⟨rfl, rfl⟩
        (conv => whnf)
        refine ⟨(fun _ _ h => by cases h), Ext.refl _, ?_⟩
        ((conv => whnf); repeat (first | (apply load_at; (conv => lhs; whnf); (with_reducible assumption); rfl; (conv => whnf)) | (apply load_at; (conv => lhs; rw [add_plain, add_plain]); (with_reducible assumption); rfl; (conv => whnf)) | (apply loads_at; (conv => lhs; whnf); (with_reducible assumption); rfl; (conv => whnf)) | (refine ⟨⟨by omega, by omega⟩, ?_⟩; (conv => whnf))))
        refine call_of (kq F8 hE8) ?_
        rintro v F8 ⟨rfl, rfl⟩
        (conv => whnf)
        refine ⟨(fun _ _ h => by cases h), ?_⟩
        ((conv => whnf); repeat (first | (apply load_at; (conv => lhs; whnf); (with_reducible assumption); rfl; (conv => whnf)) | (apply load_at; (conv => lhs; rw [add_plain, add_plain]); (with_reducible assumption); rfl; (conv => whnf)) | (apply loads_at; (conv => lhs; whnf); (with_reducible assumption); rfl; (conv => whnf)) | (refine ⟨⟨by omega, by omega⟩, ?_⟩; (conv => whnf))))
        exact hK _ _ ⟨rfl, hE8⟩
      rintro env' F7 ⟨hev7, hE7⟩
      obtain ⟨H7, T7⟩ := H6.ext hE7
      obtain ⟨u1, u2, u3⟩ := T7 R y1 y2 y3
      refine short [5, 6, 42, 43, 44, 135] [.pointer (some ⟨pb, 0, none⟩), .pointer (some ⟨xb, 0, none⟩), .slice (some ad) rs.length c1, .int .i64 (rs.length : Int), .int .i64 (j : Int), .bool (PN != PN)] hev7 fun ρ => ?_
      ((conv => whnf); repeat (first | (apply load_at; (conv => lhs; whnf); (with_reducible assumption); rfl; (conv => whnf)) | (apply load_at; (conv => lhs; rw [add_plain, add_plain]); (with_reducible assumption); rfl; (conv => whnf)) | (apply loads_at; (conv => lhs; whnf); (with_reducible assumption); rfl; (conv => whnf)) | (refine ⟨⟨by omega, by omega⟩, ?_⟩; (conv => whnf))))
      refine cond_split (fun h_ => absurd h_ (by simp)) (fun h => ?_)
      ((conv => whnf); repeat (first | (apply load_at; (conv => lhs; whnf); (with_reducible assumption); rfl; (conv => whnf)) | (apply load_at; (conv => lhs; rw [add_plain, add_plain]); (with_reducible assumption); rfl; (conv => whnf)) | (apply loads_at; (conv => lhs; whnf); (with_reducible assumption); rfl; (conv => whnf)) | (refine ⟨⟨by omega, by omega⟩, ?_⟩; (conv => whnf))))
      refine ⟨k2 - 1, by omega, j + 1, D, X, S, s, r, q, by omega, ?_, H7, P3, R3, hS, eFR.trans u1, (fun c hc => eFR.none (u2 c hc)), (fun c hc => eFR.none (u3 c hc)), (by omega), (by omega), hz⟩
      exact Eq.trans (b := [.pointer (some ⟨pb, 0, none⟩), .pointer (some ⟨xb, 0, none⟩), .slice (some ad) rs.length c1, .int .i64 (rs.length : Int), .int .i64 (IntKind.i64.wrap ((j : Int) + 1))]) rfl (by rw [hj1])
    by_cases h4 : op = 4
    · subst h4
      have P3' := P3
      obtain ⟨_, _, lb5, b5, ms5, L5, lS5, G5, hP5⟩ := P3'
      obtain ⟨D5', hDk5, _, _⟩ := hP5.log.disk
      obtain ⟨e2, V6, w6, z6⟩ := sim_commit hS hDk5.1 q S (by omega) (by omega)
      have ka := pgCommit H4.d P3 eR aRD hNR (by omega) (by omega)
      have kb := fun F' (h : Ext X F') => rpCommit h R3 (by have := hS.wr; omega)
      rw [← e2] at kb
      generalize commitS dsO s q S = cs at ka kb V6 w6 z6
      generalize commitS rsO r q S = ct at kb V6
      obtain ⟨s6, ec, q6⟩ := cs
      obtain ⟨r6, _, _⟩ := ct
      dsimp only at ka kb V6 w6 z6
      have hk6 : (keepS ec S).length ≤ S.length := by
        unfold keepS
        split
        · exact Nat.zero_le _
        · exact Nat.le_refl _
      generalize keepS ec S = S6 at ka kb hk6
      ((conv => whnf); repeat (first | (apply load_at; (conv => lhs; whnf); (with_reducible assumption); rfl; (conv => whnf)) | (apply load_at; (conv => lhs; rw [add_plain, add_plain]); (with_reducible assumption); rfl; (conv => whnf)) | (apply loads_at; (conv => lhs; whnf); (with_reducible assumption); rfl; (conv => whnf)) | (refine ⟨⟨by omega, by omega⟩, ?_⟩; (conv => whnf))))
      refine call_of ka ?_
      rintro v F5 ⟨rfl, D6, M5, P6⟩
      obtain ⟨H5, T5⟩ := H4.onD M5
      refine short [5, 6, 42, 43, 44, 105] [.pointer (some ⟨pb, 0, none⟩), .pointer (some ⟨xb, 0, none⟩), .slice (some ad) rs.length c1, .int .i64 (rs.length : Int), .int .i64 (j : Int), .int .i64 ec] rfl fun ρ => ?_
      ((conv => whnf); repeat (first | (apply load_at; (conv => lhs; whnf); (with_reducible assumption); rfl; (conv => whnf)) | (apply load_at; (conv => lhs; rw [add_plain, add_plain]); (with_reducible assumption); rfl; (conv => whnf)) | (apply loads_at; (conv => lhs; whnf); (with_reducible assumption); rfl; (conv => whnf)) | (refine ⟨⟨by omega, by omega⟩, ?_⟩; (conv => whnf))))
      refine call_of (kb F5 H5.x) ?_
      rintro v F6 ⟨rfl, X6, M6, R6⟩
      obtain ⟨H6, T6⟩ := H5.onX M6
      obtain ⟨y1, y2, y3⟩ := (T5.trans T6) R eR aRD aRX
      refine short [5, 6, 42, 43, 44, 105, 107] [.pointer (some ⟨pb, 0, none⟩), .pointer (some ⟨xb, 0, none⟩), .slice (some ad) rs.length c1, .int .i64 (rs.length : Int), .int .i64 (j : Int), .int .i64 ec, .int .i64 ec] rfl fun ρ => ?_
      ((conv => whnf); repeat (first | (apply load_at; (conv => lhs; whnf); (with_reducible assumption); rfl; (conv => whnf)) | (apply load_at; (conv => lhs; rw [add_plain, add_plain]); (with_reducible assumption); rfl; (conv => whnf)) | (apply loads_at; (conv => lhs; whnf); (with_reducible assumption); rfl; (conv => whnf)) | (refine ⟨⟨by omega, by omega⟩, ?_⟩; (conv => whnf))))
      rw [beq_self_eq_true]
      have kc := pgChanged H6.d P6 (by omega)
      have kp := fun F' (h : Ext F6 F') => pgPages (H6.d.trans h) P6
      have hsz6 : pagesN s6.size = pagesN (r6.L.length : Int) := congrArg pagesN (sim_same V6).sz
      have R6' := R6
      obtain ⟨_, _, _, lb6, b6, T6', L6', ps6, G6, hP6⟩ := R6'
      have kr := fun F' (h : Ext F6 F') => rpChanged (H6.x.trans h) R6
      have kq := fun F' (h : Ext F6 F') => Rg.pages ((hP6.baseL.trans H6.x).trans h) hP6.log
      have hcx := fun F' (h : Ext F6 F') => h _ _ (H6.x _ _ hP6.cell)
      rw [← hsz6] at kq
      generalize pagesN s6.size = PN at kp kq
      have hml : (S6.map (·.1)).length = S6.length := List.length_map _
      generalize S6.map (·.1) = L1 at kc kr hml
      refine draw_cut (fun env' F' => [5, 6, 42, 43, 44, 135].map env' = [.pointer (some ⟨pb, 0, none⟩), .pointer (some ⟨xb, 0, none⟩), .slice (some ad) rs.length c1, .int .i64 (rs.length : Int), .int .i64 (j : Int), .bool (PN != PN)] ∧ Ext F6 F') (fun K hK => ?_) ?_
      · refine draw_tree_at tab_ok (by kernel_rfl) [] (DT.row [0, 1, 2, 3, 5, 4, 6, 7, 8, 9, 10, 11, 13, 14, 15, 16, 12, 17, 18, 19] .nil) (by kernel_rfl) (fun _ => none) (fun _ _ h => by cases h) ?_
        ((conv => whnf); repeat (first | (apply load_at; (conv => lhs; whnf); (with_reducible assumption); rfl; (conv => whnf)) | (apply load_at; (conv => lhs; rw [add_plain, add_plain]); (with_reducible assumption); rfl; (conv => whnf)) | (apply loads_at; (conv => lhs; whnf); (with_reducible assumption); rfl; (conv => whnf)) | (refine ⟨⟨by omega, by omega⟩, ?_⟩; (conv => whnf))))
        refine call_of kc ?_
        rintro v F7 hM7
        obtain ⟨C7, c7, rfl, _, hr7⟩ := hM7.own.row
        (conv => whnf)
        refine ⟨(fun _ _ h => by cases h), ?_⟩
        ((conv => whnf); repeat (first | (apply load_at; (conv => lhs; whnf); (with_reducible assumption); rfl; (conv => whnf)) | (apply load_at; (conv => lhs; rw [add_plain, add_plain]); (with_reducible assumption); rfl; (conv => whnf)) | (apply loads_at; (conv => lhs; whnf); (with_reducible assumption); rfl; (conv => whnf)) | (refine ⟨⟨by omega, by omega⟩, ?_⟩; (conv => whnf))))
        refine call_of (kr F7 hM7.ext) ?_
        rintro v F8 hM8
        obtain ⟨C8, c8, rfl, _, hr8⟩ := hM8.own.row
        (conv => whnf)
        refine ⟨(fun _ _ h => by cases h), ?_⟩
        have ke := slicesEqual L1 L1 C7 C8 c7 c8 F8 (hr7.mono hM8.ext) hr8 (by omega) (by omega)
        rw [beq_self_eq_true, hml] at ke
        ((conv => whnf); repeat (first | (apply load_at; (conv => lhs; whnf); (with_reducible assumption); rfl; (conv => whnf)) | (apply load_at; (conv => lhs; rw [add_plain, add_plain]); (with_reducible assumption); rfl; (conv => whnf)) | (apply loads_at; (conv => lhs; whnf); (with_reducible assumption); rfl; (conv => whnf)) | (refine ⟨⟨by omega, by omega⟩, ?_⟩; (conv => whnf))))
        refine call_of ke ?_
        rintro v F8 ⟨rfl, rfl⟩
        have hE8 := hM7.ext.trans hM8.ext
        have hcx8 := hcx F8 hE8
        (conv => whnf)
        refine ⟨(fun _ _ h => by cases h), ?_⟩
        ((conv => whnf); repeat (first | (apply load_at; (conv => lhs; whnf); (with_reducible assumption); rfl; (conv => whnf)) | (apply load_at; (conv => lhs; rw [add_plain, add_plain]); (with_reducible assumption); rfl; (conv => whnf)) | (apply loads_at; (conv => lhs; whnf); (with_reducible assumption); rfl; (conv => whnf)) | (refine ⟨⟨by omega, by omega⟩, ?_⟩; (conv => whnf))))
        refine call_of (kp F8 hE8) ?_
        rintro v F8 ⟨rfl, rfl⟩
        (conv => whnf)
        refine ⟨(fun _ _ h => by cases h), Ext.refl _, ?_⟩
        ((conv => whnf); repeat (first | (apply load_at; (conv => lhs; whnf); (with_reducible assumption); rfl; (conv => whnf)) | (apply load_at; (conv => lhs; rw [add_plain, add_plain]); (with_reducible assumption); rfl; (conv => whnf)) | (apply loads_at; (conv => lhs; whnf); (with_reducible assumption); rfl; (conv => whnf)) | (refine ⟨⟨by omega, by omega⟩, ?_⟩; (conv => whnf))))
        refine call_of (kq F8 hE8) ?_
        rintro v F8 ⟨rfl, rfl⟩
        (conv => whnf)
        refine ⟨(fun _ _ h => by cases h), ?_⟩
        ((conv => whnf); repeat (first | (apply load_at; (conv => lhs; whnf); (with_reducible assumption); rfl; (conv => whnf)) | (apply load_at; (conv => lhs; rw [add_plain, add_plain]); (with_reducible assumption); rfl; (conv => whnf)) | (apply loads_at; (conv => lhs; whnf); (with_reducible assumption); rfl; (conv => whnf)) | (refine ⟨⟨by omega, by omega⟩, ?_⟩; (conv => whnf))))
        exact hK _ _ ⟨rfl, hE8⟩
      rintro env' F7 ⟨hev7, hE7⟩
      obtain ⟨H7, T7⟩ := H6.ext hE7
      obtain ⟨u1, u2, u3⟩ := T7 R y1 y2 y3
      refine short [5, 6, 42, 43, 44, 135] [.pointer (some ⟨pb, 0, none⟩), .pointer (some ⟨xb, 0, none⟩), .slice (some ad) rs.length c1, .int .i64 (rs.length : Int), .int .i64 (j : Int), .bool (PN != PN)] hev7 fun ρ => ?_
      ((conv => whnf); repeat (first | (apply load_at; (conv => lhs; whnf); (with_reducible assumption); rfl; (conv => whnf)) | (apply load_at; (conv => lhs; rw [add_plain, add_plain]); (with_reducible assumption); rfl; (conv => whnf)) | (apply loads_at; (conv => lhs; whnf); (with_reducible assumption); rfl; (conv => whnf)) | (refine ⟨⟨by omega, by omega⟩, ?_⟩; (conv => whnf))))
      refine cond_split (fun h_ => absurd h_ (by simp)) (fun h => ?_)
      ((conv => whnf); repeat (first | (apply load_at; (conv => lhs; whnf); (with_reducible assumption); rfl; (conv => whnf)) | (apply load_at; (conv => lhs; rw [add_plain, add_plain]); (with_reducible assumption); rfl; (conv => whnf)) | (apply loads_at; (conv => lhs; whnf); (with_reducible assumption); rfl; (conv => whnf)) | (refine ⟨⟨by omega, by omega⟩, ?_⟩; (conv => whnf))))
      refine ⟨k2 - 1, by omega, j + 1, D6, X6, S6, s6, r6, q6, by omega, ?_, H7, P6, R6, V6, eFR.trans u1, (fun c hc => eFR.none (u2 c hc)), (fun c hc => eFR.none (u3 c hc)), (by omega), (by omega), (z6.trans hz)⟩
      exact Eq.trans (b := [.pointer (some ⟨pb, 0, none⟩), .pointer (some ⟨xb, 0, none⟩), .slice (some ad) rs.length c1, .int .i64 (rs.length : Int), .int .i64 (IntKind.i64.wrap ((j : Int) + 1))]) rfl (by rw [hj1])
    by_cases h5 : op = 5
    · subst h5
      ((conv => whnf); repeat (first | (apply load_at; (conv => lhs; whnf); (with_reducible assumption); rfl; (conv => whnf)) | (apply load_at; (conv => lhs; rw [add_plain, add_plain]); (with_reducible assumption); rfl; (conv => whnf)) | (apply loads_at; (conv => lhs; whnf); (with_reducible assumption); rfl; (conv => whnf)) | (refine ⟨⟨by omega, by omega⟩, ?_⟩; (conv => whnf))))
      refine call_of (pgAbort H4.d P3) ?_
      rintro v F5 ⟨rfl, D6, M5, P6⟩
      obtain ⟨H5, T5⟩ := H4.onD M5
      refine short [5, 6, 9, 42, 43, 44, 112] [.pointer (some ⟨pb, 0, none⟩), .pointer (some ⟨xb, 0, none⟩), .bool true, .slice (some ad) rs.length c1, .int .i64 (rs.length : Int), .int .i64 (j : Int), .tuple #[]] rfl fun ρ => ?_
      obtain ⟨_, _, _, lb5, b5, T5', L5, ps5, G5, hP5⟩ := R3
      obtain ⟨A5, c5, rfl, _, _⟩ := hP5.own.row
      obtain ⟨M6, P5⟩ := hP5.clear H5.x
      have hcx5 := H5.x _ _ hP5.cell
      ((conv => whnf); repeat (first | (apply load_at; (conv => lhs; whnf); (with_reducible assumption); rfl; (conv => whnf)) | (apply load_at; (conv => lhs; rw [add_plain, add_plain]); (with_reducible assumption); rfl; (conv => whnf)) | (apply loads_at; (conv => lhs; whnf); (with_reducible assumption); rfl; (conv => whnf)) | (refine ⟨⟨by omega, by omega⟩, ?_⟩; (conv => whnf))))
      refine store_step xb 1 _ #[.pointer (some ⟨lb5, 0, none⟩), .slice none 0 0] rfl hcx5 rfl rfl (.inl (Nat.le_refl 0)) (one_slice _ _ _) ?_
      have R6 : Rp _ xb r q [] := ⟨List.Pairwise.nil, (fun x h => by cases h), Nat.zero_le _, lb5, b5, _, L5, [], G5, P5⟩
      obtain ⟨H6, T6⟩ := H5.onX M6
      obtain ⟨y1, y2, y3⟩ := (T5.trans T6) R eR aRD aRX
      generalize X.put xb _ = X6 at M6 R6 H6 y3
      generalize F5.put xb _ = F6 at M6 H6 y1 ⊢
      obtain ⟨S6, hS6, hl6⟩ : ∃ S6 : PgL, S6 = [] ∧ S6.length = 0 := ⟨_, rfl, rfl⟩
      rw [← hS6] at P6 R6
      ((conv => whnf); repeat (first | (apply load_at; (conv => lhs; whnf); (with_reducible assumption); rfl; (conv => whnf)) | (apply load_at; (conv => lhs; rw [add_plain, add_plain]); (with_reducible assumption); rfl; (conv => whnf)) | (apply loads_at; (conv => lhs; whnf); (with_reducible assumption); rfl; (conv => whnf)) | (refine ⟨⟨by omega, by omega⟩, ?_⟩; (conv => whnf))))
      have kc := pgChanged H6.d P6 (by omega)
      have kp := fun F' (h : Ext F6 F') => pgPages (H6.d.trans h) P6
      have hsz6 : pagesN s.size = pagesN (r.L.length : Int) := congrArg pagesN (sim_same hS).sz
      have R6' := R6
      obtain ⟨_, _, _, lb6, b6, T6', L6', ps6, G6, hP6⟩ := R6'
      have kr := fun F' (h : Ext F6 F') => rpChanged (H6.x.trans h) R6
      have kq := fun F' (h : Ext F6 F') => Rg.pages ((hP6.baseL.trans H6.x).trans h) hP6.log
      have hcx := fun F' (h : Ext F6 F') => h _ _ (H6.x _ _ hP6.cell)
      rw [← hsz6] at kq
      generalize pagesN s.size = PN at kp kq
      have hml : (S6.map (·.1)).length = S6.length := List.length_map _
      generalize S6.map (·.1) = L1 at kc kr hml
      refine draw_cut (fun env' F' => [5, 6, 42, 43, 44, 135].map env' = [.pointer (some ⟨pb, 0, none⟩), .pointer (some ⟨xb, 0, none⟩), .slice (some ad) rs.length c1, .int .i64 (rs.length : Int), .int .i64 (j : Int), .bool (PN != PN)] ∧ Ext F6 F') (fun K hK => ?_) ?_
      · refine draw_tree_at tab_ok (by kernel_rfl) [] (DT.row [0, 1, 2, 3, 5, 4, 6, 7, 8, 9, 10, 11, 13, 14, 15, 16, 12, 17, 18, 19] .nil) (by kernel_rfl) (fun _ => none) (fun _ _ h => by cases h) ?_
        ((conv => whnf); repeat (first | (apply load_at; (conv => lhs; whnf); (with_reducible assumption); rfl; (conv => whnf)) | (apply load_at; (conv => lhs; rw [add_plain, add_plain]); (with_reducible assumption); rfl; (conv => whnf)) | (apply loads_at; (conv => lhs; whnf); (with_reducible assumption); rfl; (conv => whnf)) | (refine ⟨⟨by omega, by omega⟩, ?_⟩; (conv => whnf))))
        refine call_of kc ?_
        rintro v F7 hM7
        obtain ⟨C7, c7, rfl, _, hr7⟩ := hM7.own.row
        (conv => whnf)
        refine ⟨(fun _ _ h => by cases h), ?_⟩
        ((conv => whnf); repeat (first | (apply load_at; (conv => lhs; whnf); (with_reducible assumption); rfl; (conv => whnf)) | (apply load_at; (conv => lhs; rw [add_plain, add_plain]); (with_reducible assumption); rfl; (conv => whnf)) | (apply loads_at; (conv => lhs; whnf); (with_reducible assumption); rfl; (conv => whnf)) | (refine ⟨⟨by omega, by omega⟩, ?_⟩; (conv => whnf))))
        refine call_of (kr F7 hM7.ext) ?_
        rintro v F8 hM8
        obtain ⟨C8, c8, rfl, _, hr8⟩ := hM8.own.row
        (conv => whnf)
        refine ⟨(fun _ _ h => by cases h), ?_⟩
        have ke := slicesEqual L1 L1 C7 C8 c7 c8 F8 (hr7.mono hM8.ext) hr8 (by omega) (by omega)
        rw [beq_self_eq_true, hml] at ke
        ((conv => whnf); repeat (first | (apply load_at; (conv => lhs; whnf); (with_reducible assumption); rfl; (conv => whnf)) | (apply load_at; (conv => lhs; rw [add_plain, add_plain]); (with_reducible assumption); rfl; (conv => whnf)) | (apply loads_at; (conv => lhs; whnf); (with_reducible assumption); rfl; (conv => whnf)) | (refine ⟨⟨by omega, by omega⟩, ?_⟩; (conv => whnf))))
        refine call_of ke ?_
        rintro v F8 ⟨rfl, rfl⟩
        have hE8 := hM7.ext.trans hM8.ext
        have hcx8 := hcx F8 hE8
        (conv => whnf)
        refine ⟨(fun _ _ h => by cases h), ?_⟩
        ((conv => whnf); repeat (first | (apply load_at; (conv => lhs; whnf); (with_reducible assumption); rfl; (conv => whnf)) | (apply load_at; (conv => lhs; rw [add_plain, add_plain]); (with_reducible assumption); rfl; (conv => whnf)) | (apply loads_at; (conv => lhs; whnf); (with_reducible assumption); rfl; (conv => whnf)) | (refine ⟨⟨by omega, by omega⟩, ?_⟩; (conv => whnf))))
        refine call_of (kp F8 hE8) ?_
        rintro v F8 ⟨rfl, rfl⟩
        (conv => whnf)
        refine ⟨(fun _ _ h => by cases h), Ext.refl _, ?_⟩
        ((conv => whnf); repeat (first | (apply load_at; (conv => lhs; whnf); (with_reducible assumption); rfl; (conv => whnf)) | (apply load_at; (conv => lhs; rw [add_plain, add_plain]); (with_reducible assumption); rfl; (conv => whnf)) | (apply loads_at; (conv => lhs; whnf); (with_reducible assumption); rfl; (conv => whnf)) | (refine ⟨⟨by omega, by omega⟩, ?_⟩; (conv => whnf))))
        refine call_of (kq F8 hE8) ?_
        rintro v F8 ⟨rfl, rfl⟩
        (conv => whnf)
        refine ⟨(fun _ _ h => by cases h), ?_⟩
        ((conv => whnf); repeat (first | (apply load_at; (conv => lhs; whnf); (with_reducible assumption); rfl; (conv => whnf)) | (apply load_at; (conv => lhs; rw [add_plain, add_plain]); (with_reducible assumption); rfl; (conv => whnf)) | (apply loads_at; (conv => lhs; whnf); (with_reducible assumption); rfl; (conv => whnf)) | (refine ⟨⟨by omega, by omega⟩, ?_⟩; (conv => whnf))))
        exact hK _ _ ⟨rfl, hE8⟩
      rintro env' F7 ⟨hev7, hE7⟩
      obtain ⟨H7, T7⟩ := H6.ext hE7
      obtain ⟨u1, u2, u3⟩ := T7 R y1 y2 y3
      refine short [5, 6, 42, 43, 44, 135] [.pointer (some ⟨pb, 0, none⟩), .pointer (some ⟨xb, 0, none⟩), .slice (some ad) rs.length c1, .int .i64 (rs.length : Int), .int .i64 (j : Int), .bool (PN != PN)] hev7 fun ρ => ?_
      ((conv => whnf); repeat (first | (apply load_at; (conv => lhs; whnf); (with_reducible assumption); rfl; (conv => whnf)) | (apply load_at; (conv => lhs; rw [add_plain, add_plain]); (with_reducible assumption); rfl; (conv => whnf)) | (apply loads_at; (conv => lhs; whnf); (with_reducible assumption); rfl; (conv => whnf)) | (refine ⟨⟨by omega, by omega⟩, ?_⟩; (conv => whnf))))
      refine cond_split (fun h_ => absurd h_ (by simp)) (fun h => ?_)
      ((conv => whnf); repeat (first | (apply load_at; (conv => lhs; whnf); (with_reducible assumption); rfl; (conv => whnf)) | (apply load_at; (conv => lhs; rw [add_plain, add_plain]); (with_reducible assumption); rfl; (conv => whnf)) | (apply loads_at; (conv => lhs; whnf); (with_reducible assumption); rfl; (conv => whnf)) | (refine ⟨⟨by omega, by omega⟩, ?_⟩; (conv => whnf))))
      refine ⟨k2 - 1, by omega, j + 1, D6, X6, S6, s, r, q, by omega, ?_, H7, P6, R6, hS, eFR.trans u1, (fun c hc => eFR.none (u2 c hc)), (fun c hc => eFR.none (u3 c hc)), (by omega), (by omega), hz⟩
      exact Eq.trans (b := [.pointer (some ⟨pb, 0, none⟩), .pointer (some ⟨xb, 0, none⟩), .slice (some ad) rs.length c1, .int .i64 (rs.length : Int), .int .i64 (IntKind.i64.wrap ((j : Int) + 1))]) rfl (by rw [hj1])
    ((conv => whnf); repeat (first | (apply load_at; (conv => lhs; whnf); (with_reducible assumption); rfl; (conv => whnf)) | (apply load_at; (conv => lhs; rw [add_plain, add_plain]); (with_reducible assumption); rfl; (conv => whnf)) | (apply loads_at; (conv => lhs; whnf); (with_reducible assumption); rfl; (conv => whnf)) | (refine ⟨⟨by omega, by omega⟩, ?_⟩; (conv => whnf))))
    refine cond_split (fun h => absurd (by simpa using h) h0) (fun h => ?_)
    clear h
    ((conv => whnf); repeat (first | (apply load_at; (conv => lhs; whnf); (with_reducible assumption); rfl; (conv => whnf)) | (apply load_at; (conv => lhs; rw [add_plain, add_plain]); (with_reducible assumption); rfl; (conv => whnf)) | (apply loads_at; (conv => lhs; whnf); (with_reducible assumption); rfl; (conv => whnf)) | (refine ⟨⟨by omega, by omega⟩, ?_⟩; (conv => whnf))))
    refine cond_split (fun h => absurd (by simpa using h) h1) (fun h => ?_)
    clear h
    ((conv => whnf); repeat (first | (apply load_at; (conv => lhs; whnf); (with_reducible assumption); rfl; (conv => whnf)) | (apply load_at; (conv => lhs; rw [add_plain, add_plain]); (with_reducible assumption); rfl; (conv => whnf)) | (apply loads_at; (conv => lhs; whnf); (with_reducible assumption); rfl; (conv => whnf)) | (refine ⟨⟨by omega, by omega⟩, ?_⟩; (conv => whnf))))
    refine cond_split (fun h => absurd (by simpa using h) h2) (fun h => ?_)
    clear h
    ((conv => whnf); repeat (first | (apply load_at; (conv => lhs; whnf); (with_reducible assumption); rfl; (conv => whnf)) | (apply load_at; (conv => lhs; rw [add_plain, add_plain]); (with_reducible assumption); rfl; (conv => whnf)) | (apply loads_at; (conv => lhs; whnf); (with_reducible assumption); rfl; (conv => whnf)) | (refine ⟨⟨by omega, by omega⟩, ?_⟩; (conv => whnf))))
    refine cond_split (fun h => absurd (by simpa using h) h3) (fun h => ?_)
    clear h
    ((conv => whnf); repeat (first | (apply load_at; (conv => lhs; whnf); (with_reducible assumption); rfl; (conv => whnf)) | (apply load_at; (conv => lhs; rw [add_plain, add_plain]); (with_reducible assumption); rfl; (conv => whnf)) | (apply loads_at; (conv => lhs; whnf); (with_reducible assumption); rfl; (conv => whnf)) | (refine ⟨⟨by omega, by omega⟩, ?_⟩; (conv => whnf))))
    refine cond_split (fun h => absurd (by simpa using h) h4) (fun h => ?_)
    clear h
    ((conv => whnf); repeat (first | (apply load_at; (conv => lhs; whnf); (with_reducible assumption); rfl; (conv => whnf)) | (apply load_at; (conv => lhs; rw [add_plain, add_plain]); (with_reducible assumption); rfl; (conv => whnf)) | (apply loads_at; (conv => lhs; whnf); (with_reducible assumption); rfl; (conv => whnf)) | (refine ⟨⟨by omega, by omega⟩, ?_⟩; (conv => whnf))))
    refine cond_split (fun h => absurd (by simpa using h) h5) (fun h => ?_)
    clear h
    ((conv => whnf); repeat (first | (apply load_at; (conv => lhs; whnf); (with_reducible assumption); rfl; (conv => whnf)) | (apply load_at; (conv => lhs; rw [add_plain, add_plain]); (with_reducible assumption); rfl; (conv => whnf)) | (apply loads_at; (conv => lhs; whnf); (with_reducible assumption); rfl; (conv => whnf)) | (refine ⟨⟨by omega, by omega⟩, ?_⟩; (conv => whnf))))
    have ks := fun F' (h : Ext D F') => pgSet h P3 [] none 0 (RowAt.nil _ _) (Nat.zero_le _) ii
    have kr := fun F' (h : Ext X F') => rpSet h R3 [] none 0 (RowAt.nil _ _) (Nat.zero_le _) ii (by omega)
    have hlS := ps_len (n := s.size) (S := S) ii []
    rw [← hsz] at kr
    generalize psE s.size ii [] = pe at ks kr
    generalize psS s.size S ii [] = S5 at ks kr hlS
    refine draw_cut (fun env' F' => [5, 6, 9, 42, 43, 44].map env' = [.pointer (some ⟨pb, 0, none⟩), .pointer (some ⟨xb, 0, none⟩), .bool (pe == pe), .slice (some ad) rs.length c1, .int .i64 (rs.length : Int), .int .i64 (j : Int)] ∧ ∃ D6 X6, Duo F' D6 X6 ∧ Pg D6 pb s q S5 ∧ Rp X6 xb r q S5 ∧ Ext R F' ∧ Apart D6 R ∧ Apart X6 R) (fun K hK => ?_) ?_
    · refine draw_tree_at tab_ok (by kernel_rfl) [2, 6] (DT.row [0, 1, 2, 4, 5, 6, 3, 7, 8, 9] .nil) (by kernel_rfl) R eR ?_
      ((conv => whnf); repeat (first | (apply load_at; (conv => lhs; whnf); (with_reducible assumption); rfl; (conv => whnf)) | (apply load_at; (conv => lhs; rw [add_plain, add_plain]); (with_reducible assumption); rfl; (conv => whnf)) | (apply loads_at; (conv => lhs; whnf); (with_reducible assumption); rfl; (conv => whnf)) | (refine ⟨⟨by omega, by omega⟩, ?_⟩; (conv => whnf))))
      refine call_of (ks F4 H4.d) ?_
      rintro v F6 ⟨rfl, D6, M6, P6⟩
      obtain ⟨H6, T6⟩ := H4.onD M6
      obtain ⟨z1, z2, z3⟩ := T6 R eR aRD aRX
      (conv => whnf)
      refine ⟨z1, ?_⟩
      ((conv => whnf); repeat (first | (apply load_at; (conv => lhs; whnf); (with_reducible assumption); rfl; (conv => whnf)) | (apply load_at; (conv => lhs; rw [add_plain, add_plain]); (with_reducible assumption); rfl; (conv => whnf)) | (apply loads_at; (conv => lhs; whnf); (with_reducible assumption); rfl; (conv => whnf)) | (refine ⟨⟨by omega, by omega⟩, ?_⟩; (conv => whnf))))
      refine call_of (kr F6 H6.x) ?_
      rintro v F8 ⟨rfl, X8, M8, R8⟩
      obtain ⟨H8, T8⟩ := H6.onX M8
      obtain ⟨w1, w2, w3⟩ := T8 R z1 z2 z3
      (conv => whnf)
      refine ⟨w1, ?_⟩
      ((conv => whnf); repeat (first | (apply load_at; (conv => lhs; whnf); (with_reducible assumption); rfl; (conv => whnf)) | (apply load_at; (conv => lhs; rw [add_plain, add_plain]); (with_reducible assumption); rfl; (conv => whnf)) | (apply loads_at; (conv => lhs; whnf); (with_reducible assumption); rfl; (conv => whnf)) | (refine ⟨⟨by omega, by omega⟩, ?_⟩; (conv => whnf))))
      exact hK _ _ ⟨rfl, D6, X8, H8, P6, R8, w1, w2, w3⟩
    rintro env' F6 ⟨hev, D6, X6, H6, P6, R6, y1, y2, y3⟩
    rw [beq_self_eq_true] at hev
    refine short [5, 6, 9, 42, 43, 44] [.pointer (some ⟨pb, 0, none⟩), .pointer (some ⟨xb, 0, none⟩), .bool true, .slice (some ad) rs.length c1, .int .i64 (rs.length : Int), .int .i64 (j : Int)] hev fun ρ => ?_
    ((conv => whnf); repeat (first | (apply load_at; (conv => lhs; whnf); (with_reducible assumption); rfl; (conv => whnf)) | (apply load_at; (conv => lhs; rw [add_plain, add_plain]); (with_reducible assumption); rfl; (conv => whnf)) | (apply loads_at; (conv => lhs; whnf); (with_reducible assumption); rfl; (conv => whnf)) | (refine ⟨⟨by omega, by omega⟩, ?_⟩; (conv => whnf))))
    have kc := pgChanged H6.d P6 (by omega)
    have kp := fun F' (h : Ext F6 F') => pgPages (H6.d.trans h) P6
    have hsz6 : pagesN s.size = pagesN (r.L.length : Int) := congrArg pagesN (sim_same hS).sz
    have R6' := R6
    obtain ⟨_, _, _, lb6, b6, T6', L6', ps6, G6, hP6⟩ := R6'
    have kr := fun F' (h : Ext F6 F') => rpChanged (H6.x.trans h) R6
    have kq := fun F' (h : Ext F6 F') => Rg.pages ((hP6.baseL.trans H6.x).trans h) hP6.log
    have hcx := fun F' (h : Ext F6 F') => h _ _ (H6.x _ _ hP6.cell)
    rw [← hsz6] at kq
    generalize pagesN s.size = PN at kp kq
    have hml : (S5.map (·.1)).length = S5.length := List.length_map _
    generalize S5.map (·.1) = L1 at kc kr hml
    refine draw_cut (fun env' F' => [5, 6, 42, 43, 44, 135].map env' = [.pointer (some ⟨pb, 0, none⟩), .pointer (some ⟨xb, 0, none⟩), .slice (some ad) rs.length c1, .int .i64 (rs.length : Int), .int .i64 (j : Int), .bool (PN != PN)] ∧ Ext F6 F') (fun K hK => ?_) ?_
    · refine draw_tree_at tab_ok (by kernel_rfl) [] (DT.row [0, 1, 2, 3, 5, 4, 6, 7, 8, 9, 10, 11, 13, 14, 15, 16, 12, 17, 18, 19] .nil) (by kernel_rfl) (fun _ => none) (fun _ _ h => by cases h) ?_
      ((conv => whnf); repeat (first | (apply load_at; (conv => lhs; whnf); (with_reducible assumption); rfl; (conv => whnf)) | (apply load_at; (conv => lhs; rw [add_plain, add_plain]); (with_reducible assumption); rfl; (conv => whnf)) | (apply loads_at; (conv => lhs; whnf); (with_reducible assumption); rfl; (conv => whnf)) | (refine ⟨⟨by omega, by omega⟩, ?_⟩; (conv => whnf))))
      refine call_of kc ?_
      rintro v F7 hM7
      obtain ⟨C7, c7, rfl, _, hr7⟩ := hM7.own.row
      (conv => whnf)
      refine ⟨(fun _ _ h => by cases h), ?_⟩
      ((conv => whnf); repeat (first | (apply load_at; (conv => lhs; whnf); (with_reducible assumption); rfl; (conv => whnf)) | (apply load_at; (conv => lhs; rw [add_plain, add_plain]); (with_reducible assumption); rfl; (conv => whnf)) | (apply loads_at; (conv => lhs; whnf); (with_reducible assumption); rfl; (conv => whnf)) | (refine ⟨⟨by omega, by omega⟩, ?_⟩; (conv => whnf))))
      refine call_of (kr F7 hM7.ext) ?_
      rintro v F8 hM8
      obtain ⟨C8, c8, rfl, _, hr8⟩ := hM8.own.row
      (conv => whnf)
      refine ⟨(fun _ _ h => by cases h), ?_⟩
      have ke := slicesEqual L1 L1 C7 C8 c7 c8 F8 (hr7.mono hM8.ext) hr8 (by omega) (by omega)
      rw [beq_self_eq_true, hml] at ke
      ((conv => whnf); repeat (first | (apply load_at; (conv => lhs; whnf); (with_reducible assumption); rfl; (conv => whnf)) | (apply load_at; (conv => lhs; rw [add_plain, add_plain]); (with_reducible assumption); rfl; (conv => whnf)) | (apply loads_at; (conv => lhs; whnf); (with_reducible assumption); rfl; (conv => whnf)) | (refine ⟨⟨by omega, by omega⟩, ?_⟩; (conv => whnf))))
      refine call_of ke ?_
      rintro v F8 ⟨rfl, rfl⟩
      have hE8 := hM7.ext.trans hM8.ext
      have hcx8 := hcx F8 hE8
      (conv => whnf)
      refine ⟨(fun _ _ h => by cases h), ?_⟩
      ((conv => whnf); repeat (first | (apply load_at; (conv => lhs; whnf); (with_reducible assumption); rfl; (conv => whnf)) | (apply load_at; (conv => lhs; rw [add_plain, add_plain]); (with_reducible assumption); rfl; (conv => whnf)) | (apply loads_at; (conv => lhs; whnf); (with_reducible assumption); rfl; (conv => whnf)) | (refine ⟨⟨by omega, by omega⟩, ?_⟩; (conv => whnf))))
      refine call_of (kp F8 hE8) ?_
      rintro v F8 ⟨rfl, rfl⟩
      (conv => whnf)
      refine ⟨(fun _ _ h => by cases h), Ext.refl _, ?_⟩
      ((conv => whnf); repeat (first | (apply load_at; (conv => lhs; whnf); (with_reducible assumption); rfl; (conv => whnf)) | (apply load_at; (conv => lhs; rw [add_plain, add_plain]); (with_reducible assumption); rfl; (conv => whnf)) | (apply loads_at; (conv => lhs; whnf); (with_reducible assumption); rfl; (conv => whnf)) | (refine ⟨⟨by omega, by omega⟩, ?_⟩; (conv => whnf))))
      refine call_of (kq F8 hE8) ?_
      rintro v F8 ⟨rfl, rfl⟩
      (conv => whnf)
      refine ⟨(fun _ _ h => by cases h), ?_⟩
      ((conv => whnf); repeat (first | (apply load_at; (conv => lhs; whnf); (with_reducible assumption); rfl; (conv => whnf)) | (apply load_at; (conv => lhs; rw [add_plain, add_plain]); (with_reducible assumption); rfl; (conv => whnf)) | (apply loads_at; (conv => lhs; whnf); (with_reducible assumption); rfl; (conv => whnf)) | (refine ⟨⟨by omega, by omega⟩, ?_⟩; (conv => whnf))))
      exact hK _ _ ⟨rfl, hE8⟩
    rintro env' F7 ⟨hev7, hE7⟩
    obtain ⟨H7, T7⟩ := H6.ext hE7
    obtain ⟨u1, u2, u3⟩ := T7 R y1 y2 y3
    refine short [5, 6, 42, 43, 44, 135] [.pointer (some ⟨pb, 0, none⟩), .pointer (some ⟨xb, 0, none⟩), .slice (some ad) rs.length c1, .int .i64 (rs.length : Int), .int .i64 (j : Int), .bool (PN != PN)] hev7 fun ρ => ?_
    ((conv => whnf); repeat (first | (apply load_at; (conv => lhs; whnf); (with_reducible assumption); rfl; (conv => whnf)) | (apply load_at; (conv => lhs; rw [add_plain, add_plain]); (with_reducible assumption); rfl; (conv => whnf)) | (apply loads_at; (conv => lhs; whnf); (with_reducible assumption); rfl; (conv => whnf)) | (refine ⟨⟨by omega, by omega⟩, ?_⟩; (conv => whnf))))
    refine cond_split (fun h_ => absurd h_ (by simp)) (fun h => ?_)
    ((conv => whnf); repeat (first | (apply load_at; (conv => lhs; whnf); (with_reducible assumption); rfl; (conv => whnf)) | (apply load_at; (conv => lhs; rw [add_plain, add_plain]); (with_reducible assumption); rfl; (conv => whnf)) | (apply loads_at; (conv => lhs; whnf); (with_reducible assumption); rfl; (conv => whnf)) | (refine ⟨⟨by omega, by omega⟩, ?_⟩; (conv => whnf))))
    refine ⟨k2 - 1, by omega, j + 1, D6, X6, S5, s, r, q, by omega, ?_, H7, P6, R6, hS, eFR.trans u1, (fun c hc => eFR.none (u2 c hc)), (fun c hc => eFR.none (u3 c hc)), (by omega), (by omega), hz⟩
    exact Eq.trans (b := [.pointer (some ⟨pb, 0, none⟩), .pointer (some ⟨xb, 0, none⟩), .slice (some ad) rs.length c1, .int .i64 (rs.length : Int), .int .i64 (IntKind.i64.wrap ((j : Int) + 1))]) rfl (by rw [hj1])
  · clear h
    ((conv => whnf); repeat (first | (apply load_at; (conv => lhs; whnf); (with_reducible assumption); rfl; (conv => whnf)) | (apply load_at; (conv => lhs; rw [add_plain, add_plain]); (with_reducible assumption); rfl; (conv => whnf)) | (apply loads_at; (conv => lhs; whnf); (with_reducible assumption); rfl; (conv => whnf)) | (refine ⟨⟨by omega, by omega⟩, ?_⟩; (conv => whnf))))
    refine call_of (out F3 E3) ?_
    rintro v F9 ⟨rfl, hE⟩
    ((conv => whnf); repeat (first | (apply load_at; (conv => lhs; whnf); (with_reducible assumption); rfl; (conv => whnf)) | (apply load_at; (conv => lhs; rw [add_plain, add_plain]); (with_reducible assumption); rfl; (conv => whnf)) | (apply loads_at; (conv => lhs; whnf); (with_reducible assumption); rfl; (conv => whnf)) | (refine ⟨⟨by omega, by omega⟩, ?_⟩; (conv => whnf))))
    exact ⟨rfl, hE⟩
end Go.Proofs.YtmpiggcooboenaaGreatDoor.AlPagerLives
