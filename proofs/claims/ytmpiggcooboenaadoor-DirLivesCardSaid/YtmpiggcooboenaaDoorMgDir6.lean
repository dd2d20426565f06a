/- Texts of this claim, joined: RedX RlD PagA PagB PagC PagD RedY DirE DirA PagU RedZ DirB DirC. -/
import Derived.Test.YtmpiggcooboenaaDoorMgDir1
import Derived.Test.YtmpiggcooboenaaDoorMgDir2
import Derived.Test.YtmpiggcooboenaaDoorMgDir3
import Derived.Test.YtmpiggcooboenaaDoorMgDir4
import Derived.Test.YtmpiggcooboenaaDoorMgDir5
/- The laws' awake. -/
namespace Go.Proofs.YtmpiggcooboenaaDoor.Al
open Go Go.Al Go.Proofs Go.RowKit
set_option maxHeartbeats 8000000
set_option maxRecDepth 100000
set_option linter.unusedVariables false
set_option linter.unusedSimpArgs false
theorem lgv_take {D F D' F' : Heap} {b lb : Nat} {s : DS} {q : Int} (hM : Moves D F D' F') (hD : Dk D' b s) (h1 : D lb = none → F lb = none) (h2 : D' lb = none) (h3 : F' lb = some (lgO b q)) (hq : 0 ≤ q ∧ q ≤ 4611686018427387904) :
    Moves D F (D'.put lb (lgO b q)) F' ∧ Lg (D'.put lb (lgO b q)) lb b s q := by
  refine ⟨⟨fun c u hc => ?_, hM.out, fun c hc => ?_⟩, D', hD, h2, rfl, hq⟩
  · by_cases e : c = lb
    · subst e; rw [Heap.put_same] at hc; rw [h3]; exact hc
    · rw [Heap.put_other _ _ e] at hc; exact hM.inn c u hc
  · by_cases e : c = lb
    · subst e
      cases e2 : D c with
      | none => exact .inr (h1 e2)
      | some o => exact .inl (by simp)
    · rw [Heap.put_other _ _ e] at hc; exact hM.new c hc
theorem Lg.ext {E : Heap} {lb b : Nat} {s : DS} {q : Int} {F : Heap} (h : Lg E lb b s q) (hE : Ext E F) : ∃ D, Dk D b s ∧ Ext D F ∧ F lb = some (lgO b q) := by
  obtain ⟨D, h1, h2, h3⟩ := h.disk
  exact ⟨D, h1, h2.trans hE, hE _ _ h3⟩
/-- A log just opened on a new disk, by calls that have been told. -/
theorem lgOf {E F : Heap} {lb b : Nat} {s : DS} {q : Int} (h : Lg E lb b s q) (hE : Ext E F) (hN : NibAt F) (p : Int) (hd : s.down = false) (hp : isPg s.size p = true) :
    FnK Tryd.prog 17 #[.pointer (some ⟨lb, 0, none⟩), .int .i64 p] F (fun v F' => ∃ u, v = .tuple #[u, .int .i64 0] ∧ NewRow F F' u (pgOf s.size (secB s) p) ∧ Ext F F') := by
  obtain ⟨D, h1, h2, h3⟩ := h.ext hE
  obtain ⟨e1, e2⟩ := load_c hd hp
  have := lgLoad h2 h1 h3 hN p
  rw [e1, e2] at this
  exact this
/-- A side part of memory takes what is new. -/
theorem side_gain {E R F F' : Heap} (hE : Ext E F) (hR : Ext R F) (hA : Apart E R) (hX : Ext F F') : Ext (gain R F F') F' ∧ Apart E (gain R F F') ∧ Ext R (gain R F F') := by
  refine ⟨fun c o hc => ?_, fun c hc => ?_, gain_ext hR⟩
  · cases e : F c with
    | none => rw [gain_new e] at hc; exact hc
    | some u => rw [gain_old e] at hc; exact hX _ _ (hR _ _ hc)
  · cases e : E c with
    | none => exact absurd e hc
    | some o => rw [gain_old (hE _ _ e)]; exact hA c hc
/-- .. as one word. -/
theorem commit_to {s : DS} {q : Int} {ps : List (Int × List UInt8)} (hI : Ims s.size (q + 1) ps) (h0 : ps ≠ []) (hu : Up s) (hd : DWf s) (hw : s.writes + 100000 < 1000000000) :
    ∃ s', commitS dsO s q ps = (s', 0, q + 1) ∧ Up s' ∧ DWf s' ∧ Calm s' ∧ s'.size = s.size ∧ Done s.size (q + 1) ps (secB s) (secB s') ∧ s'.writes = s.writes + 2 * ps.length + 1 := by
  obtain ⟨h1, h2, h3, h4, h5, h6, h7⟩ := commit_up hI h0 hu hd hw
  refine ⟨(commitS dsO s q ps).1, ?_, h2, h3, h4, h5, h6, h7⟩
  rw [← h1]
def awkI : List (Int × List UInt8) := [(2, List.replicate 240 7), (0, List.replicate 240 8)]
theorem awk_ims : Ims 9 2 awkI := by
  refine ⟨fun p hp => ?_, by decide, by decide, by decide⟩
  unfold awkI at hp
  rcases List.mem_cons.1 hp with rfl | hp
  · exact ⟨by decide, List.length_replicate⟩
  · rw [List.mem_singleton] at hp
    subst hp
    exact ⟨by decide, List.length_replicate⟩
theorem awake6 (F : Heap) (hN : NibAt F) : FnK Tryd.prog 23 #[] F (fun v F' => v = .bool true ∧ Ext F F') := by
  obtain ⟨f1, f2⟩ := fmt_fresh (n := 9) (by decide)
  obtain ⟨o1, o2⟩ := frs_fresh (n := 9) (by decide)
  have k1 := new 9 F
  have k2 := fun D F b hE hD hN => redoFormat (D := D) (F := F) (b := b) (s := newS 9) hE hD hN (by show (0 : Int) + 1 < _; omega)
  rw [f1] at k2
  replace k2 : ∀ D F b, Ext D F → Dk D b (newS 9) → NibAt F → FnK Tryd.prog 22 #[.pointer (some ⟨b, 0, none⟩)] F (fun v F' => v = .int .i64 0 ∧ ∃ D', Moves D F D' F' ∧ Dk D' b (fmtS 9)) := k2
  have k3 := fun D F b hE hD hN => redoOpen (D := D) (F := F) (b := b) (s := fmtS 9) hE hD hN (by rw [f2.writes]; omega)
  rw [o1] at k3
  replace k3 : ∀ D F b, Ext D F → Dk D b (fmtS 9) → NibAt F → FnK Tryd.prog 18 #[.pointer (some ⟨b, 0, none⟩)] F (fun v F' => ∃ w D', v = .tuple #[w, .int .i64 0] ∧ Moves D F D' F' ∧ Dk D' b (frsS 9) ∧ LgV D F D' F' b w (some 1)) := k3
  generalize fmtS 9 = s1 at k2 k3
  generalize frsS 9 = s2 at k3 o2
  have hI : Ims s2.size (1 + 1) awkI := by rw [o2.size]; exact awk_ims
  obtain ⟨s4, c1, c2, c3, c4, c5, c6, c7⟩ := commit_to (s := s2) (q := 1) hI (by unfold awkI; simp) o2.up o2.wf (by rw [o2.writes]; omega)
  have k4 := fun E F R b lb hE hL hR hA hN ims A c hr hp hw hl => lgCommit (E := E) (F := F) (R := R) (b := b) (lb := lb) (s := s2) (q := 1) hE hL hR hA hN ims A c hr hp hw hl
  have hlenI : awkI.length = 2 := rfl
  have c7' : s4.writes = 6 := by rw [c7, o2.writes, hlenI]; rfl
  have p1 : pgOf s4.size (secB s4) 2 = List.replicate 240 7 := by
    rw [c5]
    exact pg_pack hI (x := (2, List.replicate 240 7)) List.mem_cons_self (c6.yes _ List.mem_cons_self)
  have hsz9 : s4.size = 9 := c5.trans o2.size
  (refine fn_walk tab_ok Tryd.func23 rfl rfl rfl rfl ?_; (conv => whnf))
  refine call_of k1 ?_
  rintro v F1 h
  rcases h with ⟨h, _⟩ | ⟨_, _, b, D1, rfl, hM1, hD1⟩
  · omega
  have hF1 := hM1.keep (Ext.refl F) (Apart.none F)
  have hA1 := hM1.apart (Ext.refl F) (Apart.none F)
  ((conv => whnf); repeat (first | (apply load_at; (conv => lhs; whnf); (with_reducible assumption); rfl; (conv => whnf)) | (apply load_at; (conv => lhs; rw [add_plain, add_plain]); (with_reducible assumption); rfl; (conv => whnf)) | (apply loads_at; (conv => lhs; whnf); (with_reducible assumption); rfl; (conv => whnf)) | (refine ⟨⟨by omega, by omega⟩, ?_⟩; (conv => whnf))))
  refine call_of (k2 D1 F1 b hM1.inn hD1 (hN.mono hF1)) ?_
  rintro v F2 ⟨rfl, D2, hM2, hD2⟩
  have hF2 := hM2.keep hF1 hA1
  have hA2 := hM2.apart hF1 hA1
  refine short [1, 17, 19] [.pointer (some ⟨b, 0, none⟩), .bool false, .int .i64 0] rfl fun ρ => ?_
  ((conv => whnf); repeat (first | (apply load_at; (conv => lhs; whnf); (with_reducible assumption); rfl; (conv => whnf)) | (apply load_at; (conv => lhs; rw [add_plain, add_plain]); (with_reducible assumption); rfl; (conv => whnf)) | (apply loads_at; (conv => lhs; whnf); (with_reducible assumption); rfl; (conv => whnf)) | (refine ⟨⟨by omega, by omega⟩, ?_⟩; (conv => whnf))))
  refine call_of (k3 D2 F2 b hM2.inn hD2 (hN.mono hF2)) ?_
  rintro v F3 ⟨w, D3, rfl, hM3, hD3, lb, rfl, g1, g2, g3⟩
  obtain ⟨hM3', hL3⟩ := lgv_take hM3 hD3 g1 g2 g3 (by decide)
  have hF3 := hM3'.keep hF2 hA2
  have hA3 := hM3'.apart hF2 hA2
  have hE3 := hM3'.inn
  generalize D3.put lb (lgO b 1) = E3 at hM3' hL3 hF3 hA3 hE3
  refine short [1, 24] [.pointer (some ⟨b, 0, none⟩), .tuple #[.pointer (some ⟨lb, 0, none⟩), .int .i64 0]] rfl fun ρ => ?_
  ((conv => whnf); repeat (first | (apply load_at; (conv => lhs; whnf); (with_reducible assumption); rfl; (conv => whnf)) | (apply load_at; (conv => lhs; rw [add_plain, add_plain]); (with_reducible assumption); rfl; (conv => whnf)) | (apply loads_at; (conv => lhs; whnf); (with_reducible assumption); rfl; (conv => whnf)) | (refine ⟨⟨by omega, by omega⟩, ?_⟩; (conv => whnf))))
  refine call_of (page6 7 F3) ?_
  rintro v F4 ⟨⟨B, bc, rfl, hbc, hbr, hbf⟩, hX4⟩
  refine short [1, 3, 33, 34, 35] [.pointer (some ⟨b, 0, none⟩), .pointer (some ⟨lb, 0, none⟩), .bool false, .pointer (some ⟨lb, 0, none⟩), .slice B 240 bc] rfl fun ρ => ?_
  ((conv => whnf); repeat (first | (apply load_at; (conv => lhs; whnf); (with_reducible assumption); rfl; (conv => whnf)) | (apply load_at; (conv => lhs; rw [add_plain, add_plain]); (with_reducible assumption); rfl; (conv => whnf)) | (apply loads_at; (conv => lhs; whnf); (with_reducible assumption); rfl; (conv => whnf)) | (refine ⟨⟨by omega, by omega⟩, ?_⟩; (conv => whnf))))
  refine call_of (page6 8 F4) ?_
  rintro v F5 ⟨⟨C, cc, rfl, hcc, hcr, hcf⟩, hX5⟩
  ((conv => whnf); repeat (first | (apply load_at; (conv => lhs; whnf); (with_reducible assumption); rfl; (conv => whnf)) | (apply load_at; (conv => lhs; rw [add_plain, add_plain]); (with_reducible assumption); rfl; (conv => whnf)) | (apply loads_at; (conv => lhs; whnf); (with_reducible assumption); rfl; (conv => whnf)) | (refine ⟨⟨by omega, by omega⟩, ?_⟩; (conv => whnf))))
  refine new_step (.cells (rowS pcC [⟨2, List.replicate 240 7, B, bc⟩, ⟨0, List.replicate 240 8, C, cc⟩]).toArray 67) rfl fun g h0_g => ?_
  have hE_g := Ext.new h0_g (.cells (rowS pcC [⟨2, List.replicate 240 7, B, bc⟩, ⟨0, List.replicate 240 8, C, cc⟩]).toArray 67)
  have hB_g := Heap.put_same F5 g (.cells (rowS pcC [⟨2, List.replicate 240 7, B, bc⟩, ⟨0, List.replicate 240 8, C, cc⟩]).toArray 67)
  generalize F5.put g _ = F6 at hE_g hB_g ⊢
  have hX36 := hX4.trans (hX5.trans hE_g)
  obtain ⟨r1, r2, r3⟩ := side_gain hE3 hF3 hA3 hX36
  have rB : RowAt (gain F F3 F6) B (bytesOf (List.replicate 240 7)) := rowAt_gain (hbr.mono (hX5.trans hE_g)) hbf
  have rC : RowAt (gain F F3 F6) C (bytesOf (List.replicate 240 8)) := rowAt_gain (hcr.mono hE_g) fun a ha => hX4.none (hcf a ha)
  have rG : RowAt (gain F F3 F6) (some ⟨g, 0, none⟩) (rowS pcC [⟨2, List.replicate 240 7, B, bc⟩, ⟨0, List.replicate 240 8, C, cc⟩]) := by
    have := row_blk hB_g
    rw [List.toList_toArray] at this
    refine rowAt_gain this fun a ha => ?_
    injection ha with ha
    subst ha
    exact (hX4.trans hX5).none h0_g
  have kC := k4 E3 F6 (gain F F3 F6) b lb (hE3.trans hX36) hL3 r1 r2 (hN.mono r3) [⟨2, List.replicate 240 7, B, bc⟩, ⟨0, List.replicate 240 8, C, cc⟩] (some ⟨g, 0, none⟩) 2 rG (fun p hp => by
    rcases List.mem_cons.1 hp with rfl | hp
    · exact ⟨rB, by show (List.replicate 240 _).length ≤ _; rw [List.length_replicate]; omega⟩
    · rw [List.mem_singleton] at hp
      subst hp
      exact ⟨rC, by show (List.replicate 240 _).length ≤ _; rw [List.length_replicate]; omega⟩) (by rw [o2.writes]; omega) (Nat.le_of_ble_eq_true rfl)
  replace kC : FnK Tryd.prog 19 #[.pointer (some ⟨lb, 0, none⟩), .slice (some ⟨g, 0, none⟩) 2 2] F6 (fun v F' => v = .int .i64 (commitS dsO s2 1 awkI).2.1 ∧ ∃ E', Moves E3 F6 E' F' ∧ Lg E' lb b (commitS dsO s2 1 awkI).1 (commitS dsO s2 1 awkI).2.2) := kC
  rw [c1] at kC
  replace kC : FnK Tryd.prog 19 #[.pointer (some ⟨lb, 0, none⟩), .slice (some ⟨g, 0, none⟩) 2 2] F6 (fun v F' => v = .int .i64 0 ∧ ∃ E', Moves E3 F6 E' F' ∧ Lg E' lb b s4 (1 + 1)) := kC
  ((conv => whnf); repeat (first | (apply load_at; (conv => lhs; whnf); (with_reducible assumption); rfl; (conv => whnf)) | (apply load_at; (conv => lhs; rw [add_plain, add_plain]); (with_reducible assumption); rfl; (conv => whnf)) | (apply loads_at; (conv => lhs; whnf); (with_reducible assumption); rfl; (conv => whnf)) | (refine ⟨⟨by omega, by omega⟩, ?_⟩; (conv => whnf))))
  refine call_of kC ?_
  rintro v F7 ⟨rfl, E7, hM7, hL7⟩
  have hF7 := hM7.keep r1 r2
  have hFF7 := r3.trans hF7
  refine short [1, 3, 33, 40] [.pointer (some ⟨b, 0, none⟩), .pointer (some ⟨lb, 0, none⟩), .bool false, .int .i64 0] rfl fun ρ => ?_
  ((conv => whnf); repeat (first | (apply load_at; (conv => lhs; whnf); (with_reducible assumption); rfl; (conv => whnf)) | (apply load_at; (conv => lhs; rw [add_plain, add_plain]); (with_reducible assumption); rfl; (conv => whnf)) | (apply loads_at; (conv => lhs; whnf); (with_reducible assumption); rfl; (conv => whnf)) | (refine ⟨⟨by omega, by omega⟩, ?_⟩; (conv => whnf))))
  have kL := lgOf hL7 hM7.inn (hN.mono hFF7) 2 c2.down (by rw [hsz9]; decide)
  rw [p1] at kL
  refine call_of kL ?_
  rintro v F8 ⟨u, rfl, ⟨U, uc, rfl, huc, hur, huf⟩, hX8⟩
  have hE8 := hM7.inn.trans hX8
  have hFF8 := hFF7.trans hX8
  obtain ⟨D8, q1, q2, q3⟩ := hL7.ext hE8
  obtain ⟨ua, rfl⟩ := hur.some (by rw [bytes_len, List.length_replicate]; decide)
  have hcell := byte_cell hur (j := 0) (by rw [List.length_replicate]; decide)
  rw [List.getElem_replicate] at hcell
  have kP := lgPages q2 q1 q3
  rw [hsz9, show pagesN 9 = 4 by decide] at kP
  have kS := lgSeq q3
  have kW := dk_writes q2 q1
  rw [c7'] at kW
  refine short [1, 3, 45] [.pointer (some ⟨b, 0, none⟩), .pointer (some ⟨lb, 0, none⟩), .tuple #[.slice (some ua) 240 uc, .int .i64 0]] rfl fun ρ => ?_
  ((conv => whnf); repeat (first | (apply load_at; (conv => lhs; whnf); (with_reducible assumption); rfl; (conv => whnf)) | (apply load_at; (conv => lhs; rw [add_plain, add_plain]); (with_reducible assumption); rfl; (conv => whnf)) | (apply loads_at; (conv => lhs; whnf); (with_reducible assumption); rfl; (conv => whnf)) | (refine ⟨⟨by omega, by omega⟩, ?_⟩; (conv => whnf))))
  refine load_step hcell ?_
  ((conv => whnf); repeat (first | (apply load_at; (conv => lhs; whnf); (with_reducible assumption); rfl; (conv => whnf)) | (apply load_at; (conv => lhs; rw [add_plain, add_plain]); (with_reducible assumption); rfl; (conv => whnf)) | (apply loads_at; (conv => lhs; whnf); (with_reducible assumption); rfl; (conv => whnf)) | (refine ⟨⟨by omega, by omega⟩, ?_⟩; (conv => whnf))))
  refine call_of kP ?_
  rintro v F9 ⟨rfl, rfl⟩
  refine short [1, 3, 61, 63] [.pointer (some ⟨b, 0, none⟩), .pointer (some ⟨lb, 0, none⟩), .bool true, .int .i64 4] rfl fun ρ => ?_
  ((conv => whnf); repeat (first | (apply load_at; (conv => lhs; whnf); (with_reducible assumption); rfl; (conv => whnf)) | (apply load_at; (conv => lhs; rw [add_plain, add_plain]); (with_reducible assumption); rfl; (conv => whnf)) | (apply loads_at; (conv => lhs; whnf); (with_reducible assumption); rfl; (conv => whnf)) | (refine ⟨⟨by omega, by omega⟩, ?_⟩; (conv => whnf))))
  refine call_of kS ?_
  rintro v F9 ⟨rfl, rfl⟩
  refine short [1, 66, 68] [.pointer (some ⟨b, 0, none⟩), .bool true, .int .i64 2] rfl fun ρ => ?_
  ((conv => whnf); repeat (first | (apply load_at; (conv => lhs; whnf); (with_reducible assumption); rfl; (conv => whnf)) | (apply load_at; (conv => lhs; rw [add_plain, add_plain]); (with_reducible assumption); rfl; (conv => whnf)) | (apply loads_at; (conv => lhs; whnf); (with_reducible assumption); rfl; (conv => whnf)) | (refine ⟨⟨by omega, by omega⟩, ?_⟩; (conv => whnf))))
  refine call_of kW ?_
  rintro v F9 ⟨rfl, rfl⟩
  refine short [71, 73] [.bool true, .int .i64 6] rfl fun ρ => ?_
  ((conv => whnf); repeat (first | (apply load_at; (conv => lhs; whnf); (with_reducible assumption); rfl; (conv => whnf)) | (apply load_at; (conv => lhs; rw [add_plain, add_plain]); (with_reducible assumption); rfl; (conv => whnf)) | (apply loads_at; (conv => lhs; whnf); (with_reducible assumption); rfl; (conv => whnf)) | (refine ⟨⟨by omega, by omega⟩, ?_⟩; (conv => whnf))))
  exact ⟨rfl, hFF8⟩
end Go.Proofs.YtmpiggcooboenaaDoor.Al
/- RedoLives: two logs, each in its own part of memory. -/
namespace Go.Proofs.YtmpiggcooboenaaDoor.Al
open Go Go.Al Go.Proofs Go.RowKit
set_option maxHeartbeats 8000000
set_option maxRecDepth 100000
set_option linter.unusedVariables false
set_option linter.unusedSimpArgs false
structure Duo (F E X : Heap) : Prop where
  d : Ext E F
  x : Ext X F
  ap : Apart E X
section
variable {F F' E E' X X' D : Heap}
theorem Duo.onD (h : Duo F E X) (hM : Moves E F E' F') : Duo F' E' X ∧ Steps F E X F' E' X :=
  ⟨⟨hM.inn, hM.keep h.x h.ap, hM.apart h.x h.ap⟩, fun R h1 h2 h3 => ⟨hM.keep h1 h2, hM.apart h1 h2, h3⟩⟩
theorem Duo.onX (h : Duo F E X) (hM : Moves X F X' F') : Duo F' E X' ∧ Steps F E X F' E X' :=
  ⟨⟨hM.keep h.d h.ap.symm, hM.inn, (hM.apart h.d h.ap.symm).symm⟩, fun R h1 h2 h3 => ⟨hM.keep h1 h3, h2, hM.apart h1 h3⟩⟩
theorem Duo.ext (h : Duo F E X) (hE : Ext F F') : Duo F' E X ∧ Steps F E X F' E X :=
  ⟨⟨h.d.trans hE, h.x.trans hE, h.ap⟩, fun R h1 h2 h3 => ⟨h1.trans hE, h2, h3⟩⟩
theorem Duo.dropD (h : Duo F E X) (hE : Ext D E) : Duo F D X ∧ Steps F E X F D X :=
  ⟨⟨hE.trans h.d, h.x, h.ap.mono hE⟩, fun R h1 h2 h3 => ⟨h1, h2.mono hE, h3⟩⟩
theorem Duo.dropX (h : Duo F E X) (hE : Ext D X) : Duo F E D ∧ Steps F E X F E D :=
  ⟨⟨h.d, hE.trans h.x, (h.ap.symm.mono hE).symm⟩, fun R h1 h2 h3 => ⟨h1, h2, h3.mono hE⟩⟩
end
/-- A log that may not be there. -/
def LgS (E : Heap) (b : Nat) (s : DS) (v : Value) : Option Int → Prop
  | none => v = .pointer none ∧ Dk E b s
  | some q => ∃ lb, v = .pointer (some ⟨lb, 0, none⟩) ∧ Lg E lb b s q
def RgS (E : Heap) (b : Nat) (r : RS) (v : Value) : Option Int → Prop
  | none => v = .pointer none ∧ Rk E b r
  | some q => ∃ lb, v = .pointer (some ⟨lb, 0, none⟩) ∧ Rg E lb b r q
theorem LgS.disk {E : Heap} {b : Nat} {s : DS} {v : Value} {o : Option Int} (h : LgS E b s v o) : ∃ D, Dk D b s ∧ Ext D E ∧ ∀ {F F' D' : Heap} {s' : DS}, Ext E F → Moves D F D' F' → Dk D' b s' → ∃ E', Moves E F E' F' ∧ LgS E' b s' v o := by
  cases o with
  | none =>
    obtain ⟨rfl, h⟩ := h
    exact ⟨E, h, Ext.refl E, fun {F F' D' s'} _ hM hD => ⟨D', hM, rfl, hD⟩⟩
  | some q =>
    obtain ⟨lb, rfl, D, hD, hdl, rfl, h1, h2⟩ := h
    refine ⟨D, hD, (Ext.refl D).put hdl _, fun {F F' D' s'} hE hM hD' => ?_⟩
    obtain ⟨m1, m2⟩ := moves_withB hM hdl (hE _ _ (Heap.put_same _ _ _))
    exact ⟨_, m1, lb, rfl, D', hD', m2, rfl, h1, h2⟩
theorem RgS.disk {E : Heap} {b : Nat} {r : RS} {v : Value} {o : Option Int} (h : RgS E b r v o) : ∃ D, Rk D b r ∧ Ext D E ∧ ∀ {F F' D' : Heap} {r' : RS}, Ext E F → Moves D F D' F' → Rk D' b r' → ∃ E', Moves E F E' F' ∧ RgS E' b r' v o := by
  cases o with
  | none =>
    obtain ⟨rfl, h⟩ := h
    exact ⟨E, h, Ext.refl E, fun {F F' D' r'} _ hM hD => ⟨D', hM, rfl, hD⟩⟩
  | some q =>
    obtain ⟨lb, rfl, D, hD, hdl, rfl, h1, h2⟩ := h
    refine ⟨D, hD, (Ext.refl D).put hdl _, fun {F F' D' r'} hE hM hD' => ?_⟩
    obtain ⟨m1, m2⟩ := moves_withB hM hdl (hE _ _ (Heap.put_same _ _ _))
    exact ⟨_, m1, lb, rfl, D', hD', m2, rfl, h1, h2⟩
theorem openS_range {α : Type} (o : DOps α) (a : α) {q : Int} (h : (openS o a).2.2 = some q) : 0 ≤ q ∧ q ≤ 4611686018427387904 := by
  have hr := rdN_range o a
  unfold openS at h
  split at h
  · cases h
  split at h
  · split at h
    · cases h
    · cases h; exact hr.2
  · cases h; exact hr.2
theorem rgv_take {D F D' F' : Heap} {b lb : Nat} {r : RS} {q : Int} (hM : Moves D F D' F') (hD : Rk D' b r) (h1 : D lb = none → F lb = none) (h2 : D' lb = none) (h3 : F' lb = some (rgO b q)) (hq : 0 ≤ q ∧ q ≤ 4611686018427387904) :
    Moves D F (D'.put lb (rgO b q)) F' ∧ Rg (D'.put lb (rgO b q)) lb b r q := by
  refine ⟨⟨fun c u hc => ?_, hM.out, fun c hc => ?_⟩, D', hD, h2, rfl, hq⟩
  · by_cases e : c = lb
    · subst e; rw [Heap.put_same] at hc; rw [h3]; exact hc
    · rw [Heap.put_other _ _ e] at hc; exact hM.inn c u hc
  · by_cases e : c = lb
    · subst e
      cases e2 : D c with
      | none => exact .inr (h1 e2)
      | some o => exact .inl (by simp)
    · rw [Heap.put_other _ _ e] at hc; exact hM.new c hc
theorem onD {F E X : Heap} {b : Nat} {s s' : DS} {va w : Value} {o : Option Int} {f : Nat} {args : Array Value} (H : Duo F E X) (hL : LgS E b s va o) (hk : ∀ D, Dk D b s → Ext D F → Ext D E → FnK Tryd.prog f args F (fun v F' => v = w ∧ ∃ D', Moves D F D' F' ∧ Dk D' b s')) :
    FnK Tryd.prog f args F (fun v F' => v = w ∧ ∃ E', Duo F' E' X ∧ Steps F E X F' E' X ∧ LgS E' b s' va o) := by
  obtain ⟨D, hD, hDE, hu⟩ := hL.disk
  refine (hk D hD (hDE.trans H.d) hDE).mono ?_
  rintro v F' ⟨rfl, D', hM, hD'⟩
  obtain ⟨E', hM', hL'⟩ := hu H.d hM hD'
  exact ⟨rfl, E', (H.onD hM').1, (H.onD hM').2, hL'⟩
theorem onX {F E X : Heap} {b : Nat} {r r' : RS} {va w : Value} {o : Option Int} {f : Nat} {args : Array Value} (H : Duo F E X) (hL : RgS X b r va o) (hk : ∀ D, Rk D b r → Ext D F → Ext D X → FnK Tryd.prog f args F (fun v F' => v = w ∧ ∃ D', Moves D F D' F' ∧ Rk D' b r')) :
    FnK Tryd.prog f args F (fun v F' => v = w ∧ ∃ X', Duo F' E X' ∧ Steps F E X F' E X' ∧ RgS X' b r' va o) := by
  obtain ⟨D, hD, hDE, hu⟩ := hL.disk
  refine (hk D hD (hDE.trans H.x) hDE).mono ?_
  rintro v F' ⟨rfl, D', hM, hD'⟩
  obtain ⟨E', hM', hL'⟩ := hu H.x hM hD'
  exact ⟨rfl, E', (H.onX hM').1, (H.onX hM').2, hL'⟩
theorem open_s {F E X : Heap} {b : Nat} {s : DS} {va : Value} {o : Option Int} (H : Duo F E X) (hL : LgS E b s va o) (hN : NibAt F) (hw : s.writes + 40000 < 1000000000) :
    FnK Tryd.prog 18 #[.pointer (some ⟨b, 0, none⟩)] F (fun v F' => ∃ w E', v = .tuple #[w, .int .i64 (openS dsO s).2.1] ∧ Duo F' E' X ∧ Steps F E X F' E' X ∧ LgS E' b (openS dsO s).1 w (openS dsO s).2.2) := by
  obtain ⟨D, hD, hDE, _⟩ := hL.disk
  have hr := fun q => openS_range dsO s (q := q)
  refine (redoOpen (hDE.trans H.d) hD hN hw).mono ?_
  rintro v F' ⟨w, D', rfl, hM, hD', hV⟩
  obtain ⟨H1, T1⟩ := H.dropD hDE
  generalize (openS dsO s).2.2 = o' at hV hr ⊢
  cases o' with
  | none =>
    obtain rfl : w = .pointer none := hV
    obtain ⟨H2, T2⟩ := H1.onD hM
    exact ⟨_, D', rfl, H2, T1.trans T2, rfl, hD'⟩
  | some q =>
    obtain ⟨lb, rfl, h1, h2, h3⟩ := hV
    obtain ⟨m1, m2⟩ := lgv_take hM hD' h1 h2 h3 (hr q rfl)
    obtain ⟨H2, T2⟩ := H1.onD m1
    exact ⟨_, _, rfl, H2, T1.trans T2, lb, rfl, m2⟩
theorem ropen_s {F E X : Heap} {b : Nat} {r : RS} {va : Value} {o : Option Int} (H : Duo F E X) (hL : RgS X b r va o) (hw : r.done + 40000 < 1000000000) :
    FnK Tryd.prog 36 #[.pointer (some ⟨b, 0, none⟩)] F (fun v F' => ∃ w X', v = .tuple #[w, .int .i64 (openS rsO r).2.1] ∧ Duo F' E X' ∧ Steps F E X F' E X' ∧ RgS X' b (openS rsO r).1 w (openS rsO r).2.2) := by
  obtain ⟨D, hD, hDE, _⟩ := hL.disk
  have hr := fun q => openS_range rsO r (q := q)
  refine (rgOpen (hDE.trans H.x) hD hw).mono ?_
  rintro v F' ⟨w, D', rfl, hM, hD', hV⟩
  obtain ⟨H1, T1⟩ := H.dropX hDE
  generalize (openS rsO r).2.2 = o' at hV hr ⊢
  cases o' with
  | none =>
    obtain rfl : w = .pointer none := hV
    obtain ⟨H2, T2⟩ := H1.onX hM
    exact ⟨_, D', rfl, H2, T1.trans T2, rfl, hD'⟩
  | some q =>
    obtain ⟨lb, rfl, h1, h2, h3⟩ := hV
    obtain ⟨m1, m2⟩ := rgv_take hM hD' h1 h2 h3 (hr q rfl)
    obtain ⟨H2, T2⟩ := H1.onX m1
    exact ⟨_, _, rfl, H2, T1.trans T2, lb, rfl, m2⟩
theorem Rg.disk {E : Heap} {lb b : Nat} {r : RS} {q : Int} (h : Rg E lb b r q) : ∃ D, Rk D b r ∧ Ext D E ∧ E lb = some (rgO b q) := by
  obtain ⟨D, h1, h2, rfl, _⟩ := h
  exact ⟨D, h1, (Ext.refl D).put h2 _, Heap.put_same _ _ _⟩
end Go.Proofs.YtmpiggcooboenaaDoor.Al
/- Pagers: pages that were set, in plain Lean; a pager's part of memory. -/
namespace Go.Proofs.YtmpiggcooboenaaDoor.Al
open Go Go.Al Go.Proofs Go.RowKit
set_option maxHeartbeats 8000000
set_option maxRecDepth 100000
set_option linter.unusedVariables false
set_option linter.unusedSimpArgs false
abbrev PgL := List (Int × List UInt8)
def lkS : PgL → Int → Option (List UInt8)
  | [], _ => none
  | x :: t, k => if k = x.1 then some x.2 else lkS t k
def insS : PgL → Int → List UInt8 → PgL
  | [], p, d => [(p, d)]
  | x :: t, p, d => if x.1 < p then x :: insS t p d else if x.1 = p then (p, d) :: t else (p, d) :: x :: t
theorem lk_ins : ∀ (S : PgL) (p : Int) (d : List UInt8) (k : Int), lkS (insS S p d) k = if k = p then some d else lkS S k
  | [], p, d, k => rfl
  | x :: t, p, d, k => by
    unfold insS
    by_cases h1 : x.1 < p
    · rw [if_pos h1]
      show (if k = x.1 then some x.2 else lkS (insS t p d) k) = _
      rw [lk_ins t p d k]
      show _ = if k = p then some d else if k = x.1 then some x.2 else lkS t k
      by_cases e : k = x.1
      · rw [if_pos e, if_neg (show ¬ k = p by omega), if_pos e]
      · rw [if_neg e, if_neg e]
    · rw [if_neg h1]
      by_cases h2 : x.1 = p
      · rw [if_pos h2]
        show (if k = p then some d else lkS t k) = if k = p then some d else if k = x.1 then some x.2 else lkS t k
        by_cases e : k = p
        · rw [if_pos e, if_pos e]
        · rw [if_neg e, if_neg e, if_neg (show ¬ k = x.1 by omega)]
      · rw [if_neg h2]
        rfl
/-- Rising. -/
def SrtS (S : PgL) : Prop := S.Pairwise fun x y => x.1 < y.1
theorem ins_mem {S : PgL} {p : Int} {d : List UInt8} {y : Int × List UInt8} (h : y ∈ insS S p d) : y = (p, d) ∨ y ∈ S := by
  induction S with
  | nil => exact .inl (List.mem_singleton.1 h)
  | cons x t ih =>
    unfold insS at h
    split at h
    · rcases List.mem_cons.1 h with rfl | h
      · exact .inr List.mem_cons_self
      · rcases ih h with h | h
        · exact .inl h
        · exact .inr (List.mem_cons_of_mem _ h)
    · split at h
      · rcases List.mem_cons.1 h with rfl | h
        · exact .inl rfl
        · exact .inr (List.mem_cons_of_mem _ h)
      · rcases List.mem_cons.1 h with rfl | h
        · exact .inl rfl
        · exact .inr h
theorem ins_srt : ∀ {S : PgL}, SrtS S → ∀ (p : Int) (d : List UInt8), SrtS (insS S p d)
  | [], _, p, d => List.pairwise_singleton _ _
  | x :: t, h, p, d => by
    obtain ⟨h1, h2⟩ := List.pairwise_cons.1 h
    unfold insS
    by_cases e1 : x.1 < p
    · rw [if_pos e1]
      refine List.pairwise_cons.2 ⟨fun y hy => ?_, ins_srt h2 p d⟩
      rcases ins_mem hy with rfl | hy
      · exact e1
      · exact h1 y hy
    · rw [if_neg e1]
      by_cases e2 : x.1 = p
      · rw [if_pos e2]
        exact List.pairwise_cons.2 ⟨fun y hy => by have := h1 y hy; show p < y.1; omega, h2⟩
      · rw [if_neg e2]
        refine List.pairwise_cons.2 ⟨fun y hy => ?_, h⟩
        rcases List.mem_cons.1 hy with rfl | hy
        · show p < y.1; omega
        · have := h1 y hy; show p < y.1; omega
/-- The place of a page. -/
theorem ins_at : ∀ (S : PgL) (k : Nat) (p : Int) (d : List UInt8), k ≤ S.length → (∀ j x, j < k → S[j]? = some x → x.1 < p) → (∀ x, S[k]? = some x → ¬ x.1 < p) → insS S p d = if (∃ x, S[k]? = some x ∧ x.1 = p) then S.set k (p, d) else S.take k ++ (p, d) :: S.drop k
  | [], k, p, d, hk, h1, h2 => by
    obtain rfl : k = 0 := by simpa using hk
    rw [if_neg (by rintro ⟨x, h, _⟩; cases h)]
    rfl
  | x :: t, 0, p, d, hk, h1, h2 => by
    have := h2 x rfl
    unfold insS
    rw [if_neg this]
    by_cases e : x.1 = p
    · rw [if_pos e, if_pos ⟨x, rfl, e⟩]; rfl
    · rw [if_neg e, if_neg (by rintro ⟨y, h, h'⟩; cases h; exact e h')]; rfl
  | x :: t, k + 1, p, d, hk, h1, h2 => by
    have e := h1 0 x (by omega) rfl
    unfold insS
    rw [if_pos e, ins_at t k p d (by simpa using hk) (fun j y hj hy => h1 (j + 1) y (by omega) (by simpa using hy)) (fun y hy => h2 y (by simpa using hy))]
    by_cases c : ∃ y, t[k]? = some y ∧ y.1 = p
    · rw [if_pos c, if_pos (by simpa using c)]; rfl
    · rw [if_neg c, if_neg (by simpa using c)]; rfl
theorem lk_at : ∀ (S : PgL), SrtS S → ∀ (k : Nat) x, S[k]? = some x → lkS S x.1 = some x.2
  | x :: t, h, 0, y, hy => by
    cases hy
    show (if x.1 = x.1 then _ else _) = _
    rw [if_pos rfl]
  | x :: t, h, k + 1, y, hy => by
    obtain ⟨h1, h2⟩ := List.pairwise_cons.1 h
    have hy : t[k]? = some y := by simpa using hy
    have := h1 y (List.mem_of_getElem? hy)
    show (if y.1 = x.1 then _ else lkS t y.1) = _
    rw [if_neg (by omega)]
    exact lk_at t h2 k y hy
theorem lk_none : ∀ {S : PgL} {p : Int}, (∀ (j : Nat) (x : Int × List UInt8), S[j]? = some x → x.1 ≠ p) → lkS S p = none
  | [], p, _ => rfl
  | x :: t, p, h => by
    show (if p = x.1 then _ else lkS t p) = _
    rw [if_neg (fun e => h 0 x rfl e.symm)]
    exact lk_none fun j y hy => h (j + 1) y (by simpa using hy)
/-- What calls say and do. -/
def pgE {α : Type} (o : DOps α) (a : α) (S : PgL) (p : Int) : Int := match lkS S p with | some _ => 0 | none => loadE o a p
def pgD {α : Type} (o : DOps α) (a : α) (S : PgL) (p : Int) : List UInt8 := match lkS S p with | some d => d | none => loadL o a p
def psE (n p : Int) (d : List UInt8) : Int := if isPg n p = true ∧ d.length = 240 then 0 else 1
def psS (n : Int) (S : PgL) (p : Int) (d : List UInt8) : PgL := if isPg n p = true ∧ d.length = 240 then insS S p d else S
theorem sim_pg {s : DS} {r : RS} (h : Sim s r) (S : PgL) (p : Int) : pgE dsO s S p = pgE rsO r S p ∧ pgD dsO s S p = pgD rsO r S p := by
  obtain ⟨h1, h2⟩ := sim_load h p
  unfold pgE pgD
  rw [h1, h2]
  exact ⟨rfl, rfl⟩
theorem ps_srt {n : Int} {S : PgL} (h : SrtS S) (p : Int) (d : List UInt8) : SrtS (psS n S p d) := by
  unfold psS
  split
  · exact ins_srt h p d
  · exact h
/-- All that was set are pages of the disk. -/
def OkS (n : Int) (S : PgL) : Prop := ∀ x ∈ S, isPg n x.1 = true ∧ x.2.length = 240
theorem ps_ok {n : Int} {S : PgL} (h : OkS n S) (p : Int) (d : List UInt8) : OkS n (psS n S p d) := by
  unfold psS
  split
  · next c =>
    intro x hx
    rcases ins_mem hx with rfl | hx
    · exact c
    · exact h x hx
  · exact h
theorem ps_len {n : Int} {S : PgL} (p : Int) (d : List UInt8) : (psS n S p d).length ≤ S.length + 1 := by
  have key : ∀ S : PgL, (insS S p d).length ≤ S.length + 1 := by
    intro S
    induction S with
    | nil => exact Nat.le_refl _
    | cons x t ih =>
      unfold insS
      split
      · rw [List.length_cons, List.length_cons]; omega
      · split
        · rw [List.length_cons, List.length_cons]; omega
        · rw [List.length_cons, List.length_cons]; omega
  unfold psS
  split
  · exact key S
  · omega
/-- One part of memory over another one. -/
def joinH (A B : Heap) : Heap := fun c => match A c with | some o => some o | none => B c
theorem joinH_l {A B : Heap} {c : Nat} {o : Obj} (h : A c = some o) : joinH A B c = some o := by unfold joinH; rw [h]
theorem joinH_r {A B : Heap} {c : Nat} (h : A c = none) : joinH A B c = B c := by unfold joinH; rw [h]
/-- What happens to a part of a part. -/
theorem moves_in {D L F L' F' : Heap} (hL : Ext L D) (hD : Ext D F) (hM : Moves L F L' F') : Moves D F (joinH L' (restH L D)) F' ∧ Ext L' (joinH L' (restH L D)) ∧ (∀ c, L c = none → L' c = none → joinH L' (restH L D) c = D c) ∧ ∀ c o, D c = some o → L c = none → L' c = none := by
  have hn : ∀ c o, D c = some o → L c = none → L' c = none := fun c o hc hl => by
    cases e : L' c with
    | none => rfl
    | some u =>
      rcases hM.new c (by rw [e]; simp) with h | h
      · exact absurd hl h
      · rw [hD _ _ hc] at h; cases h
  refine ⟨⟨fun c o hc => ?_, fun c o hc hd => ?_, fun c hc => ?_⟩, fun c o hc => joinH_l hc, fun c h1 h2 => ?_, hn⟩
  · cases e : L' c with
    | some u => rw [joinH_l e] at hc; rw [← hc]; exact hM.inn _ _ e
    | none =>
      rw [joinH_r e] at hc
      unfold restH at hc
      split at hc
      · next h => exact hM.out _ _ (hD _ _ hc) h
      · cases hc
  · exact hM.out _ _ hc (hL.none hd)
  · cases e : L' c with
    | some u =>
      rcases hM.new c (by rw [e]; simp) with h | h
      · refine .inl fun hd => h (hL.none hd)
      · exact .inr h
    | none =>
      rw [joinH_r e] at hc
      unfold restH at hc
      split at hc
      · exact .inl hc
      · exact absurd rfl hc
  · rw [joinH_r h2]
    unfold restH
    rw [h1]
theorem join_keep {D L F L' F' G : Heap} (hL : Ext L D) (hD : Ext D F) (hM : Moves L F L' F') (hG : Ext G D) (hA : Apart L G) : Ext G (joinH L' (restH L D)) ∧ Apart L' G := by
  obtain ⟨_, _, h3, h4⟩ := moves_in hL hD hM
  have hl : ∀ c o, G c = some o → L c = none := fun c o hc => by
    cases e : L c with
    | none => rfl
    | some u => rw [hA c (by rw [e]; simp)] at hc; cases hc
  refine ⟨fun c o hc => ?_, fun c hc => ?_⟩
  · have e := hl c o hc
    rw [h3 c e (h4 c o (hG _ _ hc) e)]
    exact hG _ _ hc
  · cases e : G c with
    | none => rfl
    | some o => exact absurd (h4 c o (hG _ _ e) (hl c o e)) hc
theorem MapAt.at_ {F G : Heap} {m : Nat} {l : ML} (h : MapAt F m l) (e : G m = F m) : MapAt G m l := by
  obtain ⟨o, h1, h2⟩ := h
  exact ⟨o, by rw [e]; exact h1, h2⟩
/-- What the map of a pager tells. -/
structure MapP (G : Heap) (m : ML) (S : PgL) : Prop where
  no : ∀ k, getM m k = none → lkS S k = none
  yes : ∀ k v, getM m k = some v → ∃ l, lkS S k = some l ∧ l.length = 240 ∧ VRow G v l
theorem MapP.mono {G F : Heap} {m : ML} {S : PgL} (h : MapP G m S) (hE : Ext G F) : MapP F m S :=
  ⟨h.no, fun k v hv => by
    obtain ⟨l, h1, h2, h3⟩ := h.yes k v hv
    exact ⟨l, h1, h2, h3.mono hE⟩⟩
theorem MapP.nil (G : Heap) : MapP G [] [] := ⟨fun _ _ => rfl, fun k v h => by cases h⟩
theorem MapP.set {G : Heap} {m : ML} {S : PgL} (h : MapP G m S) {i : Int} {v : Value} {l : List UInt8} (hl : l.length = 240) (hv : VRow G v l) : MapP G (setM m i v) (insS S i l) := by
  refine ⟨fun k hk => ?_, fun k u hk => ?_⟩
  · rw [getM_setM] at hk
    rw [lk_ins]
    by_cases e : k = i
    · rw [if_pos e] at hk; cases hk
    · rw [if_neg e] at hk ⊢; exact h.no k hk
  · rw [getM_setM] at hk
    rw [lk_ins]
    by_cases e : k = i
    · rw [if_pos e] at hk ⊢
      cases hk
      exact ⟨l, rfl, hl, hv⟩
    · rw [if_neg e] at hk ⊢; exact h.yes k u hk
abbrev pgO (lb ms : Nat) : Obj := .cells #[.pointer (some ⟨lb, 0, none⟩), .map (some ms)] 141
structure PgP (D : Heap) (pb lb b ms : Nat) (L : Heap) (lS : ML) (G : Heap) (s : DS) (q : Int) (S : PgL) : Prop where
  cell : D pb = some (pgO lb ms)
  log : Lg L lb b s q
  map : MapAt D ms lS
  baseL : Ext L D
  base : Ext G D
  lp : L pb = none
  lm : L ms = none
  gp : G pb = none
  gm : G ms = none
  lg : Apart L G
  rs : MapP G lS S
def Pg (D : Heap) (pb : Nat) (s : DS) (q : Int) (S : PgL) : Prop := SrtS S ∧ OkS s.size S ∧ ∃ lb b ms L lS G, PgP D pb lb b ms L lS G s q S
theorem PgP.msp {D : Heap} {pb lb b ms : Nat} {L : Heap} {lS : ML} {G : Heap} {s : DS} {q : Int} {S : PgL} (h : PgP D pb lb b ms L lS G s q S) : ms ≠ pb := h.map.not_cells h.cell
/-- A page's new bytes. -/
theorem PgP.set {D F F' : Heap} {pb lb b ms : Nat} {L : Heap} {lS : ML} {G : Heap} {s : DS} {q : Int} {S : PgL} (h : PgP D pb lb b ms L lS G s q S) (hE : Ext D F) (hE2 : Ext F F') {i : Int} {v : Value} {l : List UInt8} (hl : l.length = 240) (hv : NewRow F F' v l) {o' : Obj} (ho : MapO o' (setM lS i v)) :
    Moves D F ((gain D F F').put ms o') (F'.put ms o') ∧ PgP ((gain D F F').put ms o') pb lb b ms L (setM lS i v) (gain G F F') s q (insS S i l) := by
  have hm := Moves.gain hE hE2
  have hg := gain_ext (F' := F') hE
  have hold : ∀ c, D c ≠ none → gain G F F' c = G c := fun c hc => by
    cases e : D c with
    | none => exact absurd e hc
    | some o => exact gain_old (hE _ _ e)
  have hms : D ms ≠ none := by obtain ⟨o, h1, _⟩ := h.map; rw [h1]; simp
  have hpb : D pb ≠ none := by rw [h.cell]; simp
  have hG : Ext G (gain G F F') := gain_ext (h.base.trans hE)
  have hGD : Ext (gain G F F') (gain D F F') := fun c o hc => by
    cases e : F c with
    | none => rw [gain_new e] at hc ⊢; exact hc
    | some u => rw [gain_old e] at hc ⊢; exact h.base _ _ hc
  refine ⟨hm.trans (Moves.put hm.inn (.inl fun e => hms (hg.none e)) _), ⟨?_, h.log, MapAt.put ho, (h.baseL.trans hg).put h.lm _, hGD.put (by rw [hold _ hms]; exact h.gm) _, h.lp, h.lm, by rw [hold _ hpb]; exact h.gp, by rw [hold _ hms]; exact h.gm, fun c hc => ?_, ?_⟩⟩
  · rw [Heap.put_other _ _ (Ne.symm h.msp)]; exact hg _ _ h.cell
  · have hd : D c ≠ none := fun e => hc (h.baseL.none e)
    rw [hold _ hd]
    exact h.lg c hc
  · obtain ⟨A, c, h1, h2, h3, h4⟩ := hv
    exact (h.rs.mono hG).set hl ⟨A, c, h1, h2, rowAt_gain h3 h4⟩
/-- Nothing is set any more. -/
theorem PgP.clear {D F : Heap} {pb lb b ms : Nat} {L : Heap} {lS : ML} {G : Heap} {s : DS} {q : Int} {S : PgL} (h : PgP D pb lb b ms L lS G s q S) (hE : Ext D F) {o' : Obj} (ho : MapO o' []) :
    Moves D F (D.put ms o') (F.put ms o') ∧ PgP (D.put ms o') pb lb b ms L [] G s q [] := by
  have hms : D ms ≠ none := by obtain ⟨o, h1, _⟩ := h.map; rw [h1]; simp
  refine ⟨Moves.put hE (.inl hms) _, ⟨?_, h.log, MapAt.put ho, h.baseL.put h.lm _, h.base.put h.gm _, h.lp, h.lm, h.gp, h.gm, h.lg, MapP.nil G⟩⟩
  rw [Heap.put_other _ _ (Ne.symm h.msp)]
  exact h.cell
/-- What is done to its log. -/
theorem PgP.logs {D F L' F' : Heap} {pb lb b ms : Nat} {L : Heap} {lS : ML} {G : Heap} {s s' : DS} {q q' : Int} {S : PgL} (h : PgP D pb lb b ms L lS G s q S) (hE : Ext D F) (hM : Moves L F L' F') (hL : Lg L' lb b s' q') :
    ∃ D', Moves D F D' F' ∧ PgP D' pb lb b ms L' lS G s' q' S := by
  obtain ⟨m1, m2, m3, m4⟩ := moves_in h.baseL hE hM
  obtain ⟨k1, k2⟩ := join_keep h.baseL hE hM h.base h.lg
  obtain ⟨o, hm, ho⟩ := h.map
  have e1 := m4 _ _ h.cell h.lp
  have e2 := m4 _ _ hm h.lm
  exact ⟨_, m1, by rw [m3 _ h.lp e1]; exact h.cell, hL, ⟨o, by rw [m3 _ h.lm e2]; exact hm, ho⟩, m2, k1, e1, e2, h.gp, h.gm, k2, h.rs⟩
end Go.Proofs.YtmpiggcooboenaaDoor.Al
/- Pagers: New, Get, Set, over what is known of memory. -/
namespace Go.Proofs.YtmpiggcooboenaaDoor.Al
open Go Go.Al Go.Proofs Go.RowKit
set_option maxHeartbeats 8000000
set_option maxRecDepth 100000
set_option linter.unusedVariables false
set_option linter.unusedSimpArgs false
theorem pgReady {F : Heap} {pb lb ms : Nat} (h : F pb = some (pgO lb ms)) : FnK Tryd.prog 94 #[.pointer (some ⟨pb, 0, none⟩)] F (fun v F' => v = .bool true ∧ F' = F) := by
  (refine fn_walk tab_ok Tryd.func94 rfl rfl rfl rfl ?_; (conv => whnf))
  ((conv => whnf); repeat (first | (apply load_at; (conv => lhs; whnf); (with_reducible assumption); rfl; (conv => whnf)) | (apply load_at; (conv => lhs; rw [add_plain, add_plain]); (with_reducible assumption); rfl; (conv => whnf)) | (apply loads_at; (conv => lhs; whnf); (with_reducible assumption); rfl; (conv => whnf)) | (refine ⟨⟨by omega, by omega⟩, ?_⟩; (conv => whnf))))
  exact ⟨rfl, rfl⟩
theorem Lg.pages {E F : Heap} {lb b : Nat} {s : DS} {q : Int} (hE : Ext E F) (hL : Lg E lb b s q) : FnK Tryd.prog 20 #[.pointer (some ⟨lb, 0, none⟩)] F (fun v F' => v = .int .i64 (pagesN s.size) ∧ F' = F) := by
  obtain ⟨D0, h1, h2, h3⟩ := hL.disk
  exact lgPages (h2.trans hE) h1 (hE _ _ h3)
theorem Lg.load {E F : Heap} {lb b : Nat} {s : DS} {q : Int} (hE : Ext E F) (hL : Lg E lb b s q) (hN : NibAt F) (p : Int) : FnK Tryd.prog 17 #[.pointer (some ⟨lb, 0, none⟩), .int .i64 p] F (fun v F' => ∃ u, v = .tuple #[u, .int .i64 (loadE dsO s p)] ∧ NewRow F F' u (loadL dsO s p) ∧ Ext F F') := by
  obtain ⟨D0, h1, h2, h3⟩ := hL.disk
  exact lgLoad (h2.trans hE) h1 (hE _ _ h3) hN p
theorem pgPages {D F : Heap} {pb : Nat} {s : DS} {q : Int} {S : PgL} (hE : Ext D F) (hD : Pg D pb s q S) : FnK Tryd.prog 95 #[.pointer (some ⟨pb, 0, none⟩)] F (fun v F' => v = .int .i64 (pagesN s.size) ∧ F' = F) := by
  obtain ⟨hs, ho, lb, b, ms, L, lS, G, hP⟩ := hD
  have hc := hE _ _ hP.cell
  have k0 := pgReady hc
  have k1 := Lg.pages (hP.baseL.trans hE) hP.log
  generalize pagesN s.size = P at k1 ⊢
  (refine fn_walk tab_ok Tryd.func95 rfl rfl rfl rfl ?_; (conv => whnf))
  refine call_of k0 ?_
  rintro v F ⟨rfl, rfl⟩
  ((conv => whnf); repeat (first | (apply load_at; (conv => lhs; whnf); (with_reducible assumption); rfl; (conv => whnf)) | (apply load_at; (conv => lhs; rw [add_plain, add_plain]); (with_reducible assumption); rfl; (conv => whnf)) | (apply loads_at; (conv => lhs; whnf); (with_reducible assumption); rfl; (conv => whnf)) | (refine ⟨⟨by omega, by omega⟩, ?_⟩; (conv => whnf))))
  refine call_of k1 ?_
  rintro v F ⟨rfl, rfl⟩
  ((conv => whnf); repeat (first | (apply load_at; (conv => lhs; whnf); (with_reducible assumption); rfl; (conv => whnf)) | (apply load_at; (conv => lhs; rw [add_plain, add_plain]); (with_reducible assumption); rfl; (conv => whnf)) | (apply loads_at; (conv => lhs; whnf); (with_reducible assumption); rfl; (conv => whnf)) | (refine ⟨⟨by omega, by omega⟩, ?_⟩; (conv => whnf))))
  exact ⟨rfl, rfl⟩
theorem pgNew {E F : Heap} {lb b : Nat} {s : DS} {q : Int} (hE : Ext E F) (hL : Lg E lb b s q) (h0 : pagesN s.size ≠ 0) : FnK Tryd.prog 45 #[.pointer (some ⟨lb, 0, none⟩)] F (fun v F' => ∃ pb D', v = .tuple #[.pointer (some ⟨pb, 0, none⟩), .int .i64 0] ∧ Moves E F D' F' ∧ Pg D' pb s q []) := by
  have k1 := Lg.pages hE hL
  generalize pagesN s.size = P at k1 h0
  (refine fn_walk tab_ok Tryd.func45 rfl rfl rfl rfl ?_; (conv => whnf))
  refine call_of k1 ?_
  rintro v F ⟨rfl, rfl⟩
  ((conv => whnf); repeat (first | (apply load_at; (conv => lhs; whnf); (with_reducible assumption); rfl; (conv => whnf)) | (apply load_at; (conv => lhs; rw [add_plain, add_plain]); (with_reducible assumption); rfl; (conv => whnf)) | (apply loads_at; (conv => lhs; whnf); (with_reducible assumption); rfl; (conv => whnf)) | (refine ⟨⟨by omega, by omega⟩, ?_⟩; (conv => whnf))))
  refine cond_split (fun h => ?_) (fun h => ?_)
  · exact absurd (by simpa using (show (P == 0) = true from h)) h0
  ((conv => whnf); repeat (first | (apply load_at; (conv => lhs; whnf); (with_reducible assumption); rfl; (conv => whnf)) | (apply load_at; (conv => lhs; rw [add_plain, add_plain]); (with_reducible assumption); rfl; (conv => whnf)) | (apply loads_at; (conv => lhs; whnf); (with_reducible assumption); rfl; (conv => whnf)) | (refine ⟨⟨by omega, by omega⟩, ?_⟩; (conv => whnf))))
  refine op_makeMap rfl fun ms h1 => ?_
  have M1 := Moves.put hE (.inr h1) (.map #[] 0)
  have A1 := Heap.put_same F ms (.map #[] 0)
  have e1 := hE.none h1
  have E1 := (Ext.refl F).put h1 (.map #[] 0)
  generalize F.put ms _ = F1 at M1 A1 E1 ⊢
  (conv => whnf)
  refine new_step (pgO lb ms) rfl fun pb h2 => ?_
  have M2 := M1.trans (Moves.put M1.inn (.inr h2) (pgO lb ms))
  have n1 : ms ≠ pb := fun e => by rw [e, h2] at A1; cases A1
  have e2 := hE.none (E1.none h2)
  (conv => whnf)
  exact ⟨pb, _, rfl, M2, List.Pairwise.nil, (fun x h => by cases h), lb, b, ms, E, [], emptyH, ⟨Heap.put_same _ _ _, hL, ⟨_, by rw [Heap.put_other _ _ n1, Heap.put_same], #[], 0, rfl, rfl⟩, ((Ext.refl E).put e1 _).put e2 _, emptyH_ext _, e2, e1, rfl, rfl, fun _ _ => rfl, MapP.nil _⟩⟩
theorem pgGet {D F : Heap} {pb : Nat} {s : DS} {q : Int} {S : PgL} (hE : Ext D F) (hD : Pg D pb s q S) (hN : NibAt F) (p : Int) :
    FnK Tryd.prog 49 #[.pointer (some ⟨pb, 0, none⟩), .int .i64 p] F (fun v F' => ∃ u, v = .tuple #[u, .int .i64 (pgE dsO s S p)] ∧ NewRow F F' u (pgD dsO s S p) ∧ Ext F F') := by
  obtain ⟨hs, ho, lb, b, ms, L, lS, G, hP⟩ := hD
  have hc := hE _ _ hP.cell
  have k0 := pgReady hc
  have k1 := Lg.load (hP.baseL.trans hE) hP.log hN p
  have hm := hP.map.mono hE
  cases hg : getM lS p with
  | none =>
    have h1 := hP.rs.no p hg
    unfold pgE pgD
    rw [h1]
    dsimp only
    generalize loadE dsO s p = le at k1 ⊢
    generalize loadL dsO s p = ll at k1 ⊢
    (refine fn_walk tab_ok Tryd.func49 rfl rfl rfl rfl ?_; (conv => whnf))
    refine call_of k0 ?_
    rintro v F ⟨rfl, rfl⟩
    ((conv => whnf); repeat (first | (apply load_at; (conv => lhs; whnf); (with_reducible assumption); rfl; (conv => whnf)) | (apply load_at; (conv => lhs; rw [add_plain, add_plain]); (with_reducible assumption); rfl; (conv => whnf)) | (apply loads_at; (conv => lhs; whnf); (with_reducible assumption); rfl; (conv => whnf)) | (refine ⟨⟨by omega, by omega⟩, ?_⟩; (conv => whnf))))
    refine op_lookup_at tab_ok rfl rfl rfl rfl rfl rfl rfl hm hg ?_
    ((conv => whnf); repeat (first | (apply load_at; (conv => lhs; whnf); (with_reducible assumption); rfl; (conv => whnf)) | (apply load_at; (conv => lhs; rw [add_plain, add_plain]); (with_reducible assumption); rfl; (conv => whnf)) | (apply loads_at; (conv => lhs; whnf); (with_reducible assumption); rfl; (conv => whnf)) | (refine ⟨⟨by omega, by omega⟩, ?_⟩; (conv => whnf))))
    refine call_of k1 ?_
    rintro v F1 ⟨u, rfl, hu, hE1⟩
    ((conv => whnf); repeat (first | (apply load_at; (conv => lhs; whnf); (with_reducible assumption); rfl; (conv => whnf)) | (apply load_at; (conv => lhs; rw [add_plain, add_plain]); (with_reducible assumption); rfl; (conv => whnf)) | (apply loads_at; (conv => lhs; whnf); (with_reducible assumption); rfl; (conv => whnf)) | (refine ⟨⟨by omega, by omega⟩, ?_⟩; (conv => whnf))))
    exact ⟨_, rfl, hu, hE1⟩
  | some v0 =>
    obtain ⟨l, h1, h2, A, c, rfl, h3, h4⟩ := hP.rs.yes p v0 hg
    have k2 := clone l A c F (h4.mono (hP.base.trans hE)) (by omega)
    unfold pgE pgD
    rw [h1]
    dsimp only
    (refine fn_walk tab_ok Tryd.func49 rfl rfl rfl rfl ?_; (conv => whnf))
    refine call_of k0 ?_
    rintro v F ⟨rfl, rfl⟩
    ((conv => whnf); repeat (first | (apply load_at; (conv => lhs; whnf); (with_reducible assumption); rfl; (conv => whnf)) | (apply load_at; (conv => lhs; rw [add_plain, add_plain]); (with_reducible assumption); rfl; (conv => whnf)) | (apply loads_at; (conv => lhs; whnf); (with_reducible assumption); rfl; (conv => whnf)) | (refine ⟨⟨by omega, by omega⟩, ?_⟩; (conv => whnf))))
    refine op_lookup_at tab_ok rfl rfl rfl rfl rfl rfl rfl hm hg ?_
    ((conv => whnf); repeat (first | (apply load_at; (conv => lhs; whnf); (with_reducible assumption); rfl; (conv => whnf)) | (apply load_at; (conv => lhs; rw [add_plain, add_plain]); (with_reducible assumption); rfl; (conv => whnf)) | (apply loads_at; (conv => lhs; whnf); (with_reducible assumption); rfl; (conv => whnf)) | (refine ⟨⟨by omega, by omega⟩, ?_⟩; (conv => whnf))))
    refine call_of k2 ?_
    rintro v F1 hM
    ((conv => whnf); repeat (first | (apply load_at; (conv => lhs; whnf); (with_reducible assumption); rfl; (conv => whnf)) | (apply load_at; (conv => lhs; rw [add_plain, add_plain]); (with_reducible assumption); rfl; (conv => whnf)) | (apply loads_at; (conv => lhs; whnf); (with_reducible assumption); rfl; (conv => whnf)) | (refine ⟨⟨by omega, by omega⟩, ?_⟩; (conv => whnf))))
    exact ⟨_, rfl, hM.newRow, hM.ext⟩
theorem pgSet {D F : Heap} {pb : Nat} {s : DS} {q : Int} {S : PgL} (hE : Ext D F) (hD : Pg D pb s q S) (l : List UInt8) (A : Option Addr) (c : Nat) (hr : RowAt F A (bytesOf l)) (hl : l.length ≤ 900000) (p : Int) :
    FnK Tryd.prog 51 #[.pointer (some ⟨pb, 0, none⟩), .int .i64 p, .slice A l.length c] F (fun v F' => v = .int .i64 (psE s.size p l) ∧ ∃ D', Moves D F D' F' ∧ Pg D' pb s q (psS s.size S p l)) := by
  have kP := pgPages hE hD
  have hD0 := hD
  obtain ⟨hs, ho, lb, b, ms, L, lS, G, hP⟩ := hD
  have hc := hE _ _ hP.cell
  have k0 := pgReady hc
  have hm := hP.map.mono hE
  have hsr := ps_srt (n := s.size) hs p l
  have hok := ps_ok (n := s.size) ho p l
  have hpg : isPg s.size p = true ↔ 0 ≤ p ∧ p < pagesN s.size := isPg_iff
  have no : ¬ ((0 ≤ p ∧ p < pagesN s.size) ∧ l.length = 240) → psE s.size p l = 1 ∧ psS s.size S p l = S := fun h => by
    unfold psE psS
    rw [if_neg (by rw [hpg]; exact h), if_neg (by rw [hpg]; exact h)]
    exact ⟨rfl, rfl⟩
  have yes : ((0 ≤ p ∧ p < pagesN s.size) ∧ l.length = 240) → psE s.size p l = 0 ∧ psS s.size S p l = insS S p l := fun h => by
    unfold psE psS
    rw [if_pos (by rw [hpg]; exact h), if_pos (by rw [hpg]; exact h)]
    exact ⟨rfl, rfl⟩
  clear hpg
  generalize psE s.size p l = pe at no yes ⊢
  generalize psS s.size S p l = pS at no yes hsr hok ⊢
  generalize pagesN s.size = P at kP no yes
  have fin : ¬ ((0 ≤ p ∧ p < P) ∧ l.length = 240) → Value.int .i64 1 = .int .i64 pe ∧ ∃ D', Moves D F D' F ∧ Pg D' pb s q pS := fun h => by
    obtain ⟨rfl, rfl⟩ := no h
    exact ⟨rfl, D, Moves.refl hE, hD0⟩
  (refine fn_walk tab_ok Tryd.func51 rfl rfl rfl rfl ?_; (conv => whnf))
  refine call_of k0 ?_
  rintro v F ⟨rfl, rfl⟩
  ((conv => whnf); repeat (first | (apply load_at; (conv => lhs; whnf); (with_reducible assumption); rfl; (conv => whnf)) | (apply load_at; (conv => lhs; rw [add_plain, add_plain]); (with_reducible assumption); rfl; (conv => whnf)) | (apply loads_at; (conv => lhs; whnf); (with_reducible assumption); rfl; (conv => whnf)) | (refine ⟨⟨by omega, by omega⟩, ?_⟩; (conv => whnf))))
  refine cond_split (fun h => ?_) (fun h => ?_)
  · have h := of_decide_eq_true (show decide (p < 0) = true from h)
    ((conv => whnf); repeat (first | (apply load_at; (conv => lhs; whnf); (with_reducible assumption); rfl; (conv => whnf)) | (apply load_at; (conv => lhs; rw [add_plain, add_plain]); (with_reducible assumption); rfl; (conv => whnf)) | (apply loads_at; (conv => lhs; whnf); (with_reducible assumption); rfl; (conv => whnf)) | (refine ⟨⟨by omega, by omega⟩, ?_⟩; (conv => whnf))))
    exact fin (by omega)
  have h0 := of_decide_eq_false (show decide (p < 0) = false from h)
  clear h
  ((conv => whnf); repeat (first | (apply load_at; (conv => lhs; whnf); (with_reducible assumption); rfl; (conv => whnf)) | (apply load_at; (conv => lhs; rw [add_plain, add_plain]); (with_reducible assumption); rfl; (conv => whnf)) | (apply loads_at; (conv => lhs; whnf); (with_reducible assumption); rfl; (conv => whnf)) | (refine ⟨⟨by omega, by omega⟩, ?_⟩; (conv => whnf))))
  refine call_of kP ?_
  rintro v F ⟨rfl, rfl⟩
  ((conv => whnf); repeat (first | (apply load_at; (conv => lhs; whnf); (with_reducible assumption); rfl; (conv => whnf)) | (apply load_at; (conv => lhs; rw [add_plain, add_plain]); (with_reducible assumption); rfl; (conv => whnf)) | (apply loads_at; (conv => lhs; whnf); (with_reducible assumption); rfl; (conv => whnf)) | (refine ⟨⟨by omega, by omega⟩, ?_⟩; (conv => whnf))))
  refine cond_split (fun h => ?_) (fun h => ?_)
  · have h := of_decide_eq_true (show decide (p ≥ P) = true from h)
    ((conv => whnf); repeat (first | (apply load_at; (conv => lhs; whnf); (with_reducible assumption); rfl; (conv => whnf)) | (apply load_at; (conv => lhs; rw [add_plain, add_plain]); (with_reducible assumption); rfl; (conv => whnf)) | (apply loads_at; (conv => lhs; whnf); (with_reducible assumption); rfl; (conv => whnf)) | (refine ⟨⟨by omega, by omega⟩, ?_⟩; (conv => whnf))))
    exact fin (by omega)
  have h1 := of_decide_eq_false (show decide (p ≥ P) = false from h)
  clear h
  ((conv => whnf); repeat (first | (apply load_at; (conv => lhs; whnf); (with_reducible assumption); rfl; (conv => whnf)) | (apply load_at; (conv => lhs; rw [add_plain, add_plain]); (with_reducible assumption); rfl; (conv => whnf)) | (apply loads_at; (conv => lhs; whnf); (with_reducible assumption); rfl; (conv => whnf)) | (refine ⟨⟨by omega, by omega⟩, ?_⟩; (conv => whnf))))
  refine cond_split (fun h => ?_) (fun h => ?_)
  · have h : ((l.length : Int) != 240) = true := h
    have hne : l.length ≠ 240 := fun e => by rw [e] at h; exact absurd h (by decide)
    ((conv => whnf); repeat (first | (apply load_at; (conv => lhs; whnf); (with_reducible assumption); rfl; (conv => whnf)) | (apply load_at; (conv => lhs; rw [add_plain, add_plain]); (with_reducible assumption); rfl; (conv => whnf)) | (apply loads_at; (conv => lhs; whnf); (with_reducible assumption); rfl; (conv => whnf)) | (refine ⟨⟨by omega, by omega⟩, ?_⟩; (conv => whnf))))
    exact fin (by omega)
  have h : ((l.length : Int) != 240) = false := h
  have hl2 : l.length = 240 := by have := bne_eq_false_iff_eq.1 h; omega
  clear h
  obtain ⟨rfl, rfl⟩ := yes ⟨by omega, hl2⟩
  refine short [0, 1, 2] [.pointer (some ⟨pb, 0, none⟩), .int .i64 p, .slice A l.length c] rfl fun ρ => ?_
  ((conv => whnf); repeat (first | (apply load_at; (conv => lhs; whnf); (with_reducible assumption); rfl; (conv => whnf)) | (apply load_at; (conv => lhs; rw [add_plain, add_plain]); (with_reducible assumption); rfl; (conv => whnf)) | (apply loads_at; (conv => lhs; whnf); (with_reducible assumption); rfl; (conv => whnf)) | (refine ⟨⟨by omega, by omega⟩, ?_⟩; (conv => whnf))))
  refine draw_walk tab_ok (by kernel_rfl) [0, 1, 2, 3, 4, 5, 6, 7] (by kernel_rfl) ?_
  ((conv => whnf); repeat (first | (apply load_at; (conv => lhs; whnf); (with_reducible assumption); rfl; (conv => whnf)) | (apply load_at; (conv => lhs; rw [add_plain, add_plain]); (with_reducible assumption); rfl; (conv => whnf)) | (apply loads_at; (conv => lhs; whnf); (with_reducible assumption); rfl; (conv => whnf)) | (refine ⟨⟨by omega, by omega⟩, ?_⟩; (conv => whnf))))
  refine call_of (clone l A c F hr hl) ?_
  rintro v F6 hM
  (conv => whnf)
  refine ⟨hM.ext, ?_⟩
  ((conv => whnf); repeat (first | (apply load_at; (conv => lhs; whnf); (with_reducible assumption); rfl; (conv => whnf)) | (apply load_at; (conv => lhs; rw [add_plain, add_plain]); (with_reducible assumption); rfl; (conv => whnf)) | (apply loads_at; (conv => lhs; whnf); (with_reducible assumption); rfl; (conv => whnf)) | (refine ⟨⟨by omega, by omega⟩, ?_⟩; (conv => whnf))))
  refine op_mapUpdate (t := 120) (kt := 3) (et := 49) (v := v) (k := p) tab_ok rfl rfl rfl rfl rfl rfl (hm.mono hM.ext) fun o' ho' => ?_
  obtain ⟨M6, P6⟩ := hP.set hE hM.ext (i := p) hl2 hM.newRow ho'
  generalize F6.put ms o' = F7 at M6 ⊢
  ((conv => whnf); repeat (first | (apply load_at; (conv => lhs; whnf); (with_reducible assumption); rfl; (conv => whnf)) | (apply load_at; (conv => lhs; rw [add_plain, add_plain]); (with_reducible assumption); rfl; (conv => whnf)) | (apply loads_at; (conv => lhs; whnf); (with_reducible assumption); rfl; (conv => whnf)) | (refine ⟨⟨by omega, by omega⟩, ?_⟩; (conv => whnf))))
  exact ⟨rfl, _, M6, hsr, hok, lb, b, ms, L, _, _, P6⟩
end Go.Proofs.YtmpiggcooboenaaDoor.Al
/- The reference's pagers: their part of memory; Get. -/
namespace Go.Proofs.YtmpiggcooboenaaDoor.Al
open Go Go.Al Go.Proofs Go.RowKit
set_option maxHeartbeats 8000000
set_option maxRecDepth 100000
set_option linter.unusedVariables false
set_option linter.unusedSimpArgs false
theorem rowS_take {xs : List PcR} (n : Nat) : (rowS pcC xs).take (n * 2) = rowS pcC (xs.take n) := by
  induction xs generalizing n with
  | nil => simp [rowS]
  | cons x xs ih =>
    cases n with
    | zero => simp [rowS]
    | succ n =>
      rw [rowS_cons, List.take_succ_cons, rowS_cons, Nat.succ_mul, List.take_append, pcC_len, Nat.add_sub_cancel, ih n, List.take_of_length_le (by rw [pcC_len]; omega)]
theorem rowS_drop {xs : List PcR} (n : Nat) : (rowS pcC xs).drop (n * 2) = rowS pcC (xs.drop n) := by
  induction xs generalizing n with
  | nil => simp [rowS]
  | cons x xs ih =>
    cases n with
    | zero => simp [rowS]
    | succ n =>
      rw [rowS_cons, List.drop_succ_cons, Nat.succ_mul, List.drop_append, pcC_len, Nat.add_sub_cancel, ih n, List.drop_of_length_le (by rw [pcC_len]; omega), List.nil_append]
theorem rowS_cut {F : Heap} {A : Option Addr} {rs : List PcR} (lo n m : Nat) (hr : RowAt F A (rowS pcC rs)) (hm : lo + n ≤ m) (hle : lo + n ≤ rs.length) : RowAt F (if m = lo then A else A.map (·.add (lo * 2))) (rowS pcC ((rs.drop lo).take n)) := by
  by_cases h0 : n = 0
  · subst h0
    rw [List.take_zero]
    exact RowAt.nil _ _
  · obtain ⟨ad, rfl⟩ := hr.some (by rw [rowS_len pcC_len]; omega)
    rw [if_neg (by omega), ← rowS_take, ← rowS_drop]
    exact (hr.drop (lo * 2)).take _
theorem pcs_one (xs : List PcR) : ∀ v ∈ rowS pcC xs, v.oneCell' = true := fun v hv => by
  obtain ⟨x, _, h⟩ := List.mem_flatMap.1 hv
  exact pc_one x v h
theorem own_setD {F : Heap} {b n c : Nat} {rs : List PcR} (h : Own F (.slice (some ⟨b, 0, none⟩) n c) 67 2 n (rowS pcC rs)) {j : Nat} {x y : PcR} (hj : rs[j]? = some x) {a : Addr} (ha : a = ⟨b, j * 2 + 1, none⟩) {v : Value} (hy : pcC y = (pcC x).set 1 v) (hv : v.oneCell' = true) {K : Value → Heap → Prop}
    (hk : ∀ F', Own F' (.slice (some ⟨b, 0, none⟩) n c) 67 2 n (rowS pcC (rs.set j y)) → Keeps F F' (some b) → K undef F') : StoreK F a [v] K := by
  have hlt : j < rs.length := (List.getElem?_eq_some_iff.1 hj).1
  obtain ⟨h1, h2⟩ := h
  rcases h2 with ⟨h2, h3⟩ | ⟨b', c', cs, h2, ⟨fz, hb, hz⟩, hsz, hnc, ht⟩
  · cases h2
  · cases h2
    rw [rowS_len pcC_len] at h1
    have hcs : cs.toList = rowS pcC rs ++ cs.toList.drop (n * 2) := by rw [← ht, List.take_append_drop]
    have hlen : cs.toList.length = c * 2 := by rw [Array.length_toList]; exact hsz
    have hcn : n * 2 ≤ c * 2 := Nat.mul_le_mul_right 2 hnc
    refine store_step b (j * 2 + 1) cs _ ha hb rfl (Nat.ble_eq_true_of_le (by rw [hsz]; show j * 2 + 1 + 1 ≤ _; omega)) (hz.imp id fun h => by show j * 2 + 1 + 1 ≤ _; omega) (fun u hu => by rw [List.mem_singleton.1 hu]; exact hv) ?_
    have hp : putL cs.toList (j * 2 + 1) [v] = rowS pcC (rs.set j y) ++ cs.toList.drop (n * 2) := by
      conv => lhs; rw [hcs]
      rw [← rowS_set pcC_len rs j 1 x y v hj (by decide) hy]
      show (rowS pcC rs ++ cs.toList.drop (n * 2)).set (j * 2 + 1) v = (rowS pcC rs).set (j * 2 + 1) v ++ _
      rw [List.set_append_left _ _ (by rw [rowS_len pcC_len]; omega)]
    rw [hp]
    refine hk _ ⟨by rw [rowS_len pcC_len, List.length_set]; omega, .inr ⟨b, c, _, rfl, ⟨fz, Heap.put_same _ _ _, hz.imp id fun h => ?_⟩, ?_, hnc, ?_⟩⟩ fun k o hk' hne => by rw [Heap.put_other _ _ (fun e => hne (by rw [e]))]; exact hk'
    · rw [List.size_toArray, List.length_append, rowS_len pcC_len, List.length_set, List.length_drop]; omega
    · rw [List.size_toArray, List.length_append, rowS_len pcC_len, List.length_set, List.length_drop]; omega
    · rw [List.toList_toArray]
      exact List.take_left' (by rw [rowS_len pcC_len, List.length_set]; omega)
abbrev xpO (lb : Nat) (T : Value) : Obj := .cells #[.pointer (some ⟨lb, 0, none⟩), T] 93
/-- The part of memory of the reference's pager. -/
structure RpP (X : Heap) (xb lb b : Nat) (T : Value) (L : Heap) (ps : List PcR) (G : Heap) (r : RS) (q : Int) (S : PgL) : Prop where
  cell : X xb = some (xpO lb T)
  log : Rg L lb b r q
  own : Own X T 67 2 ps.length (rowS pcC ps)
  baseL : Ext L X
  base : Ext G X
  lx : L xb = none
  lT : ∀ k, blk T = some k → L k = none
  gx : G xb = none
  gT : ∀ k, blk T = some k → G k = none
  xT : blk T ≠ some xb
  lg : Apart L G
  ok : ∀ p ∈ ps, PcOk G p
  map : ps.map pcW = S
def Rp (X : Heap) (xb : Nat) (r : RS) (q : Int) (S : PgL) : Prop := SrtS S ∧ OkS (r.L.length : Int) S ∧ S.length ≤ 100000 ∧ ∃ lb b T L ps G, RpP X xb lb b T L ps G r q S
theorem rp_new {E F : Heap} {lb b : Nat} {r : RS} {q : Int} (hE : Ext E F) (hL : Rg E lb b r q) {xb : Nat} (h : F xb = none) : Moves E F (E.put xb (xpO lb (.slice none 0 0))) (F.put xb (xpO lb (.slice none 0 0))) ∧ Rp (E.put xb (xpO lb (.slice none 0 0))) xb r q [] := by
  have e1 := hE.none h
  exact ⟨Moves.put hE (.inr h) _, List.Pairwise.nil, (fun x h => by cases h), Nat.zero_le _, lb, b, .slice none 0 0, E, [], emptyH, ⟨Heap.put_same _ _ _, hL, ⟨rfl, .inl ⟨rfl, rfl⟩⟩, (Ext.refl E).put e1 _, emptyH_ext _, e1, (fun k hk => by cases hk), rfl, (fun k hk => by cases hk), (by intro e; cases e), fun _ _ => rfl, (fun p hp => by cases hp), rfl⟩⟩
/-- What is done to its log. -/
theorem RpP.logs {X F L' F' : Heap} {xb lb b : Nat} {T : Value} {L : Heap} {ps : List PcR} {G : Heap} {r r' : RS} {q q' : Int} {S : PgL} (h : RpP X xb lb b T L ps G r q S) (hE : Ext X F) (hM : Moves L F L' F') (hL : Rg L' lb b r' q') :
    ∃ X', Moves X F X' F' ∧ RpP X' xb lb b T L' ps G r' q' S := by
  obtain ⟨m1, m2, m3, m4⟩ := moves_in h.baseL hE hM
  obtain ⟨k1, k2⟩ := join_keep h.baseL hE hM h.base h.lg
  have e1 := m4 _ _ h.cell h.lx
  have e2 : ∀ k, blk T = some k → L' k = none := fun k hk => by
    cases e : X k with
    | none => exact absurd e (h.own.there hk)
    | some o => exact m4 _ _ e (h.lT k hk)
  exact ⟨_, m1, by rw [m3 _ h.lx e1]; exact h.cell, hL, h.own.of_blk fun k o hk ho => by rw [m3 k (h.lT k hk) (e2 k hk)]; exact ho, m2, k1, e1, e2, h.gx, h.gT, h.xT, k2, h.ok, h.map⟩
/-- Nothing is set any more. -/
theorem RpP.clear {X F : Heap} {xb lb b : Nat} {T : Value} {L : Heap} {ps : List PcR} {G : Heap} {r : RS} {q : Int} {S : PgL} (h : RpP X xb lb b T L ps G r q S) (hE : Ext X F) :
    Moves X F (X.put xb (xpO lb (.slice none 0 0))) (F.put xb (xpO lb (.slice none 0 0))) ∧ RpP (X.put xb (xpO lb (.slice none 0 0))) xb lb b (.slice none 0 0) L [] G r q [] :=
  ⟨Moves.put hE (.inl (by rw [h.cell]; simp)) _, ⟨Heap.put_same _ _ _, h.log, ⟨rfl, .inl ⟨rfl, rfl⟩⟩, h.baseL.put h.lx _, h.base.put h.gx _, h.lx, (fun k hk => by cases hk), h.gx, (fun k hk => by cases hk), (by intro e; cases e), h.lg, (fun p hp => by cases hp), rfl⟩⟩
/-- One image's data is another one, in place. -/
theorem RpP.inPlace {X F F' F2 : Heap} {xb lb b : Nat} {T : Value} {L : Heap} {ps ps' : List PcR} {G : Heap} {r : RS} {q : Int} {S : PgL} (h : RpP X xb lb b T L ps G r q S) (hE : Ext X F) (hE2 : Ext F F') (ho : Own F2 T 67 2 ps'.length (rowS pcC ps')) (hk : Keeps F' F2 (blk T)) (hok : ∀ p ∈ ps', PcOk (gain G F F') p) :
    ∃ X', Moves X F X' F2 ∧ RpP X' xb lb b T L ps' (gain G F F') r q (ps'.map pcW) := by
  have hg := gain_ext (F' := F') hE
  have m1 := Moves.gain hE hE2
  have hT : ∀ k, blk T = some k → gain X F F' k ≠ none := fun k hk => by
    cases e : X k with
    | none => exact absurd e (h.own.there hk)
    | some o => rw [hg _ _ e]; simp
  have m2 := Moves.gain1 m1.inn hk hT
  have hold : ∀ c, X c ≠ none → gain G F F' c = G c := fun c hc => by
    cases e : X c with
    | none => exact absurd e hc
    | some o => exact gain_old (hE _ _ e)
  have hkp : ∀ c o, gain X F F' c = some o → blk T ≠ some c → (if blk T = some c then F2 c else gain (gain X F F') F' F2 c) = some o := fun c o hc hne => by
    rw [if_neg hne, gain_old (m1.inn _ _ hc)]; exact hc
  have hTX : ∀ k, blk T = some k → X k ≠ none := fun k hk => h.own.there hk
  have hGD : Ext (gain G F F') (gain X F F') := fun c o hc => by
    cases e : F c with
    | none => rw [gain_new e] at hc ⊢; exact hc
    | some u => rw [gain_old e] at hc ⊢; exact h.base _ _ hc
  refine ⟨_, m1.trans m2, ⟨hkp _ _ (hg _ _ h.cell) h.xT, h.log, ho.of_blk fun k o hk' ho' => by rw [if_pos hk']; exact ho', fun c o hc => hkp c o ((h.baseL.trans hg) c o hc) (fun e => by rw [h.lT c e] at hc; cases hc), fun c o hc => hkp c o (hGD c o hc) (fun e => by rw [hold c (hTX c e), h.gT c e] at hc; cases hc), h.lx, h.lT, by rw [hold _ (by rw [h.cell]; simp)]; exact h.gx, fun k hk' => by rw [hold _ (hTX k hk')]; exact h.gT k hk', h.xT, fun c hc => ?_, hok, rfl⟩⟩
  have hd : X c ≠ none := fun e => hc (h.baseL.none e)
  rw [hold _ hd]
  exact h.lg c hc
/-- What is known but for a row's block. -/
def restT (T : Value) (F : Heap) : Heap := fun c => if blk T = some c then none else F c
theorem restT_row {T : Value} {F : Heap} {A : Option Addr} {vs : List Value} (hr : RowAt F A vs) (h : ∀ a, A = some a → blk T ≠ some a.block) : RowAt (restT T F) A vs := fun j v hj => by
  obtain ⟨a, e, hc⟩ := hr j v hj
  refine ⟨a, e, ?_⟩
  unfold Heap.cell? at hc ⊢
  unfold restT
  rw [if_neg (by rw [add_block]; exact h a e)]
  exact hc
/-- Another list of images. -/
theorem RpP.other {X F F2 : Heap} {xb lb b : Nat} {T T' : Value} {L : Heap} {ps ps' : List PcR} {G : Heap} {r : RS} {q : Int} {S : PgL} (h : RpP X xb lb b T L ps G r q S) (hE : Ext X F) (hE2 : Ext F F2) (ho : Own F2 T' 67 2 ps'.length (rowS pcC ps')) (hf : ∀ k, blk T' = some k → F k = none) (hok : ∀ p ∈ ps', PcOk (gain G F (restT T' F2)) p) :
    Moves X F ((gain X F F2).put xb (xpO lb T')) (F2.put xb (xpO lb T')) ∧ RpP ((gain X F F2).put xb (xpO lb T')) xb lb b T' L ps' (gain G F (restT T' F2)) r q (ps'.map pcW) := by
  have hg := gain_ext (F' := F2) hE
  have m1 := Moves.gain hE hE2
  have hxb : X xb ≠ none := by rw [h.cell]; simp
  have hold : ∀ c H, X c ≠ none → gain G F H c = G c := fun c H hc => by
    cases e : X c with
    | none => exact absurd e hc
    | some o => exact gain_old (hE _ _ e)
  have hxT : blk T' ≠ some xb := fun e => hxb (hE.none (hf _ e))
  refine ⟨m1.trans (Moves.put m1.inn (.inl fun e => hxb (hg.none e)) _), ⟨Heap.put_same _ _ _, h.log, ?_, (h.baseL.trans hg).put h.lx _, Ext.put (fun c o hc => ?_) (by rw [hold _ _ hxb]; exact h.gx) _, h.lx, fun k hk => hE.none (hf k hk) |> fun e => h.baseL.none e, by rw [hold _ _ hxb]; exact h.gx, fun k hk => ?_, hxT, fun c hc => ?_, hok, rfl⟩⟩
  · refine Own.put (ho.of_blk fun k o hk ho' => ?_) hxT
    rw [gain_new (hf k hk)]; exact ho'
  · cases e : F c with
    | none =>
      rw [gain_new e] at hc ⊢
      unfold restT at hc
      split at hc
      · cases hc
      · exact hc
    | some u => rw [gain_old e] at hc ⊢; exact h.base _ _ hc
  · rw [gain_new (hf k hk)]
    unfold restT
    rw [if_pos hk]
  · have hd : X c ≠ none := fun e => hc (h.baseL.none e)
    rw [hold _ _ hd]
    exact h.lg c hc
end Go.Proofs.YtmpiggcooboenaaDoor.Al
/- The reference's pagers: Get and Set, over what is known of memory. -/
namespace Go.Proofs.YtmpiggcooboenaaDoor.Al
open Go Go.Al Go.Proofs Go.RowKit
set_option maxHeartbeats 8000000
set_option maxRecDepth 100000
set_option linter.unusedVariables false
set_option linter.unusedSimpArgs false
theorem Rg.pages {E F : Heap} {lb b : Nat} {r : RS} {q : Int} (hE : Ext E F) (hL : Rg E lb b r q) : FnK Tryd.prog 84 #[.pointer (some ⟨lb, 0, none⟩)] F (fun v F' => v = .int .i64 (pagesN (r.L.length : Int)) ∧ F' = F) := by
  obtain ⟨D0, h1, h2, h3⟩ := hL.disk
  exact rgPages (h2.trans hE) h1 (hE _ _ h3)
theorem Rg.load {E F : Heap} {lb b : Nat} {r : RS} {q : Int} (hE : Ext E F) (hL : Rg E lb b r q) (p : Int) : FnK Tryd.prog 40 #[.pointer (some ⟨lb, 0, none⟩), .int .i64 p] F (fun v F' => ∃ u, v = .tuple #[u, .int .i64 (loadE rsO r p)] ∧ NewRow F F' u (loadL rsO r p) ∧ Ext F F') := by
  obtain ⟨D0, h1, h2, h3⟩ := hL.disk
  exact rgLoad (h2.trans hE) h1 (hE _ _ h3) p
theorem rpGet {X F : Heap} {xb : Nat} {r : RS} {q : Int} {S : PgL} (hE : Ext X F) (hX : Rp X xb r q S) (p : Int) :
    FnK Tryd.prog 53 #[.pointer (some ⟨xb, 0, none⟩), .int .i64 p] F (fun v F' => ∃ u, v = .tuple #[u, .int .i64 (pgE rsO r S p)] ∧ NewRow F F' u (pgD rsO r S p) ∧ Ext F F') := by
  obtain ⟨hs, ho, hn, lb, b, T, L, ps, G, hP⟩ := hX
  have hc := hE _ _ hP.cell
  have k1 := Rg.load (hP.baseL.trans hE) hP.log p
  obtain ⟨A, c, rfl, hcc, hr⟩ := hP.own.row
  replace hr := hr.mono hE
  have hbase := hP.base.trans hE
  have hok := hP.ok
  have hmap := hP.map
  clear hP
  have hat : ∀ (i : Nat) x, ps[i]? = some x → S[i]? = some (x.at_, x.l) := fun i x hx => by
    rw [← hmap, List.getElem?_map, hx]; rfl
  have hln : S.length = ps.length := by rw [← hmap, List.length_map]
  have yes : ∀ (i : Nat) x, ps[i]? = some x → x.at_ = p → pgE rsO r S p = 0 ∧ pgD rsO r S p = x.l := fun i x hx e => by
    have := lk_at S hs i _ (hat i x hx)
    rw [show ((x.at_, x.l) : Int × List UInt8).1 = p from e] at this
    unfold pgE pgD
    rw [this]
    exact ⟨rfl, rfl⟩
  have no : (∀ (i : Nat) x, ps[i]? = some x → x.at_ ≠ p) → pgE rsO r S p = loadE rsO r p ∧ pgD rsO r S p = loadL rsO r p := fun h => by
    have : lkS S p = none := lk_none fun j y hy => by
      rw [← hmap, List.getElem?_map] at hy
      obtain ⟨x, h1, rfl⟩ := Option.map_eq_some_iff.1 hy
      exact h j x h1
    unfold pgE pgD
    rw [this]
    exact ⟨rfl, rfl⟩
  generalize pgE rsO r S p = pe at yes no ⊢
  generalize pgD rsO r S p = pd at yes no ⊢
  generalize loadE rsO r p = le at k1 no
  generalize loadL rsO r p = ll at k1 no
  (refine fn_walk tab_ok Tryd.func53 rfl rfl rfl rfl ?_; (conv => whnf))
  refine loop_slots [0, 1, 6] (fun k vs F' => ∃ j : Nat, j + k = ps.length ∧ vs = [.pointer (some ⟨xb, 0, none⟩), .int .i64 p, .int .i64 (j : Int)] ∧ F' = F ∧ ∀ (i : Nat) x, i < j → ps[i]? = some x → x.at_ ≠ p) ps.length ⟨0, by omega, rfl, rfl, fun i x h => by omega⟩ ?_
  rintro k vs F2 ρ ⟨j, hjk, rfl, rfl, hlt⟩
  ((conv => whnf); repeat (first | (apply load_at; (conv => lhs; whnf); (with_reducible assumption); rfl; (conv => whnf)) | (apply load_at; (conv => lhs; rw [add_plain, add_plain]); (with_reducible assumption); rfl; (conv => whnf)) | (apply loads_at; (conv => lhs; whnf); (with_reducible assumption); rfl; (conv => whnf)) | (refine ⟨⟨by omega, by omega⟩, ?_⟩; (conv => whnf))))
  refine cond_split (fun h => ?_) (fun h => ?_)
  · have hj : j < ps.length := by
      have h : decide ((j : Int) < (ps.length : Int)) = true := h
      have := of_decide_eq_true h
      omega
    clear h
    obtain ⟨ad, rfl⟩ := hr.some (by rw [rowS_len pcC_len]; omega)
    obtain ⟨x, hx⟩ : ∃ x, ps[j]? = some x := ⟨_, List.getElem?_eq_getElem hj⟩
    have c0 := rowS_cell pcC_len hr hx (q := 0) rfl
    have c1 := rowS_cell pcC_len hr hx (q := 1) rfl
    have hxo := hok x (List.mem_of_getElem? hx)
    obtain ⟨pat, pl, pA, pc⟩ := x
    dsimp only at c0 c1
    ((conv => whnf); repeat (first | (apply load_at; (conv => lhs; whnf); (with_reducible assumption); rfl; (conv => whnf)) | (apply load_at; (conv => lhs; rw [add_plain, add_plain]); (with_reducible assumption); rfl; (conv => whnf)) | (apply loads_at; (conv => lhs; whnf); (with_reducible assumption); rfl; (conv => whnf)) | (refine ⟨⟨by omega, by omega⟩, ?_⟩; (conv => whnf))))
    refine load_step c0 ?_
    ((conv => whnf); repeat (first | (apply load_at; (conv => lhs; whnf); (with_reducible assumption); rfl; (conv => whnf)) | (apply load_at; (conv => lhs; rw [add_plain, add_plain]); (with_reducible assumption); rfl; (conv => whnf)) | (apply loads_at; (conv => lhs; whnf); (with_reducible assumption); rfl; (conv => whnf)) | (refine ⟨⟨by omega, by omega⟩, ?_⟩; (conv => whnf))))
    refine cond_split (fun h => ?_) (fun h => ?_)
    · have h : (pat == p) = true := h
      obtain ⟨rfl, rfl⟩ := yes j _ hx (by simpa using h)
      ((conv => whnf); repeat (first | (apply load_at; (conv => lhs; whnf); (with_reducible assumption); rfl; (conv => whnf)) | (apply load_at; (conv => lhs; rw [add_plain, add_plain]); (with_reducible assumption); rfl; (conv => whnf)) | (apply loads_at; (conv => lhs; whnf); (with_reducible assumption); rfl; (conv => whnf)) | (refine ⟨⟨by omega, by omega⟩, ?_⟩; (conv => whnf))))
      refine load_step c1 ?_
      ((conv => whnf); repeat (first | (apply load_at; (conv => lhs; whnf); (with_reducible assumption); rfl; (conv => whnf)) | (apply load_at; (conv => lhs; rw [add_plain, add_plain]); (with_reducible assumption); rfl; (conv => whnf)) | (apply loads_at; (conv => lhs; whnf); (with_reducible assumption); rfl; (conv => whnf)) | (refine ⟨⟨by omega, by omega⟩, ?_⟩; (conv => whnf))))
      refine append_mine tab_ok (n := 0) (m := pd.length) (xs := []) (ys := bytesOf pd) rfl rfl rfl rfl rfl ⟨_, rfl, fun k h => by cases h⟩ ⟨_, rfl, rfl⟩ (by decide) (Mine.nil F2 F2 _ _ (Ext.refl _)) (y := .slice pA pd.length pc) ⟨by rw [bytes_len]; exact (Nat.mul_one _).symm, .inl ⟨_, _, rfl, hxo.row.mono hbase⟩⟩ (hone_bytes _) (by have := hxo.len; show 2 * (0 + pd.length) * 1 ≤ _; dsimp only at this; omega) fun s7 F7 hM7 _ => ?_
      rw [Nat.zero_add, List.nil_append] at hM7
      ((conv => whnf); repeat (first | (apply load_at; (conv => lhs; whnf); (with_reducible assumption); rfl; (conv => whnf)) | (apply load_at; (conv => lhs; rw [add_plain, add_plain]); (with_reducible assumption); rfl; (conv => whnf)) | (apply loads_at; (conv => lhs; whnf); (with_reducible assumption); rfl; (conv => whnf)) | (refine ⟨⟨by omega, by omega⟩, ?_⟩; (conv => whnf))))
      exact ⟨_, rfl, hM7.newRow, hM7.ext⟩
    · have h : (pat == p) = false := h
      ((conv => whnf); repeat (first | (apply load_at; (conv => lhs; whnf); (with_reducible assumption); rfl; (conv => whnf)) | (apply load_at; (conv => lhs; rw [add_plain, add_plain]); (with_reducible assumption); rfl; (conv => whnf)) | (apply loads_at; (conv => lhs; whnf); (with_reducible assumption); rfl; (conv => whnf)) | (refine ⟨⟨by omega, by omega⟩, ?_⟩; (conv => whnf))))
      refine ⟨k - 1, by omega, j + 1, by omega, ?_, rfl, fun i y hi hy => ?_⟩
      · rw [← wrap_succ (j := j) (by omega)]
        rfl
      · by_cases e : i = j
        · subst e
          rw [hx] at hy
          cases hy
          simpa using h
        · exact hlt i y (by omega) hy
  · have hj : j = ps.length := by
      have h : decide ((j : Int) < (ps.length : Int)) = false := h
      have := of_decide_eq_false h
      omega
    subst hj
    obtain ⟨rfl, rfl⟩ := no fun i x hx => hlt i x (List.getElem?_eq_some_iff.1 hx).1 hx
    ((conv => whnf); repeat (first | (apply load_at; (conv => lhs; whnf); (with_reducible assumption); rfl; (conv => whnf)) | (apply load_at; (conv => lhs; rw [add_plain, add_plain]); (with_reducible assumption); rfl; (conv => whnf)) | (apply loads_at; (conv => lhs; whnf); (with_reducible assumption); rfl; (conv => whnf)) | (refine ⟨⟨by omega, by omega⟩, ?_⟩; (conv => whnf))))
    refine call_of k1 ?_
    rintro v F1 ⟨u, rfl, hu, hE1⟩
    ((conv => whnf); repeat (first | (apply load_at; (conv => lhs; whnf); (with_reducible assumption); rfl; (conv => whnf)) | (apply load_at; (conv => lhs; rw [add_plain, add_plain]); (with_reducible assumption); rfl; (conv => whnf)) | (apply loads_at; (conv => lhs; whnf); (with_reducible assumption); rfl; (conv => whnf)) | (refine ⟨⟨by omega, by omega⟩, ?_⟩; (conv => whnf))))
    exact ⟨_, rfl, hu, hE1⟩
theorem rpSet {X F : Heap} {xb : Nat} {r : RS} {q : Int} {S : PgL} (hE : Ext X F) (hX : Rp X xb r q S) (l : List UInt8) (A0 : Option Addr) (c0 : Nat) (hr0 : RowAt F A0 (bytesOf l)) (hl0 : l.length ≤ 900000) (p : Int) (hn2 : S.length < 100000) :
    FnK Tryd.prog 55 #[.pointer (some ⟨xb, 0, none⟩), .int .i64 p, .slice A0 l.length c0] F (fun v F' => v = .int .i64 (psE (r.L.length : Int) p l) ∧ ∃ X', Moves X F X' F' ∧ Rp X' xb r q (psS (r.L.length : Int) S p l)) := by
  have hX0 := hX
  obtain ⟨hs, ho, hn, lb, b, T, L, ps, G, hP⟩ := hX
  have hc := hE _ _ hP.cell
  have kP := fun F' (h : Ext F F') => Rg.pages ((hP.baseL.trans hE).trans h) hP.log
  obtain ⟨A, c, rfl, hcc, hr⟩ := hP.own.row
  replace hr := hr.mono hE
  have hmap := hP.map
  have hat : ∀ (i : Nat) x, ps[i]? = some x → S[i]? = some (x.at_, x.l) := fun i x hx => by
    rw [← hmap, List.getElem?_map, hx]; rfl
  have hln : S.length = ps.length := by rw [← hmap, List.length_map]
  have hsr := ps_srt (n := (r.L.length : Int)) hs p l
  have hok := ps_ok (n := (r.L.length : Int)) ho p l
  have hle := ps_len (n := (r.L.length : Int)) (S := S) p l
  have hpg : isPg (r.L.length : Int) p = true ↔ 0 ≤ p ∧ p < pagesN (r.L.length : Int) := isPg_iff
  have no : ¬ ((0 ≤ p ∧ p < pagesN (r.L.length : Int)) ∧ l.length = 240) → psE (r.L.length : Int) p l = 1 ∧ psS (r.L.length : Int) S p l = S := fun h => by
    unfold psE psS
    rw [if_neg (by rw [hpg]; exact h), if_neg (by rw [hpg]; exact h)]
    exact ⟨rfl, rfl⟩
  have yes : ((0 ≤ p ∧ p < pagesN (r.L.length : Int)) ∧ l.length = 240) → psE (r.L.length : Int) p l = 0 ∧ psS (r.L.length : Int) S p l = insS S p l := fun h => by
    unfold psE psS
    rw [if_pos (by rw [hpg]; exact h), if_pos (by rw [hpg]; exact h)]
    exact ⟨rfl, rfl⟩
  have hins := fun k => ins_at S k p l
  clear hpg
  generalize psE (r.L.length : Int) p l = pe at no yes ⊢
  generalize psS (r.L.length : Int) S p l = pS at no yes hsr hok hle ⊢
  generalize pagesN (r.L.length : Int) = P at kP no yes
  have fin : ¬ ((0 ≤ p ∧ p < P) ∧ l.length = 240) → Value.int .i64 1 = .int .i64 pe ∧ ∃ X', Moves X F X' F ∧ Rp X' xb r q pS := fun h => by
    obtain ⟨rfl, rfl⟩ := no h
    exact ⟨rfl, X, Moves.refl hE, hX0⟩
  have k0 := kP F (Ext.refl F)
  (refine fn_walk tab_ok Tryd.func55 rfl rfl rfl rfl ?_; (conv => whnf))
  cases hd : decide (p < 0) with
  | true =>
    have h := of_decide_eq_true hd
    ((conv => whnf); repeat (first | (apply load_at; (conv => lhs; whnf); (with_reducible assumption); rfl; (conv => whnf)) | (apply load_at; (conv => lhs; rw [add_plain, add_plain]); (with_reducible assumption); rfl; (conv => whnf)) | (apply loads_at; (conv => lhs; whnf); (with_reducible assumption); rfl; (conv => whnf)) | (refine ⟨⟨by omega, by omega⟩, ?_⟩; (conv => whnf))))
    exact fin (by omega)
  | false =>
  have h0 := of_decide_eq_false hd
  ((conv => whnf); repeat (first | (apply load_at; (conv => lhs; whnf); (with_reducible assumption); rfl; (conv => whnf)) | (apply load_at; (conv => lhs; rw [add_plain, add_plain]); (with_reducible assumption); rfl; (conv => whnf)) | (apply loads_at; (conv => lhs; whnf); (with_reducible assumption); rfl; (conv => whnf)) | (refine ⟨⟨by omega, by omega⟩, ?_⟩; (conv => whnf))))
  refine call_of k0 ?_
  rintro v F ⟨rfl, rfl⟩
  ((conv => whnf); repeat (first | (apply load_at; (conv => lhs; whnf); (with_reducible assumption); rfl; (conv => whnf)) | (apply load_at; (conv => lhs; rw [add_plain, add_plain]); (with_reducible assumption); rfl; (conv => whnf)) | (apply loads_at; (conv => lhs; whnf); (with_reducible assumption); rfl; (conv => whnf)) | (refine ⟨⟨by omega, by omega⟩, ?_⟩; (conv => whnf))))
  cases hd2 : decide (p ≥ P) with
  | true =>
    have h := of_decide_eq_true hd2
    ((conv => whnf); repeat (first | (apply load_at; (conv => lhs; whnf); (with_reducible assumption); rfl; (conv => whnf)) | (apply load_at; (conv => lhs; rw [add_plain, add_plain]); (with_reducible assumption); rfl; (conv => whnf)) | (apply loads_at; (conv => lhs; whnf); (with_reducible assumption); rfl; (conv => whnf)) | (refine ⟨⟨by omega, by omega⟩, ?_⟩; (conv => whnf))))
    exact fin (by omega)
  | false =>
  have h1 := of_decide_eq_false hd2
  ((conv => whnf); repeat (first | (apply load_at; (conv => lhs; whnf); (with_reducible assumption); rfl; (conv => whnf)) | (apply load_at; (conv => lhs; rw [add_plain, add_plain]); (with_reducible assumption); rfl; (conv => whnf)) | (apply loads_at; (conv => lhs; whnf); (with_reducible assumption); rfl; (conv => whnf)) | (refine ⟨⟨by omega, by omega⟩, ?_⟩; (conv => whnf))))
  refine cond_split (fun h => ?_) (fun h => ?_)
  · have h : ((l.length : Int) != 240) = true := h
    have hne : l.length ≠ 240 := fun e => by rw [e] at h; exact absurd h (by decide)
    ((conv => whnf); repeat (first | (apply load_at; (conv => lhs; whnf); (with_reducible assumption); rfl; (conv => whnf)) | (apply load_at; (conv => lhs; rw [add_plain, add_plain]); (with_reducible assumption); rfl; (conv => whnf)) | (apply loads_at; (conv => lhs; whnf); (with_reducible assumption); rfl; (conv => whnf)) | (refine ⟨⟨by omega, by omega⟩, ?_⟩; (conv => whnf))))
    exact fin (by omega)
  have h : ((l.length : Int) != 240) = false := h
  have hl2 : l.length = 240 := by have := bne_eq_false_iff_eq.1 h; omega
  clear h hd hd2
  obtain ⟨rfl, hy2⟩ := yes ⟨by omega, hl2⟩
  refine short [0, 1, 2] [.pointer (some ⟨xb, 0, none⟩), .int .i64 p, .slice A0 l.length c0] rfl fun ρ => ?_
  ((conv => whnf); repeat (first | (apply load_at; (conv => lhs; whnf); (with_reducible assumption); rfl; (conv => whnf)) | (apply load_at; (conv => lhs; rw [add_plain, add_plain]); (with_reducible assumption); rfl; (conv => whnf)) | (apply loads_at; (conv => lhs; whnf); (with_reducible assumption); rfl; (conv => whnf)) | (refine ⟨⟨by omega, by omega⟩, ?_⟩; (conv => whnf))))
  refine append_mine tab_ok (n := 0) (m := l.length) (xs := []) (ys := bytesOf l) rfl rfl rfl rfl rfl ⟨_, rfl, fun k h => by cases h⟩ ⟨_, rfl, rfl⟩ (by decide) (Mine.nil F F _ _ (Ext.refl _)) (y := .slice A0 l.length c0) ⟨by rw [bytes_len]; exact (Nat.mul_one _).symm, .inl ⟨_, _, rfl, hr0⟩⟩ (hone_bytes _) (by show 2 * (0 + l.length) * 1 ≤ _; omega) fun s7 F7 hM7 _ => ?_
  rw [Nat.zero_add, List.nil_append] at hM7
  obtain ⟨A7, c7, rfl, hc7, hr7⟩ := hM7.own.row
  have f7 : ∀ a, A7 = some a → F a.block = none := fun a ha => hM7.fresh _ (by rw [ha]; rfl)
  have hA7 : ∀ a, A7 = some a → F7 a.block ≠ none := fun a ha e => by
    subst ha
    obtain ⟨ad, h1, h2⟩ := hr7 0 ((bytesOf l)[0]'(by rw [bytes_len]; omega)) (List.getElem?_eq_getElem _)
    cases h1
    obtain ⟨cc, ee, fz, h3, _, _⟩ := cell_block h2
    rw [add_block, e] at h3
    cases h3
  have hc7x := hM7.ext _ _ hc
  have hr7x := hr.mono hM7.ext
  have hex : ∀ (i : Nat) (y : Int × List UInt8), S[i]? = some y → ∃ x : PcR, ps[i]? = some x ∧ pcW x = y := fun i y hy => by
    rw [← hmap, List.getElem?_map] at hy
    obtain ⟨x, h1, h2⟩ := Option.map_eq_some_iff.1 hy
    exact ⟨x, h1, h2⟩
  ((conv => whnf); repeat (first | (apply load_at; (conv => lhs; whnf); (with_reducible assumption); rfl; (conv => whnf)) | (apply load_at; (conv => lhs; rw [add_plain, add_plain]); (with_reducible assumption); rfl; (conv => whnf)) | (apply loads_at; (conv => lhs; whnf); (with_reducible assumption); rfl; (conv => whnf)) | (refine ⟨⟨by omega, by omega⟩, ?_⟩; (conv => whnf))))
  refine loop_slots [0, 1, 7, 8] (fun k vs F' => ∃ j : Nat, j + k = ps.length ∧ vs = [.pointer (some ⟨xb, 0, none⟩), .int .i64 p, .slice A7 l.length c7, .int .i64 (j : Int)] ∧ F7 = F' ∧ ∀ (i : Nat) x, i < j → ps[i]? = some x → x.at_ < p) ps.length ⟨0, by omega, rfl, rfl, fun i x h => by omega⟩ ?_
  rintro k vs F2 ρ2 ⟨j, hjk, rfl, rfl, hlt⟩
  ((conv => whnf); repeat (first | (apply load_at; (conv => lhs; whnf); (with_reducible assumption); rfl; (conv => whnf)) | (apply load_at; (conv => lhs; rw [add_plain, add_plain]); (with_reducible assumption); rfl; (conv => whnf)) | (apply loads_at; (conv => lhs; whnf); (with_reducible assumption); rfl; (conv => whnf)) | (refine ⟨⟨by omega, by omega⟩, ?_⟩; (conv => whnf))))
  cases hd : decide ((j : Int) < (ps.length : Int)) with
  | true =>
    have hj : j < ps.length := by have := of_decide_eq_true hd; omega
    clear hd
    obtain ⟨ad, rfl⟩ := hr7x.some (by rw [rowS_len pcC_len]; omega)
    obtain ⟨x, hx⟩ : ∃ x, ps[j]? = some x := ⟨_, List.getElem?_eq_getElem hj⟩
    have c0 := rowS_cell pcC_len hr7x hx (q := 0) rfl
    ((conv => whnf); repeat (first | (apply load_at; (conv => lhs; whnf); (with_reducible assumption); rfl; (conv => whnf)) | (apply load_at; (conv => lhs; rw [add_plain, add_plain]); (with_reducible assumption); rfl; (conv => whnf)) | (apply loads_at; (conv => lhs; whnf); (with_reducible assumption); rfl; (conv => whnf)) | (refine ⟨⟨by omega, by omega⟩, ?_⟩; (conv => whnf))))
    refine load_step c0 ?_
    ((conv => whnf); repeat (first | (apply load_at; (conv => lhs; whnf); (with_reducible assumption); rfl; (conv => whnf)) | (apply load_at; (conv => lhs; rw [add_plain, add_plain]); (with_reducible assumption); rfl; (conv => whnf)) | (apply loads_at; (conv => lhs; whnf); (with_reducible assumption); rfl; (conv => whnf)) | (refine ⟨⟨by omega, by omega⟩, ?_⟩; (conv => whnf))))
    refine cond_split (fun h => ?_) (fun h => ?_)
    · have h := of_decide_eq_true (show decide (x.at_ < p) = true from h)
      ((conv => whnf); repeat (first | (apply load_at; (conv => lhs; whnf); (with_reducible assumption); rfl; (conv => whnf)) | (apply load_at; (conv => lhs; rw [add_plain, add_plain]); (with_reducible assumption); rfl; (conv => whnf)) | (apply loads_at; (conv => lhs; whnf); (with_reducible assumption); rfl; (conv => whnf)) | (refine ⟨⟨by omega, by omega⟩, ?_⟩; (conv => whnf))))
      refine ⟨k - 1, by omega, j + 1, by omega, ?_, rfl, fun i y hi hy => ?_⟩
      · rw [← wrap_succ (j := j) (by omega)]
        rfl
      · by_cases e : i = j
        · subst e
          rw [hx] at hy
          cases hy
          exact h
        · exact hlt i y (by omega) hy
    have hge0 := of_decide_eq_false (show decide (x.at_ < p) = false from h)
    clear h
    have hd9 : decide ((j : Int) < (ps.length : Int)) = true := decide_eq_true (by omega)
    refine short [0, 1, 7, 8] [.pointer (some ⟨xb, 0, none⟩), .int .i64 p, .slice A7 l.length c7, .int .i64 (j : Int)] rfl fun ρ => ?_
    ((conv => whnf); repeat (first | (apply load_at; (conv => lhs; whnf); (with_reducible assumption); rfl; (conv => whnf)) | (apply load_at; (conv => lhs; rw [add_plain, add_plain]); (with_reducible assumption); rfl; (conv => whnf)) | (apply loads_at; (conv => lhs; whnf); (with_reducible assumption); rfl; (conv => whnf)) | (refine ⟨⟨by omega, by omega⟩, ?_⟩; (conv => whnf))))
    rw [hd9]
    ((conv => whnf); repeat (first | (apply load_at; (conv => lhs; whnf); (with_reducible assumption); rfl; (conv => whnf)) | (apply load_at; (conv => lhs; rw [add_plain, add_plain]); (with_reducible assumption); rfl; (conv => whnf)) | (apply loads_at; (conv => lhs; whnf); (with_reducible assumption); rfl; (conv => whnf)) | (refine ⟨⟨by omega, by omega⟩, ?_⟩; (conv => whnf))))
    refine load_step c0 ?_
    ((conv => whnf); repeat (first | (apply load_at; (conv => lhs; whnf); (with_reducible assumption); rfl; (conv => whnf)) | (apply load_at; (conv => lhs; rw [add_plain, add_plain]); (with_reducible assumption); rfl; (conv => whnf)) | (apply loads_at; (conv => lhs; whnf); (with_reducible assumption); rfl; (conv => whnf)) | (refine ⟨⟨by omega, by omega⟩, ?_⟩; (conv => whnf))))
    refine cond_split (fun h => ?_) (fun h => ?_)
    · have h : (x.at_ == p) = true := h
      have hxp : x.at_ = p := by simpa using h
      clear h
      have hO7 := hP.own.of_blk (F' := F7) fun k o _ ho => hM7.ext _ _ (hE _ _ ho)
      obtain ⟨b0, rfl⟩ : ∃ b0, ad = ⟨b0, 0, none⟩ := by
        rcases hO7.2 with ⟨h1, _⟩ | ⟨b0, _, _, h1, _⟩
        · cases h1
        · cases h1; exact ⟨b0, rfl⟩
      refine short [0, 1, 7, 8] [.pointer (some ⟨xb, 0, none⟩), .int .i64 p, .slice A7 l.length c7, .int .i64 (j : Int)] rfl fun ρ => ?_
      ((conv => whnf); repeat (first | (apply load_at; (conv => lhs; whnf); (with_reducible assumption); rfl; (conv => whnf)) | (apply load_at; (conv => lhs; rw [add_plain, add_plain]); (with_reducible assumption); rfl; (conv => whnf)) | (apply loads_at; (conv => lhs; whnf); (with_reducible assumption); rfl; (conv => whnf)) | (refine ⟨⟨by omega, by omega⟩, ?_⟩; (conv => whnf))))
      refine own_setD hO7 hx (by rw [Int.toNat_natCast, add_plain, Nat.zero_add]; rfl) (y := ⟨x.at_, l, A7, c7⟩) rfl rfl fun F8 hO8 hK8 => ?_
      obtain ⟨X', m1, m2⟩ := hP.inPlace hE hM7.ext (ps' := ps.set j ⟨x.at_, l, A7, c7⟩) (by rw [List.length_set]; exact hO8) hK8 (fun y hy => by
        rcases List.mem_or_eq_of_mem_set hy with hy | rfl
        · exact (hP.ok y hy).mono (gain_ext (hP.base.trans hE))
        · exact ⟨rowAt_gain hr7 f7, by show l.length ≤ 900000; omega⟩)
      have hpS : pS = (ps.set j (⟨x.at_, l, A7, c7⟩ : PcR)).map pcW := by
        rw [hy2, hins j (by omega) (fun i y hi hy => ?_) (fun y hy => ?_), if_pos, List.map_set, hmap]
        · rw [← hxp]; rfl
        · exact ⟨_, hat j x hx, hxp⟩
        · obtain ⟨x', hx', rfl⟩ := hex i y hy
          exact hlt i x' hi hx'
        · rw [hat j x hx] at hy
          cases hy
          exact hge0
      ((conv => whnf); repeat (first | (apply load_at; (conv => lhs; whnf); (with_reducible assumption); rfl; (conv => whnf)) | (apply load_at; (conv => lhs; rw [add_plain, add_plain]); (with_reducible assumption); rfl; (conv => whnf)) | (apply loads_at; (conv => lhs; whnf); (with_reducible assumption); rfl; (conv => whnf)) | (refine ⟨⟨by omega, by omega⟩, ?_⟩; (conv => whnf))))
      exact ⟨rfl, X', m1, hsr, hok, by omega, lb, b, _, L, _, _, by rw [hpS]; exact m2⟩
    · have h : (x.at_ == p) = false := h
      have hne : x.at_ ≠ p := by simpa using h
      have hge : ∀ y : PcR, ps[j]? = some y → p < y.at_ := fun y hy => by
        rw [hx] at hy
        cases hy
        omega
      clear h
      have hpS : pS = (ps.take j ++ ⟨p, l, A7, c7⟩ :: ps.drop j).map pcW := by
        rw [hy2, hins j (by omega) (fun i y hi hy => ?_) (fun y hy => ?_), if_neg, List.map_append, List.map_cons, List.map_take, List.map_drop, hmap]
        · rfl
        · rintro ⟨y, hy, e⟩
          obtain ⟨x, hx, rfl⟩ := hex j y hy
          have := hge x hx
          have e : x.at_ = p := e
          omega
        · obtain ⟨x, hx, rfl⟩ := hex i y hy
          exact hlt i x hi hx
        · obtain ⟨x, hx, rfl⟩ := hex j y hy
          have := hge x hx
          show ¬ x.at_ < p
          omega
      have hnl : j ≤ ps.length := by omega
      have hcut1 : ∀ F', Ext F7 F' → RowAt F' (if c = 0 then (some ad : Option Addr) else (some ad : Option Addr).map (·.add (0 * 2))) (rowS pcC (ps.take j)) := fun F' hE => rowS_cut 0 j c (hr7x.mono hE) (by omega) (by omega)
      have hcut2 : ∀ F', Ext F7 F' → RowAt F' (if c = j then (some ad : Option Addr) else (some ad : Option Addr).map (·.add (j * 2))) (rowS pcC (ps.drop j)) := fun F' hE => by
        have := rowS_cut j (ps.length - j) c (hr7x.mono hE) (by omega) (by omega)
        rw [List.take_of_length_le (by rw [List.length_drop]; exact Nat.le_refl _)] at this
        exact this
      have hln10 : (ps.take j ++ (⟨p, l, A7, c7⟩ : PcR) :: ps.drop j).length = j + 1 + (ps.length - j) := by
        rw [List.length_append, List.length_take, List.length_cons, List.length_drop, Nat.min_eq_left hnl]; omega
      have hrow10 : rowS pcC (ps.take j ++ (⟨p, l, A7, c7⟩ : PcR) :: ps.drop j) = rowS pcC (ps.take j) ++ (rowS pcC [(⟨p, l, A7, c7⟩ : PcR)] ++ rowS pcC (ps.drop j)) := by
        unfold rowS
        rw [List.flatMap_append, List.flatMap_cons, List.flatMap_cons, List.flatMap_nil, List.append_nil]
      refine short [0, 1, 7, 8] [.pointer (some ⟨xb, 0, none⟩), .int .i64 p, .slice A7 l.length c7, .int .i64 (j : Int)] rfl fun ρ => ?_
      ((conv => whnf); repeat (first | (apply load_at; (conv => lhs; whnf); (with_reducible assumption); rfl; (conv => whnf)) | (apply load_at; (conv => lhs; rw [add_plain, add_plain]); (with_reducible assumption); rfl; (conv => whnf)) | (apply loads_at; (conv => lhs; whnf); (with_reducible assumption); rfl; (conv => whnf)) | (refine ⟨⟨by omega, by omega⟩, ?_⟩; (conv => whnf))))
      refine draw_tree_at tab_ok (by kernel_rfl) [4, 16, 1000] (DT.row [0, 1, 2, 3, 4, 5, 6, 8, 9, 10, 13, 14, 15, 16, 17, 18] (.fork (DT.row [7, 11, 12, 19, 20, 21, 22] .nil) (DT.row [11, 7, 12, 19, 20, 21, 22] .nil))) (by kernel_rfl) (F7.only xb) (only_ext rfl) ?_
      have hO := only_at hc7x
      have hGG : ∀ {F' : Heap}, Ext F7 F' → Ext (F7.only xb) F' := fun h => (only_ext rfl).trans h
      ((conv => whnf); repeat (first | (apply load_at; (conv => lhs; whnf); (with_reducible assumption); rfl; (conv => whnf)) | (apply load_at; (conv => lhs; rw [add_plain, add_plain]); (with_reducible assumption); rfl; (conv => whnf)) | (apply loads_at; (conv => lhs; whnf); (with_reducible assumption); rfl; (conv => whnf)) | (refine ⟨⟨by omega, by omega⟩, ?_⟩; (conv => whnf))))
      refine ⟨?_, ?_⟩
      · ((conv => whnf); repeat (first | (apply load_at; (conv => lhs; whnf); (with_reducible assumption); rfl; (conv => whnf)) | (apply load_at; (conv => lhs; rw [add_plain, add_plain]); (with_reducible assumption); rfl; (conv => whnf)) | (apply loads_at; (conv => lhs; whnf); (with_reducible assumption); rfl; (conv => whnf)) | (refine ⟨⟨by omega, by omega⟩, ?_⟩; (conv => whnf))))
        refine append_mine tab_ok rfl rfl ?hq rfl rfl ⟨_, rfl, fun k h => by cases h⟩ ⟨_, rfl, rfl⟩ (by decide) (Mine.nil F7 F7 _ _ (Ext.refl _)) (m := j) (ys := rowS pcC (ps.take j)) (y := .slice (if c = 0 then (some ad : Option Addr) else (some ad : Option Addr).map (·.add (0 * 2))) j c) ⟨by rw [rowS_len pcC_len, List.length_take, Nat.min_eq_left hnl], .inl ⟨_, _, rfl, hcut1 _ (Ext.refl _)⟩⟩ (pcs_one _) (by show 2 * (0 + j) * 32 ≤ _; omega) fun s8 F8 hM8 _ => ?_
        case hq => rfl
        rw [Nat.zero_add, List.nil_append] at hM8
        have E8 := hM8.ext
        have hnew : ∀ (F' : Heap) (k : Nat), True := fun _ _ => trivial
        clear hnew
        have hnew : ∀ {S' : Value} (k : Nat), blk S' = some k → (∀ b, blk S' = some b → F7 b = none) → F7 k = none := fun k hk h => h k hk
        (conv => whnf)
        refine ⟨hGG E8, ?_⟩
        ((conv => whnf); repeat (first | (apply load_at; (conv => lhs; whnf); (with_reducible assumption); rfl; (conv => whnf)) | (apply load_at; (conv => lhs; rw [add_plain, add_plain]); (with_reducible assumption); rfl; (conv => whnf)) | (apply loads_at; (conv => lhs; whnf); (with_reducible assumption); rfl; (conv => whnf)) | (refine ⟨⟨by omega, by omega⟩, ?_⟩; (conv => whnf))))
        refine new_step (.cells (rowS pcC [(⟨p, l, A7, c7⟩ : PcR)]).toArray 67) rfl fun g h0_g => ?_
        have hE_g := Ext.new h0_g (.cells (rowS pcC [(⟨p, l, A7, c7⟩ : PcR)]).toArray 67)
        have hB_g := Heap.put_same F8 g (.cells (rowS pcC [(⟨p, l, A7, c7⟩ : PcR)]).toArray 67)
        generalize F8.put g _ = F9 at hE_g hB_g ⊢
        (conv => whnf)
        refine ⟨hGG (E8.trans hE_g), ?_⟩
        ((conv => whnf); repeat (first | (apply load_at; (conv => lhs; whnf); (with_reducible assumption); rfl; (conv => whnf)) | (apply load_at; (conv => lhs; rw [add_plain, add_plain]); (with_reducible assumption); rfl; (conv => whnf)) | (apply loads_at; (conv => lhs; whnf); (with_reducible assumption); rfl; (conv => whnf)) | (refine ⟨⟨by omega, by omega⟩, ?_⟩; (conv => whnf))))
        refine append_mine tab_ok (m := 1) (ys := rowS pcC [(⟨p, l, A7, c7⟩ : PcR)]) (y := .slice (some ⟨g, 0, none⟩) 1 1) rfl rfl rfl rfl rfl ⟨_, rfl, fun k h => by cases h⟩ ⟨_, rfl, rfl⟩ (by decide) (hM8.mono hE_g) ⟨rfl, .inl ⟨_, _, rfl, row_blk hB_g⟩⟩ (pc_one _) (by show 2 * (j + 1) * 32 ≤ _; omega) fun s10 F10 hM10 _ => ?_
        have E10 := hM10.ext
        (conv => whnf)
        refine ⟨hGG E10, ?_⟩
        ((conv => whnf); repeat (first | (apply load_at; (conv => lhs; whnf); (with_reducible assumption); rfl; (conv => whnf)) | (apply load_at; (conv => lhs; rw [add_plain, add_plain]); (with_reducible assumption); rfl; (conv => whnf)) | (apply loads_at; (conv => lhs; whnf); (with_reducible assumption); rfl; (conv => whnf)) | (refine ⟨⟨by omega, by omega⟩, ?_⟩; (conv => whnf))))
        refine append_mine tab_ok rfl rfl ?hq2 rfl rfl ⟨_, rfl, fun k h => by cases h⟩ ⟨_, rfl, rfl⟩ (by decide) hM10 (m := ps.length - j) (ys := rowS pcC (ps.drop j)) (y := .slice (if c = j then (some ad : Option Addr) else (some ad : Option Addr).map (·.add (j * 2))) (ps.length - j) (c - j)) ⟨by rw [rowS_len pcC_len, List.length_drop], .inl ⟨_, _, rfl, hcut2 _ E10⟩⟩ (pcs_one _) (by show 2 * (j + 1 + (ps.length - j)) * 32 ≤ _; omega) fun s17 F17 hM17 _ => ?_
        case hq2 => rfl
        have E17 := hM17.ext
        (conv => whnf)
        obtain ⟨A17, c17, rfl, hc17, hr17⟩ := hM17.own.row
        have hO17 : Own F17 (.slice A17 (ps.take j ++ ⟨p, l, A7, c7⟩ :: ps.drop j).length c17) 67 2 (ps.take j ++ ⟨p, l, A7, c7⟩ :: ps.drop j).length (rowS pcC (ps.take j ++ ⟨p, l, A7, c7⟩ :: ps.drop j)) := by
          rw [hln10, hrow10, ← List.append_assoc]
          exact hM17.own
        have hbe : blk (.slice A17 (ps.take j ++ (⟨p, l, A7, c7⟩ : PcR) :: ps.drop j).length c17) = blk (.slice A17 (j + 1 + (ps.length - j)) c17) := by rw [hln10]
        obtain ⟨T1, T2⟩ := hP.other hE (hM7.ext.trans E17) (ps' := ps.take j ++ ⟨p, l, A7, c7⟩ :: ps.drop j) hO17 (fun k hk => hM7.ext.none (hnew (S' := .slice A17 (j + 1 + (ps.length - j)) c17) k (hbe.symm.trans hk) hM17.fresh)) (fun x hx => by
          rcases List.mem_append.1 hx with hx | hx
          · exact (hP.ok x (List.mem_of_mem_take hx)).mono (gain_ext (hP.base.trans hE))
          · rcases List.mem_cons.1 hx with rfl | hx
            · exact ⟨rowAt_gain (restT_row (hr7.mono E17) fun a ha e => hA7 a ha (hnew (S' := .slice A17 (j + 1 + (ps.length - j)) c17) a.block (hbe.symm.trans e) hM17.fresh)) f7, by show l.length ≤ 900000; omega⟩
            · exact (hP.ok x (List.mem_of_mem_drop hx)).mono (gain_ext (hP.base.trans hE)))
        rw [hln10] at T1 T2
        ((conv => whnf); repeat (first | (apply load_at; (conv => lhs; whnf); (with_reducible assumption); rfl; (conv => whnf)) | (apply load_at; (conv => lhs; rw [add_plain, add_plain]); (with_reducible assumption); rfl; (conv => whnf)) | (apply loads_at; (conv => lhs; whnf); (with_reducible assumption); rfl; (conv => whnf)) | (refine ⟨⟨by omega, by omega⟩, ?_⟩; (conv => whnf))))
        refine store_step xb 1 _ #[.pointer (some ⟨lb, 0, none⟩), .slice A17 (j + 1 + (ps.length - j)) c17] rfl (E17 _ _ (hM7.ext _ _ hc)) rfl rfl (.inl (Nat.le_refl 0)) (one_slice _ _ _) ?_
        ((conv => whnf); repeat (first | (apply load_at; (conv => lhs; whnf); (with_reducible assumption); rfl; (conv => whnf)) | (apply load_at; (conv => lhs; rw [add_plain, add_plain]); (with_reducible assumption); rfl; (conv => whnf)) | (apply loads_at; (conv => lhs; whnf); (with_reducible assumption); rfl; (conv => whnf)) | (refine ⟨⟨by omega, by omega⟩, ?_⟩; (conv => whnf))))
        exact ⟨rfl, _, T1, hsr, hok, by omega, lb, b, _, L, _, _, by rw [hpS]; exact T2⟩
      · ((conv => whnf); repeat (first | (apply load_at; (conv => lhs; whnf); (with_reducible assumption); rfl; (conv => whnf)) | (apply load_at; (conv => lhs; rw [add_plain, add_plain]); (with_reducible assumption); rfl; (conv => whnf)) | (apply loads_at; (conv => lhs; whnf); (with_reducible assumption); rfl; (conv => whnf)) | (refine ⟨⟨by omega, by omega⟩, ?_⟩; (conv => whnf))))
        refine new_step (.cells (rowS pcC [(⟨p, l, A7, c7⟩ : PcR)]).toArray 67) rfl fun g h0_g => ?_
        have hE_g := Ext.new h0_g (.cells (rowS pcC [(⟨p, l, A7, c7⟩ : PcR)]).toArray 67)
        have hB_g := Heap.put_same F7 g (.cells (rowS pcC [(⟨p, l, A7, c7⟩ : PcR)]).toArray 67)
        generalize F7.put g _ = F9 at hE_g hB_g ⊢
        (conv => whnf)
        refine ⟨hGG hE_g, ?_⟩
        ((conv => whnf); repeat (first | (apply load_at; (conv => lhs; whnf); (with_reducible assumption); rfl; (conv => whnf)) | (apply load_at; (conv => lhs; rw [add_plain, add_plain]); (with_reducible assumption); rfl; (conv => whnf)) | (apply loads_at; (conv => lhs; whnf); (with_reducible assumption); rfl; (conv => whnf)) | (refine ⟨⟨by omega, by omega⟩, ?_⟩; (conv => whnf))))
        refine append_mine tab_ok rfl rfl ?hq rfl rfl ⟨_, rfl, fun k h => by cases h⟩ ⟨_, rfl, rfl⟩ (by decide) (Mine.nil F9 F9 _ _ (Ext.refl _)) (m := j) (ys := rowS pcC (ps.take j)) (y := .slice (if c = 0 then (some ad : Option Addr) else (some ad : Option Addr).map (·.add (0 * 2))) j c) ⟨by rw [rowS_len pcC_len, List.length_take, Nat.min_eq_left hnl], .inl ⟨_, _, rfl, hcut1 _ hE_g⟩⟩ (pcs_one _) (by show 2 * (0 + j) * 32 ≤ _; omega) fun s8 F8 hM8 _ => ?_
        case hq => rfl
        rw [Nat.zero_add, List.nil_append] at hM8
        have E8 := hM8.ext
        have hnew : ∀ {S' : Value} (k : Nat), blk S' = some k → (∀ b, blk S' = some b → F9 b = none) → F7 k = none := fun k hk h => hE_g.none (h k hk)
        have hB_g8 := E8 _ _ hB_g
        (conv => whnf)
        refine ⟨hGG (hE_g.trans E8), ?_⟩
        ((conv => whnf); repeat (first | (apply load_at; (conv => lhs; whnf); (with_reducible assumption); rfl; (conv => whnf)) | (apply load_at; (conv => lhs; rw [add_plain, add_plain]); (with_reducible assumption); rfl; (conv => whnf)) | (apply loads_at; (conv => lhs; whnf); (with_reducible assumption); rfl; (conv => whnf)) | (refine ⟨⟨by omega, by omega⟩, ?_⟩; (conv => whnf))))
        refine append_mine tab_ok (m := 1) (ys := rowS pcC [(⟨p, l, A7, c7⟩ : PcR)]) (y := .slice (some ⟨g, 0, none⟩) 1 1) rfl rfl rfl rfl rfl ⟨_, rfl, fun k h => by cases h⟩ ⟨_, rfl, rfl⟩ (by decide) hM8 ⟨rfl, .inl ⟨_, _, rfl, row_blk hB_g8⟩⟩ (pc_one _) (by show 2 * (j + 1) * 32 ≤ _; omega) fun s10 F10 hM10 _ => ?_
        have E10 := hE_g.trans hM10.ext
        (conv => whnf)
        refine ⟨hGG E10, ?_⟩
        ((conv => whnf); repeat (first | (apply load_at; (conv => lhs; whnf); (with_reducible assumption); rfl; (conv => whnf)) | (apply load_at; (conv => lhs; rw [add_plain, add_plain]); (with_reducible assumption); rfl; (conv => whnf)) | (apply loads_at; (conv => lhs; whnf); (with_reducible assumption); rfl; (conv => whnf)) | (refine ⟨⟨by omega, by omega⟩, ?_⟩; (conv => whnf))))
        refine append_mine tab_ok rfl rfl ?hq2 rfl rfl ⟨_, rfl, fun k h => by cases h⟩ ⟨_, rfl, rfl⟩ (by decide) hM10 (m := ps.length - j) (ys := rowS pcC (ps.drop j)) (y := .slice (if c = j then (some ad : Option Addr) else (some ad : Option Addr).map (·.add (j * 2))) (ps.length - j) (c - j)) ⟨by rw [rowS_len pcC_len, List.length_drop], .inl ⟨_, _, rfl, hcut2 _ E10⟩⟩ (pcs_one _) (by show 2 * (j + 1 + (ps.length - j)) * 32 ≤ _; omega) fun s17 F17 hM17 _ => ?_
        case hq2 => rfl
        have E17 := hE_g.trans hM17.ext
        (conv => whnf)
        obtain ⟨A17, c17, rfl, hc17, hr17⟩ := hM17.own.row
        have hO17 : Own F17 (.slice A17 (ps.take j ++ ⟨p, l, A7, c7⟩ :: ps.drop j).length c17) 67 2 (ps.take j ++ ⟨p, l, A7, c7⟩ :: ps.drop j).length (rowS pcC (ps.take j ++ ⟨p, l, A7, c7⟩ :: ps.drop j)) := by
          rw [hln10, hrow10, ← List.append_assoc]
          exact hM17.own
        have hbe : blk (.slice A17 (ps.take j ++ (⟨p, l, A7, c7⟩ : PcR) :: ps.drop j).length c17) = blk (.slice A17 (j + 1 + (ps.length - j)) c17) := by rw [hln10]
        obtain ⟨T1, T2⟩ := hP.other hE (hM7.ext.trans E17) (ps' := ps.take j ++ ⟨p, l, A7, c7⟩ :: ps.drop j) hO17 (fun k hk => hM7.ext.none (hnew (S' := .slice A17 (j + 1 + (ps.length - j)) c17) k (hbe.symm.trans hk) hM17.fresh)) (fun x hx => by
          rcases List.mem_append.1 hx with hx | hx
          · exact (hP.ok x (List.mem_of_mem_take hx)).mono (gain_ext (hP.base.trans hE))
          · rcases List.mem_cons.1 hx with rfl | hx
            · exact ⟨rowAt_gain (restT_row (hr7.mono E17) fun a ha e => hA7 a ha (hnew (S' := .slice A17 (j + 1 + (ps.length - j)) c17) a.block (hbe.symm.trans e) hM17.fresh)) f7, by show l.length ≤ 900000; omega⟩
            · exact (hP.ok x (List.mem_of_mem_drop hx)).mono (gain_ext (hP.base.trans hE)))
        rw [hln10] at T1 T2
        ((conv => whnf); repeat (first | (apply load_at; (conv => lhs; whnf); (with_reducible assumption); rfl; (conv => whnf)) | (apply load_at; (conv => lhs; rw [add_plain, add_plain]); (with_reducible assumption); rfl; (conv => whnf)) | (apply loads_at; (conv => lhs; whnf); (with_reducible assumption); rfl; (conv => whnf)) | (refine ⟨⟨by omega, by omega⟩, ?_⟩; (conv => whnf))))
        refine store_step xb 1 _ #[.pointer (some ⟨lb, 0, none⟩), .slice A17 (j + 1 + (ps.length - j)) c17] rfl (E17 _ _ (hM7.ext _ _ hc)) rfl rfl (.inl (Nat.le_refl 0)) (one_slice _ _ _) ?_
        ((conv => whnf); repeat (first | (apply load_at; (conv => lhs; whnf); (with_reducible assumption); rfl; (conv => whnf)) | (apply load_at; (conv => lhs; rw [add_plain, add_plain]); (with_reducible assumption); rfl; (conv => whnf)) | (apply loads_at; (conv => lhs; whnf); (with_reducible assumption); rfl; (conv => whnf)) | (refine ⟨⟨by omega, by omega⟩, ?_⟩; (conv => whnf))))
        exact ⟨rfl, _, T1, hsr, hok, by omega, lb, b, _, L, _, _, by rw [hpS]; exact T2⟩
  | false =>
    have hj : j = ps.length := by have := of_decide_eq_false hd; omega
    have hd9 : decide ((j : Int) < (ps.length : Int)) = false := hd
    clear hd
    have hge : ∀ y : PcR, ps[j]? = some y → p < y.at_ := fun y hy => by
      rw [List.getElem?_eq_none (by omega)] at hy
      cases hy
    ((conv => whnf); repeat (first | (apply load_at; (conv => lhs; whnf); (with_reducible assumption); rfl; (conv => whnf)) | (apply load_at; (conv => lhs; rw [add_plain, add_plain]); (with_reducible assumption); rfl; (conv => whnf)) | (apply loads_at; (conv => lhs; whnf); (with_reducible assumption); rfl; (conv => whnf)) | (refine ⟨⟨by omega, by omega⟩, ?_⟩; (conv => whnf))))
    rw [hd9]
    ((conv => whnf); repeat (first | (apply load_at; (conv => lhs; whnf); (with_reducible assumption); rfl; (conv => whnf)) | (apply load_at; (conv => lhs; rw [add_plain, add_plain]); (with_reducible assumption); rfl; (conv => whnf)) | (apply loads_at; (conv => lhs; whnf); (with_reducible assumption); rfl; (conv => whnf)) | (refine ⟨⟨by omega, by omega⟩, ?_⟩; (conv => whnf))))
    have hpS : pS = (ps.take j ++ ⟨p, l, A7, c7⟩ :: ps.drop j).map pcW := by
      rw [hy2, hins j (by omega) (fun i y hi hy => ?_) (fun y hy => ?_), if_neg, List.map_append, List.map_cons, List.map_take, List.map_drop, hmap]
      · rfl
      · rintro ⟨y, hy, e⟩
        obtain ⟨x, hx, rfl⟩ := hex j y hy
        have := hge x hx
        have e : x.at_ = p := e
        omega
      · obtain ⟨x, hx, rfl⟩ := hex i y hy
        exact hlt i x hi hx
      · obtain ⟨x, hx, rfl⟩ := hex j y hy
        have := hge x hx
        show ¬ x.at_ < p
        omega
    have hnl : j ≤ ps.length := by omega
    have hcut1 : ∀ F', Ext F7 F' → RowAt F' (if c = 0 then A else A.map (·.add (0 * 2))) (rowS pcC (ps.take j)) := fun F' hE => rowS_cut 0 j c (hr7x.mono hE) (by omega) (by omega)
    have hcut2 : ∀ F', Ext F7 F' → RowAt F' (if c = j then A else A.map (·.add (j * 2))) (rowS pcC (ps.drop j)) := fun F' hE => by
      have := rowS_cut j (ps.length - j) c (hr7x.mono hE) (by omega) (by omega)
      rw [List.take_of_length_le (by rw [List.length_drop]; exact Nat.le_refl _)] at this
      exact this
    have hln10 : (ps.take j ++ (⟨p, l, A7, c7⟩ : PcR) :: ps.drop j).length = j + 1 + (ps.length - j) := by
      rw [List.length_append, List.length_take, List.length_cons, List.length_drop, Nat.min_eq_left hnl]; omega
    have hrow10 : rowS pcC (ps.take j ++ (⟨p, l, A7, c7⟩ : PcR) :: ps.drop j) = rowS pcC (ps.take j) ++ (rowS pcC [(⟨p, l, A7, c7⟩ : PcR)] ++ rowS pcC (ps.drop j)) := by
      unfold rowS
      rw [List.flatMap_append, List.flatMap_cons, List.flatMap_cons, List.flatMap_nil, List.append_nil]
    refine short [0, 1, 7, 8] [.pointer (some ⟨xb, 0, none⟩), .int .i64 p, .slice A7 l.length c7, .int .i64 (j : Int)] rfl fun ρ => ?_
    ((conv => whnf); repeat (first | (apply load_at; (conv => lhs; whnf); (with_reducible assumption); rfl; (conv => whnf)) | (apply load_at; (conv => lhs; rw [add_plain, add_plain]); (with_reducible assumption); rfl; (conv => whnf)) | (apply loads_at; (conv => lhs; whnf); (with_reducible assumption); rfl; (conv => whnf)) | (refine ⟨⟨by omega, by omega⟩, ?_⟩; (conv => whnf))))
    refine draw_tree_at tab_ok (by kernel_rfl) [4, 16, 1000] (DT.row [0, 1, 2, 3, 4, 5, 6, 8, 9, 10, 13, 14, 15, 16, 17, 18] (.fork (DT.row [7, 11, 12, 19, 20, 21, 22] .nil) (DT.row [11, 7, 12, 19, 20, 21, 22] .nil))) (by kernel_rfl) (F7.only xb) (only_ext rfl) ?_
    have hO := only_at hc7x
    have hGG : ∀ {F' : Heap}, Ext F7 F' → Ext (F7.only xb) F' := fun h => (only_ext rfl).trans h
    ((conv => whnf); repeat (first | (apply load_at; (conv => lhs; whnf); (with_reducible assumption); rfl; (conv => whnf)) | (apply load_at; (conv => lhs; rw [add_plain, add_plain]); (with_reducible assumption); rfl; (conv => whnf)) | (apply loads_at; (conv => lhs; whnf); (with_reducible assumption); rfl; (conv => whnf)) | (refine ⟨⟨by omega, by omega⟩, ?_⟩; (conv => whnf))))
    refine ⟨?_, ?_⟩
    · ((conv => whnf); repeat (first | (apply load_at; (conv => lhs; whnf); (with_reducible assumption); rfl; (conv => whnf)) | (apply load_at; (conv => lhs; rw [add_plain, add_plain]); (with_reducible assumption); rfl; (conv => whnf)) | (apply loads_at; (conv => lhs; whnf); (with_reducible assumption); rfl; (conv => whnf)) | (refine ⟨⟨by omega, by omega⟩, ?_⟩; (conv => whnf))))
      refine append_mine tab_ok rfl rfl ?hq rfl rfl ⟨_, rfl, fun k h => by cases h⟩ ⟨_, rfl, rfl⟩ (by decide) (Mine.nil F7 F7 _ _ (Ext.refl _)) (m := j) (ys := rowS pcC (ps.take j)) (y := .slice (if c = 0 then A else A.map (·.add (0 * 2))) j c) ⟨by rw [rowS_len pcC_len, List.length_take, Nat.min_eq_left hnl], .inl ⟨_, _, rfl, hcut1 _ (Ext.refl _)⟩⟩ (pcs_one _) (by show 2 * (0 + j) * 32 ≤ _; omega) fun s8 F8 hM8 _ => ?_
      case hq => rfl
      rw [Nat.zero_add, List.nil_append] at hM8
      have E8 := hM8.ext
      have hnew : ∀ (F' : Heap) (k : Nat), True := fun _ _ => trivial
      clear hnew
      have hnew : ∀ {S' : Value} (k : Nat), blk S' = some k → (∀ b, blk S' = some b → F7 b = none) → F7 k = none := fun k hk h => h k hk
      (conv => whnf)
      refine ⟨hGG E8, ?_⟩
      ((conv => whnf); repeat (first | (apply load_at; (conv => lhs; whnf); (with_reducible assumption); rfl; (conv => whnf)) | (apply load_at; (conv => lhs; rw [add_plain, add_plain]); (with_reducible assumption); rfl; (conv => whnf)) | (apply loads_at; (conv => lhs; whnf); (with_reducible assumption); rfl; (conv => whnf)) | (refine ⟨⟨by omega, by omega⟩, ?_⟩; (conv => whnf))))
      refine new_step (.cells (rowS pcC [(⟨p, l, A7, c7⟩ : PcR)]).toArray 67) rfl fun g h0_g => ?_
      have hE_g := Ext.new h0_g (.cells (rowS pcC [(⟨p, l, A7, c7⟩ : PcR)]).toArray 67)
      have hB_g := Heap.put_same F8 g (.cells (rowS pcC [(⟨p, l, A7, c7⟩ : PcR)]).toArray 67)
      generalize F8.put g _ = F9 at hE_g hB_g ⊢
      (conv => whnf)
      refine ⟨hGG (E8.trans hE_g), ?_⟩
      ((conv => whnf); repeat (first | (apply load_at; (conv => lhs; whnf); (with_reducible assumption); rfl; (conv => whnf)) | (apply load_at; (conv => lhs; rw [add_plain, add_plain]); (with_reducible assumption); rfl; (conv => whnf)) | (apply loads_at; (conv => lhs; whnf); (with_reducible assumption); rfl; (conv => whnf)) | (refine ⟨⟨by omega, by omega⟩, ?_⟩; (conv => whnf))))
      refine append_mine tab_ok (m := 1) (ys := rowS pcC [(⟨p, l, A7, c7⟩ : PcR)]) (y := .slice (some ⟨g, 0, none⟩) 1 1) rfl rfl rfl rfl rfl ⟨_, rfl, fun k h => by cases h⟩ ⟨_, rfl, rfl⟩ (by decide) (hM8.mono hE_g) ⟨rfl, .inl ⟨_, _, rfl, row_blk hB_g⟩⟩ (pc_one _) (by show 2 * (j + 1) * 32 ≤ _; omega) fun s10 F10 hM10 _ => ?_
      have E10 := hM10.ext
      (conv => whnf)
      refine ⟨hGG E10, ?_⟩
      ((conv => whnf); repeat (first | (apply load_at; (conv => lhs; whnf); (with_reducible assumption); rfl; (conv => whnf)) | (apply load_at; (conv => lhs; rw [add_plain, add_plain]); (with_reducible assumption); rfl; (conv => whnf)) | (apply loads_at; (conv => lhs; whnf); (with_reducible assumption); rfl; (conv => whnf)) | (refine ⟨⟨by omega, by omega⟩, ?_⟩; (conv => whnf))))
      refine append_mine tab_ok rfl rfl ?hq2 rfl rfl ⟨_, rfl, fun k h => by cases h⟩ ⟨_, rfl, rfl⟩ (by decide) hM10 (m := ps.length - j) (ys := rowS pcC (ps.drop j)) (y := .slice (if c = j then A else A.map (·.add (j * 2))) (ps.length - j) (c - j)) ⟨by rw [rowS_len pcC_len, List.length_drop], .inl ⟨_, _, rfl, hcut2 _ E10⟩⟩ (pcs_one _) (by show 2 * (j + 1 + (ps.length - j)) * 32 ≤ _; omega) fun s17 F17 hM17 _ => ?_
      case hq2 => rfl
      have E17 := hM17.ext
      (conv => whnf)
      obtain ⟨A17, c17, rfl, hc17, hr17⟩ := hM17.own.row
      have hO17 : Own F17 (.slice A17 (ps.take j ++ ⟨p, l, A7, c7⟩ :: ps.drop j).length c17) 67 2 (ps.take j ++ ⟨p, l, A7, c7⟩ :: ps.drop j).length (rowS pcC (ps.take j ++ ⟨p, l, A7, c7⟩ :: ps.drop j)) := by
        rw [hln10, hrow10, ← List.append_assoc]
        exact hM17.own
      have hbe : blk (.slice A17 (ps.take j ++ (⟨p, l, A7, c7⟩ : PcR) :: ps.drop j).length c17) = blk (.slice A17 (j + 1 + (ps.length - j)) c17) := by rw [hln10]
      obtain ⟨T1, T2⟩ := hP.other hE (hM7.ext.trans E17) (ps' := ps.take j ++ ⟨p, l, A7, c7⟩ :: ps.drop j) hO17 (fun k hk => hM7.ext.none (hnew (S' := .slice A17 (j + 1 + (ps.length - j)) c17) k (hbe.symm.trans hk) hM17.fresh)) (fun x hx => by
        rcases List.mem_append.1 hx with hx | hx
        · exact (hP.ok x (List.mem_of_mem_take hx)).mono (gain_ext (hP.base.trans hE))
        · rcases List.mem_cons.1 hx with rfl | hx
          · exact ⟨rowAt_gain (restT_row (hr7.mono E17) fun a ha e => hA7 a ha (hnew (S' := .slice A17 (j + 1 + (ps.length - j)) c17) a.block (hbe.symm.trans e) hM17.fresh)) f7, by show l.length ≤ 900000; omega⟩
          · exact (hP.ok x (List.mem_of_mem_drop hx)).mono (gain_ext (hP.base.trans hE)))
      rw [hln10] at T1 T2
      ((conv => whnf); repeat (first | (apply load_at; (conv => lhs; whnf); (with_reducible assumption); rfl; (conv => whnf)) | (apply load_at; (conv => lhs; rw [add_plain, add_plain]); (with_reducible assumption); rfl; (conv => whnf)) | (apply loads_at; (conv => lhs; whnf); (with_reducible assumption); rfl; (conv => whnf)) | (refine ⟨⟨by omega, by omega⟩, ?_⟩; (conv => whnf))))
      refine store_step xb 1 _ #[.pointer (some ⟨lb, 0, none⟩), .slice A17 (j + 1 + (ps.length - j)) c17] rfl (E17 _ _ (hM7.ext _ _ hc)) rfl rfl (.inl (Nat.le_refl 0)) (one_slice _ _ _) ?_
      ((conv => whnf); repeat (first | (apply load_at; (conv => lhs; whnf); (with_reducible assumption); rfl; (conv => whnf)) | (apply load_at; (conv => lhs; rw [add_plain, add_plain]); (with_reducible assumption); rfl; (conv => whnf)) | (apply loads_at; (conv => lhs; whnf); (with_reducible assumption); rfl; (conv => whnf)) | (refine ⟨⟨by omega, by omega⟩, ?_⟩; (conv => whnf))))
      exact ⟨rfl, _, T1, hsr, hok, by omega, lb, b, _, L, _, _, by rw [hpS]; exact T2⟩
    · ((conv => whnf); repeat (first | (apply load_at; (conv => lhs; whnf); (with_reducible assumption); rfl; (conv => whnf)) | (apply load_at; (conv => lhs; rw [add_plain, add_plain]); (with_reducible assumption); rfl; (conv => whnf)) | (apply loads_at; (conv => lhs; whnf); (with_reducible assumption); rfl; (conv => whnf)) | (refine ⟨⟨by omega, by omega⟩, ?_⟩; (conv => whnf))))
      refine new_step (.cells (rowS pcC [(⟨p, l, A7, c7⟩ : PcR)]).toArray 67) rfl fun g h0_g => ?_
      have hE_g := Ext.new h0_g (.cells (rowS pcC [(⟨p, l, A7, c7⟩ : PcR)]).toArray 67)
      have hB_g := Heap.put_same F7 g (.cells (rowS pcC [(⟨p, l, A7, c7⟩ : PcR)]).toArray 67)
      generalize F7.put g _ = F9 at hE_g hB_g ⊢
      (conv => whnf)
      refine ⟨hGG hE_g, ?_⟩
      ((conv => whnf); repeat (first | (apply load_at; (conv => lhs; whnf); (with_reducible assumption); rfl; (conv => whnf)) | (apply load_at; (conv => lhs; rw [add_plain, add_plain]); (with_reducible assumption); rfl; (conv => whnf)) | (apply loads_at; (conv => lhs; whnf); (with_reducible assumption); rfl; (conv => whnf)) | (refine ⟨⟨by omega, by omega⟩, ?_⟩; (conv => whnf))))
      refine append_mine tab_ok rfl rfl ?hq rfl rfl ⟨_, rfl, fun k h => by cases h⟩ ⟨_, rfl, rfl⟩ (by decide) (Mine.nil F9 F9 _ _ (Ext.refl _)) (m := j) (ys := rowS pcC (ps.take j)) (y := .slice (if c = 0 then A else A.map (·.add (0 * 2))) j c) ⟨by rw [rowS_len pcC_len, List.length_take, Nat.min_eq_left hnl], .inl ⟨_, _, rfl, hcut1 _ hE_g⟩⟩ (pcs_one _) (by show 2 * (0 + j) * 32 ≤ _; omega) fun s8 F8 hM8 _ => ?_
      case hq => rfl
      rw [Nat.zero_add, List.nil_append] at hM8
      have E8 := hM8.ext
      have hnew : ∀ {S' : Value} (k : Nat), blk S' = some k → (∀ b, blk S' = some b → F9 b = none) → F7 k = none := fun k hk h => hE_g.none (h k hk)
      have hB_g8 := E8 _ _ hB_g
      (conv => whnf)
      refine ⟨hGG (hE_g.trans E8), ?_⟩
      ((conv => whnf); repeat (first | (apply load_at; (conv => lhs; whnf); (with_reducible assumption); rfl; (conv => whnf)) | (apply load_at; (conv => lhs; rw [add_plain, add_plain]); (with_reducible assumption); rfl; (conv => whnf)) | (apply loads_at; (conv => lhs; whnf); (with_reducible assumption); rfl; (conv => whnf)) | (refine ⟨⟨by omega, by omega⟩, ?_⟩; (conv => whnf))))
      refine append_mine tab_ok (m := 1) (ys := rowS pcC [(⟨p, l, A7, c7⟩ : PcR)]) (y := .slice (some ⟨g, 0, none⟩) 1 1) rfl rfl rfl rfl rfl ⟨_, rfl, fun k h => by cases h⟩ ⟨_, rfl, rfl⟩ (by decide) hM8 ⟨rfl, .inl ⟨_, _, rfl, row_blk hB_g8⟩⟩ (pc_one _) (by show 2 * (j + 1) * 32 ≤ _; omega) fun s10 F10 hM10 _ => ?_
      have E10 := hE_g.trans hM10.ext
      (conv => whnf)
      refine ⟨hGG E10, ?_⟩
      ((conv => whnf); repeat (first | (apply load_at; (conv => lhs; whnf); (with_reducible assumption); rfl; (conv => whnf)) | (apply load_at; (conv => lhs; rw [add_plain, add_plain]); (with_reducible assumption); rfl; (conv => whnf)) | (apply loads_at; (conv => lhs; whnf); (with_reducible assumption); rfl; (conv => whnf)) | (refine ⟨⟨by omega, by omega⟩, ?_⟩; (conv => whnf))))
      refine append_mine tab_ok rfl rfl ?hq2 rfl rfl ⟨_, rfl, fun k h => by cases h⟩ ⟨_, rfl, rfl⟩ (by decide) hM10 (m := ps.length - j) (ys := rowS pcC (ps.drop j)) (y := .slice (if c = j then A else A.map (·.add (j * 2))) (ps.length - j) (c - j)) ⟨by rw [rowS_len pcC_len, List.length_drop], .inl ⟨_, _, rfl, hcut2 _ E10⟩⟩ (pcs_one _) (by show 2 * (j + 1 + (ps.length - j)) * 32 ≤ _; omega) fun s17 F17 hM17 _ => ?_
      case hq2 => rfl
      have E17 := hE_g.trans hM17.ext
      (conv => whnf)
      obtain ⟨A17, c17, rfl, hc17, hr17⟩ := hM17.own.row
      have hO17 : Own F17 (.slice A17 (ps.take j ++ ⟨p, l, A7, c7⟩ :: ps.drop j).length c17) 67 2 (ps.take j ++ ⟨p, l, A7, c7⟩ :: ps.drop j).length (rowS pcC (ps.take j ++ ⟨p, l, A7, c7⟩ :: ps.drop j)) := by
        rw [hln10, hrow10, ← List.append_assoc]
        exact hM17.own
      have hbe : blk (.slice A17 (ps.take j ++ (⟨p, l, A7, c7⟩ : PcR) :: ps.drop j).length c17) = blk (.slice A17 (j + 1 + (ps.length - j)) c17) := by rw [hln10]
      obtain ⟨T1, T2⟩ := hP.other hE (hM7.ext.trans E17) (ps' := ps.take j ++ ⟨p, l, A7, c7⟩ :: ps.drop j) hO17 (fun k hk => hM7.ext.none (hnew (S' := .slice A17 (j + 1 + (ps.length - j)) c17) k (hbe.symm.trans hk) hM17.fresh)) (fun x hx => by
        rcases List.mem_append.1 hx with hx | hx
        · exact (hP.ok x (List.mem_of_mem_take hx)).mono (gain_ext (hP.base.trans hE))
        · rcases List.mem_cons.1 hx with rfl | hx
          · exact ⟨rowAt_gain (restT_row (hr7.mono E17) fun a ha e => hA7 a ha (hnew (S' := .slice A17 (j + 1 + (ps.length - j)) c17) a.block (hbe.symm.trans e) hM17.fresh)) f7, by show l.length ≤ 900000; omega⟩
          · exact (hP.ok x (List.mem_of_mem_drop hx)).mono (gain_ext (hP.base.trans hE)))
      rw [hln10] at T1 T2
      ((conv => whnf); repeat (first | (apply load_at; (conv => lhs; whnf); (with_reducible assumption); rfl; (conv => whnf)) | (apply load_at; (conv => lhs; rw [add_plain, add_plain]); (with_reducible assumption); rfl; (conv => whnf)) | (apply loads_at; (conv => lhs; whnf); (with_reducible assumption); rfl; (conv => whnf)) | (refine ⟨⟨by omega, by omega⟩, ?_⟩; (conv => whnf))))
      refine store_step xb 1 _ #[.pointer (some ⟨lb, 0, none⟩), .slice A17 (j + 1 + (ps.length - j)) c17] rfl (E17 _ _ (hM7.ext _ _ hc)) rfl rfl (.inl (Nat.le_refl 0)) (one_slice _ _ _) ?_
      ((conv => whnf); repeat (first | (apply load_at; (conv => lhs; whnf); (with_reducible assumption); rfl; (conv => whnf)) | (apply load_at; (conv => lhs; rw [add_plain, add_plain]); (with_reducible assumption); rfl; (conv => whnf)) | (apply loads_at; (conv => lhs; whnf); (with_reducible assumption); rfl; (conv => whnf)) | (refine ⟨⟨by omega, by omega⟩, ?_⟩; (conv => whnf))))
      exact ⟨rfl, _, T1, hsr, hok, by omega, lb, b, _, L, _, _, by rw [hpS]; exact T2⟩
end Go.Proofs.YtmpiggcooboenaaDoor.Al
/- Logs on new disks: the first calls, as one word each. -/
namespace Go.Proofs.YtmpiggcooboenaaDoor.Al
open Go Go.Al Go.Proofs Go.RowKit
set_option maxHeartbeats 8000000
set_option maxRecDepth 100000
set_option linter.unusedVariables false
set_option linter.unusedSimpArgs false
theorem new_n {n : Int} (hn : 3 ≤ n ∧ n ≤ 65536) (F : Heap) : FnK Tryd.prog 24 #[.int .i64 n] F (fun v F' => ∃ b D', v = .tuple #[.pointer (some ⟨b, 0, none⟩), .int .i64 0] ∧ Moves emptyH F D' F' ∧ Dk D' b (newS n)) := by
  refine (new n F).mono ?_
  rintro v F' (⟨h, _⟩ | ⟨_, _, b, D, h1, h2, h3⟩)
  · omega
  · exact ⟨b, D, h1, h2, h3⟩
theorem fmt_n {n : Int} (hn : 3 ≤ n ∧ n ≤ 65536) {D F : Heap} {b : Nat} (hE : Ext D F) (hD : Dk D b (newS n)) (hN : NibAt F) : FnK Tryd.prog 22 #[.pointer (some ⟨b, 0, none⟩)] F (fun v F' => v = .int .i64 0 ∧ ∃ D' s, Moves D F D' F' ∧ Dk D' b s ∧ Fresh n s) := by
  obtain ⟨f1, f2⟩ := fmt_fresh hn
  refine (redoFormat hE hD hN (by show (0 : Int) + 1 < _; omega)).mono ?_
  rintro v F' ⟨rfl, D', h1, h2⟩
  exact ⟨by rw [f1], D', _, h1, h2, f2⟩
/-- Opening on a disk that is up. -/
theorem open_n {D F : Heap} {b : Nat} {s : DS} {cnt q : Int} {X : (Int → List UInt8) → Prop} (hE : Ext D F) (hD : Dk D b s) (hN : NibAt F) (hX : Cls s.size cnt q X) (hu : Up s) (hc : Calm s) (hw : s.writes + 40000 < 1000000000) (hx : X (secB s)) :
    FnK Tryd.prog 18 #[.pointer (some ⟨b, 0, none⟩)] F (fun v F' => ∃ lb E' s', v = .tuple #[.pointer (some ⟨lb, 0, none⟩), .int .i64 0] ∧ Moves D F E' F' ∧ Lg E' lb b s' q ∧ Up s' ∧ DWf s' ∧ Calm s' ∧ s'.size = s.size ∧ X (secB s') ∧ s'.writes ≤ s.writes + 32768 ∧ (∀ ws, wholeO (cO s.size) (secB s) cnt q = some ws → secB s' = putAll (secB s) ws ∧ s'.writes = s.writes + ws.length)) := by
  obtain ⟨o1, o2, o3, o4, o5, o6, o7, o8⟩ := open_up hX hu hD.1 hc (by omega) hx
  have hq := hX.rd _ hx
  have hrg := rdN_range (cO s.size) (secB s)
  rw [hq] at hrg
  refine (redoOpen hE hD hN hw).mono ?_
  rw [o1]
  rintro v F' ⟨w, D', rfl, hM, hD', lb, rfl, g1, g2, g3⟩
  obtain ⟨h1, h2⟩ := lgv_take hM hD' g1 g2 g3 hrg.2
  exact ⟨lb, _, _, rfl, h1, h2, o2, o3, o4, o5, o6, o7, o8⟩
theorem open_f {n : Int} (hn : 3 ≤ n ∧ n ≤ 65536) {D F : Heap} {b : Nat} {s : DS} (hE : Ext D F) (hD : Dk D b s) (hN : NibAt F) (hf : Fresh n s) :
    FnK Tryd.prog 18 #[.pointer (some ⟨b, 0, none⟩)] F (fun v F' => ∃ lb E' s', v = .tuple #[.pointer (some ⟨lb, 0, none⟩), .int .i64 0] ∧ Moves D F E' F' ∧ Lg E' lb b s' 1 ∧ Fresh n s') := by
  obtain ⟨u, w, c, sz, wr, d, z⟩ := hf
  subst sz
  have hI : Ims s.size 1 [] := ims_nil (by decide)
  refine (open_n hE hD hN (cls_done (c0 := secB s) hn.1 hI) u c (by omega) d).mono ?_
  rintro v F' ⟨lb, E', s', rfl, h1, h2, h3, h4, h5, h6, h7, h8, h9⟩
  obtain ⟨e1, e2⟩ := h9 [] (slots_whole hI d.slots)
  have e : secB s' = secB s := e1
  refine ⟨lb, E', s', rfl, h1, h2, h3, h4, h5, h6, by rw [e2, wr]; rfl, ?_, fun k hk => by rw [e]; exact z k hk⟩
  rw [e]
  exact d
/-- Committing on a disk that is up. -/
theorem commit_n {E F R : Heap} {b lb : Nat} {s : DS} {q : Int} (hE : Ext E F) (hL : Lg E lb b s q) (hR : Ext R F) (hA : Apart E R) (hN : NibAt R) (ims : List PcR) (A : Option Addr) (c : Nat) (hr : RowAt R A (rowS pcC ims)) (hp : ∀ p ∈ ims, PcOk R p) (hw : s.writes + 200000 < 1000000000)
    (hI : Ims s.size (q + 1) (ims.map pcW)) (h0 : ims ≠ []) (hu : Up s) :
    FnK Tryd.prog 19 #[.pointer (some ⟨lb, 0, none⟩), .slice A ims.length c] F (fun v F' => v = .int .i64 0 ∧ ∃ E' s', Moves E F E' F' ∧ Lg E' lb b s' (q + 1) ∧ Up s' ∧ DWf s' ∧ Calm s' ∧ s'.size = s.size ∧ Done s.size (q + 1) (ims.map pcW) (secB s) (secB s') ∧ s'.writes = s.writes + 2 * ims.length + 1) := by
  have hwf : DWf s := by obtain ⟨D, hD, _⟩ := hL; exact hD.1
  have hle := pagesN_le s.size
  have hl := hI.len
  rw [List.length_map] at hl
  obtain ⟨s', c1, c2, c3, c4, c5, c6, c7⟩ := commit_to hI (by intro e; exact h0 (List.map_eq_nil_iff.1 e)) hu hwf (by omega)
  rw [List.length_map] at c7
  refine (lgCommit hE hL hR hA hN ims A c hr hp hw (by omega)).mono ?_
  rw [c1]
  rintro v F' ⟨rfl, E', h1, h2⟩
  exact ⟨rfl, E', s', h1, h2, c2, c3, c4, c5, c6, c7⟩
theorem commit_0 {E F R : Heap} {b lb : Nat} {s : DS} {q : Int} (hE : Ext E F) (hL : Lg E lb b s q) (hR : Ext R F) (hA : Apart E R) (hN : NibAt R) (A : Option Addr) (c : Nat) (hw : s.writes + 200000 < 1000000000) :
    FnK Tryd.prog 19 #[.pointer (some ⟨lb, 0, none⟩), .slice A 0 c] F (fun v F' => v = .int .i64 0 ∧ ∃ E', Moves E F E' F' ∧ Lg E' lb b s q) := by
  refine (lgCommit hE hL hR hA hN [] A c (RowAt.nil _ _) (fun p h => by cases h) hw (Nat.zero_le _)).mono ?_
  rw [show commitS dsO s q (List.map pcW []) = (s, 0, q) from commit_none s q]
  rintro v F' ⟨rfl, E', h1, h2⟩
  exact ⟨rfl, E', h1, h2⟩
end Go.Proofs.YtmpiggcooboenaaDoor.Al
/- Pagers on new disks. -/
namespace Go.Proofs.YtmpiggcooboenaaDoor.Al
open Go Go.Al Go.Proofs Go.RowKit
set_option maxHeartbeats 8000000
set_option maxRecDepth 100000
set_option linter.unusedVariables false
set_option linter.unusedSimpArgs false
theorem start_n {n : Nat} (hn : 3 ≤ (n : Int) ∧ (n : Int) ≤ 65536) : ∃ r1 r2, runW rsO (newR n) [(0, noteB 0 1)] = (r1, 0) ∧ openS rsO r1 = (r2, 0, some 1) ∧ Sim (frsS n) r2 ∧ r1.done + 40000 < 1000000000 := by
  have S0 := sim_new n
  obtain ⟨e1, S1, w1⟩ := sim_run [(0, noteB 0 1)] _ _ S0 (newS_wf hn.1 hn.2) (by show (0 : Int) + ((1 : Nat) : Int) < _; omega)
  have b1 := runW_le [(0, noteB 0 1)] (newS (n : Int))
  replace b1 : (runW dsO (newS (n : Int)) [(0, noteB 0 1)]).1.writes ≤ 0 + ((1 : Nat) : Int) ∧ (runW dsO (newS (n : Int)) [(0, noteB 0 1)]).1.size = n := b1
  obtain ⟨f1, _⟩ := fmt_fresh hn
  obtain ⟨f2, _⟩ := frs_fresh hn
  rw [f1] at e1
  obtain ⟨e2, S2, _, _⟩ := sim_open S1 w1 (by omega)
  have f2 : (openS dsO (runW dsO (newS (n : Int)) [(0, noteB 0 1)]).1).2 = (0, some 1) := f2
  rw [f2] at e2
  refine ⟨(runW rsO (newR n) [(0, noteB 0 1)]).1, (openS rsO (runW rsO (newR n) [(0, noteB 0 1)]).1).1, ?_, ?_, S2, ?_⟩
  · exact Prod.ext rfl e1.symm
  · exact Prod.ext rfl e2.symm
  · have := S1.wr
    omega
theorem apart_new {F D F' : Heap} (h : Moves emptyH F D F') : Apart D F := fun c hc => by
  rcases h.new c hc with h1 | h1
  · exact absurd rfl h1
  · exact h1
theorem fresh_ext {F D F' : Heap} (h : Moves emptyH F D F') : Ext F F' := fun c o hc => h.out c o hc rfl
end Go.Proofs.YtmpiggcooboenaaDoor.Al
/- Directories: Need, find, right. -/
namespace Go.Proofs.YtmpiggcooboenaaDoor.Al
open Go Go.Al Go.Proofs Go.RowKit
set_option maxHeartbeats 8000000
set_option maxRecDepth 100000
set_option linter.unusedVariables false
set_option linter.unusedSimpArgs false
def dpN (d : Int) : Nat := (min (max d 0) 10).toNat
def needI (d : Int) : Int := (((2 ^ dpN d + 59) / 60 : Nat) : Int)
def mtC (d f n k : Int) (A : Option Addr) (l c : Nat) : Array Value := #[.int .i64 d, .int .i64 f, .int .i64 n, .int .i64 k, .slice A l c]
def okF (d : Int) (l : Nat) (slot : Int) : Bool := decide (0 ≤ d ∧ d ≤ 10 ∧ (l : Int) = needI d ∧ 0 ≤ slot ∧ slot < ((2 ^ dpN d : Nat) : Int))
def fdP (d : Int) (ms : List Int) (slot : Int) : Int := if okF d ms.length slot = true then (ms[(slot / 60).toNat]?).getD 0 else 0
def fdA (d : Int) (ms : List Int) (slot : Int) : Int := if okF d ms.length slot = true then slot % 60 * 4 else 0
theorem need_ (d : Int) (F : Heap) : FnK Tryd.prog 15 #[.int .i64 d] F (fun v F' => v = .int .i64 (needI d) ∧ F' = F) := by
  obtain ⟨k, hk, hk2, hd⟩ : ∃ k : Nat, (if 10 < (if d < 0 then 0 else d) then (10 : Int) else (if d < 0 then 0 else d)) = (k : Int) ∧ k ≤ 10 ∧ dpN d = k := by
    unfold dpN
    by_cases h : d < 0
    · exact ⟨0, by rw [if_pos h]; rfl, by decide, by omega⟩
    · by_cases h2 : 10 < d
      · exact ⟨10, by rw [if_neg h, if_pos h2]; rfl, by decide, by omega⟩
      · exact ⟨d.toNat, by rw [if_neg h, if_neg h2]; omega, by omega, by omega⟩
  unfold needI
  rw [hd]
  (refine fn_walk tab_ok Tryd.func15 rfl rfl rfl rfl ?_; (conv => whnf))
  rw [hk]
  have : k = 0 ∨ k = 1 ∨ k = 2 ∨ k = 3 ∨ k = 4 ∨ k = 5 ∨ k = 6 ∨ k = 7 ∨ k = 8 ∨ k = 9 ∨ k = 10 := by omega
  rcases this with rfl | rfl | rfl | rfl | rfl | rfl | rfl | rfl | rfl | rfl | rfl
  all_goals
    refine ⟨by decide, ?_⟩
    (conv => whnf)
    refine ⟨by decide, ?_⟩
    (conv => whnf)
    exact ⟨rfl, rfl⟩
theorem pow_wrap {j : Nat} (h : j < 10) : IntKind.i64.wrap (((2 ^ j : Nat) : Int) * 2) = ((2 ^ (j + 1) : Nat) : Int) := by
  have : j = 0 ∨ j = 1 ∨ j = 2 ∨ j = 3 ∨ j = 4 ∨ j = 5 ∨ j = 6 ∨ j = 7 ∨ j = 8 ∨ j = 9 := by omega
  rcases this with rfl | rfl | rfl | rfl | rfl | rfl | rfl | rfl | rfl | rfl <;> decide
theorem pow_le {j : Nat} (h : j ≤ 10) : 2 ^ j ≤ 1024 := by
  have : j = 0 ∨ j = 1 ∨ j = 2 ∨ j = 3 ∨ j = 4 ∨ j = 5 ∨ j = 6 ∨ j = 7 ∨ j = 8 ∨ j = 9 ∨ j = 10 := by omega
  rcases this with rfl | rfl | rfl | rfl | rfl | rfl | rfl | rfl | rfl | rfl | rfl <;> decide
theorem rneed (d : Int) (F : Heap) : FnK Tryd.prog 16 #[.int .i64 d] F (fun v F' => v = .int .i64 (needI d) ∧ F' = F) := by
  obtain ⟨N, hN, hN2, hN3⟩ : ∃ N : Nat, N = dpN d ∧ N ≤ 10 ∧ ∀ j : Nat, j ≤ N → (decide ((j : Int) < d) = true → decide ((j : Int) < 10) = true → j < N) ∧ (j < N → (j : Int) < d ∧ (j : Int) < 10) := ⟨_, rfl, by unfold dpN; omega, fun j hj => ⟨fun h1 h2 => by have := of_decide_eq_true h1; have := of_decide_eq_true h2; unfold dpN; omega, fun h => by unfold dpN at h; omega⟩⟩
  unfold needI
  rw [← hN]
  have hfin : IntKind.i64.wrap ((IntKind.i64.wrap (((2 ^ N : Nat) : Int) + 59)).tdiv 60) = (((2 ^ N + 59) / 60 : Nat) : Int) := by
    have : N = 0 ∨ N = 1 ∨ N = 2 ∨ N = 3 ∨ N = 4 ∨ N = 5 ∨ N = 6 ∨ N = 7 ∨ N = 8 ∨ N = 9 ∨ N = 10 := by omega
    clear hN3 hN
    rcases this with rfl | rfl | rfl | rfl | rfl | rfl | rfl | rfl | rfl | rfl | rfl <;> decide
  clear hN
  generalize (((2 ^ N + 59) / 60 : Nat) : Int) = R at hfin ⊢
  (refine fn_walk tab_ok Tryd.func16 rfl rfl rfl rfl ?_; (conv => whnf))
  refine loop_slots [0, 3, 4] (fun k vs F' => ∃ j : Nat, j + k = N ∧ vs = [.int .i64 d, .int .i64 ((2 ^ j : Nat) : Int), .int .i64 (j : Int)] ∧ F' = F) N ⟨0, by omega, rfl, rfl⟩ ?_
  rintro k vs F1 ρ ⟨j, hjk, rfl, rfl⟩
  obtain ⟨n1, n2⟩ := hN3 j (by omega)
  have hpw := fun h => pow_wrap (j := j) h
  have hend : j = N → ((2 ^ j : Nat) : Int) = ((2 ^ N : Nat) : Int) := fun e => by rw [e]
  generalize ((2 ^ j : Nat) : Int) = z at hpw hend
  generalize ((2 ^ N : Nat) : Int) = zN at hfin hend
  ((conv => whnf); repeat (first | (apply load_at; (conv => lhs; whnf); (with_reducible assumption); rfl; (conv => whnf)) | (apply load_at; (conv => lhs; rw [add_plain, add_plain]); (with_reducible assumption); rfl; (conv => whnf)) | (apply loads_at; (conv => lhs; whnf); (with_reducible assumption); rfl; (conv => whnf)) | (refine ⟨⟨by omega, by omega⟩, ?_⟩; (conv => whnf))))
  cases hd : decide ((j : Int) < d) with
  | true =>
    ((conv => whnf); repeat (first | (apply load_at; (conv => lhs; whnf); (with_reducible assumption); rfl; (conv => whnf)) | (apply load_at; (conv => lhs; rw [add_plain, add_plain]); (with_reducible assumption); rfl; (conv => whnf)) | (apply loads_at; (conv => lhs; whnf); (with_reducible assumption); rfl; (conv => whnf)) | (refine ⟨⟨by omega, by omega⟩, ?_⟩; (conv => whnf))))
    refine cond_split (fun h => ?_) (fun h => ?_)
    · have hj := n1 hd h
      ((conv => whnf); repeat (first | (apply load_at; (conv => lhs; whnf); (with_reducible assumption); rfl; (conv => whnf)) | (apply load_at; (conv => lhs; rw [add_plain, add_plain]); (with_reducible assumption); rfl; (conv => whnf)) | (apply loads_at; (conv => lhs; whnf); (with_reducible assumption); rfl; (conv => whnf)) | (refine ⟨⟨by omega, by omega⟩, ?_⟩; (conv => whnf))))
      refine ⟨k - 1, by omega, j + 1, by omega, ?_, rfl⟩
      exact Eq.trans (b := [.int .i64 d, .int .i64 (IntKind.i64.wrap (z * 2)), .int .i64 (IntKind.i64.wrap ((j : Int) + 1))]) rfl (by rw [hpw (by omega), wrap_succ (j := j) (by omega)])
    · have hj : j = N := by
        have h := of_decide_eq_false (show decide ((j : Int) < 10) = false from h)
        by_cases e : j = N
        · exact e
        · exact absurd (n2 (by omega)).2 h
      ((conv => whnf); repeat (first | (apply load_at; (conv => lhs; whnf); (with_reducible assumption); rfl; (conv => whnf)) | (apply load_at; (conv => lhs; rw [add_plain, add_plain]); (with_reducible assumption); rfl; (conv => whnf)) | (apply loads_at; (conv => lhs; whnf); (with_reducible assumption); rfl; (conv => whnf)) | (refine ⟨⟨by omega, by omega⟩, ?_⟩; (conv => whnf))))
      refine ⟨by decide, ?_⟩
      ((conv => whnf); repeat (first | (apply load_at; (conv => lhs; whnf); (with_reducible assumption); rfl; (conv => whnf)) | (apply load_at; (conv => lhs; rw [add_plain, add_plain]); (with_reducible assumption); rfl; (conv => whnf)) | (apply loads_at; (conv => lhs; whnf); (with_reducible assumption); rfl; (conv => whnf)) | (refine ⟨⟨by omega, by omega⟩, ?_⟩; (conv => whnf))))
      exact ⟨by rw [hend hj]; exact congrArg (Value.int .i64) hfin, rfl⟩
  | false =>
    have hj : j = N := by
      have h := of_decide_eq_false hd
      by_cases e : j = N
      · exact e
      · exact absurd (n2 (by omega)).1 h
    ((conv => whnf); repeat (first | (apply load_at; (conv => lhs; whnf); (with_reducible assumption); rfl; (conv => whnf)) | (apply load_at; (conv => lhs; rw [add_plain, add_plain]); (with_reducible assumption); rfl; (conv => whnf)) | (apply loads_at; (conv => lhs; whnf); (with_reducible assumption); rfl; (conv => whnf)) | (refine ⟨⟨by omega, by omega⟩, ?_⟩; (conv => whnf))))
    refine ⟨by decide, ?_⟩
    ((conv => whnf); repeat (first | (apply load_at; (conv => lhs; whnf); (with_reducible assumption); rfl; (conv => whnf)) | (apply load_at; (conv => lhs; rw [add_plain, add_plain]); (with_reducible assumption); rfl; (conv => whnf)) | (apply loads_at; (conv => lhs; whnf); (with_reducible assumption); rfl; (conv => whnf)) | (refine ⟨⟨by omega, by omega⟩, ?_⟩; (conv => whnf))))
    exact ⟨by rw [hend hj]; exact congrArg (Value.int .i64) hfin, rfl⟩
theorem place_lt {d : Int} {l : Nat} {slot : Int} (h : okF d l slot = true) : 0 ≤ slot / 60 ∧ slot / 60 < (l : Int) ∧ 0 ≤ slot := by
  have h := of_decide_eq_true h
  have hp := pow_le (j := dpN d) (by unfold dpN; omega)
  unfold needI at h
  generalize 2 ^ dpN d = N at h hp
  omega
theorem shl_eq {d : Int} (h0 : 0 ≤ d) (h1 : d ≤ 10) : IntKind.i64.wrap (1 * 2 ^ min d.toNat IntKind.i64.bits) = ((2 ^ dpN d : Nat) : Int) := by
  obtain ⟨k, rfl⟩ : ∃ k : Nat, d = (k : Int) := ⟨d.toNat, by omega⟩
  have : k = 0 ∨ k = 1 ∨ k = 2 ∨ k = 3 ∨ k = 4 ∨ k = 5 ∨ k = 6 ∨ k = 7 ∨ k = 8 ∨ k = 9 ∨ k = 10 := by omega
  rcases this with rfl | rfl | rfl | rfl | rfl | rfl | rfl | rfl | rfl | rfl | rfl <;> decide
theorem find_ (d f n k : Int) (A : Option Addr) (ms : List Int) (c : Nat) (slot : Int) (F : Heap) (hr : RowAt F A (ms.map (.int .i64))) (hl : ms.length ≤ 1000000) :
    FnK Tryd.prog 47 #[.agg (mtC d f n k A ms.length c), .int .i64 slot] F (fun v F' => v = .tuple #[.agg #[.int .i64 (fdP d ms slot), .int .i64 (fdA d ms slot)], .bool (okF d ms.length slot)] ∧ Ext F F') := by
  have kn := fun F => need_ d F
  have hK : okF d ms.length slot = decide (0 ≤ d ∧ d ≤ 10 ∧ (ms.length : Int) = needI d ∧ 0 ≤ slot ∧ slot < ((2 ^ dpN d : Nat) : Int)) := rfl
  have hplace := fun h => place_lt (d := d) (l := ms.length) (slot := slot) h
  have hP : fdP d ms slot = if okF d ms.length slot = true then (ms[(slot / 60).toNat]?).getD 0 else 0 := rfl
  have hA : fdA d ms slot = if okF d ms.length slot = true then slot % 60 * 4 else 0 := rfl
  have hsh := fun h0 h1 => shl_eq (d := d) h0 h1
  generalize fdP d ms slot = P at hP ⊢
  generalize fdA d ms slot = T at hA ⊢
  generalize okF d ms.length slot = K at hK hplace hP hA ⊢
  generalize needI d = nd at kn hK
  generalize ((2 ^ dpN d : Nat) : Int) = N at hK hsh
  have no : ¬ (0 ≤ d ∧ d ≤ 10 ∧ (ms.length : Int) = nd ∧ 0 ≤ slot ∧ slot < N) → K = false ∧ P = 0 ∧ T = 0 := fun h => by
    rw [decide_eq_false h] at hK
    subst hK
    exact ⟨rfl, hP, hA⟩
  have yes : (0 ≤ d ∧ d ≤ 10 ∧ (ms.length : Int) = nd ∧ 0 ≤ slot ∧ slot < N) → K = true ∧ P = (ms[(slot / 60).toNat]?).getD 0 ∧ T = slot % 60 * 4 ∧ 0 ≤ slot / 60 ∧ slot / 60 < (ms.length : Int) := fun h => by
    rw [decide_eq_true h] at hK
    subst hK
    obtain ⟨g1, g2, _⟩ := hplace rfl
    exact ⟨rfl, hP, hA, g1, g2⟩
  clear hK hP hA hplace
  (refine fn_walk tab_ok Tryd.func47 rfl rfl rfl rfl ?_; (conv => whnf))
  refine new_step (.cells (mtC d f n k A ms.length c) 24) rfl fun t h0_t => ?_
  have hE_t := Ext.new h0_t (.cells (mtC d f n k A ms.length c) 24)
  have hB_t := Heap.put_same F t (.cells (mtC d f n k A ms.length c) 24)
  generalize F.put t _ = F1 at hE_t hB_t ⊢
  ((conv => whnf); repeat (first | (apply load_at; (conv => lhs; whnf); (with_reducible assumption); rfl; (conv => whnf)) | (apply load_at; (conv => lhs; rw [add_plain, add_plain]); (with_reducible assumption); rfl; (conv => whnf)) | (apply loads_at; (conv => lhs; whnf); (with_reducible assumption); rfl; (conv => whnf)) | (refine ⟨⟨by omega, by omega⟩, ?_⟩; (conv => whnf))))
  refine new_step (.cells #[.int .i64 0, .int .i64 0] 95) rfl fun u h0_u => ?_
  have hE_u := Ext.new h0_u (.cells #[.int .i64 0, .int .i64 0] 95)
  have hB_u := Heap.put_same F1 u (.cells #[.int .i64 0, .int .i64 0] 95)
  generalize F1.put u _ = F2 at hE_u hB_u ⊢
  have hB2 := hE_u _ _ hB_t
  have hE2 := hE_t.trans hE_u
  have h0u : F u = none := hE_t.none h0_u
  have bad : ¬ (0 ≤ d ∧ d ≤ 10 ∧ (ms.length : Int) = nd ∧ 0 ≤ slot ∧ slot < N) → Value.tuple #[.agg #[.int .i64 0, .int .i64 0], .bool false] = .tuple #[.agg #[.int .i64 P, .int .i64 T], .bool K] ∧ Ext F (F2.put u (.cells #[.int .i64 0, .int .i64 0] 95)) := fun h => by
    obtain ⟨rfl, rfl, rfl⟩ := no h
    exact ⟨rfl, hE2.put h0u _⟩
  ((conv => whnf); repeat (first | (apply load_at; (conv => lhs; whnf); (with_reducible assumption); rfl; (conv => whnf)) | (apply load_at; (conv => lhs; rw [add_plain, add_plain]); (with_reducible assumption); rfl; (conv => whnf)) | (apply loads_at; (conv => lhs; whnf); (with_reducible assumption); rfl; (conv => whnf)) | (refine ⟨⟨by omega, by omega⟩, ?_⟩; (conv => whnf))))
  refine draw_tree tab_ok (by kernel_rfl) [] (DT.row [0, 1, 2, 3, 4, 5, 6, 7, 8, 9, 10, 11, 12, 13, 14, 15, 16] .nil) (by kernel_rfl) ?_
  ((conv => whnf); repeat (first | (apply load_at; (conv => lhs; whnf); (with_reducible assumption); rfl; (conv => whnf)) | (apply load_at; (conv => lhs; rw [add_plain, add_plain]); (with_reducible assumption); rfl; (conv => whnf)) | (apply loads_at; (conv => lhs; whnf); (with_reducible assumption); rfl; (conv => whnf)) | (refine ⟨⟨by omega, by omega⟩, ?_⟩; (conv => whnf))))
  cases hd : decide (d < 0) with
  | true =>
    have h := of_decide_eq_true hd
    ((conv => whnf); repeat (first | (apply load_at; (conv => lhs; whnf); (with_reducible assumption); rfl; (conv => whnf)) | (apply load_at; (conv => lhs; rw [add_plain, add_plain]); (with_reducible assumption); rfl; (conv => whnf)) | (apply loads_at; (conv => lhs; whnf); (with_reducible assumption); rfl; (conv => whnf)) | (refine ⟨⟨by omega, by omega⟩, ?_⟩; (conv => whnf))))
    refine store_step u 0 _ #[.int .i64 0, .int .i64 0] rfl hB_u rfl rfl (.inl (Nat.le_refl 0)) (two_ints _ _) ?_
    ((conv => whnf); repeat (first | (apply load_at; (conv => lhs; whnf); (with_reducible assumption); rfl; (conv => whnf)) | (apply load_at; (conv => lhs; rw [add_plain, add_plain]); (with_reducible assumption); rfl; (conv => whnf)) | (apply loads_at; (conv => lhs; whnf); (with_reducible assumption); rfl; (conv => whnf)) | (refine ⟨⟨by omega, by omega⟩, ?_⟩; (conv => whnf))))
    refine res_cells tab_ok rfl rfl (Heap.put_same _ _ _) rfl ?_
    ((conv => whnf); repeat (first | (apply load_at; (conv => lhs; whnf); (with_reducible assumption); rfl; (conv => whnf)) | (apply load_at; (conv => lhs; rw [add_plain, add_plain]); (with_reducible assumption); rfl; (conv => whnf)) | (apply loads_at; (conv => lhs; whnf); (with_reducible assumption); rfl; (conv => whnf)) | (refine ⟨⟨by omega, by omega⟩, ?_⟩; (conv => whnf))))
    exact bad (by omega)
  | false =>
  have h0 := of_decide_eq_false hd
  ((conv => whnf); repeat (first | (apply load_at; (conv => lhs; whnf); (with_reducible assumption); rfl; (conv => whnf)) | (apply load_at; (conv => lhs; rw [add_plain, add_plain]); (with_reducible assumption); rfl; (conv => whnf)) | (apply loads_at; (conv => lhs; whnf); (with_reducible assumption); rfl; (conv => whnf)) | (refine ⟨⟨by omega, by omega⟩, ?_⟩; (conv => whnf))))
  cases hd2 : decide (d > 10) with
  | true =>
    have h := of_decide_eq_true hd2
    ((conv => whnf); repeat (first | (apply load_at; (conv => lhs; whnf); (with_reducible assumption); rfl; (conv => whnf)) | (apply load_at; (conv => lhs; rw [add_plain, add_plain]); (with_reducible assumption); rfl; (conv => whnf)) | (apply loads_at; (conv => lhs; whnf); (with_reducible assumption); rfl; (conv => whnf)) | (refine ⟨⟨by omega, by omega⟩, ?_⟩; (conv => whnf))))
    refine store_step u 0 _ #[.int .i64 0, .int .i64 0] rfl hB_u rfl rfl (.inl (Nat.le_refl 0)) (two_ints _ _) ?_
    ((conv => whnf); repeat (first | (apply load_at; (conv => lhs; whnf); (with_reducible assumption); rfl; (conv => whnf)) | (apply load_at; (conv => lhs; rw [add_plain, add_plain]); (with_reducible assumption); rfl; (conv => whnf)) | (apply loads_at; (conv => lhs; whnf); (with_reducible assumption); rfl; (conv => whnf)) | (refine ⟨⟨by omega, by omega⟩, ?_⟩; (conv => whnf))))
    refine res_cells tab_ok rfl rfl (Heap.put_same _ _ _) rfl ?_
    ((conv => whnf); repeat (first | (apply load_at; (conv => lhs; whnf); (with_reducible assumption); rfl; (conv => whnf)) | (apply load_at; (conv => lhs; rw [add_plain, add_plain]); (with_reducible assumption); rfl; (conv => whnf)) | (apply loads_at; (conv => lhs; whnf); (with_reducible assumption); rfl; (conv => whnf)) | (refine ⟨⟨by omega, by omega⟩, ?_⟩; (conv => whnf))))
    exact bad (by omega)
  | false =>
  have h1 := of_decide_eq_false hd2
  clear hd hd2
  ((conv => whnf); repeat (first | (apply load_at; (conv => lhs; whnf); (with_reducible assumption); rfl; (conv => whnf)) | (apply load_at; (conv => lhs; rw [add_plain, add_plain]); (with_reducible assumption); rfl; (conv => whnf)) | (apply loads_at; (conv => lhs; whnf); (with_reducible assumption); rfl; (conv => whnf)) | (refine ⟨⟨by omega, by omega⟩, ?_⟩; (conv => whnf))))
  refine call_of (kn F2) ?_
  rintro v F3 ⟨rfl, rfl⟩
  (conv => whnf)
  refine ⟨Ext.refl _, ?_⟩
  ((conv => whnf); repeat (first | (apply load_at; (conv => lhs; whnf); (with_reducible assumption); rfl; (conv => whnf)) | (apply load_at; (conv => lhs; rw [add_plain, add_plain]); (with_reducible assumption); rfl; (conv => whnf)) | (apply loads_at; (conv => lhs; whnf); (with_reducible assumption); rfl; (conv => whnf)) | (refine ⟨⟨by omega, by omega⟩, ?_⟩; (conv => whnf))))
  refine ⟨Ext.refl _, ?_⟩
  ((conv => whnf); repeat (first | (apply load_at; (conv => lhs; whnf); (with_reducible assumption); rfl; (conv => whnf)) | (apply load_at; (conv => lhs; rw [add_plain, add_plain]); (with_reducible assumption); rfl; (conv => whnf)) | (apply loads_at; (conv => lhs; whnf); (with_reducible assumption); rfl; (conv => whnf)) | (refine ⟨⟨by omega, by omega⟩, ?_⟩; (conv => whnf))))
  refine cond_split (fun h => ?_) (fun h => ?_)
  · have h : ((ms.length : Int) != nd) = true := h
    have hne : ¬ (ms.length : Int) = nd := by simpa using h
    ((conv => whnf); repeat (first | (apply load_at; (conv => lhs; whnf); (with_reducible assumption); rfl; (conv => whnf)) | (apply load_at; (conv => lhs; rw [add_plain, add_plain]); (with_reducible assumption); rfl; (conv => whnf)) | (apply loads_at; (conv => lhs; whnf); (with_reducible assumption); rfl; (conv => whnf)) | (refine ⟨⟨by omega, by omega⟩, ?_⟩; (conv => whnf))))
    refine store_step u 0 _ #[.int .i64 0, .int .i64 0] rfl hB_u rfl rfl (.inl (Nat.le_refl 0)) (two_ints _ _) ?_
    ((conv => whnf); repeat (first | (apply load_at; (conv => lhs; whnf); (with_reducible assumption); rfl; (conv => whnf)) | (apply load_at; (conv => lhs; rw [add_plain, add_plain]); (with_reducible assumption); rfl; (conv => whnf)) | (apply loads_at; (conv => lhs; whnf); (with_reducible assumption); rfl; (conv => whnf)) | (refine ⟨⟨by omega, by omega⟩, ?_⟩; (conv => whnf))))
    refine res_cells tab_ok rfl rfl (Heap.put_same _ _ _) rfl ?_
    ((conv => whnf); repeat (first | (apply load_at; (conv => lhs; whnf); (with_reducible assumption); rfl; (conv => whnf)) | (apply load_at; (conv => lhs; rw [add_plain, add_plain]); (with_reducible assumption); rfl; (conv => whnf)) | (apply loads_at; (conv => lhs; whnf); (with_reducible assumption); rfl; (conv => whnf)) | (refine ⟨⟨by omega, by omega⟩, ?_⟩; (conv => whnf))))
    exact bad (fun e => hne e.2.2.1)
  have h : ((ms.length : Int) != nd) = false := h
  have heq : (ms.length : Int) = nd := by simpa using h
  clear h
  refine short [1, 2, 4] [.int .i64 slot, .pointer (some ⟨t, 0, none⟩), .pointer (some ⟨u, 0, none⟩)] rfl fun ρ => ?_
  ((conv => whnf); repeat (first | (apply load_at; (conv => lhs; whnf); (with_reducible assumption); rfl; (conv => whnf)) | (apply load_at; (conv => lhs; rw [add_plain, add_plain]); (with_reducible assumption); rfl; (conv => whnf)) | (apply loads_at; (conv => lhs; whnf); (with_reducible assumption); rfl; (conv => whnf)) | (refine ⟨⟨by omega, by omega⟩, ?_⟩; (conv => whnf))))
  cases hd : decide (slot < 0) with
  | true =>
    have h := of_decide_eq_true hd
    ((conv => whnf); repeat (first | (apply load_at; (conv => lhs; whnf); (with_reducible assumption); rfl; (conv => whnf)) | (apply load_at; (conv => lhs; rw [add_plain, add_plain]); (with_reducible assumption); rfl; (conv => whnf)) | (apply loads_at; (conv => lhs; whnf); (with_reducible assumption); rfl; (conv => whnf)) | (refine ⟨⟨by omega, by omega⟩, ?_⟩; (conv => whnf))))
    refine store_step u 0 _ #[.int .i64 0, .int .i64 0] rfl hB_u rfl rfl (.inl (Nat.le_refl 0)) (two_ints _ _) ?_
    ((conv => whnf); repeat (first | (apply load_at; (conv => lhs; whnf); (with_reducible assumption); rfl; (conv => whnf)) | (apply load_at; (conv => lhs; rw [add_plain, add_plain]); (with_reducible assumption); rfl; (conv => whnf)) | (apply loads_at; (conv => lhs; whnf); (with_reducible assumption); rfl; (conv => whnf)) | (refine ⟨⟨by omega, by omega⟩, ?_⟩; (conv => whnf))))
    refine res_cells tab_ok rfl rfl (Heap.put_same _ _ _) rfl ?_
    ((conv => whnf); repeat (first | (apply load_at; (conv => lhs; whnf); (with_reducible assumption); rfl; (conv => whnf)) | (apply load_at; (conv => lhs; rw [add_plain, add_plain]); (with_reducible assumption); rfl; (conv => whnf)) | (apply loads_at; (conv => lhs; whnf); (with_reducible assumption); rfl; (conv => whnf)) | (refine ⟨⟨by omega, by omega⟩, ?_⟩; (conv => whnf))))
    exact bad (by omega)
  | false =>
  have h2 := of_decide_eq_false hd
  clear hd
  ((conv => whnf); repeat (first | (apply load_at; (conv => lhs; whnf); (with_reducible assumption); rfl; (conv => whnf)) | (apply load_at; (conv => lhs; rw [add_plain, add_plain]); (with_reducible assumption); rfl; (conv => whnf)) | (apply loads_at; (conv => lhs; whnf); (with_reducible assumption); rfl; (conv => whnf)) | (refine ⟨⟨by omega, by omega⟩, ?_⟩; (conv => whnf))))
  refine ⟨by omega, ?_⟩
  ((conv => whnf); repeat (first | (apply load_at; (conv => lhs; whnf); (with_reducible assumption); rfl; (conv => whnf)) | (apply load_at; (conv => lhs; rw [add_plain, add_plain]); (with_reducible assumption); rfl; (conv => whnf)) | (apply loads_at; (conv => lhs; whnf); (with_reducible assumption); rfl; (conv => whnf)) | (refine ⟨⟨by omega, by omega⟩, ?_⟩; (conv => whnf))))
  refine cond_split (fun h => ?_) (fun h => ?_)
  · have h : decide (slot ≥ IntKind.i64.wrap (1 * 2 ^ min d.toNat IntKind.i64.bits)) = true := h
    rw [hsh (by omega) (by omega)] at h
    have h := of_decide_eq_true h
    ((conv => whnf); repeat (first | (apply load_at; (conv => lhs; whnf); (with_reducible assumption); rfl; (conv => whnf)) | (apply load_at; (conv => lhs; rw [add_plain, add_plain]); (with_reducible assumption); rfl; (conv => whnf)) | (apply loads_at; (conv => lhs; whnf); (with_reducible assumption); rfl; (conv => whnf)) | (refine ⟨⟨by omega, by omega⟩, ?_⟩; (conv => whnf))))
    refine store_step u 0 _ #[.int .i64 0, .int .i64 0] rfl hB_u rfl rfl (.inl (Nat.le_refl 0)) (two_ints _ _) ?_
    ((conv => whnf); repeat (first | (apply load_at; (conv => lhs; whnf); (with_reducible assumption); rfl; (conv => whnf)) | (apply load_at; (conv => lhs; rw [add_plain, add_plain]); (with_reducible assumption); rfl; (conv => whnf)) | (apply loads_at; (conv => lhs; whnf); (with_reducible assumption); rfl; (conv => whnf)) | (refine ⟨⟨by omega, by omega⟩, ?_⟩; (conv => whnf))))
    refine res_cells tab_ok rfl rfl (Heap.put_same _ _ _) rfl ?_
    ((conv => whnf); repeat (first | (apply load_at; (conv => lhs; whnf); (with_reducible assumption); rfl; (conv => whnf)) | (apply load_at; (conv => lhs; rw [add_plain, add_plain]); (with_reducible assumption); rfl; (conv => whnf)) | (apply loads_at; (conv => lhs; whnf); (with_reducible assumption); rfl; (conv => whnf)) | (refine ⟨⟨by omega, by omega⟩, ?_⟩; (conv => whnf))))
    exact bad (by omega)
  have h : decide (slot ≥ IntKind.i64.wrap (1 * 2 ^ min d.toNat IntKind.i64.bits)) = false := h
  rw [hsh (by omega) (by omega)] at h
  have h := of_decide_eq_false h
  obtain ⟨rfl, hP, hT, g1, g2⟩ := yes ⟨by omega, by omega, heq, by omega, by omega⟩
  clear bad no yes hsh
  obtain ⟨j, hj⟩ : ∃ j : Nat, slot / 60 = (j : Int) := ⟨(slot / 60).toNat, by omega⟩
  rw [hj, Int.toNat_natCast] at hP
  have hjl : j < ms.length := by omega
  have e1 : IntKind.i64.wrap (slot.tdiv 60) = (j : Int) := by rw [Int.tdiv_eq_ediv_of_nonneg (by omega), hj, wrap_eq (by omega) (by omega)]
  have e2 : IntKind.i64.wrap (slot.tmod 60 * 4) = T := by rw [Int.tmod_eq_emod_of_nonneg (by omega), hT, wrap_eq (by omega) (by omega)]
  obtain ⟨ad, rfl⟩ := hr.some (by rw [List.length_map]; omega)
  have hcl := one_cell (j := j) (v := .int .i64 P) (hr.mono hE2) (by rw [List.getElem?_map, List.getElem?_eq_getElem hjl, hP, List.getElem?_eq_getElem hjl]; rfl)
  ((conv => whnf); repeat (first | (apply load_at; (conv => lhs; whnf); (with_reducible assumption); rfl; (conv => whnf)) | (apply load_at; (conv => lhs; rw [add_plain, add_plain]); (with_reducible assumption); rfl; (conv => whnf)) | (apply loads_at; (conv => lhs; whnf); (with_reducible assumption); rfl; (conv => whnf)) | (refine ⟨⟨by omega, by omega⟩, ?_⟩; (conv => whnf))))
  refine ⟨by decide, ?_⟩
  ((conv => whnf); repeat (first | (apply load_at; (conv => lhs; whnf); (with_reducible assumption); rfl; (conv => whnf)) | (apply load_at; (conv => lhs; rw [add_plain, add_plain]); (with_reducible assumption); rfl; (conv => whnf)) | (apply loads_at; (conv => lhs; whnf); (with_reducible assumption); rfl; (conv => whnf)) | (refine ⟨⟨by omega, by omega⟩, ?_⟩; (conv => whnf))))
  rw [e1]
  ((conv => whnf); repeat (first | (apply load_at; (conv => lhs; whnf); (with_reducible assumption); rfl; (conv => whnf)) | (apply load_at; (conv => lhs; rw [add_plain, add_plain]); (with_reducible assumption); rfl; (conv => whnf)) | (apply loads_at; (conv => lhs; whnf); (with_reducible assumption); rfl; (conv => whnf)) | (refine ⟨⟨by omega, by omega⟩, ?_⟩; (conv => whnf))))
  refine load_step hcl ?_
  ((conv => whnf); repeat (first | (apply load_at; (conv => lhs; whnf); (with_reducible assumption); rfl; (conv => whnf)) | (apply load_at; (conv => lhs; rw [add_plain, add_plain]); (with_reducible assumption); rfl; (conv => whnf)) | (apply loads_at; (conv => lhs; whnf); (with_reducible assumption); rfl; (conv => whnf)) | (refine ⟨⟨by omega, by omega⟩, ?_⟩; (conv => whnf))))
  refine ⟨by decide, ?_⟩
  ((conv => whnf); repeat (first | (apply load_at; (conv => lhs; whnf); (with_reducible assumption); rfl; (conv => whnf)) | (apply load_at; (conv => lhs; rw [add_plain, add_plain]); (with_reducible assumption); rfl; (conv => whnf)) | (apply loads_at; (conv => lhs; whnf); (with_reducible assumption); rfl; (conv => whnf)) | (refine ⟨⟨by omega, by omega⟩, ?_⟩; (conv => whnf))))
  refine store_step u 0 _ #[.int .i64 P, .int .i64 (IntKind.i64.wrap (slot.tmod 60 * 4))] rfl hB_u rfl rfl (.inl (Nat.le_refl 0)) (two_ints _ _) ?_
  ((conv => whnf); repeat (first | (apply load_at; (conv => lhs; whnf); (with_reducible assumption); rfl; (conv => whnf)) | (apply load_at; (conv => lhs; rw [add_plain, add_plain]); (with_reducible assumption); rfl; (conv => whnf)) | (apply loads_at; (conv => lhs; whnf); (with_reducible assumption); rfl; (conv => whnf)) | (refine ⟨⟨by omega, by omega⟩, ?_⟩; (conv => whnf))))
  refine res_cells tab_ok rfl rfl (Heap.put_same _ _ _) rfl ?_
  ((conv => whnf); repeat (first | (apply load_at; (conv => lhs; whnf); (with_reducible assumption); rfl; (conv => whnf)) | (apply load_at; (conv => lhs; rw [add_plain, add_plain]); (with_reducible assumption); rfl; (conv => whnf)) | (apply loads_at; (conv => lhs; whnf); (with_reducible assumption); rfl; (conv => whnf)) | (refine ⟨⟨by omega, by omega⟩, ?_⟩; (conv => whnf))))
  refine ⟨?_, hE2.put h0u _⟩
  show Value.tuple #[.agg #[.int .i64 P, .int .i64 (IntKind.i64.wrap (slot.tmod 60 * 4))], .bool true] = _
  rw [e2]
theorem rright_ (d f n k : Int) (A : Option Addr) (ms : List Int) (c : Nat) (slot : Int) (F : Heap) (hl : ms.length ≤ 1000000) :
    FnK Tryd.prog 52 #[.agg (mtC d f n k A ms.length c), .int .i64 slot] F (fun v F' => v = .bool (okF d ms.length slot) ∧ Ext F F') := by
  have kn := fun F => rneed d F
  have hK : okF d ms.length slot = decide (0 ≤ d ∧ d ≤ 10 ∧ (ms.length : Int) = needI d ∧ 0 ≤ slot ∧ slot < ((2 ^ dpN d : Nat) : Int)) := rfl
  have hdp : 0 ≤ d → d ≤ 10 → dpN d = d.toNat := fun h0 h1 => by unfold dpN; omega
  generalize okF d ms.length slot = K at hK ⊢
  generalize needI d = nd at kn hK
  generalize dpN d = N at hK hdp
  (refine fn_walk tab_ok Tryd.func52 rfl rfl rfl rfl ?_; (conv => whnf))
  refine new_step (.cells (mtC d f n k A ms.length c) 24) rfl fun t h0_t => ?_
  have hE_t := Ext.new h0_t (.cells (mtC d f n k A ms.length c) 24)
  have hB_t := Heap.put_same F t (.cells (mtC d f n k A ms.length c) 24)
  generalize F.put t _ = F1 at hE_t hB_t ⊢
  have bad : ¬ (0 ≤ d ∧ d ≤ 10 ∧ (ms.length : Int) = nd ∧ 0 ≤ slot ∧ slot < ((2 ^ N : Nat) : Int)) → Value.bool false = .bool K ∧ Ext F F1 := fun h => by
    rw [decide_eq_false h] at hK
    subst hK
    exact ⟨rfl, hE_t⟩
  ((conv => whnf); repeat (first | (apply load_at; (conv => lhs; whnf); (with_reducible assumption); rfl; (conv => whnf)) | (apply load_at; (conv => lhs; rw [add_plain, add_plain]); (with_reducible assumption); rfl; (conv => whnf)) | (apply loads_at; (conv => lhs; whnf); (with_reducible assumption); rfl; (conv => whnf)) | (refine ⟨⟨by omega, by omega⟩, ?_⟩; (conv => whnf))))
  refine draw_tree tab_ok (by kernel_rfl) [] (DT.row [0, 1, 2, 3, 4, 5, 6, 7, 8, 9, 10, 11, 12, 13, 14, 15, 16] .nil) (by kernel_rfl) ?_
  ((conv => whnf); repeat (first | (apply load_at; (conv => lhs; whnf); (with_reducible assumption); rfl; (conv => whnf)) | (apply load_at; (conv => lhs; rw [add_plain, add_plain]); (with_reducible assumption); rfl; (conv => whnf)) | (apply loads_at; (conv => lhs; whnf); (with_reducible assumption); rfl; (conv => whnf)) | (refine ⟨⟨by omega, by omega⟩, ?_⟩; (conv => whnf))))
  cases hd : decide (d < 0) with
  | true =>
    have h := of_decide_eq_true hd
    ((conv => whnf); repeat (first | (apply load_at; (conv => lhs; whnf); (with_reducible assumption); rfl; (conv => whnf)) | (apply load_at; (conv => lhs; rw [add_plain, add_plain]); (with_reducible assumption); rfl; (conv => whnf)) | (apply loads_at; (conv => lhs; whnf); (with_reducible assumption); rfl; (conv => whnf)) | (refine ⟨⟨by omega, by omega⟩, ?_⟩; (conv => whnf))))
    exact bad (by omega)
  | false =>
  have h0 := of_decide_eq_false hd
  ((conv => whnf); repeat (first | (apply load_at; (conv => lhs; whnf); (with_reducible assumption); rfl; (conv => whnf)) | (apply load_at; (conv => lhs; rw [add_plain, add_plain]); (with_reducible assumption); rfl; (conv => whnf)) | (apply loads_at; (conv => lhs; whnf); (with_reducible assumption); rfl; (conv => whnf)) | (refine ⟨⟨by omega, by omega⟩, ?_⟩; (conv => whnf))))
  cases hd2 : decide (d > 10) with
  | true =>
    have h := of_decide_eq_true hd2
    ((conv => whnf); repeat (first | (apply load_at; (conv => lhs; whnf); (with_reducible assumption); rfl; (conv => whnf)) | (apply load_at; (conv => lhs; rw [add_plain, add_plain]); (with_reducible assumption); rfl; (conv => whnf)) | (apply loads_at; (conv => lhs; whnf); (with_reducible assumption); rfl; (conv => whnf)) | (refine ⟨⟨by omega, by omega⟩, ?_⟩; (conv => whnf))))
    exact bad (by omega)
  | false =>
  have h1 := of_decide_eq_false hd2
  clear hd hd2
  ((conv => whnf); repeat (first | (apply load_at; (conv => lhs; whnf); (with_reducible assumption); rfl; (conv => whnf)) | (apply load_at; (conv => lhs; rw [add_plain, add_plain]); (with_reducible assumption); rfl; (conv => whnf)) | (apply loads_at; (conv => lhs; whnf); (with_reducible assumption); rfl; (conv => whnf)) | (refine ⟨⟨by omega, by omega⟩, ?_⟩; (conv => whnf))))
  refine call_of (kn F1) ?_
  rintro v F3 ⟨rfl, rfl⟩
  (conv => whnf)
  refine ⟨Ext.refl _, ?_⟩
  ((conv => whnf); repeat (first | (apply load_at; (conv => lhs; whnf); (with_reducible assumption); rfl; (conv => whnf)) | (apply load_at; (conv => lhs; rw [add_plain, add_plain]); (with_reducible assumption); rfl; (conv => whnf)) | (apply loads_at; (conv => lhs; whnf); (with_reducible assumption); rfl; (conv => whnf)) | (refine ⟨⟨by omega, by omega⟩, ?_⟩; (conv => whnf))))
  refine ⟨Ext.refl _, ?_⟩
  ((conv => whnf); repeat (first | (apply load_at; (conv => lhs; whnf); (with_reducible assumption); rfl; (conv => whnf)) | (apply load_at; (conv => lhs; rw [add_plain, add_plain]); (with_reducible assumption); rfl; (conv => whnf)) | (apply loads_at; (conv => lhs; whnf); (with_reducible assumption); rfl; (conv => whnf)) | (refine ⟨⟨by omega, by omega⟩, ?_⟩; (conv => whnf))))
  refine cond_split (fun h => ?_) (fun h => ?_)
  · have h : ((ms.length : Int) != nd) = true := h
    have hne : ¬ (ms.length : Int) = nd := by simpa using h
    ((conv => whnf); repeat (first | (apply load_at; (conv => lhs; whnf); (with_reducible assumption); rfl; (conv => whnf)) | (apply load_at; (conv => lhs; rw [add_plain, add_plain]); (with_reducible assumption); rfl; (conv => whnf)) | (apply loads_at; (conv => lhs; whnf); (with_reducible assumption); rfl; (conv => whnf)) | (refine ⟨⟨by omega, by omega⟩, ?_⟩; (conv => whnf))))
    exact bad (fun e => hne e.2.2.1)
  have h : ((ms.length : Int) != nd) = false := h
  have heq : (ms.length : Int) = nd := by simpa using h
  clear h
  obtain ⟨N, rfl⟩ : ∃ M : Nat, d = (M : Int) := ⟨d.toNat, by omega⟩
  have e := hdp (by omega) (by omega)
  rw [Int.toNat_natCast] at e
  subst e
  refine short [1, 2] [.int .i64 slot, .pointer (some ⟨t, 0, none⟩)] rfl fun ρ => ?_
  ((conv => whnf); repeat (first | (apply load_at; (conv => lhs; whnf); (with_reducible assumption); rfl; (conv => whnf)) | (apply load_at; (conv => lhs; rw [add_plain, add_plain]); (with_reducible assumption); rfl; (conv => whnf)) | (apply loads_at; (conv => lhs; whnf); (with_reducible assumption); rfl; (conv => whnf)) | (refine ⟨⟨by omega, by omega⟩, ?_⟩; (conv => whnf))))
  refine loop_slots [1, 2, 5, 6] (fun k vs F' => ∃ j : Nat, j + k = N ∧ vs = [.int .i64 slot, .pointer (some ⟨t, 0, none⟩), .int .i64 ((2 ^ j : Nat) : Int), .int .i64 (j : Int)] ∧ F3 = F') N ⟨0, by omega, rfl, rfl⟩ ?_
  rintro k2 vs F2 ρ2 ⟨j, hjk, rfl, rfl⟩
  have hpw := fun h => pow_wrap (j := j) h
  have hend : j = N → ((2 ^ j : Nat) : Int) = ((2 ^ N : Nat) : Int) := fun e => by rw [e]
  generalize ((2 ^ j : Nat) : Int) = z at hpw hend
  generalize ((2 ^ N : Nat) : Int) = zN at hK hend bad
  ((conv => whnf); repeat (first | (apply load_at; (conv => lhs; whnf); (with_reducible assumption); rfl; (conv => whnf)) | (apply load_at; (conv => lhs; rw [add_plain, add_plain]); (with_reducible assumption); rfl; (conv => whnf)) | (apply loads_at; (conv => lhs; whnf); (with_reducible assumption); rfl; (conv => whnf)) | (refine ⟨⟨by omega, by omega⟩, ?_⟩; (conv => whnf))))
  refine cond_split (fun h => ?_) (fun h => ?_)
  · have hj : j < N := by
      have h := of_decide_eq_true (show decide ((j : Int) < (N : Int)) = true from h)
      omega
    ((conv => whnf); repeat (first | (apply load_at; (conv => lhs; whnf); (with_reducible assumption); rfl; (conv => whnf)) | (apply load_at; (conv => lhs; rw [add_plain, add_plain]); (with_reducible assumption); rfl; (conv => whnf)) | (apply loads_at; (conv => lhs; whnf); (with_reducible assumption); rfl; (conv => whnf)) | (refine ⟨⟨by omega, by omega⟩, ?_⟩; (conv => whnf))))
    refine ⟨k2 - 1, by omega, j + 1, by omega, ?_, rfl⟩
    exact Eq.trans (b := [.int .i64 slot, .pointer (some ⟨t, 0, none⟩), .int .i64 (IntKind.i64.wrap (z * 2)), .int .i64 (IntKind.i64.wrap ((j : Int) + 1))]) rfl (by rw [hpw (by omega), wrap_succ (j := j) (by omega)])
  · have hj : j = N := by
      have h := of_decide_eq_false (show decide ((j : Int) < (N : Int)) = false from h)
      omega
    have hz := hend hj
    subst hz
    clear h hend
    ((conv => whnf); repeat (first | (apply load_at; (conv => lhs; whnf); (with_reducible assumption); rfl; (conv => whnf)) | (apply load_at; (conv => lhs; rw [add_plain, add_plain]); (with_reducible assumption); rfl; (conv => whnf)) | (apply loads_at; (conv => lhs; whnf); (with_reducible assumption); rfl; (conv => whnf)) | (refine ⟨⟨by omega, by omega⟩, ?_⟩; (conv => whnf))))
    cases hd : decide (slot ≥ 0) with
    | true =>
      have h2 := of_decide_eq_true hd
      ((conv => whnf); repeat (first | (apply load_at; (conv => lhs; whnf); (with_reducible assumption); rfl; (conv => whnf)) | (apply load_at; (conv => lhs; rw [add_plain, add_plain]); (with_reducible assumption); rfl; (conv => whnf)) | (apply loads_at; (conv => lhs; whnf); (with_reducible assumption); rfl; (conv => whnf)) | (refine ⟨⟨by omega, by omega⟩, ?_⟩; (conv => whnf))))
      refine ⟨?_, hE_t⟩
      rw [hK]
      exact congrArg Value.bool (decide_eq_decide.2 ⟨fun h => ⟨by omega, by omega, heq, by omega, h⟩, fun h => h.2.2.2.2⟩)
    | false =>
      have h2 := of_decide_eq_false hd
      ((conv => whnf); repeat (first | (apply load_at; (conv => lhs; whnf); (with_reducible assumption); rfl; (conv => whnf)) | (apply load_at; (conv => lhs; rw [add_plain, add_plain]); (with_reducible assumption); rfl; (conv => whnf)) | (apply loads_at; (conv => lhs; whnf); (with_reducible assumption); rfl; (conv => whnf)) | (refine ⟨⟨by omega, by omega⟩, ?_⟩; (conv => whnf))))
      exact bad (by omega)
end Go.Proofs.YtmpiggcooboenaaDoor.Al
/- Unpack, Load, Get once more: what they hand back is a row of the call's own. -/
namespace Go.Proofs.YtmpiggcooboenaaDoor.Al
open Go Go.Al Go.Proofs Go.RowKit
set_option maxHeartbeats 8000000
set_option maxRecDepth 100000
set_option linter.unusedVariables false
set_option linter.unusedSimpArgs false
/-- A row of bytes of the call's own. -/
abbrev MineB (F F' : Heap) (u : Value) (l : List UInt8) : Prop := Mine F F' u 5 1 l.length (bytesOf l)
theorem MineB.nil {F F' : Heap} (h : Ext F F') : MineB F F' (.slice none 0 0) [] := Mine.nil _ _ _ _ h
theorem unpackM (b : List UInt8) (A : Option Addr) (c : Nat) (F : Heap) (hr : RowAt F A (bytesOf b)) (hl : b.length ≤ 900000) (hc : b.length ≤ c) (hN : NibAt F) :
    FnK Tryd.prog 61 #[.slice A b.length c] F (fun v F' => ∃ u, v = .tuple #[.int .i64 (unP b), .int .i64 (unQ b), u, .int .i64 (unE b)] ∧ MineB F F' u (unD b) ∧ Ext F F') := by
  have hOk : okU b = ((b.length == 256) && ((sealB (b.drop 4) == b) && secR (getN b 4 4) (getN b 8 8))) := rfl
  unfold unP unQ unD unE
  by_cases hb : b.length = 256
  · have hdl : (b.drop 4).length = 252 := by rw [List.length_drop, hb]
    have hdl2 : (b.drop 16).length = 240 := by rw [List.length_drop, hb]
    have k1 : b.length - 4 = (b.drop 4).length := by rw [List.length_drop]
    have k2 : b.length - 16 = (b.drop 16).length := by rw [List.length_drop]
    have h1 := fun A c F h hN => sealed (b.drop 4) A c F h (by omega) hN
    have hsl : (sealB (b.drop 4)).length = 256 := by rw [sealB_len, hdl]
    have h2 := fun A B c e F hx hy => bytesEqual (sealB (b.drop 4)) b A B c e F hx hy
    have h3 := fun F h => getG 4 (.inr (.inr (.inl rfl))) b A c 4 F h (by omega) hc (by decide)
    have h4 := fun F h => getG 8 (.inr (.inr (.inr rfl))) b A c 8 F h (by omega) hc (by decide)
    have h5 := fun F => secRight (getN b 4 4) (getN b 8 8) F
    have h6 := fun A c F h => clone (b.drop 16) A c F h (by omega)
    have r1 : ∀ F, RowAt F A (bytesOf b) → RowAt F (if c = 4 then A else A.map (·.add (4 * 1))) (bytesOf (b.drop 4)) := fun F h => by
      have := row_cut3 4 252 c 4 h rfl (by omega) (by omega)
      rwa [List.take_of_length_le (by omega)] at this
    have r2 : ∀ F, RowAt F A (bytesOf b) → RowAt F (if c = 16 then A else A.map (·.add (16 * 1))) (bytesOf (b.drop 16)) := fun F h => by
      have := row_cut3 16 240 c 16 h rfl (by omega) (by omega)
      rwa [List.take_of_length_le (by omega)] at this
    generalize getN b 4 4 = p at h3 h5 hOk ⊢
    generalize getN b 8 8 = q at h4 h5 hOk ⊢
    generalize getE b 4 4 = e3 at h3
    generalize getE b 8 8 = e4 at h4
    generalize secR p q = z at h5 hOk
    generalize sealB (b.drop 4) = sb at h1 h2 hsl hOk
    generalize (sb == b) = y at h2 hOk
    generalize b.drop 4 = b4 at h1 r1 k1 hdl
    generalize b.drop 16 = b16 at h6 r2 k2 hdl2 ⊢
    rw [show (b.length == 256) = true by simpa using hb, Bool.true_and] at hOk
    rw [hOk]
    clear hOk
    (refine fn_walk tab_ok Tryd.func61 rfl rfl rfl rfl ?_; (conv => whnf))
    refine cond_split (fun h => ?_) (fun h => ?_)
    rotate_left
    · exact absurd hb (by
        have h : (!((b.length : Int) != 256)) = false := h
        simp only [Bool.not_eq_false', bne_iff_ne, ne_eq] at h
        omega)
    clear h
    ((conv => whnf); repeat (first | (apply load_at; (conv => lhs; whnf); (with_reducible assumption); rfl; (conv => whnf)) | (apply load_at; (conv => lhs; rw [add_plain, add_plain]); (with_reducible assumption); rfl; (conv => whnf)) | (apply loads_at; (conv => lhs; whnf); (with_reducible assumption); rfl; (conv => whnf)) | (refine ⟨⟨by omega, by omega⟩, ?_⟩; (conv => whnf))))
    refine call_args (xs' := #[.slice (if c = 4 then A else A.map (·.add (4 * 1))) b4.length (c - 4)]) ?hq (call_of (h1 _ _ F (r1 F hr) hN) ?_)
    case hq =>
      refine congrArg (fun x => #[x]) (slice_eq rfl ?_ rfl)
      exact k1
    rintro v F1 hM1
    obtain ⟨A1, c1, rfl, _, hr1⟩ := hM1.own.row
    ((conv => whnf); repeat (first | (apply load_at; (conv => lhs; whnf); (with_reducible assumption); rfl; (conv => whnf)) | (apply load_at; (conv => lhs; rw [add_plain, add_plain]); (with_reducible assumption); rfl; (conv => whnf)) | (apply loads_at; (conv => lhs; whnf); (with_reducible assumption); rfl; (conv => whnf)) | (refine ⟨⟨by omega, by omega⟩, ?_⟩; (conv => whnf))))
    refine call_of (h2 A1 A c1 c F1 hr1 (hr.mono hM1.ext)) ?_
    rintro v _ ⟨rfl, rfl⟩
    have hr' := hr.mono hM1.ext
    have hE1 := hM1.ext
    cases y with
    | false =>
      ((conv => whnf); repeat (first | (apply load_at; (conv => lhs; whnf); (with_reducible assumption); rfl; (conv => whnf)) | (apply load_at; (conv => lhs; rw [add_plain, add_plain]); (with_reducible assumption); rfl; (conv => whnf)) | (apply loads_at; (conv => lhs; whnf); (with_reducible assumption); rfl; (conv => whnf)) | (refine ⟨⟨by omega, by omega⟩, ?_⟩; (conv => whnf))))
      exact ⟨_, rfl, MineB.nil hE1, hE1⟩
    | true =>
    rw [Bool.true_and]
    clear h1 h2 hr hM1 hr1
    refine short [0, 13, 18] [.slice A b.length c, .bool false, .bool true] rfl fun ρ => ?_
    ((conv => whnf); repeat (first | (apply load_at; (conv => lhs; whnf); (with_reducible assumption); rfl; (conv => whnf)) | (apply load_at; (conv => lhs; rw [add_plain, add_plain]); (with_reducible assumption); rfl; (conv => whnf)) | (apply loads_at; (conv => lhs; whnf); (with_reducible assumption); rfl; (conv => whnf)) | (refine ⟨⟨by omega, by omega⟩, ?_⟩; (conv => whnf))))
    refine call_of (h3 _ hr') ?_
    rintro v _ ⟨rfl, rfl⟩
    ((conv => whnf); repeat (first | (apply load_at; (conv => lhs; whnf); (with_reducible assumption); rfl; (conv => whnf)) | (apply load_at; (conv => lhs; rw [add_plain, add_plain]); (with_reducible assumption); rfl; (conv => whnf)) | (apply loads_at; (conv => lhs; whnf); (with_reducible assumption); rfl; (conv => whnf)) | (refine ⟨⟨by omega, by omega⟩, ?_⟩; (conv => whnf))))
    refine call_of (h4 _ hr') ?_
    rintro v _ ⟨rfl, rfl⟩
    ((conv => whnf); repeat (first | (apply load_at; (conv => lhs; whnf); (with_reducible assumption); rfl; (conv => whnf)) | (apply load_at; (conv => lhs; rw [add_plain, add_plain]); (with_reducible assumption); rfl; (conv => whnf)) | (apply loads_at; (conv => lhs; whnf); (with_reducible assumption); rfl; (conv => whnf)) | (refine ⟨⟨by omega, by omega⟩, ?_⟩; (conv => whnf))))
    refine call_of (h5 _) ?_
    rintro v _ ⟨rfl, rfl⟩
    cases z with
    | false =>
      ((conv => whnf); repeat (first | (apply load_at; (conv => lhs; whnf); (with_reducible assumption); rfl; (conv => whnf)) | (apply load_at; (conv => lhs; rw [add_plain, add_plain]); (with_reducible assumption); rfl; (conv => whnf)) | (apply loads_at; (conv => lhs; whnf); (with_reducible assumption); rfl; (conv => whnf)) | (refine ⟨⟨by omega, by omega⟩, ?_⟩; (conv => whnf))))
      exact ⟨_, rfl, MineB.nil hE1, hE1⟩
    | true =>
    ((conv => whnf); repeat (first | (apply load_at; (conv => lhs; whnf); (with_reducible assumption); rfl; (conv => whnf)) | (apply load_at; (conv => lhs; rw [add_plain, add_plain]); (with_reducible assumption); rfl; (conv => whnf)) | (apply loads_at; (conv => lhs; whnf); (with_reducible assumption); rfl; (conv => whnf)) | (refine ⟨⟨by omega, by omega⟩, ?_⟩; (conv => whnf))))
    refine call_args (xs' := #[.slice (if c = 16 then A else A.map (·.add (16 * 1))) b16.length (c - 16)]) ?hq2 (call_of (h6 _ _ _ (r2 _ hr')) ?_)
    case hq2 => exact congrArg (fun x => #[x]) (slice_eq rfl k2 rfl)
    rintro v F3 hM3
    obtain ⟨A3, c3, rfl, g1, g2⟩ := hM3.own.row
    ((conv => whnf); repeat (first | (apply load_at; (conv => lhs; whnf); (with_reducible assumption); rfl; (conv => whnf)) | (apply load_at; (conv => lhs; rw [add_plain, add_plain]); (with_reducible assumption); rfl; (conv => whnf)) | (apply loads_at; (conv => lhs; whnf); (with_reducible assumption); rfl; (conv => whnf)) | (refine ⟨⟨by omega, by omega⟩, ?_⟩; (conv => whnf))))
    exact ⟨_, rfl, ⟨hM3.own, fun k hk => hE1.none (hM3.fresh k hk), hE1.trans hM3.ext⟩, hE1.trans hM3.ext⟩
  · rw [show (b.length == 256) = false by simpa using hb, Bool.false_and] at hOk
    rw [hOk]
    have hb' : ((b.length : Int) != 256) = true := by
      rw [bne_iff_ne]
      omega
    clear hOk
    show FnK _ _ _ F (fun v F' => ∃ u, v = .tuple #[.int .i64 0, .int .i64 0, u, .int .i64 4] ∧ MineB F F' u [] ∧ Ext F F')
    (refine fn_walk tab_ok Tryd.func61 rfl rfl rfl rfl ?_; (conv => whnf))
    refine cond_split (fun h => ?_) (fun h => ?_)
    · exact absurd (by
        have h : (!((b.length : Int) != 256)) = true := h
        simp only [Bool.not_eq_true', bne_eq_false_iff_eq] at h
        omega) hb
    clear h
    ((conv => whnf); repeat (first | (apply load_at; (conv => lhs; whnf); (with_reducible assumption); rfl; (conv => whnf)) | (apply load_at; (conv => lhs; rw [add_plain, add_plain]); (with_reducible assumption); rfl; (conv => whnf)) | (apply loads_at; (conv => lhs; whnf); (with_reducible assumption); rfl; (conv => whnf)) | (refine ⟨⟨by omega, by omega⟩, ?_⟩; (conv => whnf))))
    exact ⟨_, rfl, MineB.nil (Ext.refl _), Ext.refl _⟩
theorem lgLoadM {D F : Heap} {b lb : Nat} {s : DS} {q : Int} (hE : Ext D F) (hD : Dk D b s) (h : F lb = some (lgO b q)) (hN : NibAt F) (p : Int) :
    FnK Tryd.prog 17 #[.pointer (some ⟨lb, 0, none⟩), .int .i64 p] F (fun v F' => ∃ u, v = .tuple #[u, .int .i64 (loadE dsO s p)] ∧ MineB F F' u (loadL dsO s p) ∧ Ext F F') := by
  have k0 := lgReady h
  have k1 := fun F hE => dk_size (F := F) hE hD
  have k2 := fun F => home s.size p F
  have k3 := fun F hE => read (F := F) hE hD (homeI s.size p)
  have hl := read_len hD (homeI s.size p)
  have k4 := fun A c F hr hc hN => unpackM (readL s (homeI s.size p)) A c F hr (by omega) hc hN
  have hLE : loadE dsO s p = if isPg s.size p = true then readE s (homeI s.size p) else 1 := rfl
  have hLL : loadL dsO s p = if isPg s.size p = true then (if readE s (homeI s.size p) ≠ 0 then [] else if unE (readL s (homeI s.size p)) ≠ 0 ∨ unP (readL s (homeI s.size p)) ≠ p then zeros240 else unD (readL s (homeI s.size p))) else [] := rfl
  generalize loadE dsO s p = le at hLE
  generalize loadL dsO s p = ll at hLL
  generalize homeI s.size p = hm at k2 k3 hl k4 hLE hLL
  generalize unP (readL s hm) = up at k4 hLL
  generalize unQ (readL s hm) = uq at k4
  generalize unE (readL s hm) = ue at k4 hLL
  generalize unD (readL s hm) = ud at k4 hLL
  generalize readL s hm = l at k3 k4 hl
  generalize readE s hm = re at k3 hLE hLL
  generalize isPg s.size p = z at k2 hLE hLL
  (refine fn_walk tab_ok Tryd.func17 rfl rfl rfl rfl ?_; (conv => whnf))
  refine call_of k0 ?_
  rintro v F ⟨rfl, rfl⟩
  ((conv => whnf); repeat (first | (apply load_at; (conv => lhs; whnf); (with_reducible assumption); rfl; (conv => whnf)) | (apply load_at; (conv => lhs; rw [add_plain, add_plain]); (with_reducible assumption); rfl; (conv => whnf)) | (apply loads_at; (conv => lhs; whnf); (with_reducible assumption); rfl; (conv => whnf)) | (refine ⟨⟨by omega, by omega⟩, ?_⟩; (conv => whnf))))
  refine call_of (k1 F hE) ?_
  rintro v F ⟨rfl, rfl⟩
  ((conv => whnf); repeat (first | (apply load_at; (conv => lhs; whnf); (with_reducible assumption); rfl; (conv => whnf)) | (apply load_at; (conv => lhs; rw [add_plain, add_plain]); (with_reducible assumption); rfl; (conv => whnf)) | (apply loads_at; (conv => lhs; whnf); (with_reducible assumption); rfl; (conv => whnf)) | (refine ⟨⟨by omega, by omega⟩, ?_⟩; (conv => whnf))))
  refine call_of (k2 F) ?_
  rintro v F1 ⟨rfl, hE1⟩
  have h1 := hE1 _ _ h
  refine short [0, 1, 23] [.pointer (some ⟨lb, 0, none⟩), .int .i64 p, .tuple #[.int .i64 hm, .bool z]] rfl fun ρ => ?_
  cases z with
  | false =>
    rw [if_neg (by decide)] at hLE hLL
    subst hLE hLL
    ((conv => whnf); repeat (first | (apply load_at; (conv => lhs; whnf); (with_reducible assumption); rfl; (conv => whnf)) | (apply load_at; (conv => lhs; rw [add_plain, add_plain]); (with_reducible assumption); rfl; (conv => whnf)) | (apply loads_at; (conv => lhs; whnf); (with_reducible assumption); rfl; (conv => whnf)) | (refine ⟨⟨by omega, by omega⟩, ?_⟩; (conv => whnf))))
    exact ⟨_, rfl, MineB.nil hE1, hE1⟩
  | true =>
  rw [if_pos rfl] at hLE hLL
  ((conv => whnf); repeat (first | (apply load_at; (conv => lhs; whnf); (with_reducible assumption); rfl; (conv => whnf)) | (apply load_at; (conv => lhs; rw [add_plain, add_plain]); (with_reducible assumption); rfl; (conv => whnf)) | (apply loads_at; (conv => lhs; whnf); (with_reducible assumption); rfl; (conv => whnf)) | (refine ⟨⟨by omega, by omega⟩, ?_⟩; (conv => whnf))))
  refine call_of (k3 F1 (hE.trans hE1)) ?_
  rintro v F2 ⟨w, rfl, ⟨A, c, rfl, hc, hr, hf⟩, hE2⟩
  have hE02 := hE1.trans hE2
  refine short [0, 1, 34] [.pointer (some ⟨lb, 0, none⟩), .int .i64 p, .tuple #[.slice A l.length c, .int .i64 re]] rfl fun ρ => ?_
  ((conv => whnf); repeat (first | (apply load_at; (conv => lhs; whnf); (with_reducible assumption); rfl; (conv => whnf)) | (apply load_at; (conv => lhs; rw [add_plain, add_plain]); (with_reducible assumption); rfl; (conv => whnf)) | (apply loads_at; (conv => lhs; whnf); (with_reducible assumption); rfl; (conv => whnf)) | (refine ⟨⟨by omega, by omega⟩, ?_⟩; (conv => whnf))))
  refine cond_split (fun h => ?_) (fun h => ?_)
  · have he : re ≠ 0 := by
      have h : (re != 0) = true := h
      simpa using h
    rw [if_pos he] at hLL
    subst hLE hLL
    ((conv => whnf); repeat (first | (apply load_at; (conv => lhs; whnf); (with_reducible assumption); rfl; (conv => whnf)) | (apply load_at; (conv => lhs; rw [add_plain, add_plain]); (with_reducible assumption); rfl; (conv => whnf)) | (apply loads_at; (conv => lhs; whnf); (with_reducible assumption); rfl; (conv => whnf)) | (refine ⟨⟨by omega, by omega⟩, ?_⟩; (conv => whnf))))
    exact ⟨_, rfl, MineB.nil hE02, hE02⟩
  have he : ¬ re ≠ 0 := by
    have h : (re != 0) = false := h
    simpa using h
  rw [if_neg he] at hLL
  have he0 : le = 0 := by omega
  clear h
  ((conv => whnf); repeat (first | (apply load_at; (conv => lhs; whnf); (with_reducible assumption); rfl; (conv => whnf)) | (apply load_at; (conv => lhs; rw [add_plain, add_plain]); (with_reducible assumption); rfl; (conv => whnf)) | (apply loads_at; (conv => lhs; whnf); (with_reducible assumption); rfl; (conv => whnf)) | (refine ⟨⟨by omega, by omega⟩, ?_⟩; (conv => whnf))))
  refine call_of (k4 A c F2 hr hc (hN.mono hE02)) ?_
  rintro v F3 ⟨w, rfl, hw, hE3⟩
  have hE03 := hE02.trans hE3
  subst he0
  clear hLE he
  refine short [0, 1, 42] [.pointer (some ⟨lb, 0, none⟩), .int .i64 p, .tuple #[.int .i64 up, .int .i64 uq, w, .int .i64 ue]] rfl fun ρ => ?_
  have zz : (ue ≠ 0 ∨ up ≠ p) → ∀ (G : Heap) (g : Nat), F3 g = none → G = F3.put g (.cells (List.replicate 240 (Value.int .u8 0)).toArray 5) → MineB F G (.slice (some ⟨g, 0, none⟩) 240 240) ll ∧ Ext F G := by
    intro hh G g hg e
    rw [if_pos hh] at hLL
    subst hLL e
    have m := mine_blk (n := 240) (c := 240) (z := 1) (hE03.trans (Ext.new hg _)) (hE03.none hg) (Heap.put_same F3 g (.cells (List.replicate 240 (Value.int .u8 0)).toArray 5)) (by rw [List.size_toArray, List.length_replicate]) (Nat.le_refl _)
    rw [List.toList_toArray, List.take_of_length_le (by rw [List.length_replicate]; exact Nat.le_refl _), zeros_bytes] at m
    exact ⟨m, hE03.trans (Ext.new hg _)⟩
  ((conv => whnf); repeat (first | (apply load_at; (conv => lhs; whnf); (with_reducible assumption); rfl; (conv => whnf)) | (apply load_at; (conv => lhs; rw [add_plain, add_plain]); (with_reducible assumption); rfl; (conv => whnf)) | (apply loads_at; (conv => lhs; whnf); (with_reducible assumption); rfl; (conv => whnf)) | (refine ⟨⟨by omega, by omega⟩, ?_⟩; (conv => whnf))))
  refine cond_split (fun h => ?_) (fun h => ?_)
  · have hu : (ue == 0) = true := by
      have h : (!(ue != 0)) = true := h
      simpa using h
    have hu0 : ue = 0 := by simpa using hu
    clear h
    ((conv => whnf); repeat (first | (apply load_at; (conv => lhs; whnf); (with_reducible assumption); rfl; (conv => whnf)) | (apply load_at; (conv => lhs; rw [add_plain, add_plain]); (with_reducible assumption); rfl; (conv => whnf)) | (apply loads_at; (conv => lhs; whnf); (with_reducible assumption); rfl; (conv => whnf)) | (refine ⟨⟨by omega, by omega⟩, ?_⟩; (conv => whnf))))
    refine cond_split (fun h => ?_) (fun h => ?_)
    · have hp : up ≠ p := by
        have h : (up != p) = true := h
        simpa using h
      ((conv => whnf); repeat (first | (apply load_at; (conv => lhs; whnf); (with_reducible assumption); rfl; (conv => whnf)) | (apply load_at; (conv => lhs; rw [add_plain, add_plain]); (with_reducible assumption); rfl; (conv => whnf)) | (apply loads_at; (conv => lhs; whnf); (with_reducible assumption); rfl; (conv => whnf)) | (refine ⟨⟨by omega, by omega⟩, ?_⟩; (conv => whnf))))
      refine make_one tab_ok (z0 := .int .u8 0) 240 240 rfl rfl rfl rfl rfl ⟨rfl, by decide, _, rfl, rfl⟩ (by decide) (by decide) fun g h0_g => ?_
      obtain ⟨zr, zE⟩ := zz (.inr hp) _ g h0_g rfl
      generalize F3.put g _ = F4 at zr zE ⊢
      ((conv => whnf); repeat (first | (apply load_at; (conv => lhs; whnf); (with_reducible assumption); rfl; (conv => whnf)) | (apply load_at; (conv => lhs; rw [add_plain, add_plain]); (with_reducible assumption); rfl; (conv => whnf)) | (apply loads_at; (conv => lhs; whnf); (with_reducible assumption); rfl; (conv => whnf)) | (refine ⟨⟨by omega, by omega⟩, ?_⟩; (conv => whnf))))
      exact ⟨_, rfl, zr, zE⟩
    · have hp : ¬ up ≠ p := by
        have h : (up != p) = false := h
        simpa using h
      rw [if_neg (by rintro (e | e); exact e hu0; exact hp e)] at hLL
      subst hLL
      ((conv => whnf); repeat (first | (apply load_at; (conv => lhs; whnf); (with_reducible assumption); rfl; (conv => whnf)) | (apply load_at; (conv => lhs; rw [add_plain, add_plain]); (with_reducible assumption); rfl; (conv => whnf)) | (apply loads_at; (conv => lhs; whnf); (with_reducible assumption); rfl; (conv => whnf)) | (refine ⟨⟨by omega, by omega⟩, ?_⟩; (conv => whnf))))
      exact ⟨_, rfl, ⟨hw.own, fun k hk => hE02.none (hw.fresh k hk), hE03⟩, hE03⟩
  · have hu : ue ≠ 0 := by
      have h : (!(ue != 0)) = false := h
      simpa using h
    ((conv => whnf); repeat (first | (apply load_at; (conv => lhs; whnf); (with_reducible assumption); rfl; (conv => whnf)) | (apply load_at; (conv => lhs; rw [add_plain, add_plain]); (with_reducible assumption); rfl; (conv => whnf)) | (apply loads_at; (conv => lhs; whnf); (with_reducible assumption); rfl; (conv => whnf)) | (refine ⟨⟨by omega, by omega⟩, ?_⟩; (conv => whnf))))
    refine make_one tab_ok (z0 := .int .u8 0) 240 240 rfl rfl rfl rfl rfl ⟨rfl, by decide, _, rfl, rfl⟩ (by decide) (by decide) fun g h0_g => ?_
    obtain ⟨zr, zE⟩ := zz (.inl hu) _ g h0_g rfl
    generalize F3.put g _ = F4 at zr zE ⊢
    ((conv => whnf); repeat (first | (apply load_at; (conv => lhs; whnf); (with_reducible assumption); rfl; (conv => whnf)) | (apply load_at; (conv => lhs; rw [add_plain, add_plain]); (with_reducible assumption); rfl; (conv => whnf)) | (apply loads_at; (conv => lhs; whnf); (with_reducible assumption); rfl; (conv => whnf)) | (refine ⟨⟨by omega, by omega⟩, ?_⟩; (conv => whnf))))
    exact ⟨_, rfl, zr, zE⟩
theorem Lg.loadM {E F : Heap} {lb b : Nat} {s : DS} {q : Int} (hE : Ext E F) (hL : Lg E lb b s q) (hN : NibAt F) (p : Int) : FnK Tryd.prog 17 #[.pointer (some ⟨lb, 0, none⟩), .int .i64 p] F (fun v F' => ∃ u, v = .tuple #[u, .int .i64 (loadE dsO s p)] ∧ MineB F F' u (loadL dsO s p) ∧ Ext F F') := by
  obtain ⟨D0, h1, h2, h3⟩ := hL.disk
  exact lgLoadM (h2.trans hE) h1 (hE _ _ h3) hN p
theorem pgGetM {D F : Heap} {pb : Nat} {s : DS} {q : Int} {S : PgL} (hE : Ext D F) (hD : Pg D pb s q S) (hN : NibAt F) (p : Int) :
    FnK Tryd.prog 49 #[.pointer (some ⟨pb, 0, none⟩), .int .i64 p] F (fun v F' => ∃ u, v = .tuple #[u, .int .i64 (pgE dsO s S p)] ∧ MineB F F' u (pgD dsO s S p) ∧ Ext F F') := by
  obtain ⟨hs, ho, lb, b, ms, L, lS, G, hP⟩ := hD
  have hc := hE _ _ hP.cell
  have k0 := pgReady hc
  have k1 := Lg.loadM (hP.baseL.trans hE) hP.log hN p
  have hm := hP.map.mono hE
  cases hg : getM lS p with
  | none =>
    have h1 := hP.rs.no p hg
    unfold pgE pgD
    rw [h1]
    dsimp only
    generalize loadE dsO s p = le at k1 ⊢
    generalize loadL dsO s p = ll at k1 ⊢
    (refine fn_walk tab_ok Tryd.func49 rfl rfl rfl rfl ?_; (conv => whnf))
    refine call_of k0 ?_
    rintro v F ⟨rfl, rfl⟩
    ((conv => whnf); repeat (first | (apply load_at; (conv => lhs; whnf); (with_reducible assumption); rfl; (conv => whnf)) | (apply load_at; (conv => lhs; rw [add_plain, add_plain]); (with_reducible assumption); rfl; (conv => whnf)) | (apply loads_at; (conv => lhs; whnf); (with_reducible assumption); rfl; (conv => whnf)) | (refine ⟨⟨by omega, by omega⟩, ?_⟩; (conv => whnf))))
    refine op_lookup_at tab_ok rfl rfl rfl rfl rfl rfl rfl hm hg ?_
    ((conv => whnf); repeat (first | (apply load_at; (conv => lhs; whnf); (with_reducible assumption); rfl; (conv => whnf)) | (apply load_at; (conv => lhs; rw [add_plain, add_plain]); (with_reducible assumption); rfl; (conv => whnf)) | (apply loads_at; (conv => lhs; whnf); (with_reducible assumption); rfl; (conv => whnf)) | (refine ⟨⟨by omega, by omega⟩, ?_⟩; (conv => whnf))))
    refine call_of k1 ?_
    rintro v F1 ⟨u, rfl, hu, hE1⟩
    ((conv => whnf); repeat (first | (apply load_at; (conv => lhs; whnf); (with_reducible assumption); rfl; (conv => whnf)) | (apply load_at; (conv => lhs; rw [add_plain, add_plain]); (with_reducible assumption); rfl; (conv => whnf)) | (apply loads_at; (conv => lhs; whnf); (with_reducible assumption); rfl; (conv => whnf)) | (refine ⟨⟨by omega, by omega⟩, ?_⟩; (conv => whnf))))
    exact ⟨_, rfl, hu, hE1⟩
  | some v0 =>
    obtain ⟨l, h1, h2, A, c, rfl, h3, h4⟩ := hP.rs.yes p v0 hg
    have k2 := clone l A c F (h4.mono (hP.base.trans hE)) (by omega)
    unfold pgE pgD
    rw [h1]
    dsimp only
    (refine fn_walk tab_ok Tryd.func49 rfl rfl rfl rfl ?_; (conv => whnf))
    refine call_of k0 ?_
    rintro v F ⟨rfl, rfl⟩
    ((conv => whnf); repeat (first | (apply load_at; (conv => lhs; whnf); (with_reducible assumption); rfl; (conv => whnf)) | (apply load_at; (conv => lhs; rw [add_plain, add_plain]); (with_reducible assumption); rfl; (conv => whnf)) | (apply loads_at; (conv => lhs; whnf); (with_reducible assumption); rfl; (conv => whnf)) | (refine ⟨⟨by omega, by omega⟩, ?_⟩; (conv => whnf))))
    refine op_lookup_at tab_ok rfl rfl rfl rfl rfl rfl rfl hm hg ?_
    ((conv => whnf); repeat (first | (apply load_at; (conv => lhs; whnf); (with_reducible assumption); rfl; (conv => whnf)) | (apply load_at; (conv => lhs; rw [add_plain, add_plain]); (with_reducible assumption); rfl; (conv => whnf)) | (apply loads_at; (conv => lhs; whnf); (with_reducible assumption); rfl; (conv => whnf)) | (refine ⟨⟨by omega, by omega⟩, ?_⟩; (conv => whnf))))
    refine call_of k2 ?_
    rintro v F1 hM
    ((conv => whnf); repeat (first | (apply load_at; (conv => lhs; whnf); (with_reducible assumption); rfl; (conv => whnf)) | (apply load_at; (conv => lhs; rw [add_plain, add_plain]); (with_reducible assumption); rfl; (conv => whnf)) | (apply loads_at; (conv => lhs; whnf); (with_reducible assumption); rfl; (conv => whnf)) | (refine ⟨⟨by omega, by omega⟩, ?_⟩; (conv => whnf))))
    exact ⟨_, rfl, hM, hM.ext⟩
end Go.Proofs.YtmpiggcooboenaaDoor.Al
/- Logs: a commit that may be cut short, opened again: both ways that it may go. -/
namespace Go.Proofs.YtmpiggcooboenaaDoor.Al
open Go Go.Al Go.Proofs Go.RowKit
set_option maxHeartbeats 8000000
set_option maxRecDepth 100000
set_option linter.unusedVariables false
set_option linter.unusedSimpArgs false
/-- What opening makes of a disk, and what its pages are then. -/
structure Way (n cnt q : Int) (X Y : (Int → List UInt8) → Prop) (pg : Int → List UInt8) : Prop where
  x : Cls n cnt q X
  y : Cls n cnt q Y
  go : ∀ c c', X c → X c' → (∀ ws, wholeO (cO n) c cnt q = some ws → c' = putAll c ws) → Y c'
  at_ : ∀ c, Y c → ∀ p, isPg n p = true → pgOf n c p = pg p
theorem way_old {n cnt q : Int} {c0 : Int → List UInt8} (hn : 3 ≤ n) (hB : Base n cnt q c0) : Way n cnt q (Old n q c0) (Old n q c0) (pgOf n c0) :=
  ⟨cls_old hn hB, cls_old hn hB, fun _ _ _ h _ => h, fun _ h _ hp => pg_old h hp⟩
theorem way_new {n q : Int} {ps : List (Int × List UInt8)} {c0 : Int → List UInt8} (hn : 3 ≤ n) (hI : Ims n q ps) : Way n (ps.length : Int) q (New n q ps c0) (Done n q ps c0) (putAll (pgOf n c0) ps) :=
  ⟨cls_new hn hI, cls_done hn hI, fun c c' h _ e => by rw [e _ (slots_whole hI h.slots)]; exact done_of_new hI h, fun _ h _ hp => pg_done hI h hp⟩
theorem pgsN_congr {g g' : Int → List UInt8} : ∀ n : Nat, (∀ p : Nat, p < n → g (p : Int) = g' (p : Int)) → pgsN g n = pgsN g' n
  | 0, _ => rfl
  | n + 1, h => by
    show pgsN g n ++ g (n : Int) = pgsN g' n ++ g' (n : Int)
    rw [pgsN_congr n fun p hp => h p (by omega), h n (by omega)]
theorem pgs_put {g : Int → List UInt8} (hg : ∀ p, (g p).length = 240) {d : List UInt8} (hd : d.length = 240) : ∀ (n p : Nat), p < n → pgsN (fun k => if k = (p : Int) then d else g k) n = (pgsN g n).take (p * 240) ++ (d ++ (pgsN g n).drop (p * 240 + 240))
  | n + 1, p, h => by
    have hl := pgsN_len hg n
    show pgsN (fun k => if k = (p : Int) then d else g k) n ++ (if (n : Int) = (p : Int) then d else g (n : Int)) = (pgsN g n ++ g (n : Int)).take (p * 240) ++ (d ++ (pgsN g n ++ g (n : Int)).drop (p * 240 + 240))
    by_cases e : n = p
    · subst e
      rw [if_pos rfl, pgsN_congr n (g' := g) fun k hk => if_neg (by omega), ← hl, List.take_left' rfl, List.drop_of_length_le (by rw [List.length_append, hg]; omega), List.append_nil]
    · rw [if_neg (by omega), pgs_put hg hd n p (by omega), List.take_append_of_le_length (by omega), List.drop_append_of_le_length (by omega), List.append_assoc, List.append_assoc]
theorem putL_cut {cs ys : List Value} {off n : Nat} (h : off + ys.length ≤ n) (hn : n ≤ cs.length) : (putL cs off ys).take n = (cs.take n).take off ++ (ys ++ (cs.take n).drop (off + ys.length)) := by
  have e1 : (cs.take off).take n = cs.take off := List.take_of_length_le (by rw [List.length_take]; omega)
  have e2 : (ys ++ cs.drop (off + ys.length)).take (n - off) = ys ++ (cs.drop (off + ys.length)).take (n - off - ys.length) := by
    rw [List.take_append, List.take_of_length_le (show ys.length ≤ n - off by omega)]
  rw [putL_eq ys cs off (by omega), List.take_append, List.length_take, Nat.min_eq_left (show off ≤ cs.length by omega), e1, e2, List.take_take, Nat.min_eq_left (show off ≤ n by omega), List.drop_take, show n - (off + ys.length) = n - off - ys.length by omega]
/-- What is done to a log's disk, done to the log. -/
theorem lg_disk {E F : Heap} {lb b : Nat} {s : DS} {q : Int} (hE : Ext E F) (hL : Lg E lb b s q) : ∃ D, Ext D F ∧ Dk D b s ∧ Ext D E ∧ ∀ {D' F' : Heap} {s' : DS}, Moves D F D' F' → Dk D' b s' → ∃ E', Moves E F E' F' ∧ Lg E' lb b s' q := by
  obtain ⟨D, hD, hdl, rfl, h1, h2⟩ := hL
  have hDE : Ext D (D.put lb (lgO b q)) := (Ext.refl D).put hdl _
  refine ⟨D, hDE.trans hE, hD, hDE, fun {D' F' s'} hM hD' => ?_⟩
  obtain ⟨m1, m2⟩ := moves_withB hM hdl (hE _ _ (Heap.put_same _ _ _))
  exact ⟨_, m1, D', hD', m2, rfl, h1, h2⟩
/-- The first commit of the law. -/
theorem first_n {E F R : Heap} {b lb : Nat} {s : DS} (hE : Ext E F) (hL : Lg E lb b s 1) (hR : Ext R F) (hA : Apart E R) (hN : NibAt R) (ims : List PcR) (A : Option Addr) (c : Nat) (hr : RowAt R A (rowS pcC ims)) (hp : ∀ p ∈ ims, PcOk R p) (hf : Fresh 27 s) (hI : Ims 27 2 (ims.map pcW)) :
    FnK Tryd.prog 19 #[.pointer (some ⟨lb, 0, none⟩), .slice A ims.length c] F (fun v F' => v = .int .i64 0 ∧ ∃ E' s' q cnt, Moves E F E' F' ∧ Lg E' lb b s' q ∧ Up s' ∧ DWf s' ∧ Calm s' ∧ s'.size = 27 ∧ Base 27 cnt q (secB s') ∧ (0 ≤ q ∧ q ≤ 2) ∧ s'.writes ≤ 100) := by
  have hl := hI.len
  rw [pages27, List.length_map] at hl
  by_cases h0 : ims = []
  · subst h0
    refine (commit_0 hE hL hR hA hN A c (by rw [hf.writes]; omega)).mono ?_
    rintro v F' ⟨rfl, E', h1, h2⟩
    exact ⟨rfl, E', s, 1, _, h1, h2, hf.up, hf.wf, hf.calm, hf.size, base_done (c0 := secB s) (by decide) (ims_nil (by decide)) hf.done, by decide, by rw [hf.writes]; decide⟩
  · refine (commit_n hE hL hR hA hN ims A c hr hp (by rw [hf.writes]; omega) (by rw [hf.size]; exact hI) h0 hf.up).mono ?_
    rintro v F' ⟨rfl, E', s', h1, h2, h3, h4, h5, h6, h7, h8⟩
    rw [hf.size] at h7 h6
    exact ⟨rfl, E', s', 2, _, h1, h2, h3, h4, h5, h6, base_done (by decide) hI h7, by decide, by rw [h8, hf.writes]; omega⟩
/-- The second one, and a crash. -/
theorem second_way {s : DS} {cnt q : Int} {ps : List (Int × List UInt8)} (hsz : s.size = 27) (hB : Base 27 cnt q (secB s)) (hd : s.down = false) (hwf : DWf s) (hc : Calm s) (hI : Ims 27 (q + 1) ps) (hw : s.writes ≤ 1000) (keep : List Int) :
    ∃ cnt' q' X Y pg, Up (crashS (commitS dsO s q ps).1 keep) ∧ DWf (crashS (commitS dsO s q ps).1 keep) ∧ Calm (crashS (commitS dsO s q ps).1 keep) ∧ (crashS (commitS dsO s q ps).1 keep).size = 27 ∧ (crashS (commitS dsO s q ps).1 keep).writes ≤ 200000 ∧ Way 27 cnt' q' X Y pg ∧ X (secB (crashS (commitS dsO s q ps).1 keep)) ∧ ((pgsN pg 13 = pgsN (putAll (pgOf 27 (secB s)) ps) 13) ∨ (pgsN pg 13 = pgsN (pgOf 27 (secB s)) 13 ∧ (commitS dsO s q ps).2.1 ≠ 0)) := by
  by_cases h0 : ps = []
  · subst h0
    rw [commit_none]
    obtain ⟨m1, m2, m3, m4, m5, m6⟩ := calm_crash hwf hc keep
    refine ⟨cnt, q, _, _, _, m3, m1, m2, m4.trans hsz, by rw [m5]; omega, way_old (by decide) hB, ?_, .inl rfl⟩
    rw [show secB (crashS s keep) = secB s from funext m6]
    exact ⟨rfl, fun _ _ => rfl, fun _ _ => .inl rfl⟩
  · have hI' : Ims s.size (q + 1) ps := by rw [hsz]; exact hI
    obtain ⟨m1, m2, m3, m4, m5, m6⟩ := commit_mid hI' h0 hd hwf hc (by omega) keep
    rw [hsz] at m6
    rcases m6 with ⟨e, m6⟩ | m6
    · exact ⟨cnt, q, _, _, _, m1, m2, m3, m4.trans hsz, by omega, way_old (by decide) hB, m6, .inr ⟨rfl, e⟩⟩
    · exact ⟨_, q + 1, _, _, _, m1, m2, m3, m4.trans hsz, by omega, way_new (by decide) hI, m6, .inl rfl⟩
end Go.Proofs.YtmpiggcooboenaaDoor.Al
/- Directories: Get and Set. -/
namespace Go.Proofs.YtmpiggcooboenaaDoor.Al
open Go Go.Al Go.Proofs Go.RowKit
set_option maxHeartbeats 8000000
set_option maxRecDepth 100000
set_option linter.unusedVariables false
set_option linter.unusedSimpArgs false
theorem load_len {α : Type} {o : DOps α} {a : α} {p : Int} (h : loadE o a p = 0) : (loadL o a p).length = 240 := by
  unfold loadE at h
  unfold loadL
  split at h
  · next e =>
    rw [if_pos e, if_neg (by rw [h]; decide)]
    exact pg_len (o.sz a) (o.rdL a) p
  · cases h
theorem lk_mem : ∀ {S : PgL} {p : Int} {d : List UInt8}, lkS S p = some d → (p, d) ∈ S
  | x :: t, p, d, h => by
    have h : (if p = x.1 then some x.2 else lkS t p) = some d := h
    by_cases e : p = x.1
    · rw [if_pos e] at h
      cases h
      rw [e]
      exact List.mem_cons_self
    · rw [if_neg e] at h
      exact List.mem_cons_of_mem _ (lk_mem h)
theorem pgD_len {α : Type} {o : DOps α} {a : α} {S : PgL} {n p : Int} (hS : OkS n S) (h : pgE o a S p = 0) : (pgD o a S p).length = 240 := by
  unfold pgE at h
  unfold pgD
  cases e : lkS S p with
  | none => rw [e] at h; exact load_len h
  | some d => exact (hS _ (lk_mem e)).2
def putAt (l : List UInt8) (i : Nat) (page : Int) : List UInt8 := l.take i ++ (beM 4 page ++ l.drop (i + 4))
def dgE {α : Type} (o : DOps α) (a : α) (S : PgL) (d : Int) (ms : List Int) (slot : Int) : Int := if okF d ms.length slot = true then pgE o a S (fdP d ms slot) else 1
def dgN {α : Type} (o : DOps α) (a : α) (S : PgL) (d : Int) (ms : List Int) (slot : Int) : Int := if okF d ms.length slot = true then (if pgE o a S (fdP d ms slot) ≠ 0 then 0 else getN (pgD o a S (fdP d ms slot)) (fdA d ms slot).toNat 4) else 0
def dsE {α : Type} (o : DOps α) (a : α) (S : PgL) (d : Int) (ms : List Int) (slot page : Int) : Int := if okF d ms.length slot = true ∧ inM 4 page = true then (if pgE o a S (fdP d ms slot) ≠ 0 then pgE o a S (fdP d ms slot) else psE (o.sz a) (fdP d ms slot) (putAt (pgD o a S (fdP d ms slot)) (fdA d ms slot).toNat page)) else 1
def dsS {α : Type} (o : DOps α) (a : α) (S : PgL) (d : Int) (ms : List Int) (slot page : Int) : PgL := if okF d ms.length slot = true ∧ inM 4 page = true then (if pgE o a S (fdP d ms slot) ≠ 0 then S else psS (o.sz a) S (fdP d ms slot) (putAt (pgD o a S (fdP d ms slot)) (fdA d ms slot).toNat page)) else S
theorem sim_dir {s : DS} {r : RS} (h : Sim s r) (S : PgL) (d : Int) (ms : List Int) (slot : Int) : dgE dsO s S d ms slot = dgE rsO r S d ms slot ∧ dgN dsO s S d ms slot = dgN rsO r S d ms slot ∧ ∀ page, dsE dsO s S d ms slot page = dsE rsO r S d ms slot page ∧ dsS dsO s S d ms slot page = dsS rsO r S d ms slot page := by
  obtain ⟨h1, h2⟩ := sim_pg h S (fdP d ms slot)
  have h3 : dsO.sz s = rsO.sz r := (sim_same h).sz
  unfold dgE dgN dsE dsS
  rw [h1, h2, h3]
  exact ⟨rfl, rfl, fun _ => ⟨rfl, rfl⟩⟩
theorem fd_at {d : Int} {ms : List Int} {slot : Int} : ∃ i : Nat, fdA d ms slot = (i : Int) ∧ i ≤ 236 := by
  unfold fdA
  split
  · next h =>
    have := (of_decide_eq_true (show decide _ = true from h)).2.2.2.1
    exact ⟨(slot % 60 * 4).toNat, by omega, by omega⟩
  · exact ⟨0, rfl, by decide⟩
theorem putAt_len {l : List UInt8} {i : Nat} {page : Int} (hl : l.length = 240) (hi : i ≤ 236) : (putAt l i page).length = 240 := by
  unfold putAt
  rw [List.length_append, List.length_append, List.length_take, List.length_drop, beM_len]
  omega
theorem dirGet {D F : Heap} {pb : Nat} {s : DS} {q : Int} {S : PgL} (hE : Ext D F) (hD : Pg D pb s q S) (hN : NibAt F) (d f n k : Int) (A : Option Addr) (ms : List Int) (c : Nat) (slot : Int) (hr : RowAt F A (ms.map (.int .i64))) (hl : ms.length ≤ 1000000) :
    FnK Tryd.prog 13 #[.pointer (some ⟨pb, 0, none⟩), .agg (mtC d f n k A ms.length c), .int .i64 slot] F (fun v F' => v = .tuple #[.int .i64 (dgN dsO s S d ms slot), .int .i64 (dgE dsO s S d ms slot)] ∧ Ext F F') := by
  have k1 := fun F h => find_ d f n k A ms c slot F h hl
  have k2 := fun F hE hN => pgGet (F := F) hE hD hN (fdP d ms slot)
  obtain ⟨i, hi, hi2⟩ := fd_at (d := d) (ms := ms) (slot := slot)
  have hdl := pgD_len (o := dsO) (a := s) (p := fdP d ms slot) hD.2.1
  have hE0 : dgE dsO s S d ms slot = if okF d ms.length slot = true then pgE dsO s S (fdP d ms slot) else 1 := rfl
  have hN0 : dgN dsO s S d ms slot = if okF d ms.length slot = true then (if pgE dsO s S (fdP d ms slot) ≠ 0 then 0 else getN (pgD dsO s S (fdP d ms slot)) (fdA d ms slot).toNat 4) else 0 := rfl
  rw [hi] at hN0 k1
  rw [Int.toNat_natCast] at hN0
  generalize dgE dsO s S d ms slot = ge at hE0 ⊢
  generalize dgN dsO s S d ms slot = gn at hN0 ⊢
  generalize okF d ms.length slot = K at k1 hE0 hN0
  generalize fdP d ms slot = P at k1 k2 hdl hE0 hN0
  generalize pgE dsO s S P = e at k2 hdl hE0 hN0
  generalize pgD dsO s S P = dd at k2 hdl hN0
  (refine fn_walk tab_ok Tryd.func13 rfl rfl rfl rfl ?_; (conv => whnf))
  refine new_step (.cells (mtC d f n k A ms.length c) 24) rfl fun t h0_t => ?_
  have hE_t := Ext.new h0_t (.cells (mtC d f n k A ms.length c) 24)
  have hB_t := Heap.put_same F t (.cells (mtC d f n k A ms.length c) 24)
  generalize F.put t _ = F1 at hE_t hB_t ⊢
  ((conv => whnf); repeat (first | (apply load_at; (conv => lhs; whnf); (with_reducible assumption); rfl; (conv => whnf)) | (apply load_at; (conv => lhs; rw [add_plain, add_plain]); (with_reducible assumption); rfl; (conv => whnf)) | (apply loads_at; (conv => lhs; whnf); (with_reducible assumption); rfl; (conv => whnf)) | (refine ⟨⟨by omega, by omega⟩, ?_⟩; (conv => whnf))))
  refine call_of (k1 F1 (hr.mono hE_t)) ?_
  rintro v F2 ⟨rfl, hE2⟩
  refine short [0, 2, 4, 15] [.pointer (some ⟨pb, 0, none⟩), .int .i64 slot, .pointer (some ⟨t, 0, none⟩), .tuple #[.agg #[.int .i64 P, .int .i64 (i : Int)], .bool K]] rfl fun ρ => ?_
  ((conv => whnf); repeat (first | (apply load_at; (conv => lhs; whnf); (with_reducible assumption); rfl; (conv => whnf)) | (apply load_at; (conv => lhs; rw [add_plain, add_plain]); (with_reducible assumption); rfl; (conv => whnf)) | (apply loads_at; (conv => lhs; whnf); (with_reducible assumption); rfl; (conv => whnf)) | (refine ⟨⟨by omega, by omega⟩, ?_⟩; (conv => whnf))))
  refine new_step (.cells #[.int .i64 0, .int .i64 0] 95) rfl fun u h0_u => ?_
  have hU_u := Heap.put_same F2 u (.cells #[.int .i64 0, .int .i64 0] 95)
  have hX_u := fun o => (ext_put_put h0_u (o := .cells #[.int .i64 0, .int .i64 0] 95) (o' := o))
  generalize F2.put u (.cells #[.int .i64 0, .int .i64 0] 95) = F3 at hU_u hX_u ⊢
  (conv => whnf)
  refine store_step u 0 _ (#[.int .i64 P, .int .i64 (i : Int)]) rfl hU_u rfl rfl (.inl (Nat.le_refl 0)) (two_ints _ _) ?_
  have hB_u := Heap.put_same F3 u (.cells #[.int .i64 P, .int .i64 (i : Int)] 95)
  have hE_u := hX_u (.cells #[.int .i64 P, .int .i64 (i : Int)] 95)
  clear hU_u hX_u
  generalize F3.put u _ = F3 at hB_u hE_u ⊢
  have hE3 := hE_t.trans (hE2.trans hE_u)
  cases K with
  | false =>
    obtain rfl : ge = 1 := hE0
    obtain rfl : gn = 0 := hN0
    ((conv => whnf); repeat (first | (apply load_at; (conv => lhs; whnf); (with_reducible assumption); rfl; (conv => whnf)) | (apply load_at; (conv => lhs; rw [add_plain, add_plain]); (with_reducible assumption); rfl; (conv => whnf)) | (apply loads_at; (conv => lhs; whnf); (with_reducible assumption); rfl; (conv => whnf)) | (refine ⟨⟨by omega, by omega⟩, ?_⟩; (conv => whnf))))
    exact ⟨rfl, hE3⟩
  | true =>
  rw [if_pos rfl] at hE0 hN0
  subst hE0
  ((conv => whnf); repeat (first | (apply load_at; (conv => lhs; whnf); (with_reducible assumption); rfl; (conv => whnf)) | (apply load_at; (conv => lhs; rw [add_plain, add_plain]); (with_reducible assumption); rfl; (conv => whnf)) | (apply loads_at; (conv => lhs; whnf); (with_reducible assumption); rfl; (conv => whnf)) | (refine ⟨⟨by omega, by omega⟩, ?_⟩; (conv => whnf))))
  refine call_of (k2 F3 (hE.trans hE3) (hN.mono hE3)) ?_
  rintro v F4 ⟨w, rfl, ⟨B, bc, rfl, hbc, hbr, _⟩, hE4⟩
  have hB4 := hE4 _ _ hB_u
  refine short [8, 24] [.pointer (some ⟨u, 0, none⟩), .tuple #[.slice B dd.length bc, .int .i64 ge]] rfl fun ρ => ?_
  ((conv => whnf); repeat (first | (apply load_at; (conv => lhs; whnf); (with_reducible assumption); rfl; (conv => whnf)) | (apply load_at; (conv => lhs; rw [add_plain, add_plain]); (with_reducible assumption); rfl; (conv => whnf)) | (apply loads_at; (conv => lhs; whnf); (with_reducible assumption); rfl; (conv => whnf)) | (refine ⟨⟨by omega, by omega⟩, ?_⟩; (conv => whnf))))
  refine cond_split (fun h => ?_) (fun h => ?_)
  · have he : ge ≠ 0 := by
      have h : (ge != 0) = true := h
      simpa using h
    rw [if_pos he] at hN0
    subst hN0
    ((conv => whnf); repeat (first | (apply load_at; (conv => lhs; whnf); (with_reducible assumption); rfl; (conv => whnf)) | (apply load_at; (conv => lhs; rw [add_plain, add_plain]); (with_reducible assumption); rfl; (conv => whnf)) | (apply loads_at; (conv => lhs; whnf); (with_reducible assumption); rfl; (conv => whnf)) | (refine ⟨⟨by omega, by omega⟩, ?_⟩; (conv => whnf))))
    exact ⟨rfl, hE3.trans hE4⟩
  · have he : ge = 0 := by
      have h : (ge != 0) = false := h
      simpa using h
    rw [if_neg (by simpa using he)] at hN0
    subst hN0 he
    have hl4 := hdl rfl
    have k3 := getG 4 (.inr (.inr (.inl rfl))) dd B bc i F4 hbr (by omega) hbc (by omega)
    rw [show getE dd i 4 = 0 from if_pos (by omega)] at k3
    ((conv => whnf); repeat (first | (apply load_at; (conv => lhs; whnf); (with_reducible assumption); rfl; (conv => whnf)) | (apply load_at; (conv => lhs; rw [add_plain, add_plain]); (with_reducible assumption); rfl; (conv => whnf)) | (apply loads_at; (conv => lhs; whnf); (with_reducible assumption); rfl; (conv => whnf)) | (refine ⟨⟨by omega, by omega⟩, ?_⟩; (conv => whnf))))
    refine call_of k3 ?_
    rintro v F5 ⟨rfl, rfl⟩
    ((conv => whnf); repeat (first | (apply load_at; (conv => lhs; whnf); (with_reducible assumption); rfl; (conv => whnf)) | (apply load_at; (conv => lhs; rw [add_plain, add_plain]); (with_reducible assumption); rfl; (conv => whnf)) | (apply loads_at; (conv => lhs; whnf); (with_reducible assumption); rfl; (conv => whnf)) | (refine ⟨⟨by omega, by omega⟩, ?_⟩; (conv => whnf))))
    exact ⟨rfl, hE3.trans hE4⟩
theorem rdirGet {X F : Heap} {xb : Nat} {r : RS} {q : Int} {S : PgL} (hE : Ext X F) (hX : Rp X xb r q S) (d f n k : Int) (A : Option Addr) (ms : List Int) (c : Nat) (slot : Int) (hr : RowAt F A (ms.map (.int .i64))) (hl : ms.length ≤ 1000000) :
    FnK Tryd.prog 14 #[.pointer (some ⟨xb, 0, none⟩), .agg (mtC d f n k A ms.length c), .int .i64 slot] F (fun v F' => v = .tuple #[.int .i64 (dgN rsO r S d ms slot), .int .i64 (dgE rsO r S d ms slot)] ∧ Ext F F') := by
  have k1 := fun F => rright_ d f n k A ms c slot F hl
  have k2 := fun F hE => rpGet (F := F) hE hX (fdP d ms slot)
  have hdl := pgD_len (o := rsO) (a := r) (p := fdP d ms slot) hX.2.1
  have hE0 : dgE rsO r S d ms slot = if okF d ms.length slot = true then pgE rsO r S (fdP d ms slot) else 1 := rfl
  have hN0 : dgN rsO r S d ms slot = if okF d ms.length slot = true then (if pgE rsO r S (fdP d ms slot) ≠ 0 then 0 else getN (pgD rsO r S (fdP d ms slot)) (fdA d ms slot).toNat 4) else 0 := rfl
  have hP0 : fdP d ms slot = if okF d ms.length slot = true then (ms[(slot / 60).toNat]?).getD 0 else 0 := rfl
  have hA0 : fdA d ms slot = if okF d ms.length slot = true then slot % 60 * 4 else 0 := rfl
  have hplace := fun h => place_lt (d := d) (l := ms.length) (slot := slot) h
  generalize dgE rsO r S d ms slot = ge at hE0 ⊢
  generalize dgN rsO r S d ms slot = gn at hN0 ⊢
  generalize okF d ms.length slot = K at k1 hE0 hN0 hP0 hA0 hplace
  generalize fdP d ms slot = P at k2 hdl hE0 hN0 hP0
  generalize fdA d ms slot = T at hN0 hA0
  generalize pgE rsO r S P = e at k2 hdl hE0 hN0
  generalize pgD rsO r S P = dd at k2 hdl hN0
  (refine fn_walk tab_ok Tryd.func14 rfl rfl rfl rfl ?_; (conv => whnf))
  refine new_step (.cells (mtC d f n k A ms.length c) 24) rfl fun t h0_t => ?_
  have hE_t := Ext.new h0_t (.cells (mtC d f n k A ms.length c) 24)
  have hB_t := Heap.put_same F t (.cells (mtC d f n k A ms.length c) 24)
  generalize F.put t _ = F1 at hE_t hB_t ⊢
  ((conv => whnf); repeat (first | (apply load_at; (conv => lhs; whnf); (with_reducible assumption); rfl; (conv => whnf)) | (apply load_at; (conv => lhs; rw [add_plain, add_plain]); (with_reducible assumption); rfl; (conv => whnf)) | (apply loads_at; (conv => lhs; whnf); (with_reducible assumption); rfl; (conv => whnf)) | (refine ⟨⟨by omega, by omega⟩, ?_⟩; (conv => whnf))))
  refine call_of (k1 F1) ?_
  rintro v F2 ⟨rfl, hE2⟩
  have hE3 := hE_t.trans hE2
  have hB2 := hE2 _ _ hB_t
  refine short [0, 2, 4, 14] [.pointer (some ⟨xb, 0, none⟩), .int .i64 slot, .pointer (some ⟨t, 0, none⟩), .bool K] rfl fun ρ => ?_
  cases K with
  | false =>
    obtain rfl : ge = 1 := hE0
    obtain rfl : gn = 0 := hN0
    ((conv => whnf); repeat (first | (apply load_at; (conv => lhs; whnf); (with_reducible assumption); rfl; (conv => whnf)) | (apply load_at; (conv => lhs; rw [add_plain, add_plain]); (with_reducible assumption); rfl; (conv => whnf)) | (apply loads_at; (conv => lhs; whnf); (with_reducible assumption); rfl; (conv => whnf)) | (refine ⟨⟨by omega, by omega⟩, ?_⟩; (conv => whnf))))
    exact ⟨rfl, hE3⟩
  | true =>
  rw [if_pos rfl] at hE0 hN0 hP0 hA0
  subst hE0
  obtain ⟨g1, g2, g3⟩ := hplace rfl
  obtain ⟨j, hj⟩ : ∃ j : Nat, slot / 60 = (j : Int) := ⟨(slot / 60).toNat, by omega⟩
  rw [hj, Int.toNat_natCast] at hP0
  have hjl : j < ms.length := by omega
  have e1 : IntKind.i64.wrap (slot.tdiv 60) = (j : Int) := by rw [Int.tdiv_eq_ediv_of_nonneg (by omega), hj, wrap_eq (by omega) (by omega)]
  obtain ⟨i, hi⟩ : ∃ i : Nat, T = (i : Int) := ⟨T.toNat, by omega⟩
  have e2 : IntKind.i64.wrap (slot.tmod 60 * 4) = (i : Int) := by rw [Int.tmod_eq_emod_of_nonneg (by omega), ← hA0, wrap_eq (by omega) (by omega), hi]
  rw [hi, Int.toNat_natCast] at hN0
  obtain ⟨ad, rfl⟩ := hr.some (by rw [List.length_map]; omega)
  have hcl := one_cell (j := j) (v := .int .i64 P) (hr.mono hE3) (by rw [List.getElem?_map, List.getElem?_eq_getElem hjl, hP0, List.getElem?_eq_getElem hjl]; rfl)
  ((conv => whnf); repeat (first | (apply load_at; (conv => lhs; whnf); (with_reducible assumption); rfl; (conv => whnf)) | (apply load_at; (conv => lhs; rw [add_plain, add_plain]); (with_reducible assumption); rfl; (conv => whnf)) | (apply loads_at; (conv => lhs; whnf); (with_reducible assumption); rfl; (conv => whnf)) | (refine ⟨⟨by omega, by omega⟩, ?_⟩; (conv => whnf))))
  refine ⟨by decide, ?_⟩
  ((conv => whnf); repeat (first | (apply load_at; (conv => lhs; whnf); (with_reducible assumption); rfl; (conv => whnf)) | (apply load_at; (conv => lhs; rw [add_plain, add_plain]); (with_reducible assumption); rfl; (conv => whnf)) | (apply loads_at; (conv => lhs; whnf); (with_reducible assumption); rfl; (conv => whnf)) | (refine ⟨⟨by omega, by omega⟩, ?_⟩; (conv => whnf))))
  rw [e1]
  ((conv => whnf); repeat (first | (apply load_at; (conv => lhs; whnf); (with_reducible assumption); rfl; (conv => whnf)) | (apply load_at; (conv => lhs; rw [add_plain, add_plain]); (with_reducible assumption); rfl; (conv => whnf)) | (apply loads_at; (conv => lhs; whnf); (with_reducible assumption); rfl; (conv => whnf)) | (refine ⟨⟨by omega, by omega⟩, ?_⟩; (conv => whnf))))
  refine load_step hcl ?_
  ((conv => whnf); repeat (first | (apply load_at; (conv => lhs; whnf); (with_reducible assumption); rfl; (conv => whnf)) | (apply load_at; (conv => lhs; rw [add_plain, add_plain]); (with_reducible assumption); rfl; (conv => whnf)) | (apply loads_at; (conv => lhs; whnf); (with_reducible assumption); rfl; (conv => whnf)) | (refine ⟨⟨by omega, by omega⟩, ?_⟩; (conv => whnf))))
  refine call_of (k2 F2 (hE.trans hE3)) ?_
  rintro v F4 ⟨w, rfl, ⟨B, bc, rfl, hbc, hbr, _⟩, hE4⟩
  refine short [2, 24] [.int .i64 slot, .tuple #[.slice B dd.length bc, .int .i64 ge]] rfl fun ρ => ?_
  ((conv => whnf); repeat (first | (apply load_at; (conv => lhs; whnf); (with_reducible assumption); rfl; (conv => whnf)) | (apply load_at; (conv => lhs; rw [add_plain, add_plain]); (with_reducible assumption); rfl; (conv => whnf)) | (apply loads_at; (conv => lhs; whnf); (with_reducible assumption); rfl; (conv => whnf)) | (refine ⟨⟨by omega, by omega⟩, ?_⟩; (conv => whnf))))
  refine cond_split (fun h => ?_) (fun h => ?_)
  · have he : ge ≠ 0 := by
      have h : (ge != 0) = true := h
      simpa using h
    rw [if_pos he] at hN0
    subst hN0
    ((conv => whnf); repeat (first | (apply load_at; (conv => lhs; whnf); (with_reducible assumption); rfl; (conv => whnf)) | (apply load_at; (conv => lhs; rw [add_plain, add_plain]); (with_reducible assumption); rfl; (conv => whnf)) | (apply loads_at; (conv => lhs; whnf); (with_reducible assumption); rfl; (conv => whnf)) | (refine ⟨⟨by omega, by omega⟩, ?_⟩; (conv => whnf))))
    exact ⟨rfl, hE3.trans hE4⟩
  · have he : ge = 0 := by
      have h : (ge != 0) = false := h
      simpa using h
    rw [if_neg (by simpa using he)] at hN0
    subst hN0 he
    have hl4 := hdl rfl
    have k3 := rgetG 4 (.inr (.inr (.inl rfl))) dd B bc i F4 hbr (by omega) hbc (by omega)
    rw [show getE dd i 4 = 0 from if_pos (by omega)] at k3
    ((conv => whnf); repeat (first | (apply load_at; (conv => lhs; whnf); (with_reducible assumption); rfl; (conv => whnf)) | (apply load_at; (conv => lhs; rw [add_plain, add_plain]); (with_reducible assumption); rfl; (conv => whnf)) | (apply loads_at; (conv => lhs; whnf); (with_reducible assumption); rfl; (conv => whnf)) | (refine ⟨⟨by omega, by omega⟩, ?_⟩; (conv => whnf))))
    refine ⟨by decide, ?_⟩
    ((conv => whnf); repeat (first | (apply load_at; (conv => lhs; whnf); (with_reducible assumption); rfl; (conv => whnf)) | (apply load_at; (conv => lhs; rw [add_plain, add_plain]); (with_reducible assumption); rfl; (conv => whnf)) | (apply loads_at; (conv => lhs; whnf); (with_reducible assumption); rfl; (conv => whnf)) | (refine ⟨⟨by omega, by omega⟩, ?_⟩; (conv => whnf))))
    rw [e2]
    ((conv => whnf); repeat (first | (apply load_at; (conv => lhs; whnf); (with_reducible assumption); rfl; (conv => whnf)) | (apply load_at; (conv => lhs; rw [add_plain, add_plain]); (with_reducible assumption); rfl; (conv => whnf)) | (apply loads_at; (conv => lhs; whnf); (with_reducible assumption); rfl; (conv => whnf)) | (refine ⟨⟨by omega, by omega⟩, ?_⟩; (conv => whnf))))
    refine call_of k3 ?_
    rintro v F5 ⟨rfl, rfl⟩
    ((conv => whnf); repeat (first | (apply load_at; (conv => lhs; whnf); (with_reducible assumption); rfl; (conv => whnf)) | (apply load_at; (conv => lhs; rw [add_plain, add_plain]); (with_reducible assumption); rfl; (conv => whnf)) | (apply loads_at; (conv => lhs; whnf); (with_reducible assumption); rfl; (conv => whnf)) | (refine ⟨⟨by omega, by omega⟩, ?_⟩; (conv => whnf))))
    exact ⟨rfl, hE3.trans hE4⟩
end Go.Proofs.YtmpiggcooboenaaDoor.Al
/- Directories: Set. -/
namespace Go.Proofs.YtmpiggcooboenaaDoor.Al
open Go Go.Al Go.Proofs Go.RowKit
set_option maxHeartbeats 8000000
set_option maxRecDepth 100000
set_option linter.unusedVariables false
set_option linter.unusedSimpArgs false
theorem copy_live {P : Program} {T : Tab} (hT : TabOk P T) {o : Oper} {ev : Operand → Value} {F : Heap} {K : Value → Heap → Prop} {t u e e' : TypeId} {p q : Operand} {g off dl dc m : Nat} {y : Value} {ys : List Value} {cur : Array Value} {fz : Nat × Nat} {a1 a2 : Nat} {z1 : Option Value} {d : TD}
    (ho : o.op = .call ⟨.builtin .copy, #[p, q], #[t, u]⟩) (hp : ev p = .slice (some ⟨g, off, none⟩) dl dc) (hq : ev q = y) (h1 : T t = some ⟨a1, a2, .slice e, z1⟩) (h2 : T e = some d) (hd1 : d.size = 1)
    (hy : Src F 1 m y ys) (hg : F g = some (.cells cur e' fz)) (hfz : fz.2 ≤ fz.1 ∨ cur.size ≤ fz.1) (hsz : off + dl ≤ cur.size) (hone : ∀ v ∈ ys, v.oneCell' = true)
    (hk : K (.int .i64 (min m dl : Nat)) (F.put g (.cells (putL cur.toList off (ys.take (min m dl))).toArray e' fz))) : OpK P o ev F K := by
  obtain ⟨hu1, _⟩ := hT _ _ h1
  obtain ⟨_, i, hi, hs, _, _⟩ := hT _ _ h2
  refine ⟨opW_v (s := Builtin.copy_ #[t, u] o.type #[.slice (some ⟨g, off, none⟩) dl dc, y]) (by simp [execOp, ho, resolve, invoke, builtin, hp, hq]) ?_⟩
  unfold Builtin.copy_
  simp only [List.getElem?_toArray, List.getElem?_cons_zero, List.getElem?_cons_succ]
  rw [wk_bind, wk_underlying hu1]
  dsimp only
  rw [wk_bind]
  refine hy.len _ ?_
  rw [show Nat.min m dl = min m dl from rfl, wk_bind, wk_sizeOf hi, hs, hd1, wk_bind]
  have hlen : (ys.take (min m dl)).length = min m dl := by rw [List.length_take, hy.1, Nat.mul_one]; omega
  have hcl : ∀ K' : Array Value → Heap → Prop, K' (ys.take (min m dl)).toArray F → wk P (Builtin.firstCells 1 (min m dl) y) F K' := fun K' hK => by
    rcases hy.2 with ⟨A, c, rfl, hr⟩ | ⟨s, rfl, _, hm, hys⟩
    · exact wk_firstCells (hr.take (min m dl)) (by rw [hlen, Nat.mul_one]) K' hK
    · show K' ((s.extract 0 (min m dl)).data.map fun b => .int .u8 b.toNat) F
      have : ((s.extract 0 (min m dl)).data.map fun b : UInt8 => Value.int .u8 b.toNat) = (ys.take (min m dl)).toArray := by
        apply Array.ext'
        rw [hys, ← List.map_take]
        simp
      rw [this]; exact hK
  refine hcl _ ?_
  simp only [wk_bind]
  refine wk_storeCells (a := ⟨g, off, none⟩) (e := e') (fz := fz) rfl (ys.take (min m dl)) 0 F cur _ hg (by rw [hlen]; show off + 0 + min m dl ≤ _; omega) (hfz.imp id fun h => by rw [hlen]; show off + 0 + min m dl ≤ _; omega) (fun v hv => hone v (List.mem_of_mem_take hv)) ?_
  exact hk
theorem put4 {page : Int} (h : inM 4 page = true) : putM 4 [] page = beM 4 page := by
  unfold putM
  rw [h, cond_true, List.nil_append]
theorem bytes_take (l : List UInt8) (n : Nat) : (bytesOf l).take n = bytesOf (l.take n) := by unfold bytesOf; rw [List.map_take]
theorem bytes_drop (l : List UInt8) (n : Nat) : (bytesOf l).drop n = bytesOf (l.drop n) := by unfold bytesOf; rw [List.map_drop]
theorem dirSet {D F : Heap} {pb : Nat} {s : DS} {q : Int} {S : PgL} (hE : Ext D F) (hD : Pg D pb s q S) (hN : NibAt F) (d f n k : Int) (A : Option Addr) (ms : List Int) (c : Nat) (slot page : Int) (hr : RowAt F A (ms.map (.int .i64))) (hl : ms.length ≤ 1000000) :
    FnK Tryd.prog 11 #[.pointer (some ⟨pb, 0, none⟩), .agg (mtC d f n k A ms.length c), .int .i64 slot, .int .i64 page] F (fun v F' => v = .int .i64 (dsE dsO s S d ms slot page) ∧ ∃ D', Moves D F D' F' ∧ Pg D' pb s q (dsS dsO s S d ms slot page)) := by
  have k1 := fun F h => find_ d f n k A ms c slot F h hl
  have k0 := fun F => rightG 4 (.inr (.inr (.inl rfl))) page F
  have k2 := fun F hE hN => pgGetM (F := F) hE hD hN (fdP d ms slot)
  have kp := put4 (page := page)
  have k3 := fun F => putG 4 (.inr (.inr (.inl rfl))) [] none 0 page F (RowAt.nil _ _) (Nat.zero_le _)
  obtain ⟨i, hi, hi2⟩ := fd_at (d := d) (ms := ms) (slot := slot)
  have hdl := pgD_len (o := dsO) (a := s) (p := fdP d ms slot) hD.2.1
  have hE0 : dsE dsO s S d ms slot page = if okF d ms.length slot = true ∧ inM 4 page = true then (if pgE dsO s S (fdP d ms slot) ≠ 0 then pgE dsO s S (fdP d ms slot) else psE s.size (fdP d ms slot) (putAt (pgD dsO s S (fdP d ms slot)) (fdA d ms slot).toNat page)) else 1 := rfl
  have hS0 : dsS dsO s S d ms slot page = if okF d ms.length slot = true ∧ inM 4 page = true then (if pgE dsO s S (fdP d ms slot) ≠ 0 then S else psS s.size S (fdP d ms slot) (putAt (pgD dsO s S (fdP d ms slot)) (fdA d ms slot).toNat page)) else S := rfl
  have k4 := fun l F hE A c hr hl => pgSet (F := F) hE hD l A c hr hl (fdP d ms slot)
  have hpl := fun l h => putAt_len (l := l) (page := page) h hi2
  have hpd : ∀ l, putAt l i page = l.take i ++ (beM 4 page ++ l.drop (i + 4)) := fun l => rfl
  have hbl := beM_len 4 page
  rw [hi] at hE0 hS0 k1
  rw [Int.toNat_natCast] at hE0 hS0
  generalize dsE dsO s S d ms slot page = se at hE0 ⊢
  generalize dsS dsO s S d ms slot page = sS at hS0 ⊢
  generalize okF d ms.length slot = K at k1 hE0 hS0
  generalize inM 4 page = Z at k0 kp hE0 hS0
  generalize fdP d ms slot = P at k1 k2 k4 hdl hE0 hS0
  generalize pgE dsO s S P = e at k2 hdl hE0 hS0
  generalize pgD dsO s S P = dd at k2 hdl hE0 hS0
  generalize putM 4 [] page = pm at kp k3
  generalize beM 4 page = be at kp hpd hbl
  have hp : putAt dd i page = putAt dd i page := rfl
  have hpl := hpl dd
  have hpd := hpd dd
  have k4 := k4 (putAt dd i page)
  generalize putAt dd i page = nd at hE0 hS0 hpl hpd k4
  clear hp
  generalize psE s.size P nd = pe at k4 hE0
  generalize psS s.size S P nd = pS at k4 hS0
  (refine fn_walk tab_ok Tryd.func11 rfl rfl rfl rfl ?_; (conv => whnf))
  refine new_step (.cells (mtC d f n k A ms.length c) 24) rfl fun t h0_t => ?_
  have hE_t := Ext.new h0_t (.cells (mtC d f n k A ms.length c) 24)
  have hB_t := Heap.put_same F t (.cells (mtC d f n k A ms.length c) 24)
  generalize F.put t _ = F1 at hE_t hB_t ⊢
  ((conv => whnf); repeat (first | (apply load_at; (conv => lhs; whnf); (with_reducible assumption); rfl; (conv => whnf)) | (apply load_at; (conv => lhs; rw [add_plain, add_plain]); (with_reducible assumption); rfl; (conv => whnf)) | (apply loads_at; (conv => lhs; whnf); (with_reducible assumption); rfl; (conv => whnf)) | (refine ⟨⟨by omega, by omega⟩, ?_⟩; (conv => whnf))))
  refine call_of (k1 F1 (hr.mono hE_t)) ?_
  rintro v F2 ⟨rfl, hE2⟩
  refine short [0, 2, 3, 5, 16] [.pointer (some ⟨pb, 0, none⟩), .int .i64 slot, .int .i64 page, .pointer (some ⟨t, 0, none⟩), .tuple #[.agg #[.int .i64 P, .int .i64 (i : Int)], .bool K]] rfl fun ρ => ?_
  ((conv => whnf); repeat (first | (apply load_at; (conv => lhs; whnf); (with_reducible assumption); rfl; (conv => whnf)) | (apply load_at; (conv => lhs; rw [add_plain, add_plain]); (with_reducible assumption); rfl; (conv => whnf)) | (apply loads_at; (conv => lhs; whnf); (with_reducible assumption); rfl; (conv => whnf)) | (refine ⟨⟨by omega, by omega⟩, ?_⟩; (conv => whnf))))
  refine new_step (.cells #[.int .i64 0, .int .i64 0] 95) rfl fun u h0_u => ?_
  have hU_u := Heap.put_same F2 u (.cells #[.int .i64 0, .int .i64 0] 95)
  have hX_u := fun o => (ext_put_put h0_u (o := .cells #[.int .i64 0, .int .i64 0] 95) (o' := o))
  generalize F2.put u (.cells #[.int .i64 0, .int .i64 0] 95) = F3 at hU_u hX_u ⊢
  (conv => whnf)
  refine store_step u 0 _ (#[.int .i64 P, .int .i64 (i : Int)]) rfl hU_u rfl rfl (.inl (Nat.le_refl 0)) (two_ints _ _) ?_
  have hB_u := Heap.put_same F3 u (.cells #[.int .i64 P, .int .i64 (i : Int)] 95)
  have hE_u := hX_u (.cells #[.int .i64 P, .int .i64 (i : Int)] 95)
  clear hU_u hX_u
  generalize F3.put u _ = F3 at hB_u hE_u ⊢
  have hE3 := hE_t.trans (hE2.trans hE_u)
  cases K with
  | false =>
    rw [if_neg (by rintro ⟨h, _⟩; cases h)] at hE0 hS0
    subst hE0 hS0
    ((conv => whnf); repeat (first | (apply load_at; (conv => lhs; whnf); (with_reducible assumption); rfl; (conv => whnf)) | (apply load_at; (conv => lhs; rw [add_plain, add_plain]); (with_reducible assumption); rfl; (conv => whnf)) | (apply loads_at; (conv => lhs; whnf); (with_reducible assumption); rfl; (conv => whnf)) | (refine ⟨⟨by omega, by omega⟩, ?_⟩; (conv => whnf))))
    exact ⟨rfl, D, Moves.ext hE hE3, hD⟩
  | true =>
  ((conv => whnf); repeat (first | (apply load_at; (conv => lhs; whnf); (with_reducible assumption); rfl; (conv => whnf)) | (apply load_at; (conv => lhs; rw [add_plain, add_plain]); (with_reducible assumption); rfl; (conv => whnf)) | (apply loads_at; (conv => lhs; whnf); (with_reducible assumption); rfl; (conv => whnf)) | (refine ⟨⟨by omega, by omega⟩, ?_⟩; (conv => whnf))))
  refine call_of (k0 F3) ?_
  rintro v F3 ⟨rfl, rfl⟩
  cases Z with
  | false =>
    rw [if_neg (by rintro ⟨_, h⟩; cases h)] at hE0 hS0
    subst hE0 hS0
    ((conv => whnf); repeat (first | (apply load_at; (conv => lhs; whnf); (with_reducible assumption); rfl; (conv => whnf)) | (apply load_at; (conv => lhs; rw [add_plain, add_plain]); (with_reducible assumption); rfl; (conv => whnf)) | (apply loads_at; (conv => lhs; whnf); (with_reducible assumption); rfl; (conv => whnf)) | (refine ⟨⟨by omega, by omega⟩, ?_⟩; (conv => whnf))))
    exact ⟨rfl, D, Moves.ext hE hE3, hD⟩
  | true =>
  rw [if_pos ⟨rfl, rfl⟩] at hE0 hS0
  obtain rfl := kp rfl
  clear kp k0 k1
  refine short [0, 3, 9, 21, 23] [.pointer (some ⟨pb, 0, none⟩), .int .i64 page, .pointer (some ⟨u, 0, none⟩), .bool false, .bool true] rfl fun ρ => ?_
  ((conv => whnf); repeat (first | (apply load_at; (conv => lhs; whnf); (with_reducible assumption); rfl; (conv => whnf)) | (apply load_at; (conv => lhs; rw [add_plain, add_plain]); (with_reducible assumption); rfl; (conv => whnf)) | (apply loads_at; (conv => lhs; whnf); (with_reducible assumption); rfl; (conv => whnf)) | (refine ⟨⟨by omega, by omega⟩, ?_⟩; (conv => whnf))))
  refine call_of (k2 F3 (hE.trans hE3) (hN.mono hE3)) ?_
  rintro v F4 ⟨w, rfl, hM, hE4⟩
  have hB4 := hE4 _ _ hB_u
  refine short [0, 3, 9, 30] [.pointer (some ⟨pb, 0, none⟩), .int .i64 page, .pointer (some ⟨u, 0, none⟩), .tuple #[w, .int .i64 e]] rfl fun ρ => ?_
  ((conv => whnf); repeat (first | (apply load_at; (conv => lhs; whnf); (with_reducible assumption); rfl; (conv => whnf)) | (apply load_at; (conv => lhs; rw [add_plain, add_plain]); (with_reducible assumption); rfl; (conv => whnf)) | (apply loads_at; (conv => lhs; whnf); (with_reducible assumption); rfl; (conv => whnf)) | (refine ⟨⟨by omega, by omega⟩, ?_⟩; (conv => whnf))))
  refine cond_split (fun h => ?_) (fun h => ?_)
  · have he : e ≠ 0 := by
      have h : (e != 0) = true := h
      simpa using h
    rw [if_pos he] at hE0 hS0
    subst hE0 hS0
    ((conv => whnf); repeat (first | (apply load_at; (conv => lhs; whnf); (with_reducible assumption); rfl; (conv => whnf)) | (apply load_at; (conv => lhs; rw [add_plain, add_plain]); (with_reducible assumption); rfl; (conv => whnf)) | (apply loads_at; (conv => lhs; whnf); (with_reducible assumption); rfl; (conv => whnf)) | (refine ⟨⟨by omega, by omega⟩, ?_⟩; (conv => whnf))))
    exact ⟨rfl, D, Moves.ext hE (hE3.trans hE4), hD⟩
  have he : e = 0 := by
    have h : (e != 0) = false := h
    simpa using h
  rw [if_neg (by simpa using he)] at hE0 hS0
  subst hE0 hS0 he
  have hl4 := hdl rfl
  have hpl := hpl hl4
  obtain ⟨g, bc, cur, fz, rfl, hg, hsz, hnc, htk, hfz⟩ : ∃ g bc cur fz, w = .slice (some ⟨g, 0, none⟩) 240 bc ∧ F4 g = some (.cells cur 5 fz) ∧ cur.size = bc ∧ 240 ≤ bc ∧ cur.toList.take 240 = bytesOf dd ∧ (fz.2 ≤ fz.1 ∨ cur.size ≤ fz.1) := by
    obtain ⟨_, h2⟩ := hM.own
    rcases h2 with ⟨_, h3⟩ | ⟨g, bc, cur, h3, ⟨fz, h4, h5⟩, h6, h7, h8⟩
    · omega
    · rw [hl4] at h3 h7 h8
      exact ⟨g, bc, cur, fz, h3, h4, by omega, h7, h8, h5⟩
  have hgf : F3 g = none := hM.fresh g rfl
  have hgD : D g = none := (hE.trans hE3).none hgf
  have hgu : g ≠ u := fun e => by rw [e, hB_u] at hgf; cases hgf
  refine short [0, 3, 9, 11] [.pointer (some ⟨pb, 0, none⟩), .int .i64 page, .pointer (some ⟨u, 0, none⟩), .slice (some ⟨g, 0, none⟩) 240 bc] rfl fun ρ => ?_
  ((conv => whnf); repeat (first | (apply load_at; (conv => lhs; whnf); (with_reducible assumption); rfl; (conv => whnf)) | (apply load_at; (conv => lhs; rw [add_plain, add_plain]); (with_reducible assumption); rfl; (conv => whnf)) | (apply loads_at; (conv => lhs; whnf); (with_reducible assumption); rfl; (conv => whnf)) | (refine ⟨⟨by omega, by omega⟩, ?_⟩; (conv => whnf))))
  refine draw_walk tab_ok (by kernel_rfl) [0, 1, 2, 3, 4, 5, 6] (by kernel_rfl) ?_
  ((conv => whnf); repeat (first | (apply load_at; (conv => lhs; whnf); (with_reducible assumption); rfl; (conv => whnf)) | (apply load_at; (conv => lhs; rw [add_plain, add_plain]); (with_reducible assumption); rfl; (conv => whnf)) | (apply loads_at; (conv => lhs; whnf); (with_reducible assumption); rfl; (conv => whnf)) | (refine ⟨⟨by omega, by omega⟩, ?_⟩; (conv => whnf))))
  refine call_of (k3 F4) ?_
  rintro v F5 hM5
  have hE5 := hM5.ext
  obtain ⟨A5, c5, rfl, _, hr5⟩ := hM5.own.row
  (conv => whnf)
  refine ⟨hE5, ?_⟩
  ((conv => whnf); repeat (first | (apply load_at; (conv => lhs; whnf); (with_reducible assumption); rfl; (conv => whnf)) | (apply load_at; (conv => lhs; rw [add_plain, add_plain]); (with_reducible assumption); rfl; (conv => whnf)) | (apply loads_at; (conv => lhs; whnf); (with_reducible assumption); rfl; (conv => whnf)) | (refine ⟨⟨by omega, by omega⟩, ?_⟩; (conv => whnf))))
  refine copy_live (g := g) (off := i) (dl := 240 - i) (dc := bc - i) (m := pm.length) (ys := bytesOf pm) (y := .slice A5 pm.length c5) tab_ok rfl ?hp rfl rfl rfl rfl ⟨by rw [bytes_len]; exact (Nat.mul_one _).symm, .inl ⟨_, _, rfl, hr5⟩⟩ (hE5 _ _ hg) hfz (by omega) (hone_bytes _) ?_
  case hp =>
    conv => lhs; whnf
    refine slice_eq ?_ (by omega) (by omega)
    rw [if_neg (by omega), Int.toNat_natCast]
    show some (Addr.add ⟨g, 0, none⟩ (i * 1)) = _
    rw [add_plain, Nat.zero_add, Nat.mul_one]
  have hmin : List.take (min pm.length (240 - i)) (bytesOf pm) = bytesOf pm := List.take_of_length_le (by rw [bytes_len]; omega)
  have hB6 := Heap.put_same F5 g (.cells (putL cur.toList i (List.take (min pm.length (240 - i)) (bytesOf pm))).toArray 5 fz)
  have hEF : Ext F F5 := hE3.trans (hE4.trans hE5)
  have hE6 : Ext F (F5.put g (.cells (putL cur.toList i (List.take (min pm.length (240 - i)) (bytesOf pm))).toArray 5 fz)) := hEF.put (hE3.none hgf) _
  have hU6 : F5.put g (.cells (putL cur.toList i (List.take (min pm.length (240 - i)) (bytesOf pm))).toArray 5 fz) u = _ := (Heap.put_other _ _ (Ne.symm hgu)).trans (hE5 _ _ hB4)
  generalize F5.put g _ = F6 at hB6 hE6 hU6 ⊢
  rw [hmin] at hB6
  have hrow : RowAt F6 (some ⟨g, 0, none⟩) (bytesOf nd) := by
    have := (row_blk hB6).take 240
    rw [List.toList_toArray, putL_cut (by rw [bytes_len]; omega) (by rw [Array.length_toList]; omega), htk, bytes_len, hbl, bytes_take, bytes_drop, ← bytes_app, ← bytes_app, ← hpd] at this
    exact this
  have k5 := k4 F6 (hE.trans hE6) (some ⟨g, 0, none⟩) bc hrow (by omega)
  rw [hpl] at k5
  ((conv => whnf); repeat (first | (apply load_at; (conv => lhs; whnf); (with_reducible assumption); rfl; (conv => whnf)) | (apply load_at; (conv => lhs; rw [add_plain, add_plain]); (with_reducible assumption); rfl; (conv => whnf)) | (apply loads_at; (conv => lhs; whnf); (with_reducible assumption); rfl; (conv => whnf)) | (refine ⟨⟨by omega, by omega⟩, ?_⟩; (conv => whnf))))
  refine call_of k5 ?_
  rintro v F7 ⟨rfl, D', hM7, hD7⟩
  ((conv => whnf); repeat (first | (apply load_at; (conv => lhs; whnf); (with_reducible assumption); rfl; (conv => whnf)) | (apply load_at; (conv => lhs; rw [add_plain, add_plain]); (with_reducible assumption); rfl; (conv => whnf)) | (apply loads_at; (conv => lhs; whnf); (with_reducible assumption); rfl; (conv => whnf)) | (refine ⟨⟨by omega, by omega⟩, ?_⟩; (conv => whnf))))
  exact ⟨rfl, D', (Moves.ext hE hE6).trans hM7, hD7⟩
end Go.Proofs.YtmpiggcooboenaaDoor.Al
