/- Texts of this claim, joined: RfA RfB RfC RfD RfE RfF RfG RlA RedU RedV RedW RlB RlC RedX RlD AlIter PagA PagB PagC. -/
import Derived.Test.YtmpiggcooboenaaGreatDoorMgPag1
import Derived.Test.YtmpiggcooboenaaGreatDoorMgPag2
import Derived.Test.YtmpiggcooboenaaGreatDoorMgPag3
import Derived.Test.YtmpiggcooboenaaGreatDoorMgPag4
/- The reference's log: mark, Format, Pages, Load. -/
namespace Go.Proofs.YtmpiggcooboenaaGreatDoor.Al
open Go Go.Al Go.Proofs Go.RowKit
set_option maxHeartbeats 8000000
set_option maxRecDepth 100000
set_option linter.unusedVariables false
set_option linter.unusedSimpArgs false
theorem rk_cell {D : Heap} {b : Nat} {r : RS} (h : Rk D b r) : ∃ q, D b = some (rdO (.slice (some ⟨q, 0, none⟩) r.L.length r.L.length) r.turn r.done r.arm r.armed r.down) := by
  obtain ⟨_, q, os, G, hP⟩ := h
  refine ⟨q, ?_⟩
  have := hP.cell
  rw [hP.L, List.length_map]
  exact this
theorem rread_len {D : Heap} {b : Nat} {r : RS} (hD : Rk D b r) (i : Int) : (rreadL r i).length ≤ 256 := by
  obtain ⟨_, q, os, G, hP⟩ := hD
  unfold rreadL
  split
  · exact Nat.zero_le _
  unfold rsec
  split
  · next o ho =>
    have hm : o ∈ r.L := List.mem_of_getElem? ho
    rw [hP.L] at hm
    obtain ⟨x, hx, rfl⟩ := List.mem_map.1 hm
    have := (hP.ok x hx).ln
    unfold fullB
    rw [List.length_append, List.length_replicate]
    show x.l.length + (256 - x.l.length) ≤ 256
    omega
  · exact Nat.zero_le _
theorem rmark {D F : Heap} {b : Nat} {r : RS} (hE : Ext D F) (hD : Rk D b r) (n q : Int) (hw : r.done + 1 < 1000000000) :
    FnK Tryz.prog 44 #[.pointer (some ⟨b, 0, none⟩), .int .i64 n, .int .i64 q] F (fun v F' => v = .int .i64 (runW rsO r [(0, noteB n q)]).2 ∧ ∃ D', Moves D F D' F' ∧ Rk D' b (runW rsO r [(0, noteB n q)]).1) := by
  have h1 := fun A c F h => rpack n q (List.replicate 240 0) A c F h (by rw [List.length_replicate]; decide)
  have hnl : (noteB n q).length ≤ 900000 := by
    have := packB_le n q (List.replicate 240 0)
    show (packB n q (List.replicate 240 0)).length ≤ _
    omega
  have hM : runW rsO r [(0, noteB n q)] = if rwriteE r 0 (noteB n q) = 0 then (rflushS (rwriteS r 0 (noteB n q)), if (rwriteS r 0 (noteB n q)).down = true then 5 else 0) else (rwriteS r 0 (noteB n q), rwriteE r 0 (noteB n q)) := rfl
  generalize runW rsO r [(0, noteB n q)] = ms at hM
  have hnb : noteB n q = packB n q (List.replicate 240 0) := rfl
  rw [← hnb] at h1
  clear hnb
  generalize noteB n q = nb at h1 hM hnl
  generalize packE n q (List.replicate 240 0) = e at h1
  (refine fn_walk tab_ok Tryz.func44 rfl rfl rfl rfl ?_; (conv => whnf))
  refine make_one tab_ok (z0 := .int .u8 0) 240 240 rfl rfl rfl rfl rfl ⟨rfl, by decide, _, rfl, rfl⟩ (by decide) (by decide) fun g h0_g => ?_
  have hE_g := Ext.new h0_g (.cells (List.replicate 240 (Value.int .u8 0)).toArray 5)
  have hB_g := Heap.put_same F g (.cells (List.replicate 240 (Value.int .u8 0)).toArray 5)
  generalize F.put g _ = F1 at hE_g hB_g ⊢
  have hrow : RowAt F1 (some ⟨g, 0, none⟩) (bytesOf (List.replicate 240 0)) := by
    have := row_blk hB_g
    rw [List.toList_toArray, zeros_bytes] at this
    exact this
  ((conv => whnf); repeat (first | (apply load_at; (conv => lhs; whnf); (with_reducible assumption); rfl; (conv => whnf)) | (apply load_at; (conv => lhs; rw [add_plain, add_plain]); (with_reducible assumption); rfl; (conv => whnf)) | (apply loads_at; (conv => lhs; whnf); (with_reducible assumption); rfl; (conv => whnf)) | (refine ⟨⟨by omega, by omega⟩, ?_⟩; (conv => whnf))))
  refine call_of (h1 (some ⟨g, 0, none⟩) 240 F1 hrow) ?_
  rintro v F2 ⟨w, rfl, ⟨A, c, rfl, hc, hr, hf⟩, hE2⟩
  have hE02 := hE_g.trans hE2
  have hR := newH_ext F F2
  have hA : Apart D (newH F F2) := newH_apart F2 hE
  have hrR := newH_row hr fun a ha => hE_g.none (hf a ha)
  ((conv => whnf); repeat (first | (apply load_at; (conv => lhs; whnf); (with_reducible assumption); rfl; (conv => whnf)) | (apply load_at; (conv => lhs; rw [add_plain, add_plain]); (with_reducible assumption); rfl; (conv => whnf)) | (apply loads_at; (conv => lhs; whnf); (with_reducible assumption); rfl; (conv => whnf)) | (refine ⟨⟨by omega, by omega⟩, ?_⟩; (conv => whnf))))
  refine call_of (rwrite (hE.trans hE02) hD hR hA nb A c hrR hnl 0 (by omega)) ?_
  rintro v F3 ⟨rfl, D3, hM3, hD3⟩
  have hM03 := (Moves.ext hE hE02).trans hM3
  generalize rwriteS r 0 nb = r1 at hM hD3
  generalize rwriteE r 0 nb = e1 at hM ⊢
  refine short [0, 19] [.pointer (some ⟨b, 0, none⟩), .int .i64 e1] rfl fun ρ => ?_
  ((conv => whnf); repeat (first | (apply load_at; (conv => lhs; whnf); (with_reducible assumption); rfl; (conv => whnf)) | (apply load_at; (conv => lhs; rw [add_plain, add_plain]); (with_reducible assumption); rfl; (conv => whnf)) | (apply loads_at; (conv => lhs; whnf); (with_reducible assumption); rfl; (conv => whnf)) | (refine ⟨⟨by omega, by omega⟩, ?_⟩; (conv => whnf))))
  refine cond_split (fun h => ?_) (fun h => ?_)
  · have he : ¬ e1 = 0 := by
      have h : (e1 != 0) = true := h
      simpa using h
    rw [if_neg he] at hM
    subst hM
    ((conv => whnf); repeat (first | (apply load_at; (conv => lhs; whnf); (with_reducible assumption); rfl; (conv => whnf)) | (apply load_at; (conv => lhs; rw [add_plain, add_plain]); (with_reducible assumption); rfl; (conv => whnf)) | (apply loads_at; (conv => lhs; whnf); (with_reducible assumption); rfl; (conv => whnf)) | (refine ⟨⟨by omega, by omega⟩, ?_⟩; (conv => whnf))))
    exact ⟨rfl, D3, hM03, hD3⟩
  · have he : e1 = 0 := by
      have h : (e1 != 0) = false := h
      simpa using h
    rw [if_pos he] at hM
    subst hM
    ((conv => whnf); repeat (first | (apply load_at; (conv => lhs; whnf); (with_reducible assumption); rfl; (conv => whnf)) | (apply load_at; (conv => lhs; rw [add_plain, add_plain]); (with_reducible assumption); rfl; (conv => whnf)) | (apply loads_at; (conv => lhs; whnf); (with_reducible assumption); rfl; (conv => whnf)) | (refine ⟨⟨by omega, by omega⟩, ?_⟩; (conv => whnf))))
    refine call_of (rflush hM3.inn hD3) ?_
    rintro v F4 ⟨rfl, D4, hM4, hD4⟩
    ((conv => whnf); repeat (first | (apply load_at; (conv => lhs; whnf); (with_reducible assumption); rfl; (conv => whnf)) | (apply load_at; (conv => lhs; rw [add_plain, add_plain]); (with_reducible assumption); rfl; (conv => whnf)) | (apply loads_at; (conv => lhs; whnf); (with_reducible assumption); rfl; (conv => whnf)) | (refine ⟨⟨by omega, by omega⟩, ?_⟩; (conv => whnf))))
    exact ⟨rfl, D4, hM03.trans hM4, hD4⟩
theorem rformat {D F : Heap} {b : Nat} {r : RS} (hE : Ext D F) (hD : Rk D b r) (hw : r.done + 1 < 1000000000) :
    FnK Tryz.prog 27 #[.pointer (some ⟨b, 0, none⟩)] F (fun v F' => v = .int .i64 (runW rsO r [(0, noteB 0 1)]).2 ∧ ∃ D', Moves D F D' F' ∧ Rk D' b (runW rsO r [(0, noteB 0 1)]).1) := by
  have h1 := rmark hE hD 0 1 hw
  generalize runW rsO r [(0, noteB 0 1)] = ms at h1
  (refine fn_walk tab_ok Tryz.func27 rfl rfl rfl rfl ?_; (conv => whnf))
  refine call_of h1 ?_
  rintro v F1 ⟨rfl, D', hM, hD'⟩
  ((conv => whnf); repeat (first | (apply load_at; (conv => lhs; whnf); (with_reducible assumption); rfl; (conv => whnf)) | (apply load_at; (conv => lhs; rw [add_plain, add_plain]); (with_reducible assumption); rfl; (conv => whnf)) | (apply loads_at; (conv => lhs; whnf); (with_reducible assumption); rfl; (conv => whnf)) | (refine ⟨⟨by omega, by omega⟩, ?_⟩; (conv => whnf))))
  exact ⟨rfl, D', hM, hD'⟩
abbrev rgO (b : Nat) (q : Int) : Obj := .cells #[.pointer (some ⟨b, 0, none⟩), .int .i64 q] 81
theorem rgPages {D F : Heap} {b lb : Nat} {r : RS} {q : Int} (hE : Ext D F) (hD : Rk D b r) (h : F lb = some (rgO b q)) : FnK Tryz.prog 22 #[.pointer (some ⟨lb, 0, none⟩)] F (fun v F' => v = .int .i64 (pagesN (r.L.length : Int)) ∧ F' = F) := by
  obtain ⟨q', hb⟩ := rk_cell hD
  replace hb := hE _ _ hb
  have h3 := rpages (r.L.length : Int) F
  (refine fn_walk tab_ok Tryz.func22 rfl rfl rfl rfl ?_; (conv => whnf))
  ((conv => whnf); repeat (first | (apply load_at; (conv => lhs; whnf); (with_reducible assumption); rfl; (conv => whnf)) | (apply load_at; (conv => lhs; rw [add_plain, add_plain]); (with_reducible assumption); rfl; (conv => whnf)) | (apply loads_at; (conv => lhs; whnf); (with_reducible assumption); rfl; (conv => whnf)) | (refine ⟨⟨by omega, by omega⟩, ?_⟩; (conv => whnf))))
  refine call_of h3 ?_
  rintro v F ⟨rfl, rfl⟩
  ((conv => whnf); repeat (first | (apply load_at; (conv => lhs; whnf); (with_reducible assumption); rfl; (conv => whnf)) | (apply load_at; (conv => lhs; rw [add_plain, add_plain]); (with_reducible assumption); rfl; (conv => whnf)) | (apply loads_at; (conv => lhs; whnf); (with_reducible assumption); rfl; (conv => whnf)) | (refine ⟨⟨by omega, by omega⟩, ?_⟩; (conv => whnf))))
  exact ⟨rfl, rfl⟩
theorem rgLoad {D F : Heap} {b lb : Nat} {r : RS} {q : Int} (hE : Ext D F) (hD : Rk D b r) (h : F lb = some (rgO b q)) (p : Int) :
    FnK Tryz.prog 37 #[.pointer (some ⟨lb, 0, none⟩), .int .i64 p] F (fun v F' => ∃ u, v = .tuple #[u, .int .i64 (loadE rsO r p)] ∧ NewRow F F' u (loadL rsO r p) ∧ Ext F F') := by
  obtain ⟨q', hb⟩ := rk_cell hD
  replace hb := hE _ _ hb
  have k2 := rhome (r.L.length : Int) p
  have k3 := fun F hE => rread (F := F) hE hD (homeI (r.L.length : Int) p)
  have hl := rread_len hD (homeI (r.L.length : Int) p)
  have k4 := fun A c F hr hc => runpack (rreadL r (homeI (r.L.length : Int) p)) A c F hr (by omega) hc
  have hLE : loadE rsO r p = if isPg (r.L.length : Int) p = true then rreadE r (homeI (r.L.length : Int) p) else 1 := rfl
  have hLL : loadL rsO r p = if isPg (r.L.length : Int) p = true then (if rreadE r (homeI (r.L.length : Int) p) ≠ 0 then [] else if unE (rreadL r (homeI (r.L.length : Int) p)) ≠ 0 ∨ unP (rreadL r (homeI (r.L.length : Int) p)) ≠ p then zeros240 else unD (rreadL r (homeI (r.L.length : Int) p))) else [] := rfl
  generalize loadE rsO r p = le at hLE
  generalize loadL rsO r p = ll at hLL
  generalize homeI (r.L.length : Int) p = hm at k2 k3 hl k4 hLE hLL
  generalize unP (rreadL r hm) = up at k4 hLL
  generalize unQ (rreadL r hm) = uq at k4
  generalize unE (rreadL r hm) = ue at k4 hLL
  generalize unD (rreadL r hm) = ud at k4 hLL
  generalize rreadL r hm = l at k3 k4 hl
  generalize rreadE r hm = re at k3 hLE hLL
  generalize isPg (r.L.length : Int) p = z at k2 hLE hLL
  (refine fn_walk tab_ok Tryz.func37 rfl rfl rfl rfl ?_; (conv => whnf))
  ((conv => whnf); repeat (first | (apply load_at; (conv => lhs; whnf); (with_reducible assumption); rfl; (conv => whnf)) | (apply load_at; (conv => lhs; rw [add_plain, add_plain]); (with_reducible assumption); rfl; (conv => whnf)) | (apply loads_at; (conv => lhs; whnf); (with_reducible assumption); rfl; (conv => whnf)) | (refine ⟨⟨by omega, by omega⟩, ?_⟩; (conv => whnf))))
  refine call_of (k2 F) ?_
  rintro v F ⟨rfl, rfl⟩
  refine short [0, 1, 24] [.pointer (some ⟨lb, 0, none⟩), .int .i64 p, .tuple #[.int .i64 hm, .bool z]] rfl fun ρ => ?_
  cases z with
  | false =>
    rw [if_neg (by decide)] at hLE hLL
    subst hLE hLL
    ((conv => whnf); repeat (first | (apply load_at; (conv => lhs; whnf); (with_reducible assumption); rfl; (conv => whnf)) | (apply load_at; (conv => lhs; rw [add_plain, add_plain]); (with_reducible assumption); rfl; (conv => whnf)) | (apply loads_at; (conv => lhs; whnf); (with_reducible assumption); rfl; (conv => whnf)) | (refine ⟨⟨by omega, by omega⟩, ?_⟩; (conv => whnf))))
    exact ⟨_, rfl, newRow_nil' _ _, Ext.refl _⟩
  | true =>
  rw [if_pos rfl] at hLE hLL
  ((conv => whnf); repeat (first | (apply load_at; (conv => lhs; whnf); (with_reducible assumption); rfl; (conv => whnf)) | (apply load_at; (conv => lhs; rw [add_plain, add_plain]); (with_reducible assumption); rfl; (conv => whnf)) | (apply loads_at; (conv => lhs; whnf); (with_reducible assumption); rfl; (conv => whnf)) | (refine ⟨⟨by omega, by omega⟩, ?_⟩; (conv => whnf))))
  refine call_of (k3 F hE) ?_
  rintro v F2 ⟨w, rfl, ⟨A, c, rfl, hc, hr, hf⟩, hE2⟩
  refine short [0, 1, 35] [.pointer (some ⟨lb, 0, none⟩), .int .i64 p, .tuple #[.slice A l.length c, .int .i64 re]] rfl fun ρ => ?_
  ((conv => whnf); repeat (first | (apply load_at; (conv => lhs; whnf); (with_reducible assumption); rfl; (conv => whnf)) | (apply load_at; (conv => lhs; rw [add_plain, add_plain]); (with_reducible assumption); rfl; (conv => whnf)) | (apply loads_at; (conv => lhs; whnf); (with_reducible assumption); rfl; (conv => whnf)) | (refine ⟨⟨by omega, by omega⟩, ?_⟩; (conv => whnf))))
  refine cond_split (fun h => ?_) (fun h => ?_)
  · have he : re ≠ 0 := by
      have h : (re != 0) = true := h
      simpa using h
    rw [if_pos he] at hLL
    subst hLE hLL
    ((conv => whnf); repeat (first | (apply load_at; (conv => lhs; whnf); (with_reducible assumption); rfl; (conv => whnf)) | (apply load_at; (conv => lhs; rw [add_plain, add_plain]); (with_reducible assumption); rfl; (conv => whnf)) | (apply loads_at; (conv => lhs; whnf); (with_reducible assumption); rfl; (conv => whnf)) | (refine ⟨⟨by omega, by omega⟩, ?_⟩; (conv => whnf))))
    exact ⟨_, rfl, newRow_nil' _ _, hE2⟩
  have he : ¬ re ≠ 0 := by
    have h : (re != 0) = false := h
    simpa using h
  rw [if_neg he] at hLL
  have he0 : le = 0 := by omega
  clear h
  ((conv => whnf); repeat (first | (apply load_at; (conv => lhs; whnf); (with_reducible assumption); rfl; (conv => whnf)) | (apply load_at; (conv => lhs; rw [add_plain, add_plain]); (with_reducible assumption); rfl; (conv => whnf)) | (apply loads_at; (conv => lhs; whnf); (with_reducible assumption); rfl; (conv => whnf)) | (refine ⟨⟨by omega, by omega⟩, ?_⟩; (conv => whnf))))
  refine call_of (k4 A c F2 hr hc) ?_
  rintro v F3 ⟨w, rfl, hw, hE3⟩
  have hE03 := hE2.trans hE3
  subst he0
  clear hLE he
  refine short [0, 1, 43] [.pointer (some ⟨lb, 0, none⟩), .int .i64 p, .tuple #[.int .i64 up, .int .i64 uq, w, .int .i64 ue]] rfl fun ρ => ?_
  have zz : (ue ≠ 0 ∨ up ≠ p) → ∀ (G : Heap) (g : Nat), F3 g = none → G = F3.put g (.cells (List.replicate 240 (Value.int .u8 0)).toArray 5) → NewRow F G (.slice (some ⟨g, 0, none⟩) 240 240) ll ∧ Ext F G := by
    intro hh G g hg e
    rw [if_pos hh] at hLL
    subst hLL e
    refine ⟨⟨some ⟨g, 0, none⟩, 240, rfl, Nat.le_refl _, ?_, fun a ha => ?_⟩, hE03.trans (Ext.new hg _)⟩
    · have := row_blk (Heap.put_same F3 g (.cells (List.replicate 240 (Value.int .u8 0)).toArray 5))
      rw [List.toList_toArray, zeros_bytes] at this
      exact this
    · injection ha with ha
      subst ha
      exact hE03.none hg
  ((conv => whnf); repeat (first | (apply load_at; (conv => lhs; whnf); (with_reducible assumption); rfl; (conv => whnf)) | (apply load_at; (conv => lhs; rw [add_plain, add_plain]); (with_reducible assumption); rfl; (conv => whnf)) | (apply loads_at; (conv => lhs; whnf); (with_reducible assumption); rfl; (conv => whnf)) | (refine ⟨⟨by omega, by omega⟩, ?_⟩; (conv => whnf))))
  refine cond_split (fun h => ?_) (fun h => ?_)
  · have hu : (ue == 0) = true := by
      have h : (!(ue != 0)) = true := h
      simpa using h
    have hu0 : ue = 0 := by simpa using hu
    clear h
    ((conv => whnf); repeat (first | (apply load_at; (conv => lhs; whnf); (with_reducible assumption); rfl; (conv => whnf)) | (apply load_at; (conv => lhs; rw [add_plain, add_plain]); (with_reducible assumption); rfl; (conv => whnf)) | (apply loads_at; (conv => lhs; whnf); (with_reducible assumption); rfl; (conv => whnf)) | (refine ⟨⟨by omega, by omega⟩, ?_⟩; (conv => whnf))))
    refine cond_split (fun h => ?_) (fun h => ?_)
    · have hp : up ≠ p := by
        have h : (up != p) = true := h
        simpa using h
      ((conv => whnf); repeat (first | (apply load_at; (conv => lhs; whnf); (with_reducible assumption); rfl; (conv => whnf)) | (apply load_at; (conv => lhs; rw [add_plain, add_plain]); (with_reducible assumption); rfl; (conv => whnf)) | (apply loads_at; (conv => lhs; whnf); (with_reducible assumption); rfl; (conv => whnf)) | (refine ⟨⟨by omega, by omega⟩, ?_⟩; (conv => whnf))))
      refine make_one tab_ok (z0 := .int .u8 0) 240 240 rfl rfl rfl rfl rfl ⟨rfl, by decide, _, rfl, rfl⟩ (by decide) (by decide) fun g h0_g => ?_
      obtain ⟨zr, zE⟩ := zz (.inr hp) _ g h0_g rfl
      generalize F3.put g _ = F4 at zr zE ⊢
      ((conv => whnf); repeat (first | (apply load_at; (conv => lhs; whnf); (with_reducible assumption); rfl; (conv => whnf)) | (apply load_at; (conv => lhs; rw [add_plain, add_plain]); (with_reducible assumption); rfl; (conv => whnf)) | (apply loads_at; (conv => lhs; whnf); (with_reducible assumption); rfl; (conv => whnf)) | (refine ⟨⟨by omega, by omega⟩, ?_⟩; (conv => whnf))))
      exact ⟨_, rfl, zr, zE⟩
    · have hp : ¬ up ≠ p := by
        have h : (up != p) = false := h
        simpa using h
      rw [if_neg (by rintro (e | e); exact e hu0; exact hp e)] at hLL
      subst hLL
      ((conv => whnf); repeat (first | (apply load_at; (conv => lhs; whnf); (with_reducible assumption); rfl; (conv => whnf)) | (apply load_at; (conv => lhs; rw [add_plain, add_plain]); (with_reducible assumption); rfl; (conv => whnf)) | (apply loads_at; (conv => lhs; whnf); (with_reducible assumption); rfl; (conv => whnf)) | (refine ⟨⟨by omega, by omega⟩, ?_⟩; (conv => whnf))))
      obtain ⟨A', c', rfl, g1, g2, g3⟩ := hw
      exact ⟨_, rfl, ⟨A', c', rfl, g1, g2, fun a ha => hE2.none (g3 a ha)⟩, hE03⟩
  · have hu : ue ≠ 0 := by
      have h : (!(ue != 0)) = false := h
      simpa using h
    ((conv => whnf); repeat (first | (apply load_at; (conv => lhs; whnf); (with_reducible assumption); rfl; (conv => whnf)) | (apply load_at; (conv => lhs; rw [add_plain, add_plain]); (with_reducible assumption); rfl; (conv => whnf)) | (apply loads_at; (conv => lhs; whnf); (with_reducible assumption); rfl; (conv => whnf)) | (refine ⟨⟨by omega, by omega⟩, ?_⟩; (conv => whnf))))
    refine make_one tab_ok (z0 := .int .u8 0) 240 240 rfl rfl rfl rfl rfl ⟨rfl, by decide, _, rfl, rfl⟩ (by decide) (by decide) fun g h0_g => ?_
    obtain ⟨zr, zE⟩ := zz (.inl hu) _ g h0_g rfl
    generalize F3.put g _ = F4 at zr zE ⊢
    ((conv => whnf); repeat (first | (apply load_at; (conv => lhs; whnf); (with_reducible assumption); rfl; (conv => whnf)) | (apply load_at; (conv => lhs; rw [add_plain, add_plain]); (with_reducible assumption); rfl; (conv => whnf)) | (apply loads_at; (conv => lhs; whnf); (with_reducible assumption); rfl; (conv => whnf)) | (refine ⟨⟨by omega, by omega⟩, ?_⟩; (conv => whnf))))
    exact ⟨_, rfl, zr, zE⟩
end Go.Proofs.YtmpiggcooboenaaGreatDoor.Al
/- The reference's log: homes. -/
namespace Go.Proofs.YtmpiggcooboenaaGreatDoor.Al
open Go Go.Al Go.Proofs Go.RowKit
set_option maxHeartbeats 8000000
set_option maxRecDepth 100000
set_option linter.unusedVariables false
set_option linter.unusedSimpArgs false
theorem rw_le (r : RS) (i : Int) (l : List UInt8) : (rwriteS r i l).done ≤ r.done + 1 ∧ (rwriteS r i l).L.length = r.L.length := by
  unfold rwriteS
  split
  · exact ⟨by omega, rfl⟩
  split
  · exact ⟨by show r.done ≤ _; omega, rfl⟩
  · split
    · exact ⟨Int.le_refl _, List.length_set⟩
    · exact ⟨by omega, rfl⟩
theorem rf_le (r : RS) : (rflushS r).done = r.done ∧ (rflushS r).L.length = r.L.length := by
  unfold rflushS
  split
  · exact ⟨rfl, rfl⟩
  · exact ⟨rfl, List.length_map _⟩
theorem rrun_le : ∀ (ps : List (Int × List UInt8)) (r : RS), (runW rsO r ps).1.done ≤ r.done + ps.length ∧ (runW rsO r ps).1.L.length = r.L.length
  | [], r => by
    obtain ⟨h1, h2⟩ := rf_le r
    exact ⟨by show (rflushS r).done ≤ r.done + ((0 : Nat) : Int); omega, h2⟩
  | p :: ps, r => by
    rw [runW_cons]
    obtain ⟨h1, h2⟩ := rw_le r p.1 p.2
    split
    · obtain ⟨h3, h4⟩ := rrun_le ps (rsO.wrS r p.1 p.2)
      replace h3 : (runW rsO (rwriteS r p.1 p.2) ps).1.done ≤ (rwriteS r p.1 p.2).done + ps.length := h3
      replace h4 : (runW rsO (rwriteS r p.1 p.2) ps).1.L.length = (rwriteS r p.1 p.2).L.length := h4
      refine ⟨?_, h4.trans h2⟩
      show (runW rsO (rwriteS r p.1 p.2) ps).1.done ≤ r.done + ((ps.length + 1 : Nat) : Int)
      omega
    · refine ⟨?_, h2⟩
      show (rwriteS r p.1 p.2).done ≤ r.done + ((ps.length + 1 : Nat) : Int)
      omega
/-- A sector with its page. -/
structure RpR where
  pg : Int
  l : List UInt8
  A : Option Addr
  c : Nat
def rbV (p : RpR) : Value := .slice p.A p.l.length p.c
def riV (p : RpR) : Value := .int .i64 p.pg
def rhW (n : Int) (p : RpR) : Int × List UInt8 := (homeI n p.pg, p.l)
structure RpOk (G : Heap) (p : RpR) : Prop where
  row : RowAt G p.A (bytesOf p.l)
  len : p.l.length ≤ 900000
theorem RpOk.mono {F G : Heap} {p : RpR} (h : RpOk F p) (hE : Ext F G) : RpOk G p := ⟨h.row.mono hE, h.len⟩
theorem one_cell {F : Heap} {ad : Addr} {vs : List Value} {j : Nat} {v : Value} (hr : RowAt F (some ad) vs) (hj : vs[j]? = some v) : F.cell? (ad.add (Int.toNat (j : Int) * 1)) = some v := by
  rw [Int.toNat_natCast, Nat.mul_one]
  exact hr.cell hj
theorem rhomes {D F R : Heap} {b : Nat} {r : RS} (hE : Ext D F) (hD : Rk D b r) (hR : Ext R F) (hA : Apart D R) (rs : List RpR) (A1 A2 : Option Addr) (c1 c2 : Nat) (hr1 : RowAt R A1 (rs.map rbV)) (hr2 : RowAt R A2 (rs.map riV)) (hp : ∀ p ∈ rs, RpOk R p) (hl : rs.length ≤ 100000) (hw : r.done + rs.length < 1000000000) :
    FnK Tryz.prog 48 #[.pointer (some ⟨b, 0, none⟩), .slice A1 rs.length c1, .slice A2 rs.length c2] F (fun v F' => v = .int .i64 (runW rsO r (rs.map (rhW (r.L.length : Int)))).2 ∧ ∃ D', Moves D F D' F' ∧ Rk D' b (runW rsO r (rs.map (rhW (r.L.length : Int)))).1) := by
  obtain ⟨res, hres⟩ : ∃ q, q = runW rsO r (rs.map (rhW (r.L.length : Int))) := ⟨_, rfl⟩
  obtain ⟨N, hN⟩ : ∃ N, N = r.L.length := ⟨_, rfl⟩
  rw [← hres]
  rw [← hN] at hres
  (refine fn_walk tab_ok Tryz.func48 rfl rfl rfl rfl ?_; (conv => whnf))
  refine loop_slots [0, 1, 2, 7] (fun k vs F' => ∃ (i : Nat) (s1 : RS) (D1 : Heap), i + k = rs.length ∧ vs = [.pointer (some ⟨b, 0, none⟩), .slice A1 rs.length c1, .slice A2 rs.length c2, .int .i64 (i : Int)] ∧ Moves D F D1 F' ∧ Rk D1 b s1 ∧ s1.done + k < 1000000000 ∧ s1.L.length = N ∧ res = runW rsO s1 ((rs.drop i).map (rhW (N : Int)))) rs.length ⟨0, r, D, by omega, rfl, Moves.refl hE, hD, hw, hN.symm, hres⟩ ?_
  rintro k vs F1 ρ ⟨i, s1, D1, hik, rfl, hM, hD1, hw1, hn1, hrs⟩
  have hR1 := hM.keep hR hA
  have hA1 := hM.apart hR hA
  ((conv => whnf); repeat (first | (apply load_at; (conv => lhs; whnf); (with_reducible assumption); rfl; (conv => whnf)) | (apply load_at; (conv => lhs; rw [add_plain, add_plain]); (with_reducible assumption); rfl; (conv => whnf)) | (apply loads_at; (conv => lhs; whnf); (with_reducible assumption); rfl; (conv => whnf)) | (refine ⟨⟨by omega, by omega⟩, ?_⟩; (conv => whnf))))
  refine cond_split (fun h => ?_) (fun h => ?_)
  · have hi : i < rs.length := by
      have h : decide ((i : Int) < (rs.length : Int)) = true := h
      have := of_decide_eq_true h
      omega
    obtain ⟨ad1, rfl⟩ := hr1.some (by rw [List.length_map]; omega)
    obtain ⟨ad2, rfl⟩ := hr2.some (by rw [List.length_map]; omega)
    have hx : rs[i]? = some rs[i] := List.getElem?_eq_getElem hi
    have hok := (hp _ (List.getElem_mem hi)).mono hR1
    have hokR := hp _ (List.getElem_mem hi)
    rw [List.drop_eq_getElem_cons hi, List.map_cons, runW_cons] at hrs
    have h1 := one_cell (hr1.mono hR1) (v := rbV rs[i]) (by rw [List.getElem?_map, hx]; rfl)
    have h2 := one_cell (hr2.mono hR1) (v := riV rs[i]) (by rw [List.getElem?_map, hx]; rfl)
    generalize rs[i] = p at hok hokR hrs h1 h2
    obtain ⟨pg, pl, pA, pc⟩ := p
    have h1 : F1.cell? (ad1.add (Int.toNat (i : Int) * 1)) = some (.slice pA pl.length pc) := h1
    have h2 : F1.cell? (ad2.add (Int.toNat (i : Int) * 1)) = some (.int .i64 pg) := h2
    obtain ⟨q', hb⟩ := rk_cell hD1
    replace hb := hM.inn _ _ hb
    rw [hn1] at hb
    have kh := rhome (N : Int) pg
    obtain ⟨hle, hln⟩ := rw_le s1 (homeI (N : Int) pg) pl
    replace hrs : res = if rwriteE s1 (homeI (N : Int) pg) pl = 0 then runW rsO (rwriteS s1 (homeI (N : Int) pg) pl) ((rs.drop (i + 1)).map (rhW (N : Int))) else (rwriteS s1 (homeI (N : Int) pg) pl, rwriteE s1 (homeI (N : Int) pg) pl) := hrs
    generalize homeI (N : Int) pg = hm at kh hrs hle hln
    generalize isPg (N : Int) pg = z at kh
    have kw := fun F (hE : Ext D1 F) (hR : Ext R F) => rwrite hE hD1 hR hA1 pl pA pc hokR.row hok.len hm (by omega)
    generalize rwriteS s1 hm pl = s2 at hrs hle hln kw
    generalize rwriteE s1 hm pl = e2 at hrs kw
    ((conv => whnf); repeat (first | (apply load_at; (conv => lhs; whnf); (with_reducible assumption); rfl; (conv => whnf)) | (apply load_at; (conv => lhs; rw [add_plain, add_plain]); (with_reducible assumption); rfl; (conv => whnf)) | (apply loads_at; (conv => lhs; whnf); (with_reducible assumption); rfl; (conv => whnf)) | (refine ⟨⟨by omega, by omega⟩, ?_⟩; (conv => whnf))))
    refine draw_tree tab_ok (by kernel_rfl) [] (DT.row [0, 1, 2, 3, 4, 5, 6, 7, 8, 9, 10, 11, 12, 13, 14] .nil) (by kernel_rfl) ?_
    ((conv => whnf); repeat (first | (apply load_at; (conv => lhs; whnf); (with_reducible assumption); rfl; (conv => whnf)) | (apply load_at; (conv => lhs; rw [add_plain, add_plain]); (with_reducible assumption); rfl; (conv => whnf)) | (apply loads_at; (conv => lhs; whnf); (with_reducible assumption); rfl; (conv => whnf)) | (refine ⟨⟨by omega, by omega⟩, ?_⟩; (conv => whnf))))
    refine load_step h2 ?_
    ((conv => whnf); repeat (first | (apply load_at; (conv => lhs; whnf); (with_reducible assumption); rfl; (conv => whnf)) | (apply load_at; (conv => lhs; rw [add_plain, add_plain]); (with_reducible assumption); rfl; (conv => whnf)) | (apply loads_at; (conv => lhs; whnf); (with_reducible assumption); rfl; (conv => whnf)) | (refine ⟨⟨by omega, by omega⟩, ?_⟩; (conv => whnf))))
    refine call_of (kh F1) ?_
    rintro v F1 ⟨rfl, rfl⟩
    refine ⟨Ext.refl _, ?_⟩
    ((conv => whnf); repeat (first | (apply load_at; (conv => lhs; whnf); (with_reducible assumption); rfl; (conv => whnf)) | (apply load_at; (conv => lhs; rw [add_plain, add_plain]); (with_reducible assumption); rfl; (conv => whnf)) | (apply loads_at; (conv => lhs; whnf); (with_reducible assumption); rfl; (conv => whnf)) | (refine ⟨⟨by omega, by omega⟩, ?_⟩; (conv => whnf))))
    refine load_step h1 ?_
    ((conv => whnf); repeat (first | (apply load_at; (conv => lhs; whnf); (with_reducible assumption); rfl; (conv => whnf)) | (apply load_at; (conv => lhs; rw [add_plain, add_plain]); (with_reducible assumption); rfl; (conv => whnf)) | (apply loads_at; (conv => lhs; whnf); (with_reducible assumption); rfl; (conv => whnf)) | (refine ⟨⟨by omega, by omega⟩, ?_⟩; (conv => whnf))))
    refine call_of (kw F1 hM.inn hR1) ?_
    rintro v F4 ⟨rfl, D2, hM4, hD2⟩
    have hM5 := hM.trans hM4
    refine short [0, 1, 2, 7, 36] [.pointer (some ⟨b, 0, none⟩), .slice (some ad1) rs.length c1, .slice (some ad2) rs.length c2, .int .i64 (i : Int), .int .i64 e2] rfl fun ρ => ?_
    ((conv => whnf); repeat (first | (apply load_at; (conv => lhs; whnf); (with_reducible assumption); rfl; (conv => whnf)) | (apply load_at; (conv => lhs; rw [add_plain, add_plain]); (with_reducible assumption); rfl; (conv => whnf)) | (apply loads_at; (conv => lhs; whnf); (with_reducible assumption); rfl; (conv => whnf)) | (refine ⟨⟨by omega, by omega⟩, ?_⟩; (conv => whnf))))
    refine cond_split (fun h => ?_) (fun h => ?_)
    · have he : ¬ e2 = 0 := by
        have h : (e2 != 0) = true := h
        simpa using h
      rw [if_neg he] at hrs
      rw [hrs]
      ((conv => whnf); repeat (first | (apply load_at; (conv => lhs; whnf); (with_reducible assumption); rfl; (conv => whnf)) | (apply load_at; (conv => lhs; rw [add_plain, add_plain]); (with_reducible assumption); rfl; (conv => whnf)) | (apply loads_at; (conv => lhs; whnf); (with_reducible assumption); rfl; (conv => whnf)) | (refine ⟨⟨by omega, by omega⟩, ?_⟩; (conv => whnf))))
      exact ⟨rfl, D2, hM5, hD2⟩
    · have he : e2 = 0 := by
        have h : (e2 != 0) = false := h
        simpa using h
      rw [if_pos he] at hrs
      ((conv => whnf); repeat (first | (apply load_at; (conv => lhs; whnf); (with_reducible assumption); rfl; (conv => whnf)) | (apply load_at; (conv => lhs; rw [add_plain, add_plain]); (with_reducible assumption); rfl; (conv => whnf)) | (apply loads_at; (conv => lhs; whnf); (with_reducible assumption); rfl; (conv => whnf)) | (refine ⟨⟨by omega, by omega⟩, ?_⟩; (conv => whnf))))
      refine ⟨k - 1, by omega, i + 1, s2, D2, by omega, ?_, hM5, hD2, by omega, hln.trans hn1, hrs⟩
      rw [← wrap_succ (j := i) (by omega)]
      rfl
  · have hi : i = rs.length := by have := of_decide_eq_false h; omega
    subst hi
    rw [List.drop_length] at hrs
    ((conv => whnf); repeat (first | (apply load_at; (conv => lhs; whnf); (with_reducible assumption); rfl; (conv => whnf)) | (apply load_at; (conv => lhs; rw [add_plain, add_plain]); (with_reducible assumption); rfl; (conv => whnf)) | (apply loads_at; (conv => lhs; whnf); (with_reducible assumption); rfl; (conv => whnf)) | (refine ⟨⟨by omega, by omega⟩, ?_⟩; (conv => whnf))))
    refine call_of (rflush hM.inn hD1) ?_
    rintro v F4 ⟨rfl, D2, hM4, hD2⟩
    rw [hrs]
    ((conv => whnf); repeat (first | (apply load_at; (conv => lhs; whnf); (with_reducible assumption); rfl; (conv => whnf)) | (apply load_at; (conv => lhs; rw [add_plain, add_plain]); (with_reducible assumption); rfl; (conv => whnf)) | (apply loads_at; (conv => lhs; whnf); (with_reducible assumption); rfl; (conv => whnf)) | (refine ⟨⟨by omega, by omega⟩, ?_⟩; (conv => whnf))))
    exact ⟨rfl, D2, hM.trans hM4, hD2⟩
end Go.Proofs.YtmpiggcooboenaaGreatDoor.Al
/- The reference's log: slots. -/
namespace Go.Proofs.YtmpiggcooboenaaGreatDoor.Al
open Go Go.Al Go.Proofs Go.RowKit
set_option maxHeartbeats 8000000
set_option maxRecDepth 100000
set_option linter.unusedVariables false
set_option linter.unusedSimpArgs false
/-- Two rows of the call's own, and a part G of memory that they aren't in. -/
structure TwoM (F F1 : Heap) (S T : Value) (e1 z1 n1 : Nat) (xs : List Value) (e2 z2 n2 : Nat) (ys : List Value) (G : Heap) : Prop where
  s : Mine F F1 S e1 z1 n1 xs
  t : Mine F F1 T e2 z2 n2 ys
  ne : ∀ k, blk S = some k → blk T ≠ some k
  base : Ext G F1
  outS : ∀ k, blk S = some k → G k = none
  outT : ∀ k, blk T = some k → G k = none
section
variable {F F1 F2 G : Heap} {S T S2 : Value} {e1 z1 n1 e2 z2 n2 m1 : Nat} {xs ys us : List Value}
theorem TwoM.ext (h : TwoM F F1 S T e1 z1 n1 xs e2 z2 n2 ys G) (hE : Ext F1 F2) : TwoM F F2 S T e1 z1 n1 xs e2 z2 n2 ys G := ⟨h.s.mono hE, h.t.mono hE, h.ne, h.base.trans hE, h.outS, h.outT⟩
theorem TwoM.grow (h : TwoM F F1 S T e1 z1 n1 xs e2 z2 n2 ys G) (hE : Ext F1 F2) : TwoM F F2 S T e1 z1 n1 xs e2 z2 n2 ys (gain G F1 F2) := by
  have hb : ∀ {k}, F1 k ≠ none → gain G F1 F2 k = G k := fun {k} hk => by
    cases e : F1 k with
    | none => exact absurd e hk
    | some o => exact gain_old e
  refine ⟨h.s.mono hE, h.t.mono hE, h.ne, fun z o hz => ?_, fun k hk => by rw [hb (h.s.own.there hk)]; exact h.outS k hk, fun k hk => by rw [hb (h.t.own.there hk)]; exact h.outT k hk⟩
  cases e : F1 z with
  | none => rw [gain_new e] at hz; exact hz
  | some u => rw [gain_old e] at hz; exact hE _ _ (h.base _ _ hz)
theorem TwoM.pushS (h : TwoM F F1 S T e1 z1 n1 xs e2 z2 n2 ys G) (hO : Own F2 S2 e1 z1 m1 us) (hk : Keeps F1 F2 (blk S)) (hf : ∀ b, blk S2 = some b → blk S = some b ∨ F1 b = none) : TwoM F F2 S2 T e1 z1 m1 us e2 z2 n2 ys G := by
  refine ⟨⟨hO, fun k hk' => ?_, hk.ext h.s.ext h.s.fresh⟩, ⟨h.t.own.of_blk fun k o hk' ho => hk k o ho fun e => h.ne k e hk', h.t.fresh, hk.ext h.s.ext h.s.fresh⟩, fun k hk' => ?_, hk.ext h.base h.outS, fun k hk' => ?_, h.outT⟩
  · rcases hf k hk' with e | e
    · exact h.s.fresh k e
    · exact h.s.ext.none e
  · rcases hf k hk' with e | e
    · exact h.ne k e
    · exact fun e2 => h.t.own.there e2 e
  · rcases hf k hk' with e | e
    · exact h.outS k e
    · exact h.base.none e
theorem TwoM.swap (h : TwoM F F1 S T e1 z1 n1 xs e2 z2 n2 ys G) : TwoM F F1 T S e2 z2 n2 ys e1 z1 n1 xs G := ⟨h.t, h.s, fun k hk e => h.ne k e hk, h.base, h.outT, h.outS⟩
end
theorem rread_bad {r : RS} {i : Int} (h : rreadE r i ≠ 0) : unE (rreadL r i) ≠ 0 := by
  have e : rreadL r i = [] := by
    unfold rreadE at h
    unfold rreadL
    by_cases hd : r.down = true
    · rw [if_pos (.inl hd)]
    · rw [if_neg hd] at h
      by_cases hi : ¬ (0 ≤ i ∧ i < (r.L.length : Int))
      · rw [if_pos (.inr hi)]
      · rw [if_neg hi] at h
        exact absurd rfl h
  rw [e]
  decide
theorem rslots {D F : Heap} {b : Nat} {r : RS} (hE : Ext D F) (hD : Rk D b r) (n q : Int) (hn : 0 ≤ n) :
    FnK Tryz.prog 47 #[.pointer (some ⟨b, 0, none⟩), .int .i64 n, .int .i64 q] F (fun v F' => (∃ (rs : List RpR) (A1 A2 : Option Addr) (c1 c2 : Nat), v = .tuple #[.slice A1 rs.length c1, .slice A2 rs.length c2, .bool (wholeO rsO r n q).isSome] ∧ RowAt F' A1 (rs.map rbV) ∧ RowAt F' A2 (rs.map riV) ∧ (∀ a, A1 = some a → F a.block = none) ∧ (∀ a, A2 = some a → F a.block = none) ∧ (∀ p ∈ rs, RpOk F' p ∧ ∀ a, p.A = some a → F a.block = none) ∧ ((wholeO rsO r n q).isSome = true → wholeO rsO r n q = some (rs.map (rhW (r.L.length : Int))))) ∧ Ext F F') := by
  obtain ⟨q', hb⟩ := rk_cell hD
  replace hb := hE _ _ hb
  obtain ⟨N, hN⟩ : ∃ N, N = r.L.length := ⟨_, rfl⟩
  have hle := pagesN_le (N : Int)
  have k1 := fun F => rpages (N : Int) F
  have k2 := fun i F => rslot (N : Int) i F
  have k3 := fun i F hE => rread (F := F) hE hD i
  have k4 := fun i A c F hr hc => runpack (rreadL r i) A c F hr (by have := rread_len hD i; omega) hc
  have hln := fun i => rread_len hD i
  have hW : wholeO rsO r n q = if n > pagesN (N : Int) then none else whl rsO r q n.toNat 0 := by rw [hN]; rfl
  have hrec : ∀ k i : Nat, whl rsO r q (k + 1) i = if slotY rsO r q (i : Int) = true then (whl rsO r q k (i + 1)).map (slotP rsO r (i : Int) :: ·) else none := fun _ _ => rfl
  have h0 : ∀ i, whl rsO r q 0 i = some [] := fun _ => rfl
  have hY : ∀ i : Int, slotY rsO r q i = (isPg (N : Int) i && ((rreadE r (slotI (N : Int) i) == 0) && ((unE (rreadL r (slotI (N : Int) i)) == 0) && ((unQ (rreadL r (slotI (N : Int) i)) == q) && isPg (N : Int) (unP (rreadL r (slotI (N : Int) i))))))) := fun i => by rw [hN]; rfl
  have hSP : ∀ i : Int, slotP rsO r i = (homeI (N : Int) (unP (rreadL r (slotI (N : Int) i))), rreadL r (slotI (N : Int) i)) := fun i => by rw [hN]; rfl
  rw [← hN] at hb ⊢
  generalize wholeO rsO r n q = w at hW
  generalize whl rsO r q = wh at hW hrec h0
  (refine fn_walk tab_ok Tryz.func47 rfl rfl rfl rfl ?_; (conv => whnf))
  ((conv => whnf); repeat (first | (apply load_at; (conv => lhs; whnf); (with_reducible assumption); rfl; (conv => whnf)) | (apply load_at; (conv => lhs; rw [add_plain, add_plain]); (with_reducible assumption); rfl; (conv => whnf)) | (apply loads_at; (conv => lhs; whnf); (with_reducible assumption); rfl; (conv => whnf)) | (refine ⟨⟨by omega, by omega⟩, ?_⟩; (conv => whnf))))
  refine call_of (k1 F) ?_
  rintro v F ⟨rfl, rfl⟩
  ((conv => whnf); repeat (first | (apply load_at; (conv => lhs; whnf); (with_reducible assumption); rfl; (conv => whnf)) | (apply load_at; (conv => lhs; rw [add_plain, add_plain]); (with_reducible assumption); rfl; (conv => whnf)) | (apply loads_at; (conv => lhs; whnf); (with_reducible assumption); rfl; (conv => whnf)) | (refine ⟨⟨by omega, by omega⟩, ?_⟩; (conv => whnf))))
  refine cond_split (fun h => ?_) (fun h => ?_)
  · have hg : n > pagesN (N : Int) := of_decide_eq_true (show decide (n > pagesN (N : Int)) = true from h)
    rw [if_pos hg] at hW
    subst hW
    ((conv => whnf); repeat (first | (apply load_at; (conv => lhs; whnf); (with_reducible assumption); rfl; (conv => whnf)) | (apply load_at; (conv => lhs; rw [add_plain, add_plain]); (with_reducible assumption); rfl; (conv => whnf)) | (apply loads_at; (conv => lhs; whnf); (with_reducible assumption); rfl; (conv => whnf)) | (refine ⟨⟨by omega, by omega⟩, ?_⟩; (conv => whnf))))
    exact ⟨⟨[], none, none, 0, 0, rfl, RowAt.nil _ _, RowAt.nil _ _, (fun a h => by cases h), (fun a h => by cases h), (fun p h => by cases h), fun h => by cases h⟩, Ext.refl _⟩
  have hg : ¬ n > pagesN (N : Int) := of_decide_eq_false (show decide (n > pagesN (N : Int)) = false from h)
  rw [if_neg hg] at hW
  obtain ⟨m, rfl⟩ : ∃ m : Nat, n = (m : Int) := ⟨n.toNat, by omega⟩
  rw [Int.toNat_natCast] at hW
  clear h
  refine short [0, 1, 2, 9] [.pointer (some ⟨b, 0, none⟩), .int .i64 (m : Int), .int .i64 q, .int .i64 (N : Int)] rfl fun ρ => ?_
  ((conv => whnf); repeat (first | (apply load_at; (conv => lhs; whnf); (with_reducible assumption); rfl; (conv => whnf)) | (apply load_at; (conv => lhs; rw [add_plain, add_plain]); (with_reducible assumption); rfl; (conv => whnf)) | (apply loads_at; (conv => lhs; whnf); (with_reducible assumption); rfl; (conv => whnf)) | (refine ⟨⟨by omega, by omega⟩, ?_⟩; (conv => whnf))))
  refine loop_slots [0, 1, 2, 9, 10, 11, 12] (fun k vs F' => ∃ (i : Nat) (S T : Value) (rs : List RpR) (G : Heap), i + k = m ∧ rs.length = i ∧ vs = [.pointer (some ⟨b, 0, none⟩), .int .i64 (m : Int), .int .i64 q, .int .i64 (N : Int), S, T, .int .i64 (i : Int)] ∧ TwoM F F' S T 33 1 rs.length (rs.map rbV) 3 1 rs.length (rs.map riV) G ∧ (∀ p ∈ rs, RpOk G p ∧ ∀ a, p.A = some a → F a.block = none) ∧ w = (wh k i).map (rs.map (rhW (N : Int)) ++ ·)) m ⟨0, .slice none 0 0, .slice none 0 0, [], F, by omega, rfl, rfl, ⟨Mine.nil _ _ _ _ (Ext.refl _), Mine.nil _ _ _ _ (Ext.refl _), (fun k h => by cases h), Ext.refl _, (fun k h => by cases h), fun k h => by cases h⟩, (fun p h => by cases h), by rw [hW]; cases wh m 0 <;> rfl⟩ ?_
  rintro k vs F2 ρ ⟨i, S, T, rs, G, hik, hpi, rfl, hT, hok, hw⟩
  ((conv => whnf); repeat (first | (apply load_at; (conv => lhs; whnf); (with_reducible assumption); rfl; (conv => whnf)) | (apply load_at; (conv => lhs; rw [add_plain, add_plain]); (with_reducible assumption); rfl; (conv => whnf)) | (apply loads_at; (conv => lhs; whnf); (with_reducible assumption); rfl; (conv => whnf)) | (refine ⟨⟨by omega, by omega⟩, ?_⟩; (conv => whnf))))
  refine cond_split (fun h => ?_) (fun h => ?_)
  · have hi : i < m := by
      have h : decide ((i : Int) < (m : Int)) = true := h
      have := of_decide_eq_true h
      omega
    obtain ⟨k', rfl⟩ : ∃ k', k = k' + 1 := ⟨k - 1, by omega⟩
    have hE2 := hT.s.ext
    rw [hrec, hY, hSP] at hw
    have k2' := k2 (i : Int)
    rw [isPg_iff.2 (by omega : 0 ≤ (i : Int) ∧ (i : Int) < pagesN (N : Int)), Bool.true_and] at hw
    rw [isPg_iff.2 (by omega : 0 ≤ (i : Int) ∧ (i : Int) < pagesN (N : Int))] at k2'
    generalize slotI (N : Int) (i : Int) = si at hw k2'
    have k3' := k3 si
    have k4' := k4 si
    have hlen := hln si
    have hbad := rread_bad (r := r) (i := si)
    obtain ⟨hup, _⟩ := un_range (rreadL r si)
    generalize unP (rreadL r si) = up at hw k4' hup
    generalize unQ (rreadL r si) = uq at hw k4'
    generalize unE (rreadL r si) = ue at hw k4' hbad
    generalize unD (rreadL r si) = ud at k4'
    generalize rreadL r si = l at hw k3' k4' hlen
    generalize rreadE r si = re at hw k3' hbad
    ((conv => whnf); repeat (first | (apply load_at; (conv => lhs; whnf); (with_reducible assumption); rfl; (conv => whnf)) | (apply load_at; (conv => lhs; rw [add_plain, add_plain]); (with_reducible assumption); rfl; (conv => whnf)) | (apply loads_at; (conv => lhs; whnf); (with_reducible assumption); rfl; (conv => whnf)) | (refine ⟨⟨by omega, by omega⟩, ?_⟩; (conv => whnf))))
    refine call_of (k2' F2) ?_
    rintro v F2 ⟨rfl, rfl⟩
    ((conv => whnf); repeat (first | (apply load_at; (conv => lhs; whnf); (with_reducible assumption); rfl; (conv => whnf)) | (apply load_at; (conv => lhs; rw [add_plain, add_plain]); (with_reducible assumption); rfl; (conv => whnf)) | (apply loads_at; (conv => lhs; whnf); (with_reducible assumption); rfl; (conv => whnf)) | (refine ⟨⟨by omega, by omega⟩, ?_⟩; (conv => whnf))))
    refine call_of (k3' F2 (hE.trans hE2)) ?_
    rintro v F3 ⟨u, rfl, ⟨B, bc, rfl, hbc, hbr, hbf⟩, hE3⟩
    refine short [0, 1, 2, 9, 10, 11, 12, 44] [.pointer (some ⟨b, 0, none⟩), .int .i64 (m : Int), .int .i64 q, .int .i64 (N : Int), S, T, .int .i64 (i : Int), .tuple #[.slice B l.length bc, .int .i64 re]] rfl fun ρ => ?_
    ((conv => whnf); repeat (first | (apply load_at; (conv => lhs; whnf); (with_reducible assumption); rfl; (conv => whnf)) | (apply load_at; (conv => lhs; rw [add_plain, add_plain]); (with_reducible assumption); rfl; (conv => whnf)) | (apply loads_at; (conv => lhs; whnf); (with_reducible assumption); rfl; (conv => whnf)) | (refine ⟨⟨by omega, by omega⟩, ?_⟩; (conv => whnf))))
    refine call_of (k4' B bc F3 hbr hbc) ?_
    rintro v F4 ⟨u, rfl, _, hE4⟩
    have hE24 := hE3.trans hE4
    have hT4 := hT.grow hE24
    refine short [0, 1, 2, 9, 10, 11, 12, 15, 49] [.pointer (some ⟨b, 0, none⟩), .int .i64 (m : Int), .int .i64 q, .int .i64 (N : Int), S, T, .int .i64 (i : Int), .slice B l.length bc, .tuple #[.int .i64 up, .int .i64 uq, u, .int .i64 ue]] rfl fun ρ => ?_
    have bad : ∀ F', Ext F F' → w = none → (∃ (rs : List RpR) (A1 A2 : Option Addr) (c1 c2 : Nat), Value.tuple #[.slice none 0 0, .slice none 0 0, .bool false] = .tuple #[.slice A1 rs.length c1, .slice A2 rs.length c2, .bool w.isSome] ∧ RowAt F' A1 (rs.map rbV) ∧ RowAt F' A2 (rs.map riV) ∧ (∀ a, A1 = some a → F a.block = none) ∧ (∀ a, A2 = some a → F a.block = none) ∧ (∀ p ∈ rs, RpOk F' p ∧ ∀ a, p.A = some a → F a.block = none) ∧ (w.isSome = true → w = some (rs.map (rhW (N : Int))))) ∧ Ext F F' := by
      rintro F' hF rfl
      exact ⟨⟨[], none, none, 0, 0, rfl, RowAt.nil _ _, RowAt.nil _ _, (fun a h => by cases h), (fun a h => by cases h), (fun p h => by cases h), fun h => by cases h⟩, hF⟩
    ((conv => whnf); repeat (first | (apply load_at; (conv => lhs; whnf); (with_reducible assumption); rfl; (conv => whnf)) | (apply load_at; (conv => lhs; rw [add_plain, add_plain]); (with_reducible assumption); rfl; (conv => whnf)) | (apply loads_at; (conv => lhs; whnf); (with_reducible assumption); rfl; (conv => whnf)) | (refine ⟨⟨by omega, by omega⟩, ?_⟩; (conv => whnf))))
    refine cond_split (fun h => ?_) (fun h => ?_)
    rotate_left
    · have he : (ue == 0) = false := by
        have h : (!(ue != 0)) = false := h
        simpa using h
      rw [he, Bool.false_and, Bool.and_false, if_neg (by decide)] at hw
      ((conv => whnf); repeat (first | (apply load_at; (conv => lhs; whnf); (with_reducible assumption); rfl; (conv => whnf)) | (apply load_at; (conv => lhs; rw [add_plain, add_plain]); (with_reducible assumption); rfl; (conv => whnf)) | (apply loads_at; (conv => lhs; whnf); (with_reducible assumption); rfl; (conv => whnf)) | (refine ⟨⟨by omega, by omega⟩, ?_⟩; (conv => whnf))))
      exact bad _ hT4.s.ext hw
    have he : (ue == 0) = true := by
      have h : (!(ue != 0)) = true := h
      simpa using h
    have hre : (re == 0) = true := by
      rw [beq_iff_eq]
      cases e : decide (re = 0) with
      | true => exact of_decide_eq_true e
      | false => exact absurd (by simpa using he) (hbad (of_decide_eq_false e))
    rw [he, hre, Bool.true_and, Bool.true_and] at hw
    clear h
    ((conv => whnf); repeat (first | (apply load_at; (conv => lhs; whnf); (with_reducible assumption); rfl; (conv => whnf)) | (apply load_at; (conv => lhs; rw [add_plain, add_plain]); (with_reducible assumption); rfl; (conv => whnf)) | (apply loads_at; (conv => lhs; whnf); (with_reducible assumption); rfl; (conv => whnf)) | (refine ⟨⟨by omega, by omega⟩, ?_⟩; (conv => whnf))))
    refine cond_split (fun h => ?_) (fun h => ?_)
    rotate_left
    · have hq : (uq == q) = false := by
        have h : (!(uq != q)) = false := h
        simpa using h
      rw [hq, Bool.false_and, if_neg (by decide)] at hw
      ((conv => whnf); repeat (first | (apply load_at; (conv => lhs; whnf); (with_reducible assumption); rfl; (conv => whnf)) | (apply load_at; (conv => lhs; rw [add_plain, add_plain]); (with_reducible assumption); rfl; (conv => whnf)) | (apply loads_at; (conv => lhs; whnf); (with_reducible assumption); rfl; (conv => whnf)) | (refine ⟨⟨by omega, by omega⟩, ?_⟩; (conv => whnf))))
      exact bad _ hT4.s.ext hw
    have hq : (uq == q) = true := by
      have h : (!(uq != q)) = true := h
      simpa using h
    rw [hq, Bool.true_and] at hw
    clear h
    ((conv => whnf); repeat (first | (apply load_at; (conv => lhs; whnf); (with_reducible assumption); rfl; (conv => whnf)) | (apply load_at; (conv => lhs; rw [add_plain, add_plain]); (with_reducible assumption); rfl; (conv => whnf)) | (apply loads_at; (conv => lhs; whnf); (with_reducible assumption); rfl; (conv => whnf)) | (refine ⟨⟨by omega, by omega⟩, ?_⟩; (conv => whnf))))
    refine call_of (k1 F4) ?_
    rintro v F4 ⟨rfl, rfl⟩
    refine short [0, 1, 2, 9, 10, 11, 12, 15, 17, 61, 62, 64] [.pointer (some ⟨b, 0, none⟩), .int .i64 (m : Int), .int .i64 q, .int .i64 (N : Int), S, T, .int .i64 (i : Int), .slice B l.length bc, .int .i64 up, .bool false, .int .i64 up, .int .i64 (pagesN (N : Int))] (by
      have e2 : (uq != q) = false := by rw [bne, hq]; rfl
      rw [← e2]; rfl) fun ρ => ?_
    ((conv => whnf); repeat (first | (apply load_at; (conv => lhs; whnf); (with_reducible assumption); rfl; (conv => whnf)) | (apply load_at; (conv => lhs; rw [add_plain, add_plain]); (with_reducible assumption); rfl; (conv => whnf)) | (apply loads_at; (conv => lhs; whnf); (with_reducible assumption); rfl; (conv => whnf)) | (refine ⟨⟨by omega, by omega⟩, ?_⟩; (conv => whnf))))
    refine cond_split (fun h => ?_) (fun h => ?_)
    · have hz : isPg (N : Int) up = false := by
        have := of_decide_eq_true (show decide (up ≥ pagesN (N : Int)) = true from h)
        unfold isPg
        exact decide_eq_false (by omega)
      rw [hz, if_neg (by decide)] at hw
      ((conv => whnf); repeat (first | (apply load_at; (conv => lhs; whnf); (with_reducible assumption); rfl; (conv => whnf)) | (apply load_at; (conv => lhs; rw [add_plain, add_plain]); (with_reducible assumption); rfl; (conv => whnf)) | (apply loads_at; (conv => lhs; whnf); (with_reducible assumption); rfl; (conv => whnf)) | (refine ⟨⟨by omega, by omega⟩, ?_⟩; (conv => whnf))))
      exact bad _ hT4.s.ext hw
    have hz : isPg (N : Int) up = true := by
      have := of_decide_eq_false (show decide (up ≥ pagesN (N : Int)) = false from h)
      exact isPg_iff.2 (by omega)
    rw [hz, if_pos rfl] at hw
    clear h
    ((conv => whnf); repeat (first | (apply load_at; (conv => lhs; whnf); (with_reducible assumption); rfl; (conv => whnf)) | (apply load_at; (conv => lhs; rw [add_plain, add_plain]); (with_reducible assumption); rfl; (conv => whnf)) | (apply loads_at; (conv => lhs; whnf); (with_reducible assumption); rfl; (conv => whnf)) | (refine ⟨⟨by omega, by omega⟩, ?_⟩; (conv => whnf))))
    refine new_step (.cells #[.slice B l.length bc] 33) rfl fun g h0_g => ?_
    have hE_g := Ext.new h0_g (.cells #[.slice B l.length bc] 33)
    have hB_g := Heap.put_same F4 g (.cells #[.slice B l.length bc] 33)
    generalize F4.put g _ = F5 at hE_g hB_g ⊢
    have hT5 := hT4.ext hE_g
    have hr5 := row_blk hB_g
    ((conv => whnf); repeat (first | (apply load_at; (conv => lhs; whnf); (with_reducible assumption); rfl; (conv => whnf)) | (apply load_at; (conv => lhs; rw [add_plain, add_plain]); (with_reducible assumption); rfl; (conv => whnf)) | (apply loads_at; (conv => lhs; whnf); (with_reducible assumption); rfl; (conv => whnf)) | (refine ⟨⟨by omega, by omega⟩, ?_⟩; (conv => whnf))))
    refine append_own tab_ok (s := S) (n := rs.length) (xs := rs.map rbV) (m := 1) (ys := [.slice B l.length bc]) (y := .slice (some ⟨g, 0, none⟩) 1 1) rfl rfl rfl rfl rfl ⟨_, rfl, fun k h => by cases h⟩ ⟨_, rfl, rfl⟩ (by decide) hT5.s.own ⟨rfl, .inl ⟨_, _, rfl, hr5⟩⟩ (by simp [Value.oneCell']) (by show 2 * (rs.length + 1) * 24 ≤ _; omega) fun S6 F6 hO6 hk6 hf6 => ?_
    have hT6 := (hT5.pushS hO6 hk6 hf6).swap
    ((conv => whnf); repeat (first | (apply load_at; (conv => lhs; whnf); (with_reducible assumption); rfl; (conv => whnf)) | (apply load_at; (conv => lhs; rw [add_plain, add_plain]); (with_reducible assumption); rfl; (conv => whnf)) | (apply loads_at; (conv => lhs; whnf); (with_reducible assumption); rfl; (conv => whnf)) | (refine ⟨⟨by omega, by omega⟩, ?_⟩; (conv => whnf))))
    refine new_step (.cells #[.int .i64 up] 3) rfl fun e h0_e => ?_
    have hE_e := Ext.new h0_e (.cells #[.int .i64 up] 3)
    have hB_e := Heap.put_same F6 e (.cells #[.int .i64 up] 3)
    generalize F6.put e _ = F7 at hE_e hB_e ⊢
    have hT7 := hT6.ext hE_e
    have hr7 := row_blk hB_e
    ((conv => whnf); repeat (first | (apply load_at; (conv => lhs; whnf); (with_reducible assumption); rfl; (conv => whnf)) | (apply load_at; (conv => lhs; rw [add_plain, add_plain]); (with_reducible assumption); rfl; (conv => whnf)) | (apply loads_at; (conv => lhs; whnf); (with_reducible assumption); rfl; (conv => whnf)) | (refine ⟨⟨by omega, by omega⟩, ?_⟩; (conv => whnf))))
    refine append_own tab_ok (s := T) (n := rs.length) (xs := rs.map riV) (m := 1) (ys := [.int .i64 up]) (y := .slice (some ⟨e, 0, none⟩) 1 1) rfl rfl rfl rfl rfl ⟨_, rfl, fun k h => by cases h⟩ ⟨_, rfl, rfl⟩ (by decide) hT7.s.own ⟨rfl, .inl ⟨_, _, rfl, hr7⟩⟩ (by simp [Value.oneCell']) (by show 2 * (rs.length + 1) * 8 ≤ _; omega) fun T8 F8 hO8 hk8 hf8 => ?_
    have hT8 := (hT7.pushS hO8 hk8 hf8).swap
    have e1 : (rs ++ [(⟨up, l, B, bc⟩ : RpR)]).map rbV = rs.map rbV ++ [.slice B l.length bc] := List.map_append
    have e2 : (rs ++ [(⟨up, l, B, bc⟩ : RpR)]).map riV = rs.map riV ++ [.int .i64 up] := List.map_append
    have e3 : (rs ++ [(⟨up, l, B, bc⟩ : RpR)]).length = rs.length + 1 := List.length_append
    rw [← e1, ← e2, ← e3] at hT8
    ((conv => whnf); repeat (first | (apply load_at; (conv => lhs; whnf); (with_reducible assumption); rfl; (conv => whnf)) | (apply load_at; (conv => lhs; rw [add_plain, add_plain]); (with_reducible assumption); rfl; (conv => whnf)) | (apply loads_at; (conv => lhs; whnf); (with_reducible assumption); rfl; (conv => whnf)) | (refine ⟨⟨by omega, by omega⟩, ?_⟩; (conv => whnf))))
    refine ⟨k', by omega, i + 1, S6, T8, rs ++ [⟨up, l, B, bc⟩], gain G F2 F4, by omega, by rw [e3, hpi], ?_, hT8, fun x hx => ?_, ?_⟩
    · rw [← wrap_succ (j := i) (by omega)]
      rfl
    · rcases List.mem_append.1 hx with hx | hx
      · exact ⟨(hok x hx).1.mono (gain_ext hT.base), (hok x hx).2⟩
      · rw [List.mem_singleton] at hx
        subst hx
        exact ⟨⟨rowAt_gain (hbr.mono hE4) hbf, by show l.length ≤ 900000; omega⟩, fun a ha => hE2.none (hbf a ha)⟩
    · rw [hw]
      cases wh k' (i + 1) with
      | none => rfl
      | some us => show some (rs.map (rhW (N : Int)) ++ ((homeI (N : Int) up, l) :: us)) = some ((rs ++ [(⟨up, l, B, bc⟩ : RpR)]).map (rhW (N : Int)) ++ us); rw [List.map_append, List.append_assoc]; rfl
  · have hi : i = m := by
      have := of_decide_eq_false h
      omega
    obtain rfl : k = 0 := by omega
    rw [h0] at hw
    obtain ⟨A1, c1, rfl, _, hr1⟩ := hT.s.own.row
    obtain ⟨A2, c2, rfl, _, hr2⟩ := hT.t.own.row
    have hw : w = some (rs.map (rhW (N : Int)) ++ []) := hw
    rw [List.append_nil] at hw
    subst hw
    ((conv => whnf); repeat (first | (apply load_at; (conv => lhs; whnf); (with_reducible assumption); rfl; (conv => whnf)) | (apply load_at; (conv => lhs; rw [add_plain, add_plain]); (with_reducible assumption); rfl; (conv => whnf)) | (apply loads_at; (conv => lhs; whnf); (with_reducible assumption); rfl; (conv => whnf)) | (refine ⟨⟨by omega, by omega⟩, ?_⟩; (conv => whnf))))
    exact ⟨⟨rs, A1, A2, c1, c2, rfl, hr1, hr2, fun a ha => hT.s.fresh a.block (by rw [ha]; rfl), fun a ha => hT.t.fresh a.block (by rw [ha]; rfl), fun p hp => ⟨(hok p hp).1.mono hT.base, (hok p hp).2⟩, fun _ => rfl⟩, hT.s.ext⟩
end Go.Proofs.YtmpiggcooboenaaGreatDoor.Al
/- The reference's log: Open, right. -/
namespace Go.Proofs.YtmpiggcooboenaaGreatDoor.Al
open Go Go.Al Go.Proofs Go.RowKit
set_option maxHeartbeats 8000000
set_option maxRecDepth 100000
set_option linter.unusedVariables false
set_option linter.unusedSimpArgs false
def RgV (D F D' F' : Heap) (b : Nat) (w : Value) : Option Int → Prop
  | none => w = .pointer none
  | some q => ∃ lb, w = .pointer (some ⟨lb, 0, none⟩) ∧ (D lb = none → F lb = none) ∧ D' lb = none ∧ F' lb = some (rgO b q)
theorem rgOpen {D F : Heap} {b : Nat} {r : RS} (hE : Ext D F) (hD : Rk D b r) (hw : r.done + 40000 < 1000000000) :
    FnK Tryz.prog 28 #[.pointer (some ⟨b, 0, none⟩)] F (fun v F' => ∃ w D', v = .tuple #[w, .int .i64 (openS rsO r).2.1] ∧ Moves D F D' F' ∧ Rk D' b (openS rsO r).1 ∧ RgV D F D' F' b w (openS rsO r).2.2) := by
  have k1 := rread hE hD 0
  have hl := rread_len hD 0
  have k2 := fun A c F hr hc => runpack (rreadL r 0) A c F hr (by omega) hc
  obtain ⟨u1, u2, u3⟩ := un_range (rreadL r 0)
  have k3 := fun F hE => rslots (F := F) hE hD (unP (rreadL r 0)) (unQ (rreadL r 0)) u1
  have hwl := fun ws h => wholeO_len (o := rsO) (a := r) (n := unP (rreadL r 0)) (q := unQ (rreadL r 0)) (ws := ws) h
  have hle := pagesN_le (r.L.length : Int)
  have hO : openS rsO r = if (rdN rsO r).2.2 ≠ 0 then (r, (rdN rsO r).2.2, none) else
    match wholeO rsO r (rdN rsO r).1 (rdN rsO r).2.1 with
    | some ws => if (runW rsO r ws).2 ≠ 0 then ((runW rsO r ws).1, (runW rsO r ws).2, none) else ((runW rsO r ws).1, 0, some (rdN rsO r).2.1)
    | none => (r, 0, some (rdN rsO r).2.1) := rfl
  have hR : rdN rsO r = if rreadE r 0 = 0 then (unP (rreadL r 0), unQ (rreadL r 0), unE (rreadL r 0)) else (0, 0, rreadE r 0) := rfl
  replace hwl : ∀ ws, wholeO rsO r (unP (rreadL r 0)) (unQ (rreadL r 0)) = some ws → ws.length = (unP (rreadL r 0)).toNat ∧ unP (rreadL r 0) ≤ pagesN (r.L.length : Int) := hwl
  rw [hR] at hO
  clear hR
  generalize openS rsO r = os at hO
  generalize unP (rreadL r 0) = n at k2 k3 hwl hO
  generalize unQ (rreadL r 0) = q at k2 k3 hwl hO
  generalize unE (rreadL r 0) = e at k2 hO
  generalize unD (rreadL r 0) = d at k2
  generalize rreadL r 0 = l at k1 k2 hl
  generalize rreadE r 0 = re at k1 hO
  (refine fn_walk tab_ok Tryz.func28 rfl rfl rfl rfl ?_; (conv => whnf))
  refine call_of k1 ?_
  rintro v F1 ⟨u, rfl, ⟨A, c, rfl, hc, hr, hf⟩, hE1⟩
  refine short [0, 15] [.pointer (some ⟨b, 0, none⟩), .tuple #[.slice A l.length c, .int .i64 re]] rfl fun ρ => ?_
  ((conv => whnf); repeat (first | (apply load_at; (conv => lhs; whnf); (with_reducible assumption); rfl; (conv => whnf)) | (apply load_at; (conv => lhs; rw [add_plain, add_plain]); (with_reducible assumption); rfl; (conv => whnf)) | (apply loads_at; (conv => lhs; whnf); (with_reducible assumption); rfl; (conv => whnf)) | (refine ⟨⟨by omega, by omega⟩, ?_⟩; (conv => whnf))))
  refine cond_split (fun h => ?_) (fun h => ?_)
  · have he : re ≠ 0 := by
      have h : (re != 0) = true := h
      simpa using h
    rw [if_neg he] at hO
    dsimp only at hO
    rw [if_pos he] at hO
    subst hO
    ((conv => whnf); repeat (first | (apply load_at; (conv => lhs; whnf); (with_reducible assumption); rfl; (conv => whnf)) | (apply load_at; (conv => lhs; rw [add_plain, add_plain]); (with_reducible assumption); rfl; (conv => whnf)) | (apply loads_at; (conv => lhs; whnf); (with_reducible assumption); rfl; (conv => whnf)) | (refine ⟨⟨by omega, by omega⟩, ?_⟩; (conv => whnf))))
    exact ⟨_, D, rfl, Moves.ext hE hE1, hD, rfl⟩
  have he : re = 0 := by
    have h : (re != 0) = false := h
    simpa using h
  rw [if_pos he] at hO
  dsimp only at hO
  clear h
  ((conv => whnf); repeat (first | (apply load_at; (conv => lhs; whnf); (with_reducible assumption); rfl; (conv => whnf)) | (apply load_at; (conv => lhs; rw [add_plain, add_plain]); (with_reducible assumption); rfl; (conv => whnf)) | (apply loads_at; (conv => lhs; whnf); (with_reducible assumption); rfl; (conv => whnf)) | (refine ⟨⟨by omega, by omega⟩, ?_⟩; (conv => whnf))))
  refine call_of (k2 A c F1 hr hc) ?_
  rintro v F2 ⟨u, rfl, _, hE2⟩
  have hE02 := hE1.trans hE2
  refine short [0, 23] [.pointer (some ⟨b, 0, none⟩), .tuple #[.int .i64 n, .int .i64 q, u, .int .i64 e]] rfl fun ρ => ?_
  ((conv => whnf); repeat (first | (apply load_at; (conv => lhs; whnf); (with_reducible assumption); rfl; (conv => whnf)) | (apply load_at; (conv => lhs; rw [add_plain, add_plain]); (with_reducible assumption); rfl; (conv => whnf)) | (apply loads_at; (conv => lhs; whnf); (with_reducible assumption); rfl; (conv => whnf)) | (refine ⟨⟨by omega, by omega⟩, ?_⟩; (conv => whnf))))
  refine cond_split (fun h => ?_) (fun h => ?_)
  · have he : e ≠ 0 := by
      have h : (e != 0) = true := h
      simpa using h
    rw [if_pos he] at hO
    subst hO
    ((conv => whnf); repeat (first | (apply load_at; (conv => lhs; whnf); (with_reducible assumption); rfl; (conv => whnf)) | (apply load_at; (conv => lhs; rw [add_plain, add_plain]); (with_reducible assumption); rfl; (conv => whnf)) | (apply loads_at; (conv => lhs; whnf); (with_reducible assumption); rfl; (conv => whnf)) | (refine ⟨⟨by omega, by omega⟩, ?_⟩; (conv => whnf))))
    exact ⟨_, D, rfl, Moves.ext hE hE02, hD, rfl⟩
  have he : ¬ e ≠ 0 := by
    have h : (e != 0) = false := h
    simpa using h
  rw [if_neg he] at hO
  clear h
  ((conv => whnf); repeat (first | (apply load_at; (conv => lhs; whnf); (with_reducible assumption); rfl; (conv => whnf)) | (apply load_at; (conv => lhs; rw [add_plain, add_plain]); (with_reducible assumption); rfl; (conv => whnf)) | (apply loads_at; (conv => lhs; whnf); (with_reducible assumption); rfl; (conv => whnf)) | (refine ⟨⟨by omega, by omega⟩, ?_⟩; (conv => whnf))))
  refine call_of (k3 F2 (hE.trans hE02)) ?_
  rintro v F4 ⟨⟨rs, A1, A2, c1, c2, rfl, hr1, hr2, hf1, hf2, hok, hwo⟩, hE4⟩
  have hE04 := hE02.trans hE4
  generalize wholeO rsO r n q = wo at hO hwl hwo ⊢
  refine short [0, 7, 35] [.pointer (some ⟨b, 0, none⟩), .int .i64 q, .tuple #[.slice A1 rs.length c1, .slice A2 rs.length c2, .bool wo.isSome]] rfl fun ρ => ?_
  cases hws : wo with
  | none =>
    rw [hws] at hO
    subst hO
    ((conv => whnf); repeat (first | (apply load_at; (conv => lhs; whnf); (with_reducible assumption); rfl; (conv => whnf)) | (apply load_at; (conv => lhs; rw [add_plain, add_plain]); (with_reducible assumption); rfl; (conv => whnf)) | (apply loads_at; (conv => lhs; whnf); (with_reducible assumption); rfl; (conv => whnf)) | (refine ⟨⟨by omega, by omega⟩, ?_⟩; (conv => whnf))))
    refine new_step (rgO b q) rfl fun lb h0_lb => ?_
    have hE_lb := Ext.new h0_lb (rgO b q)
    have hB_lb := Heap.put_same F4 lb (rgO b q)
    generalize F4.put lb _ = F5 at hE_lb hB_lb ⊢
    ((conv => whnf); repeat (first | (apply load_at; (conv => lhs; whnf); (with_reducible assumption); rfl; (conv => whnf)) | (apply load_at; (conv => lhs; rw [add_plain, add_plain]); (with_reducible assumption); rfl; (conv => whnf)) | (apply loads_at; (conv => lhs; whnf); (with_reducible assumption); rfl; (conv => whnf)) | (refine ⟨⟨by omega, by omega⟩, ?_⟩; (conv => whnf))))
    exact ⟨_, D, rfl, Moves.ext hE (hE04.trans hE_lb), hD, lb, rfl, fun _ => hE04.none h0_lb, (hE.trans hE04).none h0_lb, hB_lb⟩
  | some ws =>
    have hws2 : ws = rs.map (rhW (r.L.length : Int)) := by
      have := hwo (by rw [hws]; rfl)
      rw [hws] at this
      exact Option.some.inj this
    obtain ⟨hl1, hl2⟩ := hwl ws hws
    rw [hws2, List.length_map] at hl1
    rw [hws, hws2] at hO
    dsimp only at hO
    have k5 := rhomes (hE.trans hE04) hD (newH_ext F F4) (newH_apart F4 hE) rs A1 A2 c1 c2 (newH_row hr1 fun a ha => hE02.none (hf1 a ha)) (newH_row hr2 fun a ha => hE02.none (hf2 a ha)) (fun p hp => ⟨newH_row (hok p hp).1.row fun a ha => hE02.none ((hok p hp).2 a ha), (hok p hp).1.len⟩) (by omega) (by omega)
    generalize runW rsO r (rs.map (rhW (r.L.length : Int))) = rw_ at k5 hO
    ((conv => whnf); repeat (first | (apply load_at; (conv => lhs; whnf); (with_reducible assumption); rfl; (conv => whnf)) | (apply load_at; (conv => lhs; rw [add_plain, add_plain]); (with_reducible assumption); rfl; (conv => whnf)) | (apply loads_at; (conv => lhs; whnf); (with_reducible assumption); rfl; (conv => whnf)) | (refine ⟨⟨by omega, by omega⟩, ?_⟩; (conv => whnf))))
    refine call_of k5 ?_
    rintro v F5 ⟨rfl, D5, hM5, hD5⟩
    have hM := (Moves.ext hE hE04).trans hM5
    have hMo := fun lb (h : F5 lb = none) (hd : D lb = none) => (show F lb = none from by
      cases e : F lb with
      | none => rfl
      | some o => rw [hM.out _ _ e hd] at h; cases h)
    obtain ⟨r1, r2⟩ := rw_
    dsimp only at hO hD5
    refine short [0, 7, 43] [.pointer (some ⟨b, 0, none⟩), .int .i64 q, .int .i64 r2] rfl fun ρ => ?_
    ((conv => whnf); repeat (first | (apply load_at; (conv => lhs; whnf); (with_reducible assumption); rfl; (conv => whnf)) | (apply load_at; (conv => lhs; rw [add_plain, add_plain]); (with_reducible assumption); rfl; (conv => whnf)) | (apply loads_at; (conv => lhs; whnf); (with_reducible assumption); rfl; (conv => whnf)) | (refine ⟨⟨by omega, by omega⟩, ?_⟩; (conv => whnf))))
    refine cond_split (fun h => ?_) (fun h => ?_)
    · have hr2 : r2 ≠ 0 := by
        have h : (r2 != 0) = true := h
        simpa using h
      rw [if_pos hr2] at hO
      subst hO
      ((conv => whnf); repeat (first | (apply load_at; (conv => lhs; whnf); (with_reducible assumption); rfl; (conv => whnf)) | (apply load_at; (conv => lhs; rw [add_plain, add_plain]); (with_reducible assumption); rfl; (conv => whnf)) | (apply loads_at; (conv => lhs; whnf); (with_reducible assumption); rfl; (conv => whnf)) | (refine ⟨⟨by omega, by omega⟩, ?_⟩; (conv => whnf))))
      exact ⟨_, D5, rfl, hM, hD5, rfl⟩
    · have hr2 : ¬ r2 ≠ 0 := by
        have h : (r2 != 0) = false := h
        simpa using h
      rw [if_neg hr2] at hO
      subst hO
      ((conv => whnf); repeat (first | (apply load_at; (conv => lhs; whnf); (with_reducible assumption); rfl; (conv => whnf)) | (apply load_at; (conv => lhs; rw [add_plain, add_plain]); (with_reducible assumption); rfl; (conv => whnf)) | (apply loads_at; (conv => lhs; whnf); (with_reducible assumption); rfl; (conv => whnf)) | (refine ⟨⟨by omega, by omega⟩, ?_⟩; (conv => whnf))))
      refine new_step (rgO b q) rfl fun lb h0_lb => ?_
      have hE_lb := Ext.new h0_lb (rgO b q)
      have hB_lb := Heap.put_same F5 lb (rgO b q)
      generalize F5.put lb _ = F6 at hE_lb hB_lb ⊢
      ((conv => whnf); repeat (first | (apply load_at; (conv => lhs; whnf); (with_reducible assumption); rfl; (conv => whnf)) | (apply load_at; (conv => lhs; rw [add_plain, add_plain]); (with_reducible assumption); rfl; (conv => whnf)) | (apply loads_at; (conv => lhs; whnf); (with_reducible assumption); rfl; (conv => whnf)) | (refine ⟨⟨by omega, by omega⟩, ?_⟩; (conv => whnf))))
      exact ⟨_, D5, rfl, hM.trans (Moves.ext hM.inn hE_lb), hD5, lb, rfl, hMo lb h0_lb, hM.inn.none h0_lb, hB_lb⟩
end Go.Proofs.YtmpiggcooboenaaGreatDoor.Al
/- The reference's log: right. -/
namespace Go.Proofs.YtmpiggcooboenaaGreatDoor.Al
open Go Go.Al Go.Proofs Go.RowKit
set_option maxHeartbeats 8000000
set_option maxRecDepth 100000
set_option linter.unusedVariables false
set_option linter.unusedSimpArgs false
theorem rgRight {D F : Heap} {b lb : Nat} {r : RS} {q : Int} (hE : Ext D F) (hD : Rk D b r) (hlg : F lb = some (rgO b q)) (ims : List PcR) (A : Option Addr) (c : Nat) (hr : RowAt F A (rowS pcC ims)) (hl : ims.length ≤ 100000) :
    FnK Tryz.prog 62 #[.pointer (some ⟨lb, 0, none⟩), .slice A ims.length c] F (fun v F' => v = .bool (rightL (r.L.length : Int) (ims.map pcW) []) ∧ F' = F) := by
  obtain ⟨N, hN⟩ : ∃ N : Nat, N = r.L.length := ⟨_, rfl⟩
  have kP := rgPages hE hD hlg
  have hiff := right_iff (N : Int) (ims.map pcW) []
  rw [← hN] at kP ⊢
  have hbad1 : ∀ p ∈ ims, ¬ (isPg (N : Int) p.at_ = true ∧ p.l.length = 240) → rightL (N : Int) (ims.map pcW) [] = false := fun p hp hn => by
    cases hz : rightL (N : Int) (ims.map pcW) [] with
    | false => rfl
    | true =>
      obtain ⟨h1, _⟩ := hiff.1 hz
      obtain ⟨g1, g2, _⟩ := h1 (pcW p) (List.mem_map_of_mem hp)
      exact absurd ⟨g1, g2⟩ hn
  have hbad2 : ∀ i k : Nat, k < i → ∀ x y : PcR, ims[k]? = some x → ims[i]? = some y → x.at_ = y.at_ → rightL (N : Int) (ims.map pcW) [] = false := fun i k hki x y hx hy e => by
    cases hz : rightL (N : Int) (ims.map pcW) [] with
    | false => rfl
    | true =>
      obtain ⟨_, h2⟩ := hiff.1 hz
      obtain ⟨k1, e1⟩ := List.getElem?_eq_some_iff.1 hx
      obtain ⟨i1, e2⟩ := List.getElem?_eq_some_iff.1 hy
      have := List.pairwise_iff_getElem.1 h2 k i (by simp; exact k1) (by simp; exact i1) hki
      refine absurd ?_ this
      simp only [List.getElem_map, e1, e2]
      exact e
  have hgood : (∀ (i : Nat) (p : PcR), ims[i]? = some p → isPg (N : Int) p.at_ = true ∧ p.l.length = 240) → (∀ i k : Nat, k < i → ∀ x y : PcR, ims[k]? = some x → ims[i]? = some y → x.at_ ≠ y.at_) → rightL (N : Int) (ims.map pcW) [] = true := fun h1 h2 => by
    refine hiff.2 ⟨fun p hp => ?_, ?_⟩
    · obtain ⟨x, hx, rfl⟩ := List.mem_map.1 hp
      obtain ⟨i, hi, e⟩ := List.getElem_of_mem hx
      obtain ⟨g1, g2⟩ := h1 i x (by rw [List.getElem?_eq_getElem hi, e])
      exact ⟨g1, g2, List.not_mem_nil⟩
    · refine List.pairwise_iff_getElem.2 fun k i hk hi hki => ?_
      simp only [List.getElem_map]
      simp at hk hi
      exact h2 i k hki _ _ (List.getElem?_eq_getElem hk) (List.getElem?_eq_getElem hi)
  have hle := pagesN_le (N : Int)
  have hPg : ∀ x, isPg (N : Int) x = decide (0 ≤ x ∧ x < pagesN (N : Int)) := fun _ => rfl
  clear hiff
  generalize rightL (N : Int) (ims.map pcW) [] = res at hbad1 hbad2 hgood ⊢
  generalize isPg (N : Int) = isP at hbad1 hgood hPg
  generalize pagesN (N : Int) = P at kP hle hPg
  have hcel : ∀ (i : Nat) p, ims[i]? = some p → ∃ ad, A = some ad ∧ F.cell? ((ad.add (Int.toNat (i : Int) * 2)).add 0) = some (.int .i64 p.at_) ∧ F.cell? ((ad.add (Int.toNat (i : Int) * 2)).add 1) = some (.slice p.A p.l.length p.c) := fun i p hp => by
    obtain ⟨ad, rfl⟩ := hr.some (by have := (List.getElem?_eq_some_iff.1 hp).1; rw [rowS_len pcC_len]; omega)
    exact ⟨ad, rfl, rowS_cell pcC_len hr hp rfl, rowS_cell pcC_len hr hp rfl⟩
  (refine fn_walk tab_ok Tryz.func62 rfl rfl rfl rfl ?_; (conv => whnf))
  refine loop_slots [0, 1, 5] (fun k vs F' => ∃ i : Nat, i + k = ims.length ∧ vs = [.pointer (some ⟨lb, 0, none⟩), .slice A ims.length c, .int .i64 (i : Int)] ∧ F' = F ∧ (∀ (j : Nat) (p : PcR), j < i → ims[j]? = some p → isP p.at_ = true ∧ p.l.length = 240) ∧ (∀ j k : Nat, k < j → j < i → ∀ x y : PcR, ims[k]? = some x → ims[j]? = some y → x.at_ ≠ y.at_)) ims.length ⟨0, by omega, rfl, rfl, (fun j p h => by omega), fun j k _ h => by omega⟩ ?_
  rintro k vs F2 ρ ⟨i, hik, rfl, rfl, g1, g2⟩
  ((conv => whnf); repeat (first | (apply load_at; (conv => lhs; whnf); (with_reducible assumption); rfl; (conv => whnf)) | (apply load_at; (conv => lhs; rw [add_plain, add_plain]); (with_reducible assumption); rfl; (conv => whnf)) | (apply loads_at; (conv => lhs; whnf); (with_reducible assumption); rfl; (conv => whnf)) | (refine ⟨⟨by omega, by omega⟩, ?_⟩; (conv => whnf))))
  refine cond_split (fun h => ?_) (fun h => ?_)
  · have hi : i < ims.length := by
      have h : decide ((i : Int) < (ims.length : Int)) = true := h
      have := of_decide_eq_true h
      omega
    have hx : ims[i]? = some ims[i] := List.getElem?_eq_getElem hi
    have hm := List.getElem_mem hi
    obtain ⟨ad, rfl, c0, c1⟩ := hcel i _ hx
    have b1 := hbad1 _ hm
    generalize ims[i] = p at hx c0 c1 b1
    obtain ⟨pat, pl, pA, pc⟩ := p
    dsimp only at c0 c1 b1
    rw [hPg] at b1
    ((conv => whnf); repeat (first | (apply load_at; (conv => lhs; whnf); (with_reducible assumption); rfl; (conv => whnf)) | (apply load_at; (conv => lhs; rw [add_plain, add_plain]); (with_reducible assumption); rfl; (conv => whnf)) | (apply loads_at; (conv => lhs; whnf); (with_reducible assumption); rfl; (conv => whnf)) | (refine ⟨⟨by omega, by omega⟩, ?_⟩; (conv => whnf))))
    refine draw_tree tab_ok (by kernel_rfl) [] (DT.row [0, 1, 2, 3, 4, 5, 6, 7, 8, 9, 10, 11, 12, 13, 14, 15, 16, 17, 18, 19, 20, 21, 22, 23, 24] .nil) (by kernel_rfl) ?_
    ((conv => whnf); repeat (first | (apply load_at; (conv => lhs; whnf); (with_reducible assumption); rfl; (conv => whnf)) | (apply load_at; (conv => lhs; rw [add_plain, add_plain]); (with_reducible assumption); rfl; (conv => whnf)) | (apply loads_at; (conv => lhs; whnf); (with_reducible assumption); rfl; (conv => whnf)) | (refine ⟨⟨by omega, by omega⟩, ?_⟩; (conv => whnf))))
    refine load_step c0 ?_
    ((conv => whnf); repeat (first | (apply load_at; (conv => lhs; whnf); (with_reducible assumption); rfl; (conv => whnf)) | (apply load_at; (conv => lhs; rw [add_plain, add_plain]); (with_reducible assumption); rfl; (conv => whnf)) | (apply loads_at; (conv => lhs; whnf); (with_reducible assumption); rfl; (conv => whnf)) | (refine ⟨⟨by omega, by omega⟩, ?_⟩; (conv => whnf))))
    have fls : ∀ P : Prop, ¬ P → True := fun _ _ => trivial
    cases hd : decide (pat < 0) with
    | true =>
      have hp0 := of_decide_eq_true hd
      have hres := b1 (by rintro ⟨e, _⟩; have := of_decide_eq_true e; omega)
      subst hres
      ((conv => whnf); repeat (first | (apply load_at; (conv => lhs; whnf); (with_reducible assumption); rfl; (conv => whnf)) | (apply load_at; (conv => lhs; rw [add_plain, add_plain]); (with_reducible assumption); rfl; (conv => whnf)) | (apply loads_at; (conv => lhs; whnf); (with_reducible assumption); rfl; (conv => whnf)) | (refine ⟨⟨by omega, by omega⟩, ?_⟩; (conv => whnf))))
      exact ⟨rfl, rfl⟩
    | false =>
      have hp0 := of_decide_eq_false hd
      ((conv => whnf); repeat (first | (apply load_at; (conv => lhs; whnf); (with_reducible assumption); rfl; (conv => whnf)) | (apply load_at; (conv => lhs; rw [add_plain, add_plain]); (with_reducible assumption); rfl; (conv => whnf)) | (apply loads_at; (conv => lhs; whnf); (with_reducible assumption); rfl; (conv => whnf)) | (refine ⟨⟨by omega, by omega⟩, ?_⟩; (conv => whnf))))
      refine load_step c0 ?_
      ((conv => whnf); repeat (first | (apply load_at; (conv => lhs; whnf); (with_reducible assumption); rfl; (conv => whnf)) | (apply load_at; (conv => lhs; rw [add_plain, add_plain]); (with_reducible assumption); rfl; (conv => whnf)) | (apply loads_at; (conv => lhs; whnf); (with_reducible assumption); rfl; (conv => whnf)) | (refine ⟨⟨by omega, by omega⟩, ?_⟩; (conv => whnf))))
      refine call_of kP ?_
      rintro v F ⟨rfl, rfl⟩
      ((conv => whnf); repeat (first | (apply load_at; (conv => lhs; whnf); (with_reducible assumption); rfl; (conv => whnf)) | (apply load_at; (conv => lhs; rw [add_plain, add_plain]); (with_reducible assumption); rfl; (conv => whnf)) | (apply loads_at; (conv => lhs; whnf); (with_reducible assumption); rfl; (conv => whnf)) | (refine ⟨⟨by omega, by omega⟩, ?_⟩; (conv => whnf))))
      refine ⟨Ext.refl _, ?_⟩
      ((conv => whnf); repeat (first | (apply load_at; (conv => lhs; whnf); (with_reducible assumption); rfl; (conv => whnf)) | (apply load_at; (conv => lhs; rw [add_plain, add_plain]); (with_reducible assumption); rfl; (conv => whnf)) | (apply loads_at; (conv => lhs; whnf); (with_reducible assumption); rfl; (conv => whnf)) | (refine ⟨⟨by omega, by omega⟩, ?_⟩; (conv => whnf))))
      refine ⟨Ext.refl _, ?_⟩
      ((conv => whnf); repeat (first | (apply load_at; (conv => lhs; whnf); (with_reducible assumption); rfl; (conv => whnf)) | (apply load_at; (conv => lhs; rw [add_plain, add_plain]); (with_reducible assumption); rfl; (conv => whnf)) | (apply loads_at; (conv => lhs; whnf); (with_reducible assumption); rfl; (conv => whnf)) | (refine ⟨⟨by omega, by omega⟩, ?_⟩; (conv => whnf))))
      cases hd2 : decide (pat ≥ P) with
      | true =>
        have hp1 := of_decide_eq_true hd2
        have hres := b1 (by rintro ⟨e, _⟩; have := of_decide_eq_true e; omega)
        subst hres
        ((conv => whnf); repeat (first | (apply load_at; (conv => lhs; whnf); (with_reducible assumption); rfl; (conv => whnf)) | (apply load_at; (conv => lhs; rw [add_plain, add_plain]); (with_reducible assumption); rfl; (conv => whnf)) | (apply loads_at; (conv => lhs; whnf); (with_reducible assumption); rfl; (conv => whnf)) | (refine ⟨⟨by omega, by omega⟩, ?_⟩; (conv => whnf))))
        exact ⟨rfl, rfl⟩
      | false =>
        have hp1 := of_decide_eq_false hd2
        ((conv => whnf); repeat (first | (apply load_at; (conv => lhs; whnf); (with_reducible assumption); rfl; (conv => whnf)) | (apply load_at; (conv => lhs; rw [add_plain, add_plain]); (with_reducible assumption); rfl; (conv => whnf)) | (apply loads_at; (conv => lhs; whnf); (with_reducible assumption); rfl; (conv => whnf)) | (refine ⟨⟨by omega, by omega⟩, ?_⟩; (conv => whnf))))
        refine load_step c1 ?_
        ((conv => whnf); repeat (first | (apply load_at; (conv => lhs; whnf); (with_reducible assumption); rfl; (conv => whnf)) | (apply load_at; (conv => lhs; rw [add_plain, add_plain]); (with_reducible assumption); rfl; (conv => whnf)) | (apply loads_at; (conv => lhs; whnf); (with_reducible assumption); rfl; (conv => whnf)) | (refine ⟨⟨by omega, by omega⟩, ?_⟩; (conv => whnf))))
        refine cond_split (fun h => ?_) (fun h => ?_)
        · have hq : ¬ pl.length = 240 := by
            have h : ((pl.length : Int) != 240) = true := h
            simp only [bne_iff_ne, ne_eq] at h
            omega
          have hres := b1 (fun e => hq e.2)
          subst hres
          ((conv => whnf); repeat (first | (apply load_at; (conv => lhs; whnf); (with_reducible assumption); rfl; (conv => whnf)) | (apply load_at; (conv => lhs; rw [add_plain, add_plain]); (with_reducible assumption); rfl; (conv => whnf)) | (apply loads_at; (conv => lhs; whnf); (with_reducible assumption); rfl; (conv => whnf)) | (refine ⟨⟨by omega, by omega⟩, ?_⟩; (conv => whnf))))
          exact ⟨rfl, rfl⟩
        have hq : pl.length = 240 := by
          have h : ((pl.length : Int) != 240) = false := h
          simp only [bne_eq_false_iff_eq] at h
          omega
        clear h
        ((conv => whnf); repeat (first | (apply load_at; (conv => lhs; whnf); (with_reducible assumption); rfl; (conv => whnf)) | (apply load_at; (conv => lhs; rw [add_plain, add_plain]); (with_reducible assumption); rfl; (conv => whnf)) | (apply loads_at; (conv => lhs; whnf); (with_reducible assumption); rfl; (conv => whnf)) | (refine ⟨⟨by omega, by omega⟩, ?_⟩; (conv => whnf))))
        refine loop_slots [0, 1, 5, 6] (fun k2 vs F' => ∃ j : Nat, j + k2 = i ∧ vs = [.pointer (some ⟨lb, 0, none⟩), .slice (some ad) ims.length c, .int .i64 (i : Int), .int .i64 (j : Int)] ∧ F' = F ∧ (∀ m, m < j → ∀ x : PcR, ims[m]? = some x → x.at_ ≠ pat)) i ⟨0, by omega, rfl, rfl, fun m h => by omega⟩ ?_
        rintro k2 vs F ρ2 ⟨j, hjk, rfl, rfl, g3⟩
        ((conv => whnf); repeat (first | (apply load_at; (conv => lhs; whnf); (with_reducible assumption); rfl; (conv => whnf)) | (apply load_at; (conv => lhs; rw [add_plain, add_plain]); (with_reducible assumption); rfl; (conv => whnf)) | (apply loads_at; (conv => lhs; whnf); (with_reducible assumption); rfl; (conv => whnf)) | (refine ⟨⟨by omega, by omega⟩, ?_⟩; (conv => whnf))))
        refine cond_split (fun h => ?_) (fun h => ?_)
        · have hj : j < i := by
            have h : decide ((j : Int) < (i : Int)) = true := h
            have := of_decide_eq_true h
            omega
          have hxj : ims[j]? = some ims[j] := List.getElem?_eq_getElem (by omega)
          obtain ⟨ad', e, d0, _⟩ := hcel j _ hxj
          obtain rfl : ad = ad' := Option.some.inj e
          have b2 := hbad2 i j hj _ _ hxj hx
          have g4 : ∀ m, m < j + 1 → ims[j].at_ ≠ pat → ∀ x : PcR, ims[m]? = some x → x.at_ ≠ pat := fun m hm hne x hxm => by
            by_cases e2 : m = j
            · subst e2
              rw [hxj] at hxm
              cases hxm
              exact hne
            · exact g3 m (by omega) x hxm
          generalize ims[j] = y at d0 b2 g4
          obtain ⟨yat, yl, yA, yc⟩ := y
          dsimp only at d0 b2 g4
          ((conv => whnf); repeat (first | (apply load_at; (conv => lhs; whnf); (with_reducible assumption); rfl; (conv => whnf)) | (apply load_at; (conv => lhs; rw [add_plain, add_plain]); (with_reducible assumption); rfl; (conv => whnf)) | (apply loads_at; (conv => lhs; whnf); (with_reducible assumption); rfl; (conv => whnf)) | (refine ⟨⟨by omega, by omega⟩, ?_⟩; (conv => whnf))))
          refine draw_walk tab_ok (by kernel_rfl) [0, 1, 2, 3, 4, 5, 6, 7, 8, 9, 10] (by kernel_rfl) ?_
          ((conv => whnf); repeat (first | (apply load_at; (conv => lhs; whnf); (with_reducible assumption); rfl; (conv => whnf)) | (apply load_at; (conv => lhs; rw [add_plain, add_plain]); (with_reducible assumption); rfl; (conv => whnf)) | (apply loads_at; (conv => lhs; whnf); (with_reducible assumption); rfl; (conv => whnf)) | (refine ⟨⟨by omega, by omega⟩, ?_⟩; (conv => whnf))))
          refine load_step d0 ?_
          ((conv => whnf); repeat (first | (apply load_at; (conv => lhs; whnf); (with_reducible assumption); rfl; (conv => whnf)) | (apply load_at; (conv => lhs; rw [add_plain, add_plain]); (with_reducible assumption); rfl; (conv => whnf)) | (apply loads_at; (conv => lhs; whnf); (with_reducible assumption); rfl; (conv => whnf)) | (refine ⟨⟨by omega, by omega⟩, ?_⟩; (conv => whnf))))
          refine load_step c0 ?_
          ((conv => whnf); repeat (first | (apply load_at; (conv => lhs; whnf); (with_reducible assumption); rfl; (conv => whnf)) | (apply load_at; (conv => lhs; rw [add_plain, add_plain]); (with_reducible assumption); rfl; (conv => whnf)) | (apply loads_at; (conv => lhs; whnf); (with_reducible assumption); rfl; (conv => whnf)) | (refine ⟨⟨by omega, by omega⟩, ?_⟩; (conv => whnf))))
          refine cond_split (fun h => ?_) (fun h => ?_)
          · have he : yat = pat := by
              have h : (yat == pat) = true := h
              simpa using h
            have hres := b2 he
            subst hres
            ((conv => whnf); repeat (first | (apply load_at; (conv => lhs; whnf); (with_reducible assumption); rfl; (conv => whnf)) | (apply load_at; (conv => lhs; rw [add_plain, add_plain]); (with_reducible assumption); rfl; (conv => whnf)) | (apply loads_at; (conv => lhs; whnf); (with_reducible assumption); rfl; (conv => whnf)) | (refine ⟨⟨by omega, by omega⟩, ?_⟩; (conv => whnf))))
            exact ⟨rfl, rfl⟩
          · have he : yat ≠ pat := by
              have h : (yat == pat) = false := h
              simpa using h
            ((conv => whnf); repeat (first | (apply load_at; (conv => lhs; whnf); (with_reducible assumption); rfl; (conv => whnf)) | (apply load_at; (conv => lhs; rw [add_plain, add_plain]); (with_reducible assumption); rfl; (conv => whnf)) | (apply loads_at; (conv => lhs; whnf); (with_reducible assumption); rfl; (conv => whnf)) | (refine ⟨⟨by omega, by omega⟩, ?_⟩; (conv => whnf))))
            refine ⟨k2 - 1, by omega, j + 1, by omega, ?_, rfl, fun m hm => g4 m hm he⟩
            rw [← wrap_succ (j := j) (by omega)]
            rfl
        · have hj : j = i := by have := of_decide_eq_false h; omega
          subst hj
          ((conv => whnf); repeat (first | (apply load_at; (conv => lhs; whnf); (with_reducible assumption); rfl; (conv => whnf)) | (apply load_at; (conv => lhs; rw [add_plain, add_plain]); (with_reducible assumption); rfl; (conv => whnf)) | (apply loads_at; (conv => lhs; whnf); (with_reducible assumption); rfl; (conv => whnf)) | (refine ⟨⟨by omega, by omega⟩, ?_⟩; (conv => whnf))))
          refine ⟨k - 1, by omega, j + 1, by omega, ?_, rfl, fun m p hm hp => ?_, fun m k' hk hm x y hx2 hy => ?_⟩
          · rw [← wrap_succ (j := j) (by omega)]
            rfl
          · by_cases e2 : m = j
            · subst e2
              rw [hx] at hp
              cases hp
              refine ⟨?_, hq⟩
              rw [hPg]
              exact decide_eq_true (by show 0 ≤ pat ∧ pat < P; omega)
            · exact g1 m p (by omega) hp
          · by_cases e2 : m = j
            · subst e2
              rw [hx] at hy
              cases hy
              exact g3 k' hk x hx2
            · exact g2 m k' hk (by omega) x y hx2 hy
  · have hi : i = ims.length := by
      have := of_decide_eq_false h
      omega
    subst hi
    have := hgood (fun j p hj => g1 j p (List.getElem?_eq_some_iff.1 hj).1 hj) (fun j k hkj x y hx hy => g2 j k hkj (List.getElem?_eq_some_iff.1 hy).1 x y hx hy)
    subst this
    ((conv => whnf); repeat (first | (apply load_at; (conv => lhs; whnf); (with_reducible assumption); rfl; (conv => whnf)) | (apply load_at; (conv => lhs; rw [add_plain, add_plain]); (with_reducible assumption); rfl; (conv => whnf)) | (apply loads_at; (conv => lhs; whnf); (with_reducible assumption); rfl; (conv => whnf)) | (refine ⟨⟨by omega, by omega⟩, ?_⟩; (conv => whnf))))
    exact ⟨rfl, rfl⟩
end Go.Proofs.YtmpiggcooboenaaGreatDoor.Al
/- The reference's log: Commit. -/
namespace Go.Proofs.YtmpiggcooboenaaGreatDoor.Al
open Go Go.Al Go.Proofs Go.RowKit
set_option maxHeartbeats 8000000
set_option maxRecDepth 100000
set_option linter.unusedVariables false
set_option linter.unusedSimpArgs false
/-- What is known but for a part. -/
def restH (E F : Heap) : Heap := fun c => match E c with | none => F c | some _ => none
theorem restH_ext (E F : Heap) : Ext (restH E F) F := fun c o hc => by
  unfold restH at hc
  split at hc
  · exact hc
  · cases hc
theorem restH_apart (E F : Heap) : Apart E (restH E F) := fun c hc => by
  unfold restH
  cases e : E c with
  | none => exact absurd e hc
  | some o => rfl
theorem restH_row {E F : Heap} {A : Option Addr} {vs : List Value} (hr : RowAt F A vs) (h : ∀ a, A = some a → E a.block = none) : RowAt (restH E F) A vs := fun j v hj => by
  obtain ⟨a, e, hc⟩ := hr j v hj
  refine ⟨a, e, ?_⟩
  have hb : (restH E F) (a.add j).block = F (a.add j).block := by
    unfold restH
    rw [show (a.add j).block = a.block by unfold Addr.add; split <;> rfl, h a e]
  unfold Heap.cell? at hc ⊢
  rw [hb]
  exact hc
theorem restH_keep {E R F : Heap} (hR : Ext R F) (hA : Apart E R) : Ext R (restH E F) := fun c o hc => by
  unfold restH
  cases e : E c with
  | none => exact hR _ _ hc
  | some u => rw [hA c (by rw [e]; simp)] at hc; cases hc
/-- A log's part of memory. -/
def Rg (E : Heap) (lb b : Nat) (r : RS) (q : Int) : Prop := ∃ D, Rk D b r ∧ D lb = none ∧ E = D.put lb (rgO b q) ∧ 0 ≤ q ∧ q ≤ 4611686018427387904
theorem rwriteE_len {r : RS} {i : Int} {l : List UInt8} (h : rwriteE r i l = 0) : l.length = 256 := by
  unfold rwriteE at h
  split at h
  · cases h
  split at h
  · cases h
  · next h2 => simp at h2; exact h2.2
theorem rrun_seq {r : RS} {n q : Int} {ps : List (Int × List UInt8)} (h0 : ps.length ≠ 0) (h : (runW rsO r (logW n q 0 ps)).2 = 0) (m : Nat) (hm : m ≤ 100000) : secR (m : Int) q = true := by
  cases ps with
  | nil => exact absurd rfl h0
  | cons p ps =>
    have h : (if rwriteE r (slotI n ((0 : Nat) : Int)) (packB p.1 q p.2) = 0 then runW rsO (rwriteS r (slotI n ((0 : Nat) : Int)) (packB p.1 q p.2)) (logW n q 1 ps) else (rwriteS r (slotI n ((0 : Nat) : Int)) (packB p.1 q p.2), rwriteE r (slotI n ((0 : Nat) : Int)) (packB p.1 q p.2))).2 = 0 := h
    split at h
    · next e =>
      have := packY_of (rwriteE_len e)
      unfold packY secR at this
      simp only [Bool.and_eq_true, decide_eq_true_eq] at this
      unfold secR inM
      rw [show Nat.beq 4 8 = false by decide, cond_false, show ((256 ^ 4 : Nat) : Int) = 4294967296 by decide]
      simp only [Bool.and_eq_true, decide_eq_true_eq]
      exact ⟨by omega, this.1.2.1, this.1.2.2⟩
    · next e => exact absurd h e
theorem TwoM.moves {R F1 F2 G D1 D2 : Heap} {S T : Value} {e1 z1 n1 e2 z2 n2 : Nat} {xs ys : List Value} (h : TwoM R F1 S T e1 z1 n1 xs e2 z2 n2 ys G) (hM : Moves D1 F1 D2 F2) (hRa : Apart D1 R) (hGa : Apart D1 G) (hS : ∀ k, blk S = some k → D1 k = none) (hT : ∀ k, blk T = some k → D1 k = none) :
    TwoM R F2 S T e1 z1 n1 xs e2 z2 n2 ys G ∧ Apart D2 R ∧ Apart D2 G ∧ (∀ k, blk S = some k → D2 k = none) ∧ ∀ k, blk T = some k → D2 k = none := by
  have key : ∀ k, D1 k = none → F1 k ≠ none → D2 k = none := fun k hk hf => by
    cases e : D2 k with
    | none => rfl
    | some o =>
      rcases hM.new k (by rw [e]; simp) with x | x
      · exact absurd hk x
      · exact absurd x hf
  refine ⟨⟨⟨h.s.own.of_blk fun k o hk ho => hM.out k o ho (hS k hk), h.s.fresh, hM.keep h.s.ext hRa⟩, ⟨h.t.own.of_blk fun k o hk ho => hM.out k o ho (hT k hk), h.t.fresh, hM.keep h.t.ext hRa⟩, h.ne, hM.keep h.base hGa, h.outS, h.outT⟩, hM.apart h.s.ext hRa, hM.apart h.base hGa, fun k hk => key k (hS k hk) (h.s.own.there hk), fun k hk => key k (hT k hk) (h.t.own.there hk)⟩
/-- Two rows of the call's own beside a part of memory that moves. -/
structure St (R F D F1 D2 : Heap) (S T : Value) (e1 z1 n1 : Nat) (xs : List Value) (e2 z2 n2 : Nat) (ys : List Value) (G : Heap) : Prop where
  tm : TwoM R F1 S T e1 z1 n1 xs e2 z2 n2 ys G
  mv : Moves D F D2 F1
  ga : Apart D2 G
  ra : Apart D2 R
  s2 : ∀ k, blk S = some k → D2 k = none
  t2 : ∀ k, blk T = some k → D2 k = none
  sf : ∀ k, blk S = some k → F k = none ∨ D k ≠ none
  tf : ∀ k, blk T = some k → F k = none ∨ D k ≠ none
  gl : ∀ c o, F c = some o → D c = none → R c = none → G c = none
section
variable {R F D F1 F2 D2 D3 G : Heap} {S T S2 : Value} {e1 z1 n1 e2 z2 n2 m1 : Nat} {xs ys us : List Value}
theorem St.grow (h : St R F D F1 D2 S T e1 z1 n1 xs e2 z2 n2 ys G) (hE : Ext F1 F2) : St R F D F2 D2 S T e1 z1 n1 xs e2 z2 n2 ys (gain G F1 F2) := by
  refine ⟨h.tm.grow hE, h.mv.trans (Moves.ext h.mv.inn hE), fun c hc => ?_, h.ra, h.s2, h.t2, h.sf, h.tf, fun c o hc hd hr => by rw [gain_old (h.mv.out _ _ hc hd)]; exact h.gl c o hc hd hr⟩
  cases e : D2 c with
  | none => exact absurd e hc
  | some o => rw [gain_old (h.mv.inn _ _ e)]; exact h.ga c hc
theorem St.pushS (h : St R F D F1 D2 S T e1 z1 n1 xs e2 z2 n2 ys G) (hO : Own F2 S2 e1 z1 m1 us) (hk : Keeps F1 F2 (blk S)) (hf : ∀ b, blk S2 = some b → blk S = some b ∨ F1 b = none) : St R F D F2 D2 S2 T e1 z1 m1 us e2 z2 n2 ys G := by
  refine ⟨h.tm.pushS hO hk hf, ⟨fun c o hc => ?_, fun c o hc hn => ?_, h.mv.new⟩, h.ga, h.ra, fun k hk' => ?_, h.t2, fun k hk' => ?_, h.tf, h.gl⟩
  · exact hk c o (h.mv.inn _ _ hc) fun e => by rw [h.s2 c e] at hc; cases hc
  · refine hk c o (h.mv.out _ _ hc hn) fun e => ?_
    rcases h.sf c e with x | x
    · rw [x] at hc; cases hc
    · exact x hn
  · rcases hf k hk' with e | e
    · exact h.s2 k e
    · exact h.mv.inn.none e
  · rcases hf k hk' with e | e
    · exact h.sf k e
    · cases hF : F k with
      | none => exact .inl rfl
      | some o =>
        refine .inr fun hn => ?_
        rw [h.mv.out _ _ hF hn] at e
        cases e
theorem St.swap (h : St R F D F1 D2 S T e1 z1 n1 xs e2 z2 n2 ys G) : St R F D F1 D2 T S e2 z2 n2 ys e1 z1 n1 xs G := ⟨h.tm.swap, h.mv, h.ga, h.ra, h.t2, h.s2, h.tf, h.sf, h.gl⟩
theorem St.moves (h : St R F D F1 D2 S T e1 z1 n1 xs e2 z2 n2 ys G) (hM : Moves D2 F1 D3 F2) : St R F D F2 D3 S T e1 z1 n1 xs e2 z2 n2 ys G := by
  obtain ⟨k1, k2, k3, k4, k5⟩ := h.tm.moves hM h.ra h.ga h.s2 h.t2
  exact ⟨k1, h.mv.trans hM, k3, k2, k4, k5, h.sf, h.tf, h.gl⟩
end
theorem new_gain {G F F' : Heap} {b : Nat} {cs : Array Value} {e : TypeId} (h0 : F b = none) (hB : F' b = some (.cells cs e)) (hG : G b = none) : RowAt (gain G F F') (some ⟨b, 0, none⟩) cs.toList := rowAt_gain (row_blk hB) fun a ha => by
  cases ha
  exact h0
end Go.Proofs.YtmpiggcooboenaaGreatDoor.Al
/- The reference's log: Commit. -/
namespace Go.Proofs.YtmpiggcooboenaaGreatDoor.Al
open Go Go.Al Go.Proofs Go.RowKit
set_option maxHeartbeats 8000000
set_option maxRecDepth 100000
set_option linter.unusedVariables false
set_option linter.unusedSimpArgs false
theorem rgCommit {E F R : Heap} {b lb : Nat} {r : RS} {q : Int} (hE : Ext E F) (hL : Rg E lb b r q) (hR : Ext R F) (hA : Apart E R) (ims : List PcR) (A : Option Addr) (c : Nat) (hr : RowAt R A (rowS pcC ims)) (hp : ∀ p ∈ ims, PcOk R p) (hw : r.done + 200000 < 1000000000) (hl : ims.length ≤ 100000) :
    FnK Tryz.prog 38 #[.pointer (some ⟨lb, 0, none⟩), .slice A ims.length c] F (fun v F' => v = .int .i64 (commitS rsO r q (ims.map pcW)).2.1 ∧ ∃ E', Moves E F E' F' ∧ Rg E' lb b (commitS rsO r q (ims.map pcW)).1 (commitS rsO r q (ims.map pcW)).2.2) := by
  obtain ⟨D, hD, hdl, rfl, hq0, hq1⟩ := hL
  have hDE : Ext D F := ((Ext.refl D).put hdl _).trans hE
  have hlg : F lb = some (rgO b q) := hE _ _ (Heap.put_same _ _ _)
  have hAD : Apart D R := hA.mono ((Ext.refl D).put hdl _)
  have hRl : R lb = none := hA lb (by rw [Heap.put_same]; simp)
  have k1 := rgPages hDE hD hlg
  have k2 := rgRight hDE hD hlg ims A c (hr.mono hR) hl
  obtain ⟨N, hN⟩ : ∃ N : Nat, N = r.L.length := ⟨_, rfl⟩
  have hle := pagesN_le (N : Int)
  have hC : commitS rsO r q (ims.map pcW) = if (ims.length : Int) > pagesN (N : Int) then (r, 6, q) else
    if rightL (N : Int) (ims.map pcW) [] = false then (r, 1, q) else
    if ims.length = 0 then (r, 0, q) else
    if (runW rsO r (logW (N : Int) (q + 1) 0 (ims.map pcW))).2 ≠ 0 then ((runW rsO r (logW (N : Int) (q + 1) 0 (ims.map pcW))).1, (runW rsO r (logW (N : Int) (q + 1) 0 (ims.map pcW))).2, q) else
    if (runW rsO (runW rsO r (logW (N : Int) (q + 1) 0 (ims.map pcW))).1 [(0, noteB ims.length (q + 1))]).2 ≠ 0 then ((runW rsO (runW rsO r (logW (N : Int) (q + 1) 0 (ims.map pcW))).1 [(0, noteB ims.length (q + 1))]).1, (runW rsO (runW rsO r (logW (N : Int) (q + 1) 0 (ims.map pcW))).1 [(0, noteB ims.length (q + 1))]).2, q) else
    ((runW rsO (runW rsO (runW rsO r (logW (N : Int) (q + 1) 0 (ims.map pcW))).1 [(0, noteB ims.length (q + 1))]).1 (homW (N : Int) (q + 1) (ims.map pcW))).1, (runW rsO (runW rsO (runW rsO r (logW (N : Int) (q + 1) 0 (ims.map pcW))).1 [(0, noteB ims.length (q + 1))]).1 (homW (N : Int) (q + 1) (ims.map pcW))).2, q + 1) := by
    unfold commitS
    rw [List.length_map, hN]
    rfl
  have hsec : ims.length ≠ 0 → (runW rsO r (logW (N : Int) (q + 1) 0 (ims.map pcW))).2 = 0 → secR (ims.length : Int) (q + 1) = true := fun h1 h2 => rrun_seq (by rw [List.length_map]; exact h1) h2 _ hl
  have hrl := rrun_le (logW (N : Int) (q + 1) 0 (ims.map pcW)) r
  rw [logW_len, List.length_map] at hrl
  rw [← hN] at k1 k2 hrl
  generalize commitS rsO r q (ims.map pcW) = cs at hC
  generalize rightL (N : Int) (ims.map pcW) [] = z at k2 hC
  have fin0 : ∀ F' s' D', Moves D F D' F' → Rk D' b s' → ∃ E', Moves (D.put lb (rgO b q)) F E' F' ∧ Rg E' lb b s' q := fun F' s' D' hM hD' => ⟨_, (moves_withB hM hdl hlg).1, D', hD', (moves_withB hM hdl hlg).2, rfl, hq0, hq1⟩
  (refine fn_walk tab_ok Tryz.func38 rfl rfl rfl rfl ?_; (conv => whnf))
  refine call_of k1 ?_
  rintro v F ⟨rfl, rfl⟩
  ((conv => whnf); repeat (first | (apply load_at; (conv => lhs; whnf); (with_reducible assumption); rfl; (conv => whnf)) | (apply load_at; (conv => lhs; rw [add_plain, add_plain]); (with_reducible assumption); rfl; (conv => whnf)) | (apply loads_at; (conv => lhs; whnf); (with_reducible assumption); rfl; (conv => whnf)) | (refine ⟨⟨by omega, by omega⟩, ?_⟩; (conv => whnf))))
  refine cond_split (fun h => ?_) (fun h => ?_)
  · have hg : (ims.length : Int) > pagesN (N : Int) := of_decide_eq_true (show decide ((ims.length : Int) > pagesN (N : Int)) = true from h)
    rw [if_pos hg] at hC
    subst hC
    ((conv => whnf); repeat (first | (apply load_at; (conv => lhs; whnf); (with_reducible assumption); rfl; (conv => whnf)) | (apply load_at; (conv => lhs; rw [add_plain, add_plain]); (with_reducible assumption); rfl; (conv => whnf)) | (apply loads_at; (conv => lhs; whnf); (with_reducible assumption); rfl; (conv => whnf)) | (refine ⟨⟨by omega, by omega⟩, ?_⟩; (conv => whnf))))
    exact ⟨rfl, fin0 _ _ D (Moves.refl hDE) hD⟩
  have hg : ¬ (ims.length : Int) > pagesN (N : Int) := of_decide_eq_false (show decide ((ims.length : Int) > pagesN (N : Int)) = false from h)
  rw [if_neg hg] at hC
  clear h
  ((conv => whnf); repeat (first | (apply load_at; (conv => lhs; whnf); (with_reducible assumption); rfl; (conv => whnf)) | (apply load_at; (conv => lhs; rw [add_plain, add_plain]); (with_reducible assumption); rfl; (conv => whnf)) | (apply loads_at; (conv => lhs; whnf); (with_reducible assumption); rfl; (conv => whnf)) | (refine ⟨⟨by omega, by omega⟩, ?_⟩; (conv => whnf))))
  refine call_of k2 ?_
  rintro v F ⟨rfl, rfl⟩
  refine short [0, 1, 25] [.pointer (some ⟨lb, 0, none⟩), .slice A ims.length c, .bool z] rfl fun ρ => ?_
  cases z with
  | false =>
    rw [if_pos rfl] at hC
    subst hC
    ((conv => whnf); repeat (first | (apply load_at; (conv => lhs; whnf); (with_reducible assumption); rfl; (conv => whnf)) | (apply load_at; (conv => lhs; rw [add_plain, add_plain]); (with_reducible assumption); rfl; (conv => whnf)) | (apply loads_at; (conv => lhs; whnf); (with_reducible assumption); rfl; (conv => whnf)) | (refine ⟨⟨by omega, by omega⟩, ?_⟩; (conv => whnf))))
    exact ⟨rfl, fin0 _ _ D (Moves.refl hDE) hD⟩
  | true =>
  rw [if_neg (by decide)] at hC
  ((conv => whnf); repeat (first | (apply load_at; (conv => lhs; whnf); (with_reducible assumption); rfl; (conv => whnf)) | (apply load_at; (conv => lhs; rw [add_plain, add_plain]); (with_reducible assumption); rfl; (conv => whnf)) | (apply loads_at; (conv => lhs; whnf); (with_reducible assumption); rfl; (conv => whnf)) | (refine ⟨⟨by omega, by omega⟩, ?_⟩; (conv => whnf))))
  refine cond_split (fun h => ?_) (fun h => ?_)
  · have hz : ims.length = 0 := by
      have h : ((ims.length : Int) == 0) = true := h
      simp only [beq_iff_eq] at h
      omega
    rw [if_pos hz] at hC
    subst hC
    ((conv => whnf); repeat (first | (apply load_at; (conv => lhs; whnf); (with_reducible assumption); rfl; (conv => whnf)) | (apply load_at; (conv => lhs; rw [add_plain, add_plain]); (with_reducible assumption); rfl; (conv => whnf)) | (apply loads_at; (conv => lhs; whnf); (with_reducible assumption); rfl; (conv => whnf)) | (refine ⟨⟨by omega, by omega⟩, ?_⟩; (conv => whnf))))
    exact ⟨rfl, fin0 _ _ D (Moves.refl hDE) hD⟩
  have hz : ¬ ims.length = 0 := by
    have h : ((ims.length : Int) == 0) = false := h
    simp only [beq_eq_false_iff_ne, ne_eq] at h
    omega
  rw [if_neg hz] at hC
  clear h
  obtain ⟨res, hres⟩ : ∃ x, x = runW rsO r (logW (N : Int) (q + 1) 0 (ims.map pcW)) := ⟨_, rfl⟩
  rw [← hres] at hC hsec hrl
  have hqw : IntKind.i64.wrap (q + 1) = q + 1 := wrap_eq (by omega) (by omega)
  have hlw : ∀ i ps, (logW (N : Int) (q + 1) i ps).length = ps.length := fun i ps => logW_len _ _ i ps
  have hlr : ∀ (i : Nat) (p : Int × List UInt8) ps, logW (N : Int) (q + 1) i (p :: ps) = (slotI (N : Int) (i : Int), packB p.1 (q + 1) p.2) :: logW (N : Int) (q + 1) (i + 1) ps := fun _ _ _ => rfl
  have hl0 : ∀ i, logW (N : Int) (q + 1) i [] = [] := fun _ => rfl
  generalize logW (N : Int) (q + 1) = lw at hres hlr hl0
  have hh : ∀ (i : Nat) (p : PcR), ims[i]? = some p → (homW (N : Int) (q + 1) (ims.map pcW)).take (i + 1) = (homW (N : Int) (q + 1) (ims.map pcW)).take i ++ [(homeI (N : Int) p.at_, packB p.at_ (q + 1) p.l)] := fun i p hp => by
    rw [List.take_add_one]
    unfold homW
    rw [List.getElem?_map, List.getElem?_map, hp]
    rfl
  have hh0 : (homW (N : Int) (q + 1) (ims.map pcW)).take ims.length = homW (N : Int) (q + 1) (ims.map pcW) := List.take_of_length_le (by unfold homW; rw [List.length_map, List.length_map]; exact Nat.le_refl _)
  generalize homW (N : Int) (q + 1) (ims.map pcW) = hw_ at hC hh hh0
  have hcel : ∀ (i : Nat) p, ims[i]? = some p → ∃ ad, A = some ad ∧ R.cell? ((ad.add (Int.toNat (i : Int) * 2)).add 0) = some (.int .i64 p.at_) ∧ R.cell? ((ad.add (Int.toNat (i : Int) * 2)).add 1) = some (.slice p.A p.l.length p.c) := fun i p hp => by
    obtain ⟨ad, rfl⟩ := hr.some (by have := (List.getElem?_eq_some_iff.1 hp).1; rw [rowS_len pcC_len]; omega)
    exact ⟨ad, rfl, rowS_cell pcC_len hr hp rfl, rowS_cell pcC_len hr hp rfl⟩
  have il : ims.length ≤ 32768 := by omega
  ((conv => whnf); repeat (first | (apply load_at; (conv => lhs; whnf); (with_reducible assumption); rfl; (conv => whnf)) | (apply load_at; (conv => lhs; rw [add_plain, add_plain]); (with_reducible assumption); rfl; (conv => whnf)) | (apply loads_at; (conv => lhs; whnf); (with_reducible assumption); rfl; (conv => whnf)) | (refine ⟨⟨by omega, by omega⟩, ?_⟩; (conv => whnf))))
  rw [hqw]
  refine loop_slots [0, 1, 5, 6, 7, 8] (fun k vs F' => ∃ (i : Nat) (r1 : RS) (D1 : Heap) (S T : Value) (rs : List RpR) (G : Heap), i + k = ims.length ∧ rs.length = i ∧ vs = [.pointer (some ⟨lb, 0, none⟩), .slice A ims.length c, .int .i64 (q + 1), S, T, .int .i64 (i : Int)] ∧ St R F D F' D1 S T 33 1 rs.length (rs.map rbV) 3 1 rs.length (rs.map riV) G ∧ Rk D1 b r1 ∧ r1.L.length = N ∧ r1.done + k + 100000 < 1000000000 ∧ (∀ p ∈ rs, RpOk G p) ∧ rs.map (rhW (N : Int)) = hw_.take i ∧ res = runW rsO r1 (lw i ((ims.drop i).map pcW))) ims.length ⟨0, r, D, .slice none 0 0, .slice none 0 0, [], R, by omega, rfl, rfl, ⟨⟨Mine.nil _ _ _ _ hR, Mine.nil _ _ _ _ hR, (fun k h => by cases h), hR, (fun k h => by cases h), fun k h => by cases h⟩, Moves.refl hDE, hAD, hAD, (fun k h => by cases h), (fun k h => by cases h), (fun k h => by cases h), (fun k h => by cases h), fun c o _ _ hr => hr⟩, hD, hN.symm, by omega, (fun p h => by cases h), rfl, hres⟩ ?_
  rintro k vs F1 ρ ⟨i, r1, D1, S, T, rs, G, hik, hri, rfl, st1, hD1, hn1, hw1, hok, hhw, hrs⟩
  have hlg1 := st1.mv.out _ _ hlg hdl
  have hR1 := st1.tm.s.ext
  ((conv => whnf); repeat (first | (apply load_at; (conv => lhs; whnf); (with_reducible assumption); rfl; (conv => whnf)) | (apply load_at; (conv => lhs; rw [add_plain, add_plain]); (with_reducible assumption); rfl; (conv => whnf)) | (apply loads_at; (conv => lhs; whnf); (with_reducible assumption); rfl; (conv => whnf)) | (refine ⟨⟨by omega, by omega⟩, ?_⟩; (conv => whnf))))
  refine cond_split (fun h => ?_) (fun h => ?_)
  · have hi : i < ims.length := by
      have h : decide ((i : Int) < (ims.length : Int)) = true := h
      have := of_decide_eq_true h
      omega
    have hx : ims[i]? = some ims[i] := List.getElem?_eq_getElem hi
    have hpk := (hp _ (List.getElem_mem hi)).mono hR1
    rw [List.drop_eq_getElem_cons hi, List.map_cons, hlr, runW_cons] at hrs
    have hh1 := hh i _ hx
    obtain ⟨ad, rfl, c0, c1⟩ := hcel i _ hx
    have c0R := c0
    replace c0 := hR1.cell c0
    replace c1 := hR1.cell c1
    generalize ims[i] = p at hpk hrs hh1 c0 c1 c0R
    obtain ⟨pat, pl, pA, pc⟩ := p
    dsimp only at c0 c1 c0R
    have hpr : RowAt F1 pA (bytesOf pl) := hpk.row
    have hpl : pl.length ≤ 900000 := hpk.len
    have kp := rpack pat (q + 1) pl pA pc F1 hpr hpl
    have hpb := packB_le pat (q + 1) pl
    obtain ⟨hle1, hln⟩ := rw_le r1 (slotI (N : Int) (i : Int)) (packB pat (q + 1) pl)
    replace hrs : res = if rwriteE r1 (slotI (N : Int) (i : Int)) (packB pat (q + 1) pl) = 0 then runW rsO (rwriteS r1 (slotI (N : Int) (i : Int)) (packB pat (q + 1) pl)) (lw (i + 1) ((ims.drop (i + 1)).map pcW)) else (rwriteS r1 (slotI (N : Int) (i : Int)) (packB pat (q + 1) pl), rwriteE r1 (slotI (N : Int) (i : Int)) (packB pat (q + 1) pl)) := hrs
    replace hh1 : hw_.take (i + 1) = hw_.take i ++ [(homeI (N : Int) pat, packB pat (q + 1) pl)] := hh1
    generalize packB pat (q + 1) pl = pb at kp hpb hle1 hln hrs hh1
    generalize packE pat (q + 1) pl = pe at kp
    have ks := fun F => rslot (N : Int) (i : Int) F
    have kw := fun F R A c (hE : Ext D1 F) (hR : Ext R F) hA hr => rwrite hE hD1 hR hA pb A c hr (by omega) (slotI (N : Int) (i : Int)) (by omega)
    generalize slotI (N : Int) (i : Int) = si at ks kw hrs hle1 hln
    generalize isPg (N : Int) (i : Int) = zi at ks
    generalize rwriteS r1 si pb = r2 at kw hrs hle1 hln
    generalize rwriteE r1 si pb = e2 at kw hrs
    obtain ⟨q', hb⟩ := rk_cell hD1
    rw [hn1] at hb
    ((conv => whnf); repeat (first | (apply load_at; (conv => lhs; whnf); (with_reducible assumption); rfl; (conv => whnf)) | (apply load_at; (conv => lhs; rw [add_plain, add_plain]); (with_reducible assumption); rfl; (conv => whnf)) | (apply loads_at; (conv => lhs; whnf); (with_reducible assumption); rfl; (conv => whnf)) | (refine ⟨⟨by omega, by omega⟩, ?_⟩; (conv => whnf))))
    refine draw_tree tab_ok (by kernel_rfl) [] (DT.row [0, 1, 2, 3, 4, 5, 6, 7, 8, 9, 10, 11, 12, 13, 14, 15, 16] .nil) (by kernel_rfl) ?_
    ((conv => whnf); repeat (first | (apply load_at; (conv => lhs; whnf); (with_reducible assumption); rfl; (conv => whnf)) | (apply load_at; (conv => lhs; rw [add_plain, add_plain]); (with_reducible assumption); rfl; (conv => whnf)) | (apply loads_at; (conv => lhs; whnf); (with_reducible assumption); rfl; (conv => whnf)) | (refine ⟨⟨by omega, by omega⟩, ?_⟩; (conv => whnf))))
    refine load_step c0 ?_
    ((conv => whnf); repeat (first | (apply load_at; (conv => lhs; whnf); (with_reducible assumption); rfl; (conv => whnf)) | (apply load_at; (conv => lhs; rw [add_plain, add_plain]); (with_reducible assumption); rfl; (conv => whnf)) | (apply loads_at; (conv => lhs; whnf); (with_reducible assumption); rfl; (conv => whnf)) | (refine ⟨⟨by omega, by omega⟩, ?_⟩; (conv => whnf))))
    refine load_step c1 ?_
    ((conv => whnf); repeat (first | (apply load_at; (conv => lhs; whnf); (with_reducible assumption); rfl; (conv => whnf)) | (apply load_at; (conv => lhs; rw [add_plain, add_plain]); (with_reducible assumption); rfl; (conv => whnf)) | (apply loads_at; (conv => lhs; whnf); (with_reducible assumption); rfl; (conv => whnf)) | (refine ⟨⟨by omega, by omega⟩, ?_⟩; (conv => whnf))))
    refine call_of kp ?_
    rintro v F2 ⟨u, rfl, ⟨B, bc, rfl, hbc, hbr, hbf⟩, hE2⟩
    refine ⟨hE2, ?_⟩
    have st2 := st1.grow hE2
    have x2 := gain_ext (F' := F2) st1.tm.base
    have hpb2 : RowAt (gain G F1 F2) B (bytesOf pb) := rowAt_gain hbr hbf
    replace hb := st2.mv.inn _ _ hb
    have hlg2 := hE2 _ _ hlg1
    have c02 := hE2.cell c0
    generalize gain G F1 F2 = G2 at st2 x2 hpb2
    ((conv => whnf); repeat (first | (apply load_at; (conv => lhs; whnf); (with_reducible assumption); rfl; (conv => whnf)) | (apply load_at; (conv => lhs; rw [add_plain, add_plain]); (with_reducible assumption); rfl; (conv => whnf)) | (apply loads_at; (conv => lhs; whnf); (with_reducible assumption); rfl; (conv => whnf)) | (refine ⟨⟨by omega, by omega⟩, ?_⟩; (conv => whnf))))
    refine call_of (ks F2) ?_
    rintro v F2 ⟨rfl, rfl⟩
    refine short [0, 1, 5, 6, 7, 8, 9, 67] [.pointer (some ⟨lb, 0, none⟩), .slice (some ad) ims.length c, .int .i64 (q + 1), S, T, .int .i64 (i : Int), .slice B pb.length bc, .tuple #[.int .i64 si, .bool zi]] rfl fun ρ => ?_
    ((conv => whnf); repeat (first | (apply load_at; (conv => lhs; whnf); (with_reducible assumption); rfl; (conv => whnf)) | (apply load_at; (conv => lhs; rw [add_plain, add_plain]); (with_reducible assumption); rfl; (conv => whnf)) | (apply loads_at; (conv => lhs; whnf); (with_reducible assumption); rfl; (conv => whnf)) | (refine ⟨⟨by omega, by omega⟩, ?_⟩; (conv => whnf))))
    refine call_of (kw F2 G2 B bc st2.mv.inn st2.tm.base st2.ga hpb2) ?_
    rintro v F3 ⟨rfl, D3, hM3, hD3⟩
    have st3 := st2.moves hM3
    refine short [0, 1, 5, 6, 7, 8, 9, 76] [.pointer (some ⟨lb, 0, none⟩), .slice (some ad) ims.length c, .int .i64 (q + 1), S, T, .int .i64 (i : Int), .slice B pb.length bc, .int .i64 e2] rfl fun ρ => ?_
    ((conv => whnf); repeat (first | (apply load_at; (conv => lhs; whnf); (with_reducible assumption); rfl; (conv => whnf)) | (apply load_at; (conv => lhs; rw [add_plain, add_plain]); (with_reducible assumption); rfl; (conv => whnf)) | (apply loads_at; (conv => lhs; whnf); (with_reducible assumption); rfl; (conv => whnf)) | (refine ⟨⟨by omega, by omega⟩, ?_⟩; (conv => whnf))))
    refine cond_split (fun h => ?_) (fun h => ?_)
    · have he : ¬ e2 = 0 := by
        have h : (e2 != 0) = true := h
        simpa using h
      rw [if_neg he] at hrs
      rw [hrs, if_pos he] at hC
      subst hC
      ((conv => whnf); repeat (first | (apply load_at; (conv => lhs; whnf); (with_reducible assumption); rfl; (conv => whnf)) | (apply load_at; (conv => lhs; rw [add_plain, add_plain]); (with_reducible assumption); rfl; (conv => whnf)) | (apply loads_at; (conv => lhs; whnf); (with_reducible assumption); rfl; (conv => whnf)) | (refine ⟨⟨by omega, by omega⟩, ?_⟩; (conv => whnf))))
      exact ⟨rfl, fin0 _ _ D3 st3.mv hD3⟩
    have he : e2 = 0 := by
      have h : (e2 != 0) = false := h
      simpa using h
    rw [if_pos he] at hrs
    clear h
    have c03 := st3.tm.s.ext.cell c0R
    ((conv => whnf); repeat (first | (apply load_at; (conv => lhs; whnf); (with_reducible assumption); rfl; (conv => whnf)) | (apply load_at; (conv => lhs; rw [add_plain, add_plain]); (with_reducible assumption); rfl; (conv => whnf)) | (apply loads_at; (conv => lhs; whnf); (with_reducible assumption); rfl; (conv => whnf)) | (refine ⟨⟨by omega, by omega⟩, ?_⟩; (conv => whnf))))
    refine draw_cut (fun env' F' => ∃ S' T' G', [0, 1, 5, 6, 7, 8].map env' = [.pointer (some ⟨lb, 0, none⟩), .slice (some ad) ims.length c, .int .i64 (q + 1), S', T', .int .i64 (i : Int)] ∧ St R F D F' D3 S' T' 33 1 (rs.length + 1) (rs.map rbV ++ [.slice B pb.length bc]) 3 1 (rs.length + 1) (rs.map riV ++ [.int .i64 pat]) G' ∧ Ext G2 G') (fun K hK => ?_) ?_
    · refine draw_tree_at tab_ok (by kernel_rfl) [9] (DT.row [0, 1, 4, 5, 6, 7, 8, 9] (.fork (.cons 2 (.fork (.cons 3 (.cons 10 (.cons 11 (DT.row [12, 13] .nil)))) (.cons 10 (.cons 3 (.cons 11 (DT.row [12, 13] .nil)))))) (.cons 10 (.cons 2 (.cons 3 (.cons 11 (DT.row [12, 13] .nil))))))) (by kernel_rfl) R st3.tm.s.ext ?_
      ((conv => whnf); repeat (first | (apply load_at; (conv => lhs; whnf); (with_reducible assumption); rfl; (conv => whnf)) | (apply load_at; (conv => lhs; rw [add_plain, add_plain]); (with_reducible assumption); rfl; (conv => whnf)) | (apply loads_at; (conv => lhs; whnf); (with_reducible assumption); rfl; (conv => whnf)) | (refine ⟨⟨by omega, by omega⟩, ?_⟩; (conv => whnf))))
      refine load_step c0R ?_
      ((conv => whnf); repeat (first | (apply load_at; (conv => lhs; whnf); (with_reducible assumption); rfl; (conv => whnf)) | (apply load_at; (conv => lhs; rw [add_plain, add_plain]); (with_reducible assumption); rfl; (conv => whnf)) | (apply loads_at; (conv => lhs; whnf); (with_reducible assumption); rfl; (conv => whnf)) | (refine ⟨⟨by omega, by omega⟩, ?_⟩; (conv => whnf))))
      refine ⟨?_, ?_⟩
      · ((conv => whnf); repeat (first | (apply load_at; (conv => lhs; whnf); (with_reducible assumption); rfl; (conv => whnf)) | (apply load_at; (conv => lhs; rw [add_plain, add_plain]); (with_reducible assumption); rfl; (conv => whnf)) | (apply loads_at; (conv => lhs; whnf); (with_reducible assumption); rfl; (conv => whnf)) | (refine ⟨⟨by omega, by omega⟩, ?_⟩; (conv => whnf))))
        refine new_step (.cells #[.slice B pb.length bc] 33) rfl fun g h0_g => ?_
        have hE_g := Ext.new h0_g (.cells #[.slice B pb.length bc] 33)
        have hB_g := Heap.put_same F3 g (.cells #[.slice B pb.length bc] 33)
        generalize F3.put g _ = F4 at hE_g hB_g ⊢
        have st4 := st3.grow hE_g
        have x4 := gain_ext (F' := F4) st3.tm.base
        have q4 := new_gain h0_g hB_g (st3.tm.base.none h0_g)
        ((conv => whnf); repeat (first | (apply load_at; (conv => lhs; whnf); (with_reducible assumption); rfl; (conv => whnf)) | (apply load_at; (conv => lhs; rw [add_plain, add_plain]); (with_reducible assumption); rfl; (conv => whnf)) | (apply loads_at; (conv => lhs; whnf); (with_reducible assumption); rfl; (conv => whnf)) | (refine ⟨⟨by omega, by omega⟩, ?_⟩; (conv => whnf))))
        refine ⟨st4.tm.s.ext, ?_⟩
        ((conv => whnf); repeat (first | (apply load_at; (conv => lhs; whnf); (with_reducible assumption); rfl; (conv => whnf)) | (apply load_at; (conv => lhs; rw [add_plain, add_plain]); (with_reducible assumption); rfl; (conv => whnf)) | (apply loads_at; (conv => lhs; whnf); (with_reducible assumption); rfl; (conv => whnf)) | (refine ⟨⟨by omega, by omega⟩, ?_⟩; (conv => whnf))))
        refine ⟨?_, ?_⟩
        · ((conv => whnf); repeat (first | (apply load_at; (conv => lhs; whnf); (with_reducible assumption); rfl; (conv => whnf)) | (apply load_at; (conv => lhs; rw [add_plain, add_plain]); (with_reducible assumption); rfl; (conv => whnf)) | (apply loads_at; (conv => lhs; whnf); (with_reducible assumption); rfl; (conv => whnf)) | (refine ⟨⟨by omega, by omega⟩, ?_⟩; (conv => whnf))))
          refine append_own tab_ok (s := S) (n := rs.length) (xs := rs.map rbV) (m := 1) (ys := [.slice B pb.length bc]) (y := .slice (some ⟨g, 0, none⟩) 1 1) rfl rfl rfl rfl rfl ⟨_, rfl, fun k h => by cases h⟩ ⟨_, rfl, rfl⟩ (by decide) st4.tm.s.own ⟨rfl, .inl ⟨_, _, rfl, q4.mono st4.tm.base⟩⟩ (one_slice _ _ _) (by show 2 * (rs.length + 1) * 24 ≤ _; omega) fun S1 F5 hO5 hk5 hf5 => ?_
          have st5 := st4.pushS hO5 hk5 hf5
          ((conv => whnf); repeat (first | (apply load_at; (conv => lhs; whnf); (with_reducible assumption); rfl; (conv => whnf)) | (apply load_at; (conv => lhs; rw [add_plain, add_plain]); (with_reducible assumption); rfl; (conv => whnf)) | (apply loads_at; (conv => lhs; whnf); (with_reducible assumption); rfl; (conv => whnf)) | (refine ⟨⟨by omega, by omega⟩, ?_⟩; (conv => whnf))))
          refine ⟨st5.tm.s.ext, ?_⟩
          ((conv => whnf); repeat (first | (apply load_at; (conv => lhs; whnf); (with_reducible assumption); rfl; (conv => whnf)) | (apply load_at; (conv => lhs; rw [add_plain, add_plain]); (with_reducible assumption); rfl; (conv => whnf)) | (apply loads_at; (conv => lhs; whnf); (with_reducible assumption); rfl; (conv => whnf)) | (refine ⟨⟨by omega, by omega⟩, ?_⟩; (conv => whnf))))
          refine new_step (.cells #[.int .i64 pat] 3) rfl fun e h0_e => ?_
          have hE_e := Ext.new h0_e (.cells #[.int .i64 pat] 3)
          have hB_e := Heap.put_same F5 e (.cells #[.int .i64 pat] 3)
          generalize F5.put e _ = F6 at hE_e hB_e ⊢
          have st6 := st5.grow hE_e
          have x6 := gain_ext (F' := F6) st5.tm.base
          have q6 := new_gain h0_e hB_e (st5.tm.base.none h0_e)
          have rg6 := q4.mono x6
          ((conv => whnf); repeat (first | (apply load_at; (conv => lhs; whnf); (with_reducible assumption); rfl; (conv => whnf)) | (apply load_at; (conv => lhs; rw [add_plain, add_plain]); (with_reducible assumption); rfl; (conv => whnf)) | (apply loads_at; (conv => lhs; whnf); (with_reducible assumption); rfl; (conv => whnf)) | (refine ⟨⟨by omega, by omega⟩, ?_⟩; (conv => whnf))))
          refine ⟨st6.tm.s.ext, ?_⟩
          ((conv => whnf); repeat (first | (apply load_at; (conv => lhs; whnf); (with_reducible assumption); rfl; (conv => whnf)) | (apply load_at; (conv => lhs; rw [add_plain, add_plain]); (with_reducible assumption); rfl; (conv => whnf)) | (apply loads_at; (conv => lhs; whnf); (with_reducible assumption); rfl; (conv => whnf)) | (refine ⟨⟨by omega, by omega⟩, ?_⟩; (conv => whnf))))
          refine append_own tab_ok (s := T) (n := rs.length) (xs := rs.map riV) (m := 1) (ys := [.int .i64 pat]) (y := .slice (some ⟨e, 0, none⟩) 1 1) rfl rfl rfl rfl rfl ⟨_, rfl, fun k h => by cases h⟩ ⟨_, rfl, rfl⟩ (by decide) st6.tm.t.own ⟨rfl, .inl ⟨_, _, rfl, q6.mono st6.tm.base⟩⟩ (one_int _ _) (by show 2 * (rs.length + 1) * 8 ≤ _; omega) fun T1 F7 hO7 hk7 hf7 => ?_
          have st7 := (st6.swap.pushS hO7 hk7 hf7).swap
          ((conv => whnf); repeat (first | (apply load_at; (conv => lhs; whnf); (with_reducible assumption); rfl; (conv => whnf)) | (apply load_at; (conv => lhs; rw [add_plain, add_plain]); (with_reducible assumption); rfl; (conv => whnf)) | (apply loads_at; (conv => lhs; whnf); (with_reducible assumption); rfl; (conv => whnf)) | (refine ⟨⟨by omega, by omega⟩, ?_⟩; (conv => whnf))))
          refine ⟨st7.tm.s.ext, ?_⟩
          ((conv => whnf); repeat (first | (apply load_at; (conv => lhs; whnf); (with_reducible assumption); rfl; (conv => whnf)) | (apply load_at; (conv => lhs; rw [add_plain, add_plain]); (with_reducible assumption); rfl; (conv => whnf)) | (apply loads_at; (conv => lhs; whnf); (with_reducible assumption); rfl; (conv => whnf)) | (refine ⟨⟨by omega, by omega⟩, ?_⟩; (conv => whnf))))
          exact hK _ _ ⟨S1, T1, _, rfl, st7, (x4.trans x6)⟩
        · ((conv => whnf); repeat (first | (apply load_at; (conv => lhs; whnf); (with_reducible assumption); rfl; (conv => whnf)) | (apply load_at; (conv => lhs; rw [add_plain, add_plain]); (with_reducible assumption); rfl; (conv => whnf)) | (apply loads_at; (conv => lhs; whnf); (with_reducible assumption); rfl; (conv => whnf)) | (refine ⟨⟨by omega, by omega⟩, ?_⟩; (conv => whnf))))
          refine new_step (.cells #[.int .i64 pat] 3) rfl fun e h0_e => ?_
          have hE_e := Ext.new h0_e (.cells #[.int .i64 pat] 3)
          have hB_e := Heap.put_same F4 e (.cells #[.int .i64 pat] 3)
          generalize F4.put e _ = F5 at hE_e hB_e ⊢
          have st5 := st4.grow hE_e
          have x5 := gain_ext (F' := F5) st4.tm.base
          have q5 := new_gain h0_e hB_e (st4.tm.base.none h0_e)
          have rg5 := q4.mono x5
          ((conv => whnf); repeat (first | (apply load_at; (conv => lhs; whnf); (with_reducible assumption); rfl; (conv => whnf)) | (apply load_at; (conv => lhs; rw [add_plain, add_plain]); (with_reducible assumption); rfl; (conv => whnf)) | (apply loads_at; (conv => lhs; whnf); (with_reducible assumption); rfl; (conv => whnf)) | (refine ⟨⟨by omega, by omega⟩, ?_⟩; (conv => whnf))))
          refine ⟨st5.tm.s.ext, ?_⟩
          ((conv => whnf); repeat (first | (apply load_at; (conv => lhs; whnf); (with_reducible assumption); rfl; (conv => whnf)) | (apply load_at; (conv => lhs; rw [add_plain, add_plain]); (with_reducible assumption); rfl; (conv => whnf)) | (apply loads_at; (conv => lhs; whnf); (with_reducible assumption); rfl; (conv => whnf)) | (refine ⟨⟨by omega, by omega⟩, ?_⟩; (conv => whnf))))
          refine append_own tab_ok (s := S) (n := rs.length) (xs := rs.map rbV) (m := 1) (ys := [.slice B pb.length bc]) (y := .slice (some ⟨g, 0, none⟩) 1 1) rfl rfl rfl rfl rfl ⟨_, rfl, fun k h => by cases h⟩ ⟨_, rfl, rfl⟩ (by decide) st5.tm.s.own ⟨rfl, .inl ⟨_, _, rfl, rg5.mono st5.tm.base⟩⟩ (one_slice _ _ _) (by show 2 * (rs.length + 1) * 24 ≤ _; omega) fun S1 F6 hO6 hk6 hf6 => ?_
          have st6 := st5.pushS hO6 hk6 hf6
          ((conv => whnf); repeat (first | (apply load_at; (conv => lhs; whnf); (with_reducible assumption); rfl; (conv => whnf)) | (apply load_at; (conv => lhs; rw [add_plain, add_plain]); (with_reducible assumption); rfl; (conv => whnf)) | (apply loads_at; (conv => lhs; whnf); (with_reducible assumption); rfl; (conv => whnf)) | (refine ⟨⟨by omega, by omega⟩, ?_⟩; (conv => whnf))))
          refine ⟨st6.tm.s.ext, ?_⟩
          ((conv => whnf); repeat (first | (apply load_at; (conv => lhs; whnf); (with_reducible assumption); rfl; (conv => whnf)) | (apply load_at; (conv => lhs; rw [add_plain, add_plain]); (with_reducible assumption); rfl; (conv => whnf)) | (apply loads_at; (conv => lhs; whnf); (with_reducible assumption); rfl; (conv => whnf)) | (refine ⟨⟨by omega, by omega⟩, ?_⟩; (conv => whnf))))
          refine append_own tab_ok (s := T) (n := rs.length) (xs := rs.map riV) (m := 1) (ys := [.int .i64 pat]) (y := .slice (some ⟨e, 0, none⟩) 1 1) rfl rfl rfl rfl rfl ⟨_, rfl, fun k h => by cases h⟩ ⟨_, rfl, rfl⟩ (by decide) st6.tm.t.own ⟨rfl, .inl ⟨_, _, rfl, q5.mono st6.tm.base⟩⟩ (one_int _ _) (by show 2 * (rs.length + 1) * 8 ≤ _; omega) fun T1 F7 hO7 hk7 hf7 => ?_
          have st7 := (st6.swap.pushS hO7 hk7 hf7).swap
          ((conv => whnf); repeat (first | (apply load_at; (conv => lhs; whnf); (with_reducible assumption); rfl; (conv => whnf)) | (apply load_at; (conv => lhs; rw [add_plain, add_plain]); (with_reducible assumption); rfl; (conv => whnf)) | (apply loads_at; (conv => lhs; whnf); (with_reducible assumption); rfl; (conv => whnf)) | (refine ⟨⟨by omega, by omega⟩, ?_⟩; (conv => whnf))))
          refine ⟨st7.tm.s.ext, ?_⟩
          ((conv => whnf); repeat (first | (apply load_at; (conv => lhs; whnf); (with_reducible assumption); rfl; (conv => whnf)) | (apply load_at; (conv => lhs; rw [add_plain, add_plain]); (with_reducible assumption); rfl; (conv => whnf)) | (apply loads_at; (conv => lhs; whnf); (with_reducible assumption); rfl; (conv => whnf)) | (refine ⟨⟨by omega, by omega⟩, ?_⟩; (conv => whnf))))
          exact hK _ _ ⟨S1, T1, _, rfl, st7, (x4.trans x5)⟩
      · ((conv => whnf); repeat (first | (apply load_at; (conv => lhs; whnf); (with_reducible assumption); rfl; (conv => whnf)) | (apply load_at; (conv => lhs; rw [add_plain, add_plain]); (with_reducible assumption); rfl; (conv => whnf)) | (apply loads_at; (conv => lhs; whnf); (with_reducible assumption); rfl; (conv => whnf)) | (refine ⟨⟨by omega, by omega⟩, ?_⟩; (conv => whnf))))
        refine new_step (.cells #[.int .i64 pat] 3) rfl fun e h0_e => ?_
        have hE_e := Ext.new h0_e (.cells #[.int .i64 pat] 3)
        have hB_e := Heap.put_same F3 e (.cells #[.int .i64 pat] 3)
        generalize F3.put e _ = F4 at hE_e hB_e ⊢
        have st4 := st3.grow hE_e
        have x4 := gain_ext (F' := F4) st3.tm.base
        have q4 := new_gain h0_e hB_e (st3.tm.base.none h0_e)
        ((conv => whnf); repeat (first | (apply load_at; (conv => lhs; whnf); (with_reducible assumption); rfl; (conv => whnf)) | (apply load_at; (conv => lhs; rw [add_plain, add_plain]); (with_reducible assumption); rfl; (conv => whnf)) | (apply loads_at; (conv => lhs; whnf); (with_reducible assumption); rfl; (conv => whnf)) | (refine ⟨⟨by omega, by omega⟩, ?_⟩; (conv => whnf))))
        refine ⟨st4.tm.s.ext, ?_⟩
        ((conv => whnf); repeat (first | (apply load_at; (conv => lhs; whnf); (with_reducible assumption); rfl; (conv => whnf)) | (apply load_at; (conv => lhs; rw [add_plain, add_plain]); (with_reducible assumption); rfl; (conv => whnf)) | (apply loads_at; (conv => lhs; whnf); (with_reducible assumption); rfl; (conv => whnf)) | (refine ⟨⟨by omega, by omega⟩, ?_⟩; (conv => whnf))))
        refine new_step (.cells #[.slice B pb.length bc] 33) rfl fun g h0_g => ?_
        have hE_g := Ext.new h0_g (.cells #[.slice B pb.length bc] 33)
        have hB_g := Heap.put_same F4 g (.cells #[.slice B pb.length bc] 33)
        generalize F4.put g _ = F5 at hE_g hB_g ⊢
        have st5 := st4.grow hE_g
        have x5 := gain_ext (F' := F5) st4.tm.base
        have q5 := new_gain h0_g hB_g (st4.tm.base.none h0_g)
        have re5 := q4.mono x5
        ((conv => whnf); repeat (first | (apply load_at; (conv => lhs; whnf); (with_reducible assumption); rfl; (conv => whnf)) | (apply load_at; (conv => lhs; rw [add_plain, add_plain]); (with_reducible assumption); rfl; (conv => whnf)) | (apply loads_at; (conv => lhs; whnf); (with_reducible assumption); rfl; (conv => whnf)) | (refine ⟨⟨by omega, by omega⟩, ?_⟩; (conv => whnf))))
        refine ⟨st5.tm.s.ext, ?_⟩
        ((conv => whnf); repeat (first | (apply load_at; (conv => lhs; whnf); (with_reducible assumption); rfl; (conv => whnf)) | (apply load_at; (conv => lhs; rw [add_plain, add_plain]); (with_reducible assumption); rfl; (conv => whnf)) | (apply loads_at; (conv => lhs; whnf); (with_reducible assumption); rfl; (conv => whnf)) | (refine ⟨⟨by omega, by omega⟩, ?_⟩; (conv => whnf))))
        refine append_own tab_ok (s := S) (n := rs.length) (xs := rs.map rbV) (m := 1) (ys := [.slice B pb.length bc]) (y := .slice (some ⟨g, 0, none⟩) 1 1) rfl rfl rfl rfl rfl ⟨_, rfl, fun k h => by cases h⟩ ⟨_, rfl, rfl⟩ (by decide) st5.tm.s.own ⟨rfl, .inl ⟨_, _, rfl, q5.mono st5.tm.base⟩⟩ (one_slice _ _ _) (by show 2 * (rs.length + 1) * 24 ≤ _; omega) fun S1 F6 hO6 hk6 hf6 => ?_
        have st6 := st5.pushS hO6 hk6 hf6
        ((conv => whnf); repeat (first | (apply load_at; (conv => lhs; whnf); (with_reducible assumption); rfl; (conv => whnf)) | (apply load_at; (conv => lhs; rw [add_plain, add_plain]); (with_reducible assumption); rfl; (conv => whnf)) | (apply loads_at; (conv => lhs; whnf); (with_reducible assumption); rfl; (conv => whnf)) | (refine ⟨⟨by omega, by omega⟩, ?_⟩; (conv => whnf))))
        refine ⟨st6.tm.s.ext, ?_⟩
        ((conv => whnf); repeat (first | (apply load_at; (conv => lhs; whnf); (with_reducible assumption); rfl; (conv => whnf)) | (apply load_at; (conv => lhs; rw [add_plain, add_plain]); (with_reducible assumption); rfl; (conv => whnf)) | (apply loads_at; (conv => lhs; whnf); (with_reducible assumption); rfl; (conv => whnf)) | (refine ⟨⟨by omega, by omega⟩, ?_⟩; (conv => whnf))))
        refine append_own tab_ok (s := T) (n := rs.length) (xs := rs.map riV) (m := 1) (ys := [.int .i64 pat]) (y := .slice (some ⟨e, 0, none⟩) 1 1) rfl rfl rfl rfl rfl ⟨_, rfl, fun k h => by cases h⟩ ⟨_, rfl, rfl⟩ (by decide) st6.tm.t.own ⟨rfl, .inl ⟨_, _, rfl, re5.mono st6.tm.base⟩⟩ (one_int _ _) (by show 2 * (rs.length + 1) * 8 ≤ _; omega) fun T1 F7 hO7 hk7 hf7 => ?_
        have st7 := (st6.swap.pushS hO7 hk7 hf7).swap
        ((conv => whnf); repeat (first | (apply load_at; (conv => lhs; whnf); (with_reducible assumption); rfl; (conv => whnf)) | (apply load_at; (conv => lhs; rw [add_plain, add_plain]); (with_reducible assumption); rfl; (conv => whnf)) | (apply loads_at; (conv => lhs; whnf); (with_reducible assumption); rfl; (conv => whnf)) | (refine ⟨⟨by omega, by omega⟩, ?_⟩; (conv => whnf))))
        refine ⟨st7.tm.s.ext, ?_⟩
        ((conv => whnf); repeat (first | (apply load_at; (conv => lhs; whnf); (with_reducible assumption); rfl; (conv => whnf)) | (apply load_at; (conv => lhs; rw [add_plain, add_plain]); (with_reducible assumption); rfl; (conv => whnf)) | (apply loads_at; (conv => lhs; whnf); (with_reducible assumption); rfl; (conv => whnf)) | (refine ⟨⟨by omega, by omega⟩, ?_⟩; (conv => whnf))))
        exact hK _ _ ⟨S1, T1, _, rfl, st7, (x4.trans x5)⟩
    · rintro env' F4 ⟨S4, T4, G4, hev, st4, x4⟩
      refine short [0, 1, 5, 6, 7, 8] [.pointer (some ⟨lb, 0, none⟩), .slice (some ad) ims.length c, .int .i64 (q + 1), S4, T4, .int .i64 (i : Int)] hev fun ρ => ?_
      have e1 : (rs ++ [(⟨pat, pb, B, bc⟩ : RpR)]).map rbV = rs.map rbV ++ [.slice B pb.length bc] := List.map_append
      have e2 : (rs ++ [(⟨pat, pb, B, bc⟩ : RpR)]).map riV = rs.map riV ++ [.int .i64 pat] := List.map_append
      have e3 : (rs ++ [(⟨pat, pb, B, bc⟩ : RpR)]).length = rs.length + 1 := List.length_append
      have e4 : (rs ++ [(⟨pat, pb, B, bc⟩ : RpR)]).map (rhW (N : Int)) = rs.map (rhW (N : Int)) ++ [(homeI (N : Int) pat, pb)] := List.map_append
      rw [← e1, ← e2, ← e3] at st4
      ((conv => whnf); repeat (first | (apply load_at; (conv => lhs; whnf); (with_reducible assumption); rfl; (conv => whnf)) | (apply load_at; (conv => lhs; rw [add_plain, add_plain]); (with_reducible assumption); rfl; (conv => whnf)) | (apply loads_at; (conv => lhs; whnf); (with_reducible assumption); rfl; (conv => whnf)) | (refine ⟨⟨by omega, by omega⟩, ?_⟩; (conv => whnf))))
      refine ⟨k - 1, by omega, i + 1, r2, D3, S4, T4, rs ++ [⟨pat, pb, B, bc⟩], G4, by omega, by rw [e3, hri], ?_, st4, hD3, hln.trans hn1, by omega, fun x hx => ?_, by rw [e4, hhw, hh1], hrs⟩
      · rw [← wrap_succ (j := i) (by omega)]
        rfl
      · rcases List.mem_append.1 hx with hx | hx
        · exact ((hok x hx).mono x2).mono x4
        · rw [List.mem_singleton] at hx
          subst hx
          exact ⟨hpb2.mono x4, by show pb.length ≤ 900000; omega⟩
  · have hi : i = ims.length := by
      have := of_decide_eq_false h
      omega
    subst hi
    rw [List.drop_length] at hrs
    replace hrs : res = (rflushS r1, if r1.down = true then (5 : Int) else 0) := by rw [hrs, List.map_nil, hl0]; rfl
    rw [hh0] at hhw
    have kf := rflush st1.mv.inn hD1
    obtain ⟨hf1, hf2⟩ := rf_le r1
    generalize rflushS r1 = s2 at kf hrs hf1 hf2
    generalize (if r1.down = true then (5 : Int) else 0) = e2 at kf hrs
    subst hrs
    dsimp only at hC hsec hrl
    ((conv => whnf); repeat (first | (apply load_at; (conv => lhs; whnf); (with_reducible assumption); rfl; (conv => whnf)) | (apply load_at; (conv => lhs; rw [add_plain, add_plain]); (with_reducible assumption); rfl; (conv => whnf)) | (apply loads_at; (conv => lhs; whnf); (with_reducible assumption); rfl; (conv => whnf)) | (refine ⟨⟨by omega, by omega⟩, ?_⟩; (conv => whnf))))
    refine call_of kf ?_
    rintro v F2 ⟨rfl, D2, hM2, hD2⟩
    have st2 := st1.moves hM2
    have hlg2 := st2.mv.out _ _ hlg hdl
    refine short [0, 1, 5, 6, 7, 96] [.pointer (some ⟨lb, 0, none⟩), .slice A ims.length c, .int .i64 (q + 1), S, T, .int .i64 e2] rfl fun ρ => ?_
    ((conv => whnf); repeat (first | (apply load_at; (conv => lhs; whnf); (with_reducible assumption); rfl; (conv => whnf)) | (apply load_at; (conv => lhs; rw [add_plain, add_plain]); (with_reducible assumption); rfl; (conv => whnf)) | (apply loads_at; (conv => lhs; whnf); (with_reducible assumption); rfl; (conv => whnf)) | (refine ⟨⟨by omega, by omega⟩, ?_⟩; (conv => whnf))))
    refine cond_split (fun h => ?_) (fun h => ?_)
    · have he : e2 ≠ 0 := by
        have h : (e2 != 0) = true := h
        simpa using h
      rw [if_pos he] at hC
      subst hC
      ((conv => whnf); repeat (first | (apply load_at; (conv => lhs; whnf); (with_reducible assumption); rfl; (conv => whnf)) | (apply load_at; (conv => lhs; rw [add_plain, add_plain]); (with_reducible assumption); rfl; (conv => whnf)) | (apply loads_at; (conv => lhs; whnf); (with_reducible assumption); rfl; (conv => whnf)) | (refine ⟨⟨by omega, by omega⟩, ?_⟩; (conv => whnf))))
      exact ⟨rfl, fin0 _ _ D2 st2.mv hD2⟩
    have he : ¬ e2 ≠ 0 := by
      have h : (e2 != 0) = false := h
      simpa using h
    rw [if_neg he] at hC
    have hs1 := hsec hz (by simpa using he)
    clear h
    have k6 := rmark st2.mv.inn hD2 (ims.length : Int) (q + 1) (by omega)
    obtain ⟨hm1, hm2⟩ := rrun_le [(0, noteB ims.length (q + 1))] s2
    replace hm1 : (runW rsO s2 [(0, noteB ims.length (q + 1))]).1.done ≤ s2.done + ((1 : Nat) : Int) := hm1
    generalize runW rsO s2 [(0, noteB ims.length (q + 1))] = r3 at k6 hC hm1 hm2
    obtain ⟨s3, e3⟩ := r3
    dsimp only at hC k6 hm1 hm2
    ((conv => whnf); repeat (first | (apply load_at; (conv => lhs; whnf); (with_reducible assumption); rfl; (conv => whnf)) | (apply load_at; (conv => lhs; rw [add_plain, add_plain]); (with_reducible assumption); rfl; (conv => whnf)) | (apply loads_at; (conv => lhs; whnf); (with_reducible assumption); rfl; (conv => whnf)) | (refine ⟨⟨by omega, by omega⟩, ?_⟩; (conv => whnf))))
    refine call_of k6 ?_
    rintro v F3 ⟨rfl, D3, hM3, hD3⟩
    have st3 := st2.moves hM3
    have hlg3 := st3.mv.out _ _ hlg hdl
    have hdl3 := (moves_withB (o := rgO b q) st3.mv hdl hlg).2
    refine short [0, 5, 6, 7, 107] [.pointer (some ⟨lb, 0, none⟩), .int .i64 (q + 1), S, T, .int .i64 e3] rfl fun ρ => ?_
    ((conv => whnf); repeat (first | (apply load_at; (conv => lhs; whnf); (with_reducible assumption); rfl; (conv => whnf)) | (apply load_at; (conv => lhs; rw [add_plain, add_plain]); (with_reducible assumption); rfl; (conv => whnf)) | (apply loads_at; (conv => lhs; whnf); (with_reducible assumption); rfl; (conv => whnf)) | (refine ⟨⟨by omega, by omega⟩, ?_⟩; (conv => whnf))))
    refine cond_split (fun h => ?_) (fun h => ?_)
    · have he : e3 ≠ 0 := by
        have h : (e3 != 0) = true := h
        simpa using h
      rw [if_pos he] at hC
      subst hC
      ((conv => whnf); repeat (first | (apply load_at; (conv => lhs; whnf); (with_reducible assumption); rfl; (conv => whnf)) | (apply load_at; (conv => lhs; rw [add_plain, add_plain]); (with_reducible assumption); rfl; (conv => whnf)) | (apply loads_at; (conv => lhs; whnf); (with_reducible assumption); rfl; (conv => whnf)) | (refine ⟨⟨by omega, by omega⟩, ?_⟩; (conv => whnf))))
      exact ⟨rfl, fin0 _ _ D3 st3.mv hD3⟩
    have he : ¬ e3 ≠ 0 := by
      have h : (e3 != 0) = false := h
      simpa using h
    rw [if_neg he] at hC
    clear h
    have hlbS : ∀ k, blk S = some k → (D3.put lb (rgO b q)) k = none := fun k hk => by
      by_cases e : k = lb
      · subst e
        rcases st3.sf k hk with x | x
        · rw [x] at hlg; cases hlg
        · exact absurd hdl x
      · rw [Heap.put_other _ _ e]; exact st3.s2 k hk
    have hlbT : ∀ k, blk T = some k → (D3.put lb (rgO b q)) k = none := fun k hk => by
      by_cases e : k = lb
      · subst e
        rcases st3.tf k hk with x | x
        · rw [x] at hlg; cases hlg
        · exact absurd hdl x
      · rw [Heap.put_other _ _ e]; exact st3.t2 k hk
    have hGa : Apart (D3.put lb (rgO b q)) G := fun k hk => by
      by_cases e : k = lb
      · subst e
        exact st3.gl k _ hlg hdl hRl
      · rw [Heap.put_other _ _ e] at hk; exact st3.ga k hk
    obtain ⟨A1, c1, rfl, _, hr1⟩ := st3.tm.s.own.row
    obtain ⟨A2, c2, rfl, _, hr2⟩ := st3.tm.t.own.row
    have hr1 := restH_row hr1 (fun a ha => hlbS a.block (by rw [ha]; rfl))
    have hr2 := restH_row hr2 (fun a ha => hlbT a.block (by rw [ha]; rfl))
    have hok2 : ∀ p ∈ rs, RpOk (restH (D3.put lb (rgO b q)) F3) p := fun p hp => (hok p hp).mono (restH_keep st3.tm.base hGa)
    have hRA := (restH_apart (D3.put lb (rgO b q)) F3).mono ((Ext.refl D3).put hdl3 _)
    have hRE := restH_ext (D3.put lb (rgO b q)) F3
    have hRl3 : restH (D3.put lb (rgO b q)) F3 lb = none := restH_apart _ _ lb (by rw [Heap.put_same]; simp)
    generalize restH (D3.put lb (rgO b q)) F3 = R3 at hr1 hr2 hok2 hRA hRE hRl3
    ((conv => whnf); repeat (first | (apply load_at; (conv => lhs; whnf); (with_reducible assumption); rfl; (conv => whnf)) | (apply load_at; (conv => lhs; rw [add_plain, add_plain]); (with_reducible assumption); rfl; (conv => whnf)) | (apply loads_at; (conv => lhs; whnf); (with_reducible assumption); rfl; (conv => whnf)) | (refine ⟨⟨by omega, by omega⟩, ?_⟩; (conv => whnf))))
    refine store_step lb 1 _ #[.pointer (some ⟨b, 0, none⟩), .int .i64 (q + 1)] rfl hlg3 rfl rfl (.inl (Nat.le_refl 0)) (one_int _ _) ?_
    have hB5 := Heap.put_same F3 lb (rgO b (q + 1))
    have hMB := (moves_withB (o := rgO b q) st3.mv hdl hlg).1
    have hM5 := hMB.trans (Moves.put (b := lb) hMB.inn (.inl (by rw [Heap.put_same]; simp)) (rgO b (q + 1)))
    rw [show (D3.put lb (rgO b q)).put lb (rgO b (q + 1)) = D3.put lb (rgO b (q + 1)) from funext fun z => by unfold Heap.put; split <;> rfl] at hM5
    have hE5 : Ext D3 (F3.put lb (rgO b (q + 1))) := st3.mv.inn.put hdl3 _
    have hR5 : Ext R3 (F3.put lb (rgO b (q + 1))) := hRE.put hRl3 _
    generalize F3.put lb _ = F5 at hB5 hM5 hE5 hR5 ⊢
    have k7 := rhomes hE5 hD3 hR5 hRA rs A1 A2 c1 c2 hr1 hr2 hok2 (by omega) (by omega)
    rw [hm2, hf2, hn1, hhw] at k7
    generalize runW rsO s3 hw_ = r4 at k7 hC
    obtain ⟨s4, e4⟩ := r4
    dsimp only at hC k7
    subst hC
    ((conv => whnf); repeat (first | (apply load_at; (conv => lhs; whnf); (with_reducible assumption); rfl; (conv => whnf)) | (apply load_at; (conv => lhs; rw [add_plain, add_plain]); (with_reducible assumption); rfl; (conv => whnf)) | (apply loads_at; (conv => lhs; whnf); (with_reducible assumption); rfl; (conv => whnf)) | (refine ⟨⟨by omega, by omega⟩, ?_⟩; (conv => whnf))))
    refine call_of k7 ?_
    rintro v F6 ⟨rfl, D6, hM6, hD6⟩
    obtain ⟨hM7, hdl6⟩ := moves_withB (o := rgO b (q + 1)) hM6 hdl3 hB5
    have hqr : q + 1 ≤ 4611686018427387904 := by
      unfold secR at hs1
      simp only [Bool.and_eq_true, decide_eq_true_eq] at hs1
      exact hs1.2.2
    ((conv => whnf); repeat (first | (apply load_at; (conv => lhs; whnf); (with_reducible assumption); rfl; (conv => whnf)) | (apply load_at; (conv => lhs; rw [add_plain, add_plain]); (with_reducible assumption); rfl; (conv => whnf)) | (apply loads_at; (conv => lhs; whnf); (with_reducible assumption); rfl; (conv => whnf)) | (refine ⟨⟨by omega, by omega⟩, ?_⟩; (conv => whnf))))
    exact ⟨rfl, _, hM5.trans hM7, D6, hD6, hdl6, rfl, (by omega : 0 ≤ q + 1), hqr⟩
end Go.Proofs.YtmpiggcooboenaaGreatDoor.Al
/- Logs: the program's and the reference's go together, in plain Lean. -/
namespace Go.Proofs.YtmpiggcooboenaaGreatDoor.Al
open Go Go.Al Go.Proofs Go.RowKit
set_option maxHeartbeats 8000000
set_option maxRecDepth 100000
set_option linter.unusedVariables false
set_option linter.unusedSimpArgs false
theorem sim_same {s : DS} {r : RS} (h : Sim s r) : SameR dsO s rsO r := ⟨h.sz, fun i => (sim_read h i).1, fun i => (sim_read h i).2⟩
theorem writeS_any {s : DS} (h : DWf s) (hw : s.writes < 1000000000) (i : Int) (l : List UInt8) : DWf (writeS s i l) := by
  by_cases h1 : 0 ≤ i ∧ i < s.size
  · by_cases h2 : l.length = 256
    · exact writeS_wf h h1 hw l h2
    · unfold writeS; rw [if_pos (.inr (.inr h2))]; exact h
  · unfold writeS; rw [if_pos (.inr (.inl h1))]; exact h
theorem sim_run : ∀ (ps : List (Int × List UInt8)) (s : DS) (r : RS), Sim s r → DWf s → s.writes + ps.length < 1000000000 → (runW dsO s ps).2 = (runW rsO r ps).2 ∧ Sim (runW dsO s ps).1 (runW rsO r ps).1 ∧ DWf (runW dsO s ps).1
  | [], s, r, h, hw, _ => ⟨(sim_flush h hw).1, (sim_flush h hw).2, flush_wf hw⟩
  | p :: ps, s, r, h, hw, hl => by
    rw [List.length_cons] at hl
    obtain ⟨e1, h1⟩ := sim_write h p.1 p.2
    have w1 := writeS_any hw (by omega) p.1 p.2
    have hle := (writes_le s p.1 p.2).1
    have ih := sim_run ps (writeS s p.1 p.2) (rwriteS r p.1 p.2) h1 w1 (by omega)
    rw [runW_cons, runW_cons]
    show (if writeE s p.1 p.2 = 0 then runW dsO (writeS s p.1 p.2) ps else (writeS s p.1 p.2, writeE s p.1 p.2)).2 = (if rwriteE r p.1 p.2 = 0 then runW rsO (rwriteS r p.1 p.2) ps else (rwriteS r p.1 p.2, rwriteE r p.1 p.2)).2 ∧ Sim (if writeE s p.1 p.2 = 0 then runW dsO (writeS s p.1 p.2) ps else (writeS s p.1 p.2, writeE s p.1 p.2)).1 (if rwriteE r p.1 p.2 = 0 then runW rsO (rwriteS r p.1 p.2) ps else (rwriteS r p.1 p.2, rwriteE r p.1 p.2)).1 ∧ DWf (if writeE s p.1 p.2 = 0 then runW dsO (writeS s p.1 p.2) ps else (writeS s p.1 p.2, writeE s p.1 p.2)).1
    rw [e1]
    by_cases h0 : rwriteE r p.1 p.2 = 0
    · rw [if_pos h0, if_pos h0]; exact ih
    · rw [if_neg h0, if_neg h0]; exact ⟨rfl, h1, w1⟩
theorem sim_open {s : DS} {r : RS} (h : Sim s r) (hw : DWf s) (hl : s.writes + 40000 < 1000000000) : (openS dsO s).2 = (openS rsO r).2 ∧ Sim (openS dsO s).1 (openS rsO r).1 ∧ (openS dsO s).1.writes ≤ s.writes + 40000 ∧ (openS dsO s).1.size = s.size := by
  have hS := sim_same h
  unfold openS
  rw [hS.rdN, hS.whole]
  generalize rdN rsO r = rn
  by_cases h0 : rn.2.2 ≠ 0
  · rw [if_pos h0, if_pos h0]
    exact ⟨rfl, h, (by omega : s.writes ≤ s.writes + 40000), rfl⟩
  rw [if_neg h0, if_neg h0]
  cases e : wholeO rsO r rn.1 rn.2.1 with
  | none => exact ⟨rfl, h, (by omega : s.writes ≤ s.writes + 40000), rfl⟩
  | some ws =>
    obtain ⟨l1, l2⟩ := wholeO_len e
    have hle := pagesN_le (rsO.sz r)
    have hn : (ws.length : Int) ≤ 32768 := by omega
    obtain ⟨e1, h1, w1⟩ := sim_run ws s r h hw (by omega)
    have hrl := runW_le ws s
    dsimp only
    rw [e1]
    by_cases h2 : (runW rsO r ws).2 ≠ 0
    · rw [if_pos h2, if_pos h2]
      exact ⟨rfl, h1, (by omega : (runW dsO s ws).1.writes ≤ s.writes + 40000), hrl.2⟩
    · rw [if_neg h2, if_neg h2]
      exact ⟨rfl, h1, (by omega : (runW dsO s ws).1.writes ≤ s.writes + 40000), hrl.2⟩
theorem sim_commit {s : DS} {r : RS} (h : Sim s r) (hw : DWf s) (q : Int) (ps : List (Int × List UInt8)) (hl : s.writes + 200000 < 1000000000) (hp : ps.length ≤ 50000) : (commitS dsO s q ps).2 = (commitS rsO r q ps).2 ∧ Sim (commitS dsO s q ps).1 (commitS rsO r q ps).1 ∧ (commitS dsO s q ps).1.writes ≤ s.writes + 200000 ∧ (commitS dsO s q ps).1.size = s.size := by
  have hS := sim_same h
  have lw := logW_len (rsO.sz r) (q + 1) 0 ps
  have hh : (homW (rsO.sz r) (q + 1) ps).length = ps.length := by unfold homW; rw [List.length_map]
  unfold commitS
  rw [hS.sz]
  by_cases c1 : (ps.length : Int) > pagesN (rsO.sz r)
  · rw [if_pos c1, if_pos c1]; exact ⟨rfl, h, (by omega : s.writes ≤ s.writes + 200000), rfl⟩
  rw [if_neg c1, if_neg c1]
  by_cases c2 : rightL (rsO.sz r) ps [] = false
  · rw [if_pos c2, if_pos c2]; exact ⟨rfl, h, (by omega : s.writes ≤ s.writes + 200000), rfl⟩
  rw [if_neg c2, if_neg c2]
  by_cases c3 : ps.length = 0
  · rw [if_pos c3, if_pos c3]; exact ⟨rfl, h, (by omega : s.writes ≤ s.writes + 200000), rfl⟩
  rw [if_neg c3, if_neg c3]
  generalize logW (rsO.sz r) (q + 1) 0 ps = L at lw
  generalize homW (rsO.sz r) (q + 1) ps = H at hh
  obtain ⟨e1, h1, w1⟩ := sim_run L s r h hw (by omega)
  have b1 := runW_le L s
  generalize runW dsO s L = x1 at *
  generalize runW rsO r L = y1 at *
  rw [e1]
  by_cases c4 : y1.2 ≠ 0
  · rw [if_pos c4, if_pos c4]; exact ⟨rfl, h1, (by omega : x1.1.writes ≤ s.writes + 200000), b1.2⟩
  rw [if_neg c4, if_neg c4]
  obtain ⟨e2, h2, w2⟩ := sim_run [(0, noteB ps.length (q + 1))] x1.1 y1.1 h1 w1 (by show x1.1.writes + ((1 : Nat) : Int) < _; omega)
  have b2 := runW_le [(0, noteB ps.length (q + 1))] x1.1
  replace b2 : (runW dsO x1.1 [(0, noteB ps.length (q + 1))]).1.writes ≤ x1.1.writes + ((1 : Nat) : Int) ∧ (runW dsO x1.1 [(0, noteB ps.length (q + 1))]).1.size = x1.1.size := b2
  generalize runW dsO x1.1 [(0, noteB ps.length (q + 1))] = x2 at *
  generalize runW rsO y1.1 [(0, noteB ps.length (q + 1))] = y2 at *
  rw [e2]
  by_cases c5 : y2.2 ≠ 0
  · rw [if_pos c5, if_pos c5]; exact ⟨rfl, h2, (by omega : x2.1.writes ≤ s.writes + 200000), b2.2.trans b1.2⟩
  rw [if_neg c5, if_neg c5]
  obtain ⟨e3, h3, w3⟩ := sim_run H x2.1 y2.1 h2 w2 (by omega)
  have b3 := runW_le H x2.1
  exact ⟨congrArg (fun z => (z, q + 1)) e3, h3, (by omega : (runW dsO x2.1 H).1.writes ≤ s.writes + 200000), b3.2.trans (b2.2.trans b1.2)⟩
theorem sim_load {s : DS} {r : RS} (h : Sim s r) (p : Int) : loadE dsO s p = loadE rsO r p ∧ loadL dsO s p = loadL rsO r p := by
  have hS := sim_same h
  unfold loadE loadL
  rw [hS.sz, hS.e, hS.l]
  exact ⟨rfl, rfl⟩
end Go.Proofs.YtmpiggcooboenaaGreatDoor.Al
/- bytes.Repeat of one byte, 240 times; the laws' own words: page, some, all. -/
namespace Go.Proofs.YtmpiggcooboenaaGreatDoor.Al
open Go Go.Al Go.Proofs Go.RowKit
set_option maxHeartbeats 8000000
set_option maxRecDepth 100000
set_option linter.unusedVariables false
set_option linter.unusedSimpArgs false
theorem mul64b (F : Heap) : FnK Tryz.prog 77 #[.int .u64 1, .int .u64 240] F (fun v F' => v = .tuple #[.int .u64 0, .int .u64 240] ∧ F' = F) := by
  (refine fn_walk tab_ok Tryz.func77 rfl rfl rfl rfl ?_; (conv => whnf))
  repeat (refine ⟨by decide, ?_⟩; (conv => whnf))
  exact ⟨rfl, rfl⟩
theorem mulBitsb (F : Heap) : FnK Tryz.prog 49 #[.int .u64 1, .int .u64 240] F (fun v F' => v = .tuple #[.int .u64 0, .int .u64 240] ∧ F' = F) := by
  (refine fn_walk tab_ok Tryz.func49 rfl rfl rfl rfl ?_; (conv => whnf))
  refine call_of (mul64b F) ?_
  rintro v F2 ⟨rfl, rfl⟩
  (conv => whnf)
  exact ⟨rfl, rfl⟩
theorem repeat240 (x : UInt8) (A : Option Addr) (c : Nat) (F : Heap) (hr : RowAt F A (bytesOf [x])) :
    FnK Tryz.prog 31 #[.slice A 1 c, .int .i64 240] F (fun v F' => NewRow F F' v (List.replicate 240 x) ∧ Ext F F') := by
  (refine fn_walk tab_ok Tryz.func31 rfl rfl rfl rfl ?_; (conv => whnf))
  refine call_of (mulBitsb F) ?_
  rintro v F2 ⟨rfl, rfl⟩
  ((conv => whnf); repeat (first | (apply load_at; (conv => lhs; whnf); (with_reducible assumption); rfl; (conv => whnf)) | (apply load_at; (conv => lhs; rw [add_plain, add_plain]); (with_reducible assumption); rfl; (conv => whnf)) | (apply loads_at; (conv => lhs; whnf); (with_reducible assumption); rfl; (conv => whnf)) | (refine ⟨⟨by omega, by omega⟩, ?_⟩; (conv => whnf))))
  refine makeNoZero 240 _ rfl (by decide) fun g cs N hg hN hcs => ?_
  have hE := Ext.new hg (.cells cs 5)
  have hB := Heap.put_same F2 g (.cells cs 5)
  generalize F2.put g _ = F3 at hE hB ⊢
  have hr3 := hr.mono hE
  (conv => whnf)
  refine ⟨⟨by decide, by rw [show IntKind.i64.wrap 240 = 240 by decide]; omega⟩, ?_⟩
  (conv => whnf)
  refine ⟨⟨by decide, by decide⟩, ?_⟩
  (conv => whnf)
  refine copy_to (g := g) (off := 0) (dl := 240) (dc := 240) (m := 1) (ys := bytesOf [x]) (y := .slice A 1 c) tab_ok rfl ?hp rfl rfl rfl rfl ⟨rfl, .inl ⟨_, _, rfl, hr3⟩⟩ hB (Nat.le_refl 0) (by omega) (hone_bytes [x]) ?_
  case hp => rfl
  (conv => whnf)
  refine loop_slots [7, 8, 9, 10] (fun k vs F' => ∃ (bp : Nat) (cs' : Array Value), bp + k = 240 ∧ 1 ≤ bp ∧ vs = [.int .i64 240, .int .i64 240, .slice (some ⟨g, 0, none⟩) 240 240, .int .i64 (bp : Int)] ∧ F' g = some (.cells cs' 5) ∧ cs'.size = N ∧ cs'.toList.take bp = bytesOf (List.replicate bp x) ∧ Ext F2 F') 239 ?_ ?_
  · refine ⟨1, _, rfl, Nat.le_refl 1, ?_, Heap.put_same _ _ _, ?_, ?_, hE.put hg _⟩
    · rfl
    · rw [List.size_toArray, length_putL, Array.length_toList, hcs]
    · exact putL_take (vs := bytesOf [x]) (off := 0) (by show 0 + 1 ≤ cs.toList.length; rw [Array.length_toList, hcs]; omega)
  rintro k vs F4 ρ ⟨bp, cs', hbk, hbp, rfl, hB4, hcs', htk, hE4⟩
  (conv => whnf)
  refine cond_split (fun h => ?_) (fun h => ?_)
  · have hlt : bp < 240 := by
      have : (bp : Int) < 240 := of_decide_eq_true h
      omega
    (conv => whnf)
    refine draw_walk tab_ok (by kernel_rfl) [0, 1, 2, 3, 4, 5, 6, 7, 8, 9] (by kernel_rfl) ?_
    (conv => whnf)
    refine ⟨⟨by omega, by omega⟩, ?_⟩
    (conv => whnf)
    refine ⟨⟨by omega, ?hb⟩, ?_⟩
    case hb => split <;> omega
    (conv => whnf)
    refine copy_to (g := g) (off := bp) (dl := 240 - bp) (dc := 240 - bp) (m := bp) (ys := bytesOf (List.replicate bp x)) (y := .slice (some ⟨g, 0, none⟩) bp 240) tab_ok rfl ?hp ?hq rfl rfl rfl ⟨by simp [bytesOf], .inl ⟨_, _, rfl, by rw [← htk]; exact (row_blk hB4).take bp⟩⟩ hB4 (Nat.le_refl 0) (by omega) (hone_bytes _) ?_
    case hp =>
      conv => lhs; whnf
      refine slice_eq ?_ (by omega) (by omega)
      rw [if_neg (by omega), Int.toNat_natCast]
      show some (Addr.add ⟨g, 0, none⟩ (bp * 1)) = _
      rw [add_plain, Nat.zero_add, Nat.mul_one]
    case hq =>
      conv => lhs; whnf
      refine slice_eq rfl ?_ rfl
      rw [if_neg (by omega)]
      omega
    have hmb : min bp (240 - bp) ≤ bp := by omega
    have hle : bp + min bp (240 - bp) ≤ 240 := by omega
    have hpos : 1 ≤ min bp (240 - bp) := by omega
    generalize min bp (240 - bp) = mn at hle hpos hmb ⊢
    (conv => whnf)
    refine ⟨240 - (bp + mn), by omega, bp + mn, _, by omega, by omega, ?_, Heap.put_same _ _ _, ?_, ?_, hE4.put hg _⟩
    · show [Value.int .i64 240, .int .i64 240, .slice (some ⟨g, 0, none⟩) 240 240, .int .i64 (IntKind.i64.wrap ((bp : Int) + (mn : Int)))] = _
      rw [wrap_eq (by omega) (by omega)]
      rfl
    · rw [List.size_toArray, length_putL, Array.length_toList, hcs']
    · have hlen : (List.take mn (bytesOf (List.replicate bp x))).length = mn := by simp [bytesOf]; omega
      have := putL_take (vs := List.take mn (bytesOf (List.replicate bp x))) (cs := cs'.toList) (off := bp) (by rw [hlen, Array.length_toList, hcs']; omega)
      rw [hlen, htk] at this
      rw [List.toList_toArray, this]
      unfold bytesOf
      rw [← List.map_take, ← List.map_append, List.take_replicate, List.replicate_append_replicate, Nat.min_eq_left hmb]
  · have hlt : bp = 240 := by
      have : ¬ (bp : Int) < 240 := of_decide_eq_false h
      omega
    subst hlt
    (conv => whnf)
    refine ⟨⟨some ⟨g, 0, none⟩, 240, rfl, Nat.le_refl _, ?_, fun a ha => by obtain rfl := Option.some.inj ha; exact hg⟩, hE4⟩
    rw [← htk]
    exact (row_blk hB4).take 240
end Go.Proofs.YtmpiggcooboenaaGreatDoor.Al
/- The laws' own words: some, all. -/
namespace Go.Proofs.YtmpiggcooboenaaGreatDoor.Al
open Go Go.Al Go.Proofs Go.RowKit
set_option maxHeartbeats 8000000
set_option maxRecDepth 100000
set_option linter.unusedVariables false
set_option linter.unusedSimpArgs false
/-- Images of pages, each once, as the law makes them. -/
def someS (y : UInt8) : Nat → List UInt8 → List (Int × List UInt8) → List (Int × List UInt8)
  | _, [], acc => acc
  | i, n :: l, acc => someS y (i + 1) l (if acc.any (fun d => d.1 == ((n.toNat % 13 : Nat) : Int)) = true then acc else acc ++ [(((n.toNat % 13 : Nat) : Int), List.replicate 240 (y + UInt8.ofNat i))])
theorem u8_of (i : Nat) : IntKind.u8.wrap (i : Int) = ((UInt8.ofNat i).toNat : Int) := by
  rw [u8_wrap, UInt8.toNat_ofNat']
  omega
theorem u8_add (a b : UInt8) : IntKind.u8.wrap ((a.toNat : Int) + (b.toNat : Int)) = ((a + b).toNat : Int) := by
  rw [u8_wrap, UInt8.toNat_add]
  omega
end Go.Proofs.YtmpiggcooboenaaGreatDoor.Al
/- The laws' own words, 2: what some makes; a new log; all. -/
namespace Go.Proofs.YtmpiggcooboenaaGreatDoor.Al
open Go Go.Al Go.Proofs Go.RowKit
set_option maxHeartbeats 8000000
set_option maxRecDepth 100000
set_option linter.unusedVariables false
set_option linter.unusedSimpArgs false
/-- Different numbers below n are no more than n. -/
theorem nodup_le : ∀ (n : Nat) (l : List Int), l.Nodup → (∀ x ∈ l, 0 ≤ x ∧ x < (n : Int)) → l.length ≤ n
  | 0, l, _, h => by
    cases l with
    | nil => exact Nat.le_refl 0
    | cons x l => have := h x List.mem_cons_self; omega
  | n + 1, l, hn, h => by
    have key : (l.filter fun x => x != (n : Int)).length ≤ n := nodup_le n _ (hn.filter _) fun x hx => by
      rw [List.mem_filter] at hx
      have h1 := h x hx.1
      have h2 : x ≠ (n : Int) := by simpa using hx.2
      omega
    have hc : l.length ≤ (l.filter fun x => x != (n : Int)).length + 1 := by
      clear key h
      induction l with
      | nil => exact Nat.zero_le _
      | cons x l ih =>
        rw [List.nodup_cons] at hn
        by_cases e : x = (n : Int)
        · have hf : l.filter (fun x => x != (n : Int)) = l := List.filter_eq_self.2 fun y hy => by
            have : y ≠ (n : Int) := fun e2 => hn.1 (by rw [e, ← e2]; exact hy)
            simpa using this
          rw [List.filter_cons_of_neg (by simpa using e), hf, List.length_cons]
          exact Nat.le_refl _
        · rw [List.filter_cons_of_pos (by simpa using e), List.length_cons, List.length_cons]
          have := ih hn.2
          omega
    omega
structure SomeOk (ps : List (Int × List UInt8)) : Prop where
  pg : ∀ p ∈ ps, (0 ≤ p.1 ∧ p.1 < 13) ∧ p.2.length = 240
  nod : (ps.map (·.1)).Nodup
theorem someS_ok (y : UInt8) : ∀ (l : List UInt8) (i : Nat) (acc : List (Int × List UInt8)), SomeOk acc → SomeOk (someS y i l acc)
  | [], i, acc, h => h
  | x :: l, i, acc, h => by
    have hm : x.toNat % 13 < 13 := Nat.mod_lt _ (by decide)
    show SomeOk (someS y (i + 1) l (if acc.any (fun d => d.1 == ((x.toNat % 13 : Nat) : Int)) = true then acc else acc ++ [(((x.toNat % 13 : Nat) : Int), List.replicate 240 (y + UInt8.ofNat i))]))
    generalize x.toNat % 13 = m at hm
    split
    · exact someS_ok y l (i + 1) acc h
    · next ha =>
      refine someS_ok y l (i + 1) _ ⟨fun p hp => ?_, ?_⟩
      · rcases List.mem_append.1 hp with hp | hp
        · exact h.pg p hp
        · rw [List.mem_singleton] at hp
          subst hp
          exact ⟨⟨by show (0 : Int) ≤ (m : Int); omega, by show (m : Int) < 13; omega⟩, List.length_replicate⟩
      · rw [List.map_append, List.nodup_append]
        refine ⟨h.nod, List.nodup_cons.2 ⟨List.not_mem_nil, List.nodup_nil⟩, fun a ha' b hb e => ?_⟩
        rw [List.map_cons, List.map_nil, List.mem_singleton] at hb
        obtain ⟨d, hd, e2⟩ := List.mem_map.1 ha'
        refine ha (List.any_eq_true.2 ⟨d, hd, ?_⟩)
        rw [beq_iff_eq, e2, e, hb]
theorem pages27 : pagesN 27 = 13 := by decide
theorem some_ims (y : UInt8) (l : List UInt8) {q : Int} (hq : 0 ≤ q ∧ q ≤ 4611686018427387904) : Ims 27 q (someS y 0 l []) := by
  have h := someS_ok y l 0 [] ⟨fun p hp => (by cases hp), List.nodup_nil⟩
  refine ⟨fun p hp => ⟨isPg_iff.2 (by rw [pages27]; exact (h.pg p hp).1), (h.pg p hp).2⟩, h.nod, ?_, hq⟩
  rw [pages27]
  have := nodup_le 13 _ h.nod fun x hx => by
    obtain ⟨p, hp, rfl⟩ := List.mem_map.1 hx
    exact (h.pg p hp).1
  rw [List.length_map] at this
  omega
theorem ims_nil {n q : Int} (hq : 0 ≤ q ∧ q ≤ 4611686018427387904) : Ims n q [] := ⟨fun p h => (by cases h), List.nodup_nil, (pagesN_le n).1, hq⟩
theorem new_up (n : Int) : Up (newS n) ∧ Calm (newS n) := ⟨⟨rfl, rfl⟩, ⟨fun _ => rfl, rfl⟩⟩
/-- A new log on a new disk. -/
abbrev fmtS (n : Int) : DS := (runW dsO (newS n) [(0, noteB 0 1)]).1
abbrev frsS (n : Int) : DS := (openS dsO (fmtS n)).1
structure Fresh (n : Int) (s : DS) : Prop where
  up : Up s
  wf : DWf s
  calm : Calm s
  size : s.size = n
  writes : s.writes = 1
  done : Done n 1 [] (secB s) (secB s)
  zero : ∀ k, k ≠ 0 → secB s k = List.replicate 256 0
theorem fmt_fresh {n : Int} (hn : 3 ≤ n ∧ n ≤ 65536) : (runW dsO (newS n) [(0, noteB 0 1)]).2 = 0 ∧ Fresh n (fmtS n) := by
  obtain ⟨u, c⟩ := new_up n
  have hI : Ims n 1 [] := ims_nil (by decide)
  have ho : OkW n [(0, noteB ((([] : List (Int × List UInt8)).length : Nat) : Int) 1)] := note_ok hn.1 hI
  obtain ⟨a1, a2, a3, a4, a5, a6, a7⟩ := runW_up [(0, noteB 0 1)] (newS n) u (newS_wf hn.1 hn.2) (by show (0 : Int) + ((1 : Nat) : Int) < _; omega) ho
  refine ⟨a1, a2, a3, a4, a7, a6.trans (by show (0 : Int) + ((1 : Nat) : Int) = 1; omega), ⟨⟨?_, fun j p h => (by cases h)⟩, fun x h => (by cases h), fun p _ _ => rfl⟩, fun k hk => ?_⟩
  · rw [a5, put_one, if_pos rfl]
    rfl
  · rw [a5, put_one, if_neg hk]
    rfl
theorem frs_fresh {n : Int} (hn : 3 ≤ n ∧ n ≤ 65536) : (openS dsO (fmtS n)).2 = (0, some 1) ∧ Fresh n (frsS n) := by
  obtain ⟨_, h⟩ := fmt_fresh hn
  show (openS dsO (fmtS n)).2 = (0, some 1) ∧ Fresh n (openS dsO (fmtS n)).1
  generalize fmtS n = s at h ⊢
  obtain ⟨u, w, c, sz, wr, d, z⟩ := h
  subst sz
  have hI : Ims s.size 1 [] := ims_nil (by decide)
  obtain ⟨b1, b2, b3, b4, b5, b6, b7, b8⟩ := open_up (cls_done (c0 := secB s) hn.1 hI) u w c (by omega) d
  obtain ⟨b9, b10⟩ := b8 [] (slots_whole hI d.slots)
  have e : secB (openS dsO s).1 = secB s := b9
  refine ⟨b1, b2, b3, b4, b5, by rw [b10, wr]; rfl, ?_, fun k hk => ?_⟩
  · show Done s.size 1 [] (secB (openS dsO s).1) (secB (openS dsO s).1)
    rw [e]; exact d
  · show secB (openS dsO s).1 k = _
    rw [e]; exact z k hk
/-- All pages, one behind the other. -/
def pgsN (g : Int → List UInt8) : Nat → List UInt8
  | 0 => []
  | n + 1 => pgsN g n ++ g (n : Int)
theorem pgsN_len {g : Int → List UInt8} (hg : ∀ p, (g p).length = 240) : ∀ n, (pgsN g n).length = n * 240
  | 0 => rfl
  | n + 1 => by
    show (pgsN g n ++ g (n : Int)).length = _
    rw [List.length_append, pgsN_len hg n, hg, Nat.succ_mul]
end Go.Proofs.YtmpiggcooboenaaGreatDoor.Al
/- RedoLives: the law's calls, few and images, over what is known of memory. -/
namespace Go.Proofs.YtmpiggcooboenaaGreatDoor.Al
open Go Go.Al Go.Proofs Go.RowKit
set_option maxHeartbeats 8000000
set_option maxRecDepth 100000
set_option linter.unusedVariables false
set_option linter.unusedSimpArgs false
structure LvR where
  op : Int
  i : Int
  byte : UInt8
  pgs : List Int
  P : Option Addr
  pc : Nat
  keep : List Int
  A : Option Addr
  c : Nat
def lvC (r : LvR) : List Value := [.int .i64 r.op, .int .i64 r.i, .int .u8 r.byte.toNat, .slice r.P r.pgs.length r.pc, .slice r.A r.keep.length r.c]
theorem lvC_len (r : LvR) : (lvC r).length = 5 := rfl
abbrev lvK : Kind (Int × (Int × (Int × ((List Int) × (List Int))))) := kPair 1 (kInt .i64) (kPair 1 (kInt .i64) (kPair 1 (kInt .u8) (kPair 1 (kSlice 1 (kInt .i64)) (kSlice 1 (kInt .i64)))))
abbrev lvWf : Int × (Int × (Int × ((List Int) × (List Int)))) → Prop := (fun p => (fun n => (Lit.int .i64 n).wf = true) p.1 ∧ (fun p => (fun n => (Lit.int .i64 n).wf = true) p.1 ∧ (fun p => (fun n => (Lit.int .u8 n).wf = true) p.1 ∧ (fun p => (fun xs => xs.length ≤ maxLen ∧ ∀ x ∈ xs, (fun n => (Lit.int .i64 n).wf = true) x) p.1 ∧ (fun xs => xs.length ≤ maxLen ∧ ∀ x ∈ xs, (fun n => (Lit.int .i64 n).wf = true) x) p.2) p.2) p.2) p.2)
structure LvOk (F : Heap) (r : LvR) : Prop where
  row : RowAt F r.A (r.keep.map (.int .i64))
  pgs : RowAt F r.P (r.pgs.map (.int .i64))
  i : -9223372036854775808 ≤ r.i ∧ r.i < 9223372036854775808
theorem LvOk.mono {F G : Heap} {r : LvR} (h : LvOk F r) (hE : Ext F G) : LvOk G r := ⟨h.row.mono hE, h.pgs.mono hE, h.i⟩
theorem lv_open {F : Heap} {A : Option Addr} {xs : List (Int × (Int × (Int × ((List Int) × (List Int)))))} (w : ∀ x ∈ xs, lvWf x) (h : Elems F A 5 lvK xs) : ∃ rs : List LvR, rs.length = xs.length ∧ RowAt F A (rowS lvC rs) ∧ ∀ r ∈ rs, LvOk F r := by
  obtain ⟨rs, h1, h2, h3⟩ := rowS_open (f := lvC) (Q := fun r _ => LvOk F r) lvC_len (by decide) w h (by
    rintro ⟨op, i, x, pgs, keep⟩ c hw hK
    obtain ⟨c1, d1, rfl, hl1, rfl, c2, d2, rfl, hl2, rfl, c3, d3, rfl, hl3, rfl, c4, d4, rfl, hl4, ⟨A', cc, rfl, hc, hE⟩, A2, cc2, rfl, hc2, hE2⟩ := hK
    obtain ⟨l, hl⟩ := bytes_of_wf (xs := [x]) (by intro y hy; rw [List.mem_singleton.1 hy]; exact hw.2.2.1)
    match l, hl with
    | [b], hl =>
      obtain rfl : x = (b.toNat : Int) := by simpa using hl
      exact ⟨⟨op, i, b, pgs, A', cc, keep, A2, cc2⟩, rfl, elems_ints hE2, elems_ints hE, wf_i64 hw.2.1⟩)
  refine ⟨rs, h1, h2, fun r hr => ?_⟩
  obtain ⟨j, hj, rfl⟩ := List.getElem_of_mem hr
  exact h3 j _ _ (List.getElem?_eq_getElem hj) (List.getElem?_eq_getElem (by omega))
def fewV (r : LvR) : Bool := decide (r.keep.length ≤ 60) && decide (r.pgs.length ≤ 30)
def fewVs (rs : List LvR) : Bool := decide (rs.length ≤ 30) && rs.all fewV
theorem fewVs_of {rs : List LvR} (h : fewVs rs = true) : rs.length ≤ 30 ∧ ∀ r ∈ rs, r.keep.length ≤ 60 ∧ r.pgs.length ≤ 30 := by
  unfold fewVs at h
  obtain ⟨h1, h2⟩ := Bool.and_eq_true_iff.1 h
  refine ⟨of_decide_eq_true h1, fun r hr => ?_⟩
  have h3 := List.all_eq_true.1 h2 r hr
  unfold fewV at h3
  obtain ⟨h4, h5⟩ := Bool.and_eq_true_iff.1 h3
  exact ⟨of_decide_eq_true h4, of_decide_eq_true h5⟩
end Go.Proofs.YtmpiggcooboenaaGreatDoor.Al
/- RedoLives: the law's images, over what is known of memory. -/
namespace Go.Proofs.YtmpiggcooboenaaGreatDoor.Al
open Go Go.Al Go.Proofs Go.RowKit
set_option maxHeartbeats 8000000
set_option maxRecDepth 100000
set_option linter.unusedVariables false
set_option linter.unusedSimpArgs false
def u8I (n : Int) : UInt8 := UInt8.ofNat (n % 256).toNat
theorem u8I_of (n : Int) : IntKind.u8.wrap n = ((u8I n).toNat : Int) := by
  unfold u8I
  rw [u8_wrap, UInt8.toNat_ofNat']
  omega
def imgS (x : UInt8) (l : List Int) : List (Int × List UInt8) := l.map fun n => (n, List.replicate 240 (x + u8I n))
end Go.Proofs.YtmpiggcooboenaaGreatDoor.Al
/- The laws' awake. -/
namespace Go.Proofs.YtmpiggcooboenaaGreatDoor.Al
open Go Go.Al Go.Proofs Go.RowKit
set_option maxHeartbeats 8000000
set_option maxRecDepth 100000
set_option linter.unusedVariables false
set_option linter.unusedSimpArgs false
theorem lgv_take {D F D' F' : Heap} {b lb : Nat} {s : DS} {q : Int} (hM : Moves D F D' F') (hD : Dk D' b s) (h1 : D lb = none → F lb = none) (h2 : D' lb = none) (h3 : F' lb = some (lgO b q)) (hq : 0 ≤ q ∧ q ≤ 4611686018427387904) :
    Moves D F (D'.put lb (lgO b q)) F' ∧ Lg (D'.put lb (lgO b q)) lb b s q := by
  refine ⟨⟨fun c u hc => ?_, hM.out, fun c hc => ?_⟩, D', hD, h2, rfl, hq⟩
  · by_cases e : c = lb
    · subst e; rw [Heap.put_same] at hc; rw [h3]; exact hc
    · rw [Heap.put_other _ _ e] at hc; exact hM.inn c u hc
  · by_cases e : c = lb
    · subst e
      cases e2 : D c with
      | none => exact .inr (h1 e2)
      | some o => exact .inl (by simp)
    · rw [Heap.put_other _ _ e] at hc; exact hM.new c hc
theorem Lg.ext {E : Heap} {lb b : Nat} {s : DS} {q : Int} {F : Heap} (h : Lg E lb b s q) (hE : Ext E F) : ∃ D, Dk D b s ∧ Ext D F ∧ F lb = some (lgO b q) := by
  obtain ⟨D, h1, h2, h3⟩ := h.disk
  exact ⟨D, h1, h2.trans hE, hE _ _ h3⟩
/-- A log just opened on a new disk, by calls that have been told. -/
theorem lgOf {E F : Heap} {lb b : Nat} {s : DS} {q : Int} (h : Lg E lb b s q) (hE : Ext E F) (hN : NibAt F) (p : Int) (hd : s.down = false) (hp : isPg s.size p = true) :
    FnK Tryz.prog 34 #[.pointer (some ⟨lb, 0, none⟩), .int .i64 p] F (fun v F' => ∃ u, v = .tuple #[u, .int .i64 0] ∧ NewRow F F' u (pgOf s.size (secB s) p) ∧ Ext F F') := by
  obtain ⟨D, h1, h2, h3⟩ := h.ext hE
  obtain ⟨e1, e2⟩ := load_c hd hp
  have := lgLoad h2 h1 h3 hN p
  rw [e1, e2] at this
  exact this
/-- A side part of memory takes what is new. -/
theorem side_gain {E R F F' : Heap} (hE : Ext E F) (hR : Ext R F) (hA : Apart E R) (hX : Ext F F') : Ext (gain R F F') F' ∧ Apart E (gain R F F') ∧ Ext R (gain R F F') := by
  refine ⟨fun c o hc => ?_, fun c hc => ?_, gain_ext hR⟩
  · cases e : F c with
    | none => rw [gain_new e] at hc; exact hc
    | some u => rw [gain_old e] at hc; exact hX _ _ (hR _ _ hc)
  · cases e : E c with
    | none => exact absurd e hc
    | some o => rw [gain_old (hE _ _ e)]; exact hA c hc
/-- .. as one word. -/
theorem commit_to {s : DS} {q : Int} {ps : List (Int × List UInt8)} (hI : Ims s.size (q + 1) ps) (h0 : ps ≠ []) (hu : Up s) (hd : DWf s) (hw : s.writes + 100000 < 1000000000) :
    ∃ s', commitS dsO s q ps = (s', 0, q + 1) ∧ Up s' ∧ DWf s' ∧ Calm s' ∧ s'.size = s.size ∧ Done s.size (q + 1) ps (secB s) (secB s') ∧ s'.writes = s.writes + 2 * ps.length + 1 := by
  obtain ⟨h1, h2, h3, h4, h5, h6, h7⟩ := commit_up hI h0 hu hd hw
  refine ⟨(commitS dsO s q ps).1, ?_, h2, h3, h4, h5, h6, h7⟩
  rw [← h1]
def awkI : List (Int × List UInt8) := [(2, List.replicate 240 7), (0, List.replicate 240 8)]
theorem awk_ims : Ims 9 2 awkI := by
  refine ⟨fun p hp => ?_, by decide, by decide, by decide⟩
  unfold awkI at hp
  rcases List.mem_cons.1 hp with rfl | hp
  · exact ⟨by decide, List.length_replicate⟩
  · rw [List.mem_singleton] at hp
    subst hp
    exact ⟨by decide, List.length_replicate⟩
end Go.Proofs.YtmpiggcooboenaaGreatDoor.Al
/- RedoLives: two logs, each in its own part of memory. -/
namespace Go.Proofs.YtmpiggcooboenaaGreatDoor.Al
open Go Go.Al Go.Proofs Go.RowKit
set_option maxHeartbeats 8000000
set_option maxRecDepth 100000
set_option linter.unusedVariables false
set_option linter.unusedSimpArgs false
structure Duo (F E X : Heap) : Prop where
  d : Ext E F
  x : Ext X F
  ap : Apart E X
section
variable {F F' E E' X X' D : Heap}
theorem Duo.onD (h : Duo F E X) (hM : Moves E F E' F') : Duo F' E' X ∧ Steps F E X F' E' X :=
  ⟨⟨hM.inn, hM.keep h.x h.ap, hM.apart h.x h.ap⟩, fun R h1 h2 h3 => ⟨hM.keep h1 h2, hM.apart h1 h2, h3⟩⟩
theorem Duo.onX (h : Duo F E X) (hM : Moves X F X' F') : Duo F' E X' ∧ Steps F E X F' E X' :=
  ⟨⟨hM.keep h.d h.ap.symm, hM.inn, (hM.apart h.d h.ap.symm).symm⟩, fun R h1 h2 h3 => ⟨hM.keep h1 h3, h2, hM.apart h1 h3⟩⟩
theorem Duo.ext (h : Duo F E X) (hE : Ext F F') : Duo F' E X ∧ Steps F E X F' E X :=
  ⟨⟨h.d.trans hE, h.x.trans hE, h.ap⟩, fun R h1 h2 h3 => ⟨h1.trans hE, h2, h3⟩⟩
theorem Duo.dropD (h : Duo F E X) (hE : Ext D E) : Duo F D X ∧ Steps F E X F D X :=
  ⟨⟨hE.trans h.d, h.x, h.ap.mono hE⟩, fun R h1 h2 h3 => ⟨h1, h2.mono hE, h3⟩⟩
theorem Duo.dropX (h : Duo F E X) (hE : Ext D X) : Duo F E D ∧ Steps F E X F E D :=
  ⟨⟨h.d, hE.trans h.x, (h.ap.symm.mono hE).symm⟩, fun R h1 h2 h3 => ⟨h1, h2, h3.mono hE⟩⟩
end
/-- A log that may not be there. -/
def LgS (E : Heap) (b : Nat) (s : DS) (v : Value) : Option Int → Prop
  | none => v = .pointer none ∧ Dk E b s
  | some q => ∃ lb, v = .pointer (some ⟨lb, 0, none⟩) ∧ Lg E lb b s q
def RgS (E : Heap) (b : Nat) (r : RS) (v : Value) : Option Int → Prop
  | none => v = .pointer none ∧ Rk E b r
  | some q => ∃ lb, v = .pointer (some ⟨lb, 0, none⟩) ∧ Rg E lb b r q
theorem LgS.disk {E : Heap} {b : Nat} {s : DS} {v : Value} {o : Option Int} (h : LgS E b s v o) : ∃ D, Dk D b s ∧ Ext D E ∧ ∀ {F F' D' : Heap} {s' : DS}, Ext E F → Moves D F D' F' → Dk D' b s' → ∃ E', Moves E F E' F' ∧ LgS E' b s' v o := by
  cases o with
  | none =>
    obtain ⟨rfl, h⟩ := h
    exact ⟨E, h, Ext.refl E, fun {F F' D' s'} _ hM hD => ⟨D', hM, rfl, hD⟩⟩
  | some q =>
    obtain ⟨lb, rfl, D, hD, hdl, rfl, h1, h2⟩ := h
    refine ⟨D, hD, (Ext.refl D).put hdl _, fun {F F' D' s'} hE hM hD' => ?_⟩
    obtain ⟨m1, m2⟩ := moves_withB hM hdl (hE _ _ (Heap.put_same _ _ _))
    exact ⟨_, m1, lb, rfl, D', hD', m2, rfl, h1, h2⟩
theorem RgS.disk {E : Heap} {b : Nat} {r : RS} {v : Value} {o : Option Int} (h : RgS E b r v o) : ∃ D, Rk D b r ∧ Ext D E ∧ ∀ {F F' D' : Heap} {r' : RS}, Ext E F → Moves D F D' F' → Rk D' b r' → ∃ E', Moves E F E' F' ∧ RgS E' b r' v o := by
  cases o with
  | none =>
    obtain ⟨rfl, h⟩ := h
    exact ⟨E, h, Ext.refl E, fun {F F' D' r'} _ hM hD => ⟨D', hM, rfl, hD⟩⟩
  | some q =>
    obtain ⟨lb, rfl, D, hD, hdl, rfl, h1, h2⟩ := h
    refine ⟨D, hD, (Ext.refl D).put hdl _, fun {F F' D' r'} hE hM hD' => ?_⟩
    obtain ⟨m1, m2⟩ := moves_withB hM hdl (hE _ _ (Heap.put_same _ _ _))
    exact ⟨_, m1, lb, rfl, D', hD', m2, rfl, h1, h2⟩
theorem openS_range {α : Type} (o : DOps α) (a : α) {q : Int} (h : (openS o a).2.2 = some q) : 0 ≤ q ∧ q ≤ 4611686018427387904 := by
  have hr := rdN_range o a
  unfold openS at h
  split at h
  · cases h
  split at h
  · split at h
    · cases h
    · cases h; exact hr.2
  · cases h; exact hr.2
theorem rgv_take {D F D' F' : Heap} {b lb : Nat} {r : RS} {q : Int} (hM : Moves D F D' F') (hD : Rk D' b r) (h1 : D lb = none → F lb = none) (h2 : D' lb = none) (h3 : F' lb = some (rgO b q)) (hq : 0 ≤ q ∧ q ≤ 4611686018427387904) :
    Moves D F (D'.put lb (rgO b q)) F' ∧ Rg (D'.put lb (rgO b q)) lb b r q := by
  refine ⟨⟨fun c u hc => ?_, hM.out, fun c hc => ?_⟩, D', hD, h2, rfl, hq⟩
  · by_cases e : c = lb
    · subst e; rw [Heap.put_same] at hc; rw [h3]; exact hc
    · rw [Heap.put_other _ _ e] at hc; exact hM.inn c u hc
  · by_cases e : c = lb
    · subst e
      cases e2 : D c with
      | none => exact .inr (h1 e2)
      | some o => exact .inl (by simp)
    · rw [Heap.put_other _ _ e] at hc; exact hM.new c hc
theorem onD {F E X : Heap} {b : Nat} {s s' : DS} {va w : Value} {o : Option Int} {f : Nat} {args : Array Value} (H : Duo F E X) (hL : LgS E b s va o) (hk : ∀ D, Dk D b s → Ext D F → Ext D E → FnK Tryz.prog f args F (fun v F' => v = w ∧ ∃ D', Moves D F D' F' ∧ Dk D' b s')) :
    FnK Tryz.prog f args F (fun v F' => v = w ∧ ∃ E', Duo F' E' X ∧ Steps F E X F' E' X ∧ LgS E' b s' va o) := by
  obtain ⟨D, hD, hDE, hu⟩ := hL.disk
  refine (hk D hD (hDE.trans H.d) hDE).mono ?_
  rintro v F' ⟨rfl, D', hM, hD'⟩
  obtain ⟨E', hM', hL'⟩ := hu H.d hM hD'
  exact ⟨rfl, E', (H.onD hM').1, (H.onD hM').2, hL'⟩
theorem onX {F E X : Heap} {b : Nat} {r r' : RS} {va w : Value} {o : Option Int} {f : Nat} {args : Array Value} (H : Duo F E X) (hL : RgS X b r va o) (hk : ∀ D, Rk D b r → Ext D F → Ext D X → FnK Tryz.prog f args F (fun v F' => v = w ∧ ∃ D', Moves D F D' F' ∧ Rk D' b r')) :
    FnK Tryz.prog f args F (fun v F' => v = w ∧ ∃ X', Duo F' E X' ∧ Steps F E X F' E X' ∧ RgS X' b r' va o) := by
  obtain ⟨D, hD, hDE, hu⟩ := hL.disk
  refine (hk D hD (hDE.trans H.x) hDE).mono ?_
  rintro v F' ⟨rfl, D', hM, hD'⟩
  obtain ⟨E', hM', hL'⟩ := hu H.x hM hD'
  exact ⟨rfl, E', (H.onX hM').1, (H.onX hM').2, hL'⟩
theorem open_s {F E X : Heap} {b : Nat} {s : DS} {va : Value} {o : Option Int} (H : Duo F E X) (hL : LgS E b s va o) (hN : NibAt F) (hw : s.writes + 40000 < 1000000000) :
    FnK Tryz.prog 25 #[.pointer (some ⟨b, 0, none⟩)] F (fun v F' => ∃ w E', v = .tuple #[w, .int .i64 (openS dsO s).2.1] ∧ Duo F' E' X ∧ Steps F E X F' E' X ∧ LgS E' b (openS dsO s).1 w (openS dsO s).2.2) := by
  obtain ⟨D, hD, hDE, _⟩ := hL.disk
  have hr := fun q => openS_range dsO s (q := q)
  refine (redoOpen (hDE.trans H.d) hD hN hw).mono ?_
  rintro v F' ⟨w, D', rfl, hM, hD', hV⟩
  obtain ⟨H1, T1⟩ := H.dropD hDE
  generalize (openS dsO s).2.2 = o' at hV hr ⊢
  cases o' with
  | none =>
    obtain rfl : w = .pointer none := hV
    obtain ⟨H2, T2⟩ := H1.onD hM
    exact ⟨_, D', rfl, H2, T1.trans T2, rfl, hD'⟩
  | some q =>
    obtain ⟨lb, rfl, h1, h2, h3⟩ := hV
    obtain ⟨m1, m2⟩ := lgv_take hM hD' h1 h2 h3 (hr q rfl)
    obtain ⟨H2, T2⟩ := H1.onD m1
    exact ⟨_, _, rfl, H2, T1.trans T2, lb, rfl, m2⟩
theorem ropen_s {F E X : Heap} {b : Nat} {r : RS} {va : Value} {o : Option Int} (H : Duo F E X) (hL : RgS X b r va o) (hw : r.done + 40000 < 1000000000) :
    FnK Tryz.prog 28 #[.pointer (some ⟨b, 0, none⟩)] F (fun v F' => ∃ w X', v = .tuple #[w, .int .i64 (openS rsO r).2.1] ∧ Duo F' E X' ∧ Steps F E X F' E X' ∧ RgS X' b (openS rsO r).1 w (openS rsO r).2.2) := by
  obtain ⟨D, hD, hDE, _⟩ := hL.disk
  have hr := fun q => openS_range rsO r (q := q)
  refine (rgOpen (hDE.trans H.x) hD hw).mono ?_
  rintro v F' ⟨w, D', rfl, hM, hD', hV⟩
  obtain ⟨H1, T1⟩ := H.dropX hDE
  generalize (openS rsO r).2.2 = o' at hV hr ⊢
  cases o' with
  | none =>
    obtain rfl : w = .pointer none := hV
    obtain ⟨H2, T2⟩ := H1.onX hM
    exact ⟨_, D', rfl, H2, T1.trans T2, rfl, hD'⟩
  | some q =>
    obtain ⟨lb, rfl, h1, h2, h3⟩ := hV
    obtain ⟨m1, m2⟩ := rgv_take hM hD' h1 h2 h3 (hr q rfl)
    obtain ⟨H2, T2⟩ := H1.onX m1
    exact ⟨_, _, rfl, H2, T1.trans T2, lb, rfl, m2⟩
theorem Rg.disk {E : Heap} {lb b : Nat} {r : RS} {q : Int} (h : Rg E lb b r q) : ∃ D, Rk D b r ∧ Ext D E ∧ E lb = some (rgO b q) := by
  obtain ⟨D, h1, h2, rfl, _⟩ := h
  exact ⟨D, h1, (Ext.refl D).put h2 _, Heap.put_same _ _ _⟩
end Go.Proofs.YtmpiggcooboenaaGreatDoor.Al
/- The logic of a known part of memory, 19: maps whose entries' stamps are in order; ranges over maps. It holds for every program. -/
namespace Go.Al
open Go

def WfE (es : List MapEntry) (cl : Nat) : Prop := (es.map (·.born)).Nodup ∧ ∀ e ∈ es, e.born < cl
def WfM (o : Obj) : Prop := ∃ es cl, o = .map es cl ∧ WfE es.toList cl
theorem WfM.nil (cl : Nat) : WfM (.map #[] cl) := ⟨#[], cl, rfl, List.nodup_nil, fun e h => by cases h⟩
/-- A map, and its entries' stamps in order. -/
def MapAtW (F : Heap) (m : Nat) (l : ML) : Prop := ∃ o, F m = some o ∧ MapO o l ∧ WfM o
theorem MapAtW.at_ {F : Heap} {m : Nat} {l : ML} (h : MapAtW F m l) : MapAt F m l := by
  obtain ⟨o, h1, h2, _⟩ := h
  exact ⟨o, h1, h2⟩
theorem MapAtW.mono {F G : Heap} {m : Nat} {l : ML} (h : MapAtW F m l) (hE : Ext F G) : MapAtW G m l := by
  obtain ⟨o, h1, h2, h3⟩ := h
  exact ⟨o, hE _ _ h1, h2, h3⟩
theorem MapAtW.put {F : Heap} {m : Nat} {o : Obj} {l : ML} (h : MapO o l) (hw : WfM o) : MapAtW (F.put m o) m l := ⟨o, Heap.put_same _ _ _, h, hw⟩
theorem MapAtW.eq {F G : Heap} {m : Nat} {l : ML} (h : MapAtW F m l) (e : G m = F m) : MapAtW G m l := by
  obtain ⟨o, h1, h2, h3⟩ := h
  exact ⟨o, by rw [e]; exact h1, h2, h3⟩
theorem MapAtW.open {F : Heap} {m : Nat} {l : ML} (h : MapAtW F m l) : ∃ es cl, F m = some (.map es cl) ∧ mapL es.toList l ∧ WfE es.toList cl := by
  obtain ⟨o, h1, ⟨es, cl, rfl, h2⟩, es', cl', h3, h4⟩ := h
  cases h3
  exact ⟨es, cl, h1, h2, h4⟩
theorem wfE_modify {es : Array MapEntry} {cl j : Nat} {f : MapEntry → MapEntry} (hf : ∀ e, (f e).born = e.born) (h : WfE es.toList cl) : WfE (es.modify j f).toList cl := by
  have e : (es.modify j f).toList.map (·.born) = es.toList.map (·.born) := by
    apply List.ext_getElem?
    intro n
    rw [Array.toList_modify, List.getElem?_map, List.getElem?_map, List.getElem?_modify]
    cases es.toList[n]? with
    | none => rfl
    | some x =>
      split
      · show some (f x).born = some x.born
        rw [hf]
      · rfl
  refine ⟨by rw [e]; exact h.1, fun x hx => ?_⟩
  have : x.born ∈ (es.modify j f).toList.map (·.born) := List.mem_map_of_mem hx
  rw [e] at this
  obtain ⟨y, hy, e2⟩ := List.mem_map.1 this
  rw [← e2]
  exact h.2 y hy
theorem wfE_push {es : Array MapEntry} {cl : Nat} {k v : Value} (h : WfE es.toList cl) : WfE (es.push ⟨k, v, cl⟩).toList (cl + 1) := by
  rw [Array.toList_push]
  refine ⟨?_, fun x hx => ?_⟩
  · rw [List.map_append, List.nodup_append]
    refine ⟨h.1, List.nodup_cons.2 ⟨List.not_mem_nil, List.nodup_nil⟩, fun a ha b hb e => ?_⟩
    obtain ⟨y, hy, rfl⟩ := List.mem_map.1 ha
    have hb := List.mem_singleton.1 hb
    have := h.2 y hy
    have hb : b = cl := hb
    omega
  · rcases List.mem_append.1 hx with hx | hx
    · exact Nat.lt_succ_of_lt (h.2 x hx)
    · rw [List.mem_singleton.1 hx]
      exact Nat.lt_succ_self _
theorem op_mapUpdateW {P : Program} {T : Tab} (hT : TabOk P T) {o : Oper} {ev : Operand → Value} {F : Heap} {K : Value → Heap → Prop} {t kt et : TypeId} {x i y : Operand} {m : Nat} {k : Int} {v : Value} {l : ML} {a1 a2 b1 b2 : Nat} {z1 z2 : Option Value}
    (ho : o.op = .mapUpdate t x i y) (hx : ev x = .map (some m)) (hi : ev i = .int .i64 k) (hy : ev y = v) (h1 : T t = some ⟨a1, a2, .map kt et, z1⟩) (h2 : T kt = some ⟨b1, b2, .int .i64, z2⟩)
    (hm : MapAtW F m l) (hk : ∀ o', MapO o' (setM l k v) → WfM o' → K undef (F.put m o')) : OpK P o ev F K := by
  obtain ⟨hu1, _⟩ := hT _ _ h1
  obtain ⟨hu2, _⟩ := hT _ _ h2
  obtain ⟨es, cl, hF, hes, hw⟩ := hm.open
  refine ⟨opW_wk ?_⟩
  simp only [execOp, ho, hx, hi, hy]
  unfold Instr.mapUpdate
  simp only [wk_bind]
  rw [wk_underlying hu1]
  dsimp only
  simp only [wk_bind]
  refine ⟨_, hF, (by intro c e fz h; cases h), ?_⟩
  rw [wk_pure']
  dsimp only
  simp only [wk_bind]
  refine wk_checkKey hu2 _ _ _ _ ?_
  unfold Instr.findKey
  rw [wk_bind, wk_underlying hu2, findNow_ints es.toList l k 0 hes]
  simp only [wk_pure]
  unfold setM at hk
  have hset : ∀ (o' : Obj) (K' : Unit → Heap → Prop), K' () (F.put m o') → wk P (setObj m o') F K' := fun o' K' h => ⟨⟨_, hF, (by intro c e fz h; cases h), (by intro d h; cases h)⟩, h⟩
  cases hf : findM l k 0 with
  | none =>
    rw [hf] at hk
    dsimp only at hk ⊢
    refine hset _ _ ?_
    refine hk _ ⟨_, _, rfl, ?_⟩ ⟨_, _, rfl, wfE_push hw⟩
    unfold mapL at hes ⊢
    simp [hes]
  | some q =>
    obtain ⟨j, u⟩ := q
    rw [hf] at hk
    obtain ⟨_, hj⟩ := findM_some l k 0 j u hf
    rw [Nat.sub_zero] at hj
    obtain ⟨e, he1, he2, he3⟩ := mapL_get hes hj
    have he1' : es[j]? = some e := by simpa using he1
    dsimp only at hk ⊢
    rw [he1']
    simp only [Option.map_some, Option.getD_some, he2, wk_bind]
    unfold Instr.keyThatStays
    rw [if_pos (by simp [Instr.sameBits])]
    simp only [wk_pure]
    refine hset _ _ ?_
    refine hk _ ⟨_, _, rfl, ?_⟩ ⟨_, _, rfl, wfE_modify (by intro e; rfl) hw⟩
    unfold mapL at hes ⊢
    apply List.ext_getElem?
    intro n
    have hn := congrArg (fun x => x[n]?) hes
    simp only [List.getElem?_map, Array.toList_modify, List.getElem?_modify, List.getElem?_set] at hn ⊢
    by_cases hjn : j = n
    · subst hjn
      have hlt : j < l.length := (List.getElem?_eq_some_iff.1 hj).1
      simp [he1, hlt]
    · simp only [hjn, if_false]
      simpa using hn
theorem op_clearW {P : Program} {T : Tab} (hT : TabOk P T) {o : Oper} {ev : Operand → Value} {F : Heap} {K : Value → Heap → Prop} {t kt et : TypeId} {x : Operand} {m : Nat} {l : ML} {a1 a2 : Nat} {z1 : Option Value}
    (ho : o.op = .call ⟨.builtin .clear, #[x], #[t]⟩) (hx : ev x = .map (some m)) (h1 : T t = some ⟨a1, a2, .map kt et, z1⟩) (hm : MapAt F m l) (hk : ∀ o', MapO o' [] → WfM o' → K (.tuple #[]) (F.put m o')) : OpK P o ev F K := by
  obtain ⟨hu1, _⟩ := hT _ _ h1
  obtain ⟨_, hF, es, cl, rfl, hes⟩ := hm
  refine ⟨opW_v (s := Builtin.clear_ #[t] o.type #[.map (some m)]) (by simp [execOp, ho, resolve, invoke, builtin, hx]) ?_⟩
  unfold Builtin.clear_
  simp only [List.getElem?_toArray, List.getElem?_cons_zero]
  rw [wk_bind, wk_underlying hu1]
  simp only [wk_bind]
  refine ⟨_, hF, (by intro c e fz h; cases h), ?_⟩
  rw [wk_pure']
  refine ⟨⟨_, hF, (by intro c e fz h; cases h), (by intro d h; cases h)⟩, ?_⟩
  exact hk _ ⟨#[], cl, rfl, rfl⟩ (WfM.nil cl)
/-- A range over a map begins. -/
theorem op_range {P : Program} {T : Tab} (hT : TabOk P T) {o : Oper} {ev : Operand → Value} {F : Heap} {K : Value → Heap → Prop} {t kt et : TypeId} {x : Operand} {m : Nat} {es : Array MapEntry} {cl : Nat} {a1 a2 : Nat} {z1 : Option Value}
    (ho : o.op = .range t x) (hx : ev x = .map (some m)) (h1 : T t = some ⟨a1, a2, .map kt et, z1⟩) (hm : F m = some (.map es cl)) (hk : ∀ b, F b = none → K (.pointer (some ⟨b, 0, none⟩)) (F.put b (.mapIter (some m) cl #[] cl))) : OpK P o ev F K := by
  obtain ⟨hu1, _⟩ := hT _ _ h1
  refine ⟨opW_v (s := Instr.range t (.map (some m))) (by simp only [execOp, ho, hx]) ?_⟩
  unfold Instr.range
  simp only [wk_bind]
  rw [wk_underlying hu1]
  dsimp only
  simp only [wk_bind]
  refine ⟨_, hm, (by intro c e fz h; cases h), ?_⟩
  rw [wk_pure']
  exact fun b hb => hk b hb
/-- Its next step. -/
theorem op_next {P : Program} {o : Oper} {ev : Operand → Value} {F : Heap} {K : Value → Heap → Prop} {x : Operand} {r m : Nat} {es : Array MapEntry} {cl : Nat} {seen : Array Nat}
    (ho : o.op = .next x false) (hx : ev x = .pointer (some ⟨r, 0, none⟩)) (hr : F r = some (.mapIter (some m) cl seen cl)) (hm : F m = some (.map es cl)) (hw : ∀ e ∈ es.toList, e.born < cl)
    (hend : (∀ e ∈ es.toList, e.born ∈ seen.toList) → K (.tuple #[.bool false]) F)
    (hstep : ∀ e ∈ es.toList, e.born ∉ seen.toList → K (.tuple #[.bool true, e.key, e.val]) (F.put r (.mapIter (some m) cl (seen.push e.born) cl))) : OpK P o ev F K := by
  refine ⟨opW_v (s := Instr.next (.pointer (some ⟨r, 0, none⟩)) false o.type) (by simp only [execOp, ho, hx]) ?_⟩
  unfold Instr.next
  simp only [wk_bind]
  refine ⟨_, hr, (by intro c e fz h; cases h), ?_⟩
  rw [wk_pure']
  dsimp only
  simp only [wk_bind]
  refine ⟨_, hm, (by intro c e fz h; cases h), ?_⟩
  rw [wk_pure']
  dsimp only
  have hneg : ¬ (!seen.isEmpty && !es.isEmpty && es.all fun x => decide (x.born ≥ cl)) = true := by
    intro h
    rw [Bool.and_eq_true, Bool.and_eq_true] at h
    obtain ⟨⟨_, h2⟩, h3⟩ := h
    have hs : 0 < es.size := by
      rcases Nat.eq_zero_or_pos es.size with e | e
      · simp [Array.isEmpty, e] at h2
      · exact e
    have := (Array.all_eq_true.1 h3) 0 hs
    have h4 := hw es[0] (by simp)
    have := of_decide_eq_true this
    omega
  rw [if_neg hneg]
  have hB : ∀ e, e ∈ Array.filter (fun x => decide (x.born < cl)) (Array.filter (fun e => !seen.contains e.born) es) → e ∈ es.toList ∧ e.born ∉ seen.toList := fun e h => by
    rw [Array.mem_filter, Array.mem_filter] at h
    refine ⟨by simpa using h.1.1, ?_⟩
    have := h.1.2
    simpa using this
  have hB2 : ∀ e, e ∈ Array.filter (fun x => decide (x.born ≥ cl)) (Array.filter (fun e => !seen.contains e.born) es) → e ∈ es.toList ∧ e.born ∉ seen.toList := fun e h => by
    rw [Array.mem_filter, Array.mem_filter] at h
    refine ⟨by simpa using h.1.1, ?_⟩
    have := h.1.2
    simpa using this
  have hin : ∀ e ∈ es.toList, e.born ∉ seen.toList → e ∈ Array.filter (fun x => decide (x.born < cl)) (Array.filter (fun e => !seen.contains e.born) es) := fun e h1 h2 => by
    rw [Array.mem_filter, Array.mem_filter]
    exact ⟨⟨by simpa using h1, by simpa using h2⟩, decide_eq_true (hw e h1)⟩
  generalize Array.filter (fun x => decide (x.born < cl)) (Array.filter (fun e => !seen.contains e.born) es) = B at hB hin ⊢
  generalize Array.filter (fun x => decide (x.born ≥ cl)) (Array.filter (fun e => !seen.contains e.born) es) = B2 at hB2 ⊢
  have hC1 : ∀ e, some e ∈ (if B.isEmpty = true then #[none] else #[]) ++ Array.map some (B ++ B2) → e ∈ es.toList ∧ e.born ∉ seen.toList := fun e h => by
    rw [Array.mem_append] at h
    rcases h with h | h
    · split at h
      · simp at h
      · simp at h
    · rw [Array.mem_map] at h
      obtain ⟨x, hx, e2⟩ := h
      cases e2
      rcases Array.mem_append.1 hx with hx | hx
      · exact hB _ hx
      · exact hB2 _ hx
  have hC2 : none ∈ (if B.isEmpty = true then #[none] else #[]) ++ Array.map some (B ++ B2) → ∀ e ∈ es.toList, e.born ∈ seen.toList := fun h e he => by
    rw [Array.mem_append] at h
    rcases h with h | h
    · split at h
      · next hb =>
        cases hd : decide (e.born ∈ seen.toList) with
        | true => exact of_decide_eq_true hd
        | false =>
          have hm := hin e he (of_decide_eq_false hd)
          have : B = #[] := by simpa using hb
          rw [this] at hm
          simp at hm
      · simp at h
    · rw [Array.mem_map] at h
      obtain ⟨x, _, e2⟩ := h
      cases e2
  have hC3 : 0 < ((if B.isEmpty = true then #[none] else #[]) ++ Array.map some (B ++ B2)).size := by
    rw [Array.size_append, Array.size_map, Array.size_append]
    split
    · show 0 < 1 + _; omega
    · next hb =>
      have : 0 < B.size := by
        rcases Nat.eq_zero_or_pos B.size with e | e
        · exact absurd (by simpa using e) hb
        · exact e
      omega
  generalize (if B.isEmpty = true then #[none] else #[]) ++ Array.map some (B ++ B2) = C at hC1 hC2 hC3 ⊢
  rw [wk_bind]
  refine wk_choose fun n h1 h2 => ?_
  have hn : n < C.size := by
    cases hf : (Question.mapNext C.size).forced with
    | true => rw [h1 hf]; exact hC3
    | false =>
      obtain ⟨t, rfl⟩ := h2 hf
      exact Nat.mod_lt _ hC3
  have hmem : C[n] ∈ C := Array.getElem_mem hn
  rw [Array.getElem?_eq_getElem hn]
  generalize C[n] = c at hmem
  cases c with
  | none => exact hend (hC2 hmem)
  | some e =>
    obtain ⟨g1, g2⟩ := hC1 e hmem
    rw [wk_bind]
    exact ⟨⟨_, hr, (by intro c e fz h; cases h), (by intro d h; cases h)⟩, hstep e g1 g2⟩
theorem find_born {es : List MapEntry} (h : (es.map (·.born)).Nodup) {e : MapEntry} (he : e ∈ es) : es.find? (·.born == e.born) = some e := by
  induction es with
  | nil => cases he
  | cons x es ih =>
    rw [List.map_cons, List.nodup_cons] at h
    rcases List.mem_cons.1 he with rfl | he
    · rw [List.find?_cons_of_pos (by simp)]
    · have hne : x.born ≠ e.born := fun e2 => h.1 (by rw [e2]; exact List.mem_map_of_mem he)
      rw [List.find?_cons_of_neg (by simpa using hne)]
      exact ih h.2 he
/-- The entry of the step. -/
theorem op_entry {P : Program} {o : Oper} {ev : Operand → Value} {F : Heap} {K : Value → Heap → Prop} {x : Operand} {r m : Nat} {es : Array MapEntry} {cl : Nat} {seen : Array Nat} {e : MapEntry}
    (ho : o.op = .entry x) (hx : ev x = .pointer (some ⟨r, 0, none⟩)) (hr : F r = some (.mapIter (some m) cl (seen.push e.born) cl)) (hm : F m = some (.map es cl)) (hw : WfE es.toList cl) (he : e ∈ es.toList)
    (hk : K (.tuple #[e.key, e.val]) F) : OpK P o ev F K := by
  refine ⟨opW_v (s := Instr.entry (.pointer (some ⟨r, 0, none⟩))) (by simp only [execOp, ho, hx]) ?_⟩
  unfold Instr.entry
  simp only [wk_bind]
  refine ⟨_, hr, (by intro c e fz h; cases h), ?_⟩
  rw [wk_pure']
  dsimp only
  rw [Array.back?_push]
  dsimp only
  simp only [wk_bind]
  refine ⟨_, hm, (by intro c e fz h; cases h), ?_⟩
  rw [wk_pure']
  dsimp only
  rw [if_neg (by simp)]
  have hf : es.find? (fun x => x.born == e.born) = some e := by
    rw [← Array.find?_toList]
    exact find_born hw.1 he
  rw [hf]
  exact hk
end Go.Al
/- Pagers: pages that were set, in plain Lean; a pager's part of memory. -/
namespace Go.Proofs.YtmpiggcooboenaaGreatDoor.Al
open Go Go.Al Go.Proofs Go.RowKit
set_option maxHeartbeats 8000000
set_option maxRecDepth 100000
set_option linter.unusedVariables false
set_option linter.unusedSimpArgs false
abbrev PgL := List (Int × List UInt8)
def lkS : PgL → Int → Option (List UInt8)
  | [], _ => none
  | x :: t, k => if k = x.1 then some x.2 else lkS t k
def insS : PgL → Int → List UInt8 → PgL
  | [], p, d => [(p, d)]
  | x :: t, p, d => if x.1 < p then x :: insS t p d else if x.1 = p then (p, d) :: t else (p, d) :: x :: t
theorem lk_ins : ∀ (S : PgL) (p : Int) (d : List UInt8) (k : Int), lkS (insS S p d) k = if k = p then some d else lkS S k
  | [], p, d, k => rfl
  | x :: t, p, d, k => by
    unfold insS
    by_cases h1 : x.1 < p
    · rw [if_pos h1]
      show (if k = x.1 then some x.2 else lkS (insS t p d) k) = _
      rw [lk_ins t p d k]
      show _ = if k = p then some d else if k = x.1 then some x.2 else lkS t k
      by_cases e : k = x.1
      · rw [if_pos e, if_neg (show ¬ k = p by omega), if_pos e]
      · rw [if_neg e, if_neg e]
    · rw [if_neg h1]
      by_cases h2 : x.1 = p
      · rw [if_pos h2]
        show (if k = p then some d else lkS t k) = if k = p then some d else if k = x.1 then some x.2 else lkS t k
        by_cases e : k = p
        · rw [if_pos e, if_pos e]
        · rw [if_neg e, if_neg e, if_neg (show ¬ k = x.1 by omega)]
      · rw [if_neg h2]
        rfl
/-- Rising. -/
def SrtS (S : PgL) : Prop := S.Pairwise fun x y => x.1 < y.1
theorem ins_mem {S : PgL} {p : Int} {d : List UInt8} {y : Int × List UInt8} (h : y ∈ insS S p d) : y = (p, d) ∨ y ∈ S := by
  induction S with
  | nil => exact .inl (List.mem_singleton.1 h)
  | cons x t ih =>
    unfold insS at h
    split at h
    · rcases List.mem_cons.1 h with rfl | h
      · exact .inr List.mem_cons_self
      · rcases ih h with h | h
        · exact .inl h
        · exact .inr (List.mem_cons_of_mem _ h)
    · split at h
      · rcases List.mem_cons.1 h with rfl | h
        · exact .inl rfl
        · exact .inr (List.mem_cons_of_mem _ h)
      · rcases List.mem_cons.1 h with rfl | h
        · exact .inl rfl
        · exact .inr h
theorem ins_srt : ∀ {S : PgL}, SrtS S → ∀ (p : Int) (d : List UInt8), SrtS (insS S p d)
  | [], _, p, d => List.pairwise_singleton _ _
  | x :: t, h, p, d => by
    obtain ⟨h1, h2⟩ := List.pairwise_cons.1 h
    unfold insS
    by_cases e1 : x.1 < p
    · rw [if_pos e1]
      refine List.pairwise_cons.2 ⟨fun y hy => ?_, ins_srt h2 p d⟩
      rcases ins_mem hy with rfl | hy
      · exact e1
      · exact h1 y hy
    · rw [if_neg e1]
      by_cases e2 : x.1 = p
      · rw [if_pos e2]
        exact List.pairwise_cons.2 ⟨fun y hy => by have := h1 y hy; show p < y.1; omega, h2⟩
      · rw [if_neg e2]
        refine List.pairwise_cons.2 ⟨fun y hy => ?_, h⟩
        rcases List.mem_cons.1 hy with rfl | hy
        · show p < y.1; omega
        · have := h1 y hy; show p < y.1; omega
/-- The place of a page. -/
theorem ins_at : ∀ (S : PgL) (k : Nat) (p : Int) (d : List UInt8), k ≤ S.length → (∀ j x, j < k → S[j]? = some x → x.1 < p) → (∀ x, S[k]? = some x → ¬ x.1 < p) → insS S p d = if (∃ x, S[k]? = some x ∧ x.1 = p) then S.set k (p, d) else S.take k ++ (p, d) :: S.drop k
  | [], k, p, d, hk, h1, h2 => by
    obtain rfl : k = 0 := by simpa using hk
    rw [if_neg (by rintro ⟨x, h, _⟩; cases h)]
    rfl
  | x :: t, 0, p, d, hk, h1, h2 => by
    have := h2 x rfl
    unfold insS
    rw [if_neg this]
    by_cases e : x.1 = p
    · rw [if_pos e, if_pos ⟨x, rfl, e⟩]; rfl
    · rw [if_neg e, if_neg (by rintro ⟨y, h, h'⟩; cases h; exact e h')]; rfl
  | x :: t, k + 1, p, d, hk, h1, h2 => by
    have e := h1 0 x (by omega) rfl
    unfold insS
    rw [if_pos e, ins_at t k p d (by simpa using hk) (fun j y hj hy => h1 (j + 1) y (by omega) (by simpa using hy)) (fun y hy => h2 y (by simpa using hy))]
    by_cases c : ∃ y, t[k]? = some y ∧ y.1 = p
    · rw [if_pos c, if_pos (by simpa using c)]; rfl
    · rw [if_neg c, if_neg (by simpa using c)]; rfl
theorem lk_at : ∀ (S : PgL), SrtS S → ∀ (k : Nat) x, S[k]? = some x → lkS S x.1 = some x.2
  | x :: t, h, 0, y, hy => by
    cases hy
    show (if x.1 = x.1 then _ else _) = _
    rw [if_pos rfl]
  | x :: t, h, k + 1, y, hy => by
    obtain ⟨h1, h2⟩ := List.pairwise_cons.1 h
    have hy : t[k]? = some y := by simpa using hy
    have := h1 y (List.mem_of_getElem? hy)
    show (if y.1 = x.1 then _ else lkS t y.1) = _
    rw [if_neg (by omega)]
    exact lk_at t h2 k y hy
theorem lk_none : ∀ {S : PgL} {p : Int}, (∀ (j : Nat) (x : Int × List UInt8), S[j]? = some x → x.1 ≠ p) → lkS S p = none
  | [], p, _ => rfl
  | x :: t, p, h => by
    show (if p = x.1 then _ else lkS t p) = _
    rw [if_neg (fun e => h 0 x rfl e.symm)]
    exact lk_none fun j y hy => h (j + 1) y (by simpa using hy)
/-- What calls say and do. -/
def pgE {α : Type} (o : DOps α) (a : α) (S : PgL) (p : Int) : Int := match lkS S p with | some _ => 0 | none => loadE o a p
def pgD {α : Type} (o : DOps α) (a : α) (S : PgL) (p : Int) : List UInt8 := match lkS S p with | some d => d | none => loadL o a p
def psE (n p : Int) (d : List UInt8) : Int := if isPg n p = true ∧ d.length = 240 then 0 else 1
def psS (n : Int) (S : PgL) (p : Int) (d : List UInt8) : PgL := if isPg n p = true ∧ d.length = 240 then insS S p d else S
theorem sim_pg {s : DS} {r : RS} (h : Sim s r) (S : PgL) (p : Int) : pgE dsO s S p = pgE rsO r S p ∧ pgD dsO s S p = pgD rsO r S p := by
  obtain ⟨h1, h2⟩ := sim_load h p
  unfold pgE pgD
  rw [h1, h2]
  exact ⟨rfl, rfl⟩
theorem ps_srt {n : Int} {S : PgL} (h : SrtS S) (p : Int) (d : List UInt8) : SrtS (psS n S p d) := by
  unfold psS
  split
  · exact ins_srt h p d
  · exact h
/-- All that was set are pages of the disk. -/
def OkS (n : Int) (S : PgL) : Prop := ∀ x ∈ S, isPg n x.1 = true ∧ x.2.length = 240
theorem ps_ok {n : Int} {S : PgL} (h : OkS n S) (p : Int) (d : List UInt8) : OkS n (psS n S p d) := by
  unfold psS
  split
  · next c =>
    intro x hx
    rcases ins_mem hx with rfl | hx
    · exact c
    · exact h x hx
  · exact h
theorem ps_len {n : Int} {S : PgL} (p : Int) (d : List UInt8) : (psS n S p d).length ≤ S.length + 1 := by
  have key : ∀ S : PgL, (insS S p d).length ≤ S.length + 1 := by
    intro S
    induction S with
    | nil => exact Nat.le_refl _
    | cons x t ih =>
      unfold insS
      split
      · rw [List.length_cons, List.length_cons]; omega
      · split
        · rw [List.length_cons, List.length_cons]; omega
        · rw [List.length_cons, List.length_cons]; omega
  unfold psS
  split
  · exact key S
  · omega
/-- One part of memory over another one. -/
def joinH (A B : Heap) : Heap := fun c => match A c with | some o => some o | none => B c
theorem joinH_l {A B : Heap} {c : Nat} {o : Obj} (h : A c = some o) : joinH A B c = some o := by unfold joinH; rw [h]
theorem joinH_r {A B : Heap} {c : Nat} (h : A c = none) : joinH A B c = B c := by unfold joinH; rw [h]
/-- What happens to a part of a part. -/
theorem moves_in {D L F L' F' : Heap} (hL : Ext L D) (hD : Ext D F) (hM : Moves L F L' F') : Moves D F (joinH L' (restH L D)) F' ∧ Ext L' (joinH L' (restH L D)) ∧ (∀ c, L c = none → L' c = none → joinH L' (restH L D) c = D c) ∧ ∀ c o, D c = some o → L c = none → L' c = none := by
  have hn : ∀ c o, D c = some o → L c = none → L' c = none := fun c o hc hl => by
    cases e : L' c with
    | none => rfl
    | some u =>
      rcases hM.new c (by rw [e]; simp) with h | h
      · exact absurd hl h
      · rw [hD _ _ hc] at h; cases h
  refine ⟨⟨fun c o hc => ?_, fun c o hc hd => ?_, fun c hc => ?_⟩, fun c o hc => joinH_l hc, fun c h1 h2 => ?_, hn⟩
  · cases e : L' c with
    | some u => rw [joinH_l e] at hc; rw [← hc]; exact hM.inn _ _ e
    | none =>
      rw [joinH_r e] at hc
      unfold restH at hc
      split at hc
      · next h => exact hM.out _ _ (hD _ _ hc) h
      · cases hc
  · exact hM.out _ _ hc (hL.none hd)
  · cases e : L' c with
    | some u =>
      rcases hM.new c (by rw [e]; simp) with h | h
      · refine .inl fun hd => h (hL.none hd)
      · exact .inr h
    | none =>
      rw [joinH_r e] at hc
      unfold restH at hc
      split at hc
      · exact .inl hc
      · exact absurd rfl hc
  · rw [joinH_r h2]
    unfold restH
    rw [h1]
theorem join_keep {D L F L' F' G : Heap} (hL : Ext L D) (hD : Ext D F) (hM : Moves L F L' F') (hG : Ext G D) (hA : Apart L G) : Ext G (joinH L' (restH L D)) ∧ Apart L' G := by
  obtain ⟨_, _, h3, h4⟩ := moves_in hL hD hM
  have hl : ∀ c o, G c = some o → L c = none := fun c o hc => by
    cases e : L c with
    | none => rfl
    | some u => rw [hA c (by rw [e]; simp)] at hc; cases hc
  refine ⟨fun c o hc => ?_, fun c hc => ?_⟩
  · have e := hl c o hc
    rw [h3 c e (h4 c o (hG _ _ hc) e)]
    exact hG _ _ hc
  · cases e : G c with
    | none => rfl
    | some o => exact absurd (h4 c o (hG _ _ e) (hl c o e)) hc
theorem MapAt.at_ {F G : Heap} {m : Nat} {l : ML} (h : MapAt F m l) (e : G m = F m) : MapAt G m l := by
  obtain ⟨o, h1, h2⟩ := h
  exact ⟨o, by rw [e]; exact h1, h2⟩
/-- What the map of a pager tells. -/
structure MapP (G : Heap) (m : ML) (S : PgL) : Prop where
  no : ∀ k, getM m k = none → lkS S k = none
  yes : ∀ k v, getM m k = some v → ∃ l, lkS S k = some l ∧ l.length = 240 ∧ VRow G v l
theorem MapP.mono {G F : Heap} {m : ML} {S : PgL} (h : MapP G m S) (hE : Ext G F) : MapP F m S :=
  ⟨h.no, fun k v hv => by
    obtain ⟨l, h1, h2, h3⟩ := h.yes k v hv
    exact ⟨l, h1, h2, h3.mono hE⟩⟩
theorem MapP.nil (G : Heap) : MapP G [] [] := ⟨fun _ _ => rfl, fun k v h => by cases h⟩
theorem MapP.set {G : Heap} {m : ML} {S : PgL} (h : MapP G m S) {i : Int} {v : Value} {l : List UInt8} (hl : l.length = 240) (hv : VRow G v l) : MapP G (setM m i v) (insS S i l) := by
  refine ⟨fun k hk => ?_, fun k u hk => ?_⟩
  · rw [getM_setM] at hk
    rw [lk_ins]
    by_cases e : k = i
    · rw [if_pos e] at hk; cases hk
    · rw [if_neg e] at hk ⊢; exact h.no k hk
  · rw [getM_setM] at hk
    rw [lk_ins]
    by_cases e : k = i
    · rw [if_pos e] at hk ⊢
      cases hk
      exact ⟨l, rfl, hl, hv⟩
    · rw [if_neg e] at hk ⊢; exact h.yes k u hk
theorem findM_no : ∀ (l : ML) (k : Int) (i : Nat), findM l k i = none ↔ k ∉ l.map (·.1)
  | [], k, i => ⟨fun _ => List.not_mem_nil, fun _ => rfl⟩
  | p :: l, k, i => by
    rw [findM_cons, List.map_cons, List.mem_cons]
    by_cases e : k = p.1
    · rw [if_pos (by simpa using e)]
      exact ⟨(fun h => by cases h), fun h => absurd (.inl e) h⟩
    · rw [if_neg (by simpa using e), findM_no l k (i + 1)]
      exact ⟨fun h h2 => h2.elim e h, fun h h2 => h (.inr h2)⟩
theorem getM_no (l : ML) (k : Int) : getM l k = none ↔ k ∉ l.map (·.1) := by
  unfold getM
  rw [Option.map_eq_none_iff]
  exact findM_no l k 0
theorem setM_nodup {l : ML} (h : (l.map (·.1)).Nodup) (k : Int) (v : Value) : ((setM l k v).map (·.1)).Nodup := by
  unfold setM
  cases hf : findM l k 0 with
  | none =>
    have := (findM_no l k 0).1 hf
    dsimp only
    rw [List.map_append, List.nodup_append]
    refine ⟨h, List.nodup_cons.2 ⟨List.not_mem_nil, List.nodup_nil⟩, fun a ha b hb e => ?_⟩
    have hb : b = k := List.mem_singleton.1 hb
    exact this (by rw [← hb, ← e]; exact ha)
  | some q =>
    obtain ⟨j, u⟩ := q
    obtain ⟨_, hj⟩ := findM_some l k 0 j u hf
    rw [Nat.sub_zero] at hj
    dsimp only
    have e : (l.set j (k, v)).map (·.1) = l.map (·.1) := by
      rw [List.map_set]
      apply List.ext_getElem?
      intro n
      rw [List.getElem?_set, List.getElem?_map]
      by_cases c : j = n
      · subst c
        rw [if_pos rfl, hj, List.length_map, if_pos (List.getElem?_eq_some_iff.1 hj).1]
        rfl
      · rw [if_neg c]
    rw [e]
    exact h
theorem lk_in {S : PgL} {k : Int} : lkS S k = none ↔ k ∉ S.map (·.1) := by
  induction S with
  | nil => exact ⟨fun _ => List.not_mem_nil, fun _ => rfl⟩
  | cons x t ih =>
    show (if k = x.1 then some x.2 else lkS t k) = none ↔ _
    rw [List.map_cons, List.mem_cons]
    by_cases e : k = x.1
    · rw [if_pos e]
      exact ⟨(fun h => by cases h), fun h => absurd (.inl e) h⟩
    · rw [if_neg e, ih]
      exact ⟨fun h h2 => h2.elim e h, fun h h2 => h (.inr h2)⟩
/-- The numbers of the pages that a map tells, sorted. -/
theorem keys_sort {G : Heap} {m : ML} {S : PgL} (h : MapP G m S) (hn : (m.map (·.1)).Nodup) (hs : SrtS S) {ks : List Int} (hp : ks.Perm (m.map (·.1))) : ks.mergeSort (fun x y => decide (x ≤ y)) = S.map (·.1) := by
  have hsp : (S.map (·.1)).Pairwise (· < ·) := List.pairwise_map.2 hs
  have hsn : (S.map (·.1)).Nodup := hsp.imp fun h => by omega
  have hmem : ∀ k, k ∈ m.map (·.1) ↔ k ∈ S.map (·.1) := fun k => by
    have h1 := getM_no m k
    have h2 := lk_in (S := S) (k := k)
    constructor
    · intro hk
      cases hd : decide (k ∈ S.map (·.1)) with
      | true => exact of_decide_eq_true hd
      | false =>
        have h3 := h2.2 (of_decide_eq_false hd)
        cases hg : getM m k with
        | none => exact absurd hk (h1.1 hg)
        | some v =>
          obtain ⟨l, h4, _⟩ := h.yes k v hg
          rw [h3] at h4
          cases h4
    · intro hk
      cases hd : decide (k ∈ m.map (·.1)) with
      | true => exact of_decide_eq_true hd
      | false =>
        have h3 := h.no k (h1.2 (of_decide_eq_false hd))
        exact absurd hk (h2.1 h3)
  have hp2 : (m.map (·.1)).Perm (S.map (·.1)) := (List.perm_ext_iff_of_nodup hn hsn).2 hmem
  have hp3 : (ks.mergeSort (fun x y => decide (x ≤ y))).Perm (S.map (·.1)) := (List.mergeSort_perm _ _).trans (hp.trans hp2)
  have hs1 : (ks.mergeSort (fun x y => decide (x ≤ y))).Pairwise (· ≤ ·) := by
    have := List.pairwise_mergeSort (le := fun x y : Int => decide (x ≤ y)) (by intro a b c h1 h2; have := of_decide_eq_true h1; have := of_decide_eq_true h2; exact decide_eq_true (by omega)) (by intro a b; rw [Bool.or_eq_true]; rcases Int.le_total a b with h | h; exact .inl (decide_eq_true h); exact .inr (decide_eq_true h)) ks
    exact this.imp fun h => of_decide_eq_true h
  exact hp3.eq_of_pairwise (fun a b _ _ h1 h2 => by omega) hs1 (hsp.imp fun h => by omega)
abbrev pgO (lb ms : Nat) : Obj := .cells #[.pointer (some ⟨lb, 0, none⟩), .map (some ms)] 45
structure PgP (D : Heap) (pb lb b ms : Nat) (L : Heap) (lS : ML) (G : Heap) (s : DS) (q : Int) (S : PgL) : Prop where
  cell : D pb = some (pgO lb ms)
  log : Lg L lb b s q
  map : MapAtW D ms lS
  baseL : Ext L D
  base : Ext G D
  lp : L pb = none
  lm : L ms = none
  gp : G pb = none
  gm : G ms = none
  lg : Apart L G
  rs : MapP G lS S
  nd : (lS.map (·.1)).Nodup
def Pg (D : Heap) (pb : Nat) (s : DS) (q : Int) (S : PgL) : Prop := SrtS S ∧ OkS s.size S ∧ ∃ lb b ms L lS G, PgP D pb lb b ms L lS G s q S
theorem PgP.msp {D : Heap} {pb lb b ms : Nat} {L : Heap} {lS : ML} {G : Heap} {s : DS} {q : Int} {S : PgL} (h : PgP D pb lb b ms L lS G s q S) : ms ≠ pb := h.map.at_.not_cells h.cell
/-- A page's new bytes. -/
theorem PgP.set {D F F' : Heap} {pb lb b ms : Nat} {L : Heap} {lS : ML} {G : Heap} {s : DS} {q : Int} {S : PgL} (h : PgP D pb lb b ms L lS G s q S) (hE : Ext D F) (hE2 : Ext F F') {i : Int} {v : Value} {l : List UInt8} (hl : l.length = 240) (hv : NewRow F F' v l) {o' : Obj} (ho : MapO o' (setM lS i v)) (hw : WfM o') :
    Moves D F ((gain D F F').put ms o') (F'.put ms o') ∧ PgP ((gain D F F').put ms o') pb lb b ms L (setM lS i v) (gain G F F') s q (insS S i l) := by
  have hm := Moves.gain hE hE2
  have hg := gain_ext (F' := F') hE
  have hold : ∀ c, D c ≠ none → gain G F F' c = G c := fun c hc => by
    cases e : D c with
    | none => exact absurd e hc
    | some o => exact gain_old (hE _ _ e)
  have hms : D ms ≠ none := by obtain ⟨o, h1, _⟩ := h.map; rw [h1]; simp
  have hpb : D pb ≠ none := by rw [h.cell]; simp
  have hG : Ext G (gain G F F') := gain_ext (h.base.trans hE)
  have hGD : Ext (gain G F F') (gain D F F') := fun c o hc => by
    cases e : F c with
    | none => rw [gain_new e] at hc ⊢; exact hc
    | some u => rw [gain_old e] at hc ⊢; exact h.base _ _ hc
  refine ⟨hm.trans (Moves.put hm.inn (.inl fun e => hms (hg.none e)) _), ⟨?_, h.log, MapAtW.put ho hw, (h.baseL.trans hg).put h.lm _, hGD.put (by rw [hold _ hms]; exact h.gm) _, h.lp, h.lm, by rw [hold _ hpb]; exact h.gp, by rw [hold _ hms]; exact h.gm, fun c hc => ?_, ?_, setM_nodup h.nd i v⟩⟩
  · rw [Heap.put_other _ _ (Ne.symm h.msp)]; exact hg _ _ h.cell
  · have hd : D c ≠ none := fun e => hc (h.baseL.none e)
    rw [hold _ hd]
    exact h.lg c hc
  · obtain ⟨A, c, h1, h2, h3, h4⟩ := hv
    exact (h.rs.mono hG).set hl ⟨A, c, h1, h2, rowAt_gain h3 h4⟩
/-- Nothing is set any more. -/
theorem PgP.clear {D F : Heap} {pb lb b ms : Nat} {L : Heap} {lS : ML} {G : Heap} {s : DS} {q : Int} {S : PgL} (h : PgP D pb lb b ms L lS G s q S) (hE : Ext D F) {o' : Obj} (ho : MapO o' []) (hw : WfM o') :
    Moves D F (D.put ms o') (F.put ms o') ∧ PgP (D.put ms o') pb lb b ms L [] G s q [] := by
  have hms : D ms ≠ none := by obtain ⟨o, h1, _⟩ := h.map; rw [h1]; simp
  refine ⟨Moves.put hE (.inl hms) _, ⟨?_, h.log, MapAtW.put ho hw, h.baseL.put h.lm _, h.base.put h.gm _, h.lp, h.lm, h.gp, h.gm, h.lg, MapP.nil G, List.nodup_nil⟩⟩
  rw [Heap.put_other _ _ (Ne.symm h.msp)]
  exact h.cell
/-- What is done to its log. -/
theorem PgP.logs {D F L' F' : Heap} {pb lb b ms : Nat} {L : Heap} {lS : ML} {G : Heap} {s s' : DS} {q q' : Int} {S : PgL} (h : PgP D pb lb b ms L lS G s q S) (hE : Ext D F) (hM : Moves L F L' F') (hL : Lg L' lb b s' q') :
    ∃ D', Moves D F D' F' ∧ PgP D' pb lb b ms L' lS G s' q' S := by
  obtain ⟨m1, m2, m3, m4⟩ := moves_in h.baseL hE hM
  obtain ⟨k1, k2⟩ := join_keep h.baseL hE hM h.base h.lg
  obtain ⟨o, hm, ho⟩ := h.map
  have e1 := m4 _ _ h.cell h.lp
  have e2 := m4 _ _ hm h.lm
  exact ⟨_, m1, by rw [m3 _ h.lp e1]; exact h.cell, hL, ⟨o, by rw [m3 _ h.lm e2]; exact hm, ho⟩, m2, k1, e1, e2, h.gp, h.gm, k2, h.rs, h.nd⟩
end Go.Proofs.YtmpiggcooboenaaGreatDoor.Al
/- Pagers: New, Get, Set, over what is known of memory. -/
namespace Go.Proofs.YtmpiggcooboenaaGreatDoor.Al
open Go Go.Al Go.Proofs Go.RowKit
set_option maxHeartbeats 8000000
set_option maxRecDepth 100000
set_option linter.unusedVariables false
set_option linter.unusedSimpArgs false
theorem pgReady {F : Heap} {pb lb ms : Nat} (h : F pb = some (pgO lb ms)) : FnK Tryz.prog 29 #[.pointer (some ⟨pb, 0, none⟩)] F (fun v F' => v = .bool true ∧ F' = F) := by
  (refine fn_walk tab_ok Tryz.func29 rfl rfl rfl rfl ?_; (conv => whnf))
  ((conv => whnf); repeat (first | (apply load_at; (conv => lhs; whnf); (with_reducible assumption); rfl; (conv => whnf)) | (apply load_at; (conv => lhs; rw [add_plain, add_plain]); (with_reducible assumption); rfl; (conv => whnf)) | (apply loads_at; (conv => lhs; whnf); (with_reducible assumption); rfl; (conv => whnf)) | (refine ⟨⟨by omega, by omega⟩, ?_⟩; (conv => whnf))))
  exact ⟨rfl, rfl⟩
theorem Lg.pages {E F : Heap} {lb b : Nat} {s : DS} {q : Int} (hE : Ext E F) (hL : Lg E lb b s q) : FnK Tryz.prog 36 #[.pointer (some ⟨lb, 0, none⟩)] F (fun v F' => v = .int .i64 (pagesN s.size) ∧ F' = F) := by
  obtain ⟨D0, h1, h2, h3⟩ := hL.disk
  exact lgPages (h2.trans hE) h1 (hE _ _ h3)
theorem Lg.load {E F : Heap} {lb b : Nat} {s : DS} {q : Int} (hE : Ext E F) (hL : Lg E lb b s q) (hN : NibAt F) (p : Int) : FnK Tryz.prog 34 #[.pointer (some ⟨lb, 0, none⟩), .int .i64 p] F (fun v F' => ∃ u, v = .tuple #[u, .int .i64 (loadE dsO s p)] ∧ NewRow F F' u (loadL dsO s p) ∧ Ext F F') := by
  obtain ⟨D0, h1, h2, h3⟩ := hL.disk
  exact lgLoad (h2.trans hE) h1 (hE _ _ h3) hN p
theorem pgPages {D F : Heap} {pb : Nat} {s : DS} {q : Int} {S : PgL} (hE : Ext D F) (hD : Pg D pb s q S) : FnK Tryz.prog 16 #[.pointer (some ⟨pb, 0, none⟩)] F (fun v F' => v = .int .i64 (pagesN s.size) ∧ F' = F) := by
  obtain ⟨hs, ho, lb, b, ms, L, lS, G, hP⟩ := hD
  have hc := hE _ _ hP.cell
  have k0 := pgReady hc
  have k1 := Lg.pages (hP.baseL.trans hE) hP.log
  generalize pagesN s.size = P at k1 ⊢
  (refine fn_walk tab_ok Tryz.func16 rfl rfl rfl rfl ?_; (conv => whnf))
  refine call_of k0 ?_
  rintro v F ⟨rfl, rfl⟩
  ((conv => whnf); repeat (first | (apply load_at; (conv => lhs; whnf); (with_reducible assumption); rfl; (conv => whnf)) | (apply load_at; (conv => lhs; rw [add_plain, add_plain]); (with_reducible assumption); rfl; (conv => whnf)) | (apply loads_at; (conv => lhs; whnf); (with_reducible assumption); rfl; (conv => whnf)) | (refine ⟨⟨by omega, by omega⟩, ?_⟩; (conv => whnf))))
  refine call_of k1 ?_
  rintro v F ⟨rfl, rfl⟩
  ((conv => whnf); repeat (first | (apply load_at; (conv => lhs; whnf); (with_reducible assumption); rfl; (conv => whnf)) | (apply load_at; (conv => lhs; rw [add_plain, add_plain]); (with_reducible assumption); rfl; (conv => whnf)) | (apply loads_at; (conv => lhs; whnf); (with_reducible assumption); rfl; (conv => whnf)) | (refine ⟨⟨by omega, by omega⟩, ?_⟩; (conv => whnf))))
  exact ⟨rfl, rfl⟩
theorem pgNew {E F : Heap} {lb b : Nat} {s : DS} {q : Int} (hE : Ext E F) (hL : Lg E lb b s q) (h0 : pagesN s.size ≠ 0) : FnK Tryz.prog 15 #[.pointer (some ⟨lb, 0, none⟩)] F (fun v F' => ∃ pb D', v = .tuple #[.pointer (some ⟨pb, 0, none⟩), .int .i64 0] ∧ Moves E F D' F' ∧ Pg D' pb s q []) := by
  have k1 := Lg.pages hE hL
  generalize pagesN s.size = P at k1 h0
  (refine fn_walk tab_ok Tryz.func15 rfl rfl rfl rfl ?_; (conv => whnf))
  refine call_of k1 ?_
  rintro v F ⟨rfl, rfl⟩
  ((conv => whnf); repeat (first | (apply load_at; (conv => lhs; whnf); (with_reducible assumption); rfl; (conv => whnf)) | (apply load_at; (conv => lhs; rw [add_plain, add_plain]); (with_reducible assumption); rfl; (conv => whnf)) | (apply loads_at; (conv => lhs; whnf); (with_reducible assumption); rfl; (conv => whnf)) | (refine ⟨⟨by omega, by omega⟩, ?_⟩; (conv => whnf))))
  refine cond_split (fun h => ?_) (fun h => ?_)
  · exact absurd (by simpa using (show (P == 0) = true from h)) h0
  ((conv => whnf); repeat (first | (apply load_at; (conv => lhs; whnf); (with_reducible assumption); rfl; (conv => whnf)) | (apply load_at; (conv => lhs; rw [add_plain, add_plain]); (with_reducible assumption); rfl; (conv => whnf)) | (apply loads_at; (conv => lhs; whnf); (with_reducible assumption); rfl; (conv => whnf)) | (refine ⟨⟨by omega, by omega⟩, ?_⟩; (conv => whnf))))
  refine op_makeMap rfl fun ms h1 => ?_
  have M1 := Moves.put hE (.inr h1) (.map #[] 0)
  have A1 := Heap.put_same F ms (.map #[] 0)
  have e1 := hE.none h1
  have E1 := (Ext.refl F).put h1 (.map #[] 0)
  generalize F.put ms _ = F1 at M1 A1 E1 ⊢
  (conv => whnf)
  refine new_step (pgO lb ms) rfl fun pb h2 => ?_
  have M2 := M1.trans (Moves.put M1.inn (.inr h2) (pgO lb ms))
  have n1 : ms ≠ pb := fun e => by rw [e, h2] at A1; cases A1
  have e2 := hE.none (E1.none h2)
  (conv => whnf)
  exact ⟨pb, _, rfl, M2, List.Pairwise.nil, (fun x h => by cases h), lb, b, ms, E, [], emptyH, ⟨Heap.put_same _ _ _, hL, ⟨_, by rw [Heap.put_other _ _ n1, Heap.put_same], ⟨#[], 0, rfl, rfl⟩, WfM.nil 0⟩, ((Ext.refl E).put e1 _).put e2 _, emptyH_ext _, e2, e1, rfl, rfl, fun _ _ => rfl, MapP.nil _, List.nodup_nil⟩⟩
theorem pgGet {D F : Heap} {pb : Nat} {s : DS} {q : Int} {S : PgL} (hE : Ext D F) (hD : Pg D pb s q S) (hN : NibAt F) (p : Int) :
    FnK Tryz.prog 12 #[.pointer (some ⟨pb, 0, none⟩), .int .i64 p] F (fun v F' => ∃ u, v = .tuple #[u, .int .i64 (pgE dsO s S p)] ∧ NewRow F F' u (pgD dsO s S p) ∧ Ext F F') := by
  obtain ⟨hs, ho, lb, b, ms, L, lS, G, hP⟩ := hD
  have hc := hE _ _ hP.cell
  have k0 := pgReady hc
  have k1 := Lg.load (hP.baseL.trans hE) hP.log hN p
  have hm := hP.map.mono hE
  cases hg : getM lS p with
  | none =>
    have h1 := hP.rs.no p hg
    unfold pgE pgD
    rw [h1]
    dsimp only
    generalize loadE dsO s p = le at k1 ⊢
    generalize loadL dsO s p = ll at k1 ⊢
    (refine fn_walk tab_ok Tryz.func12 rfl rfl rfl rfl ?_; (conv => whnf))
    refine call_of k0 ?_
    rintro v F ⟨rfl, rfl⟩
    ((conv => whnf); repeat (first | (apply load_at; (conv => lhs; whnf); (with_reducible assumption); rfl; (conv => whnf)) | (apply load_at; (conv => lhs; rw [add_plain, add_plain]); (with_reducible assumption); rfl; (conv => whnf)) | (apply loads_at; (conv => lhs; whnf); (with_reducible assumption); rfl; (conv => whnf)) | (refine ⟨⟨by omega, by omega⟩, ?_⟩; (conv => whnf))))
    refine op_lookup_at tab_ok rfl rfl rfl rfl rfl rfl rfl hm.at_ hg ?_
    ((conv => whnf); repeat (first | (apply load_at; (conv => lhs; whnf); (with_reducible assumption); rfl; (conv => whnf)) | (apply load_at; (conv => lhs; rw [add_plain, add_plain]); (with_reducible assumption); rfl; (conv => whnf)) | (apply loads_at; (conv => lhs; whnf); (with_reducible assumption); rfl; (conv => whnf)) | (refine ⟨⟨by omega, by omega⟩, ?_⟩; (conv => whnf))))
    refine call_of k1 ?_
    rintro v F1 ⟨u, rfl, hu, hE1⟩
    ((conv => whnf); repeat (first | (apply load_at; (conv => lhs; whnf); (with_reducible assumption); rfl; (conv => whnf)) | (apply load_at; (conv => lhs; rw [add_plain, add_plain]); (with_reducible assumption); rfl; (conv => whnf)) | (apply loads_at; (conv => lhs; whnf); (with_reducible assumption); rfl; (conv => whnf)) | (refine ⟨⟨by omega, by omega⟩, ?_⟩; (conv => whnf))))
    exact ⟨_, rfl, hu, hE1⟩
  | some v0 =>
    obtain ⟨l, h1, h2, A, c, rfl, h3, h4⟩ := hP.rs.yes p v0 hg
    have k2 := clone l A c F (h4.mono (hP.base.trans hE)) (by omega)
    unfold pgE pgD
    rw [h1]
    dsimp only
    (refine fn_walk tab_ok Tryz.func12 rfl rfl rfl rfl ?_; (conv => whnf))
    refine call_of k0 ?_
    rintro v F ⟨rfl, rfl⟩
    ((conv => whnf); repeat (first | (apply load_at; (conv => lhs; whnf); (with_reducible assumption); rfl; (conv => whnf)) | (apply load_at; (conv => lhs; rw [add_plain, add_plain]); (with_reducible assumption); rfl; (conv => whnf)) | (apply loads_at; (conv => lhs; whnf); (with_reducible assumption); rfl; (conv => whnf)) | (refine ⟨⟨by omega, by omega⟩, ?_⟩; (conv => whnf))))
    refine op_lookup_at tab_ok rfl rfl rfl rfl rfl rfl rfl hm.at_ hg ?_
    ((conv => whnf); repeat (first | (apply load_at; (conv => lhs; whnf); (with_reducible assumption); rfl; (conv => whnf)) | (apply load_at; (conv => lhs; rw [add_plain, add_plain]); (with_reducible assumption); rfl; (conv => whnf)) | (apply loads_at; (conv => lhs; whnf); (with_reducible assumption); rfl; (conv => whnf)) | (refine ⟨⟨by omega, by omega⟩, ?_⟩; (conv => whnf))))
    refine call_of k2 ?_
    rintro v F1 hM
    ((conv => whnf); repeat (first | (apply load_at; (conv => lhs; whnf); (with_reducible assumption); rfl; (conv => whnf)) | (apply load_at; (conv => lhs; rw [add_plain, add_plain]); (with_reducible assumption); rfl; (conv => whnf)) | (apply loads_at; (conv => lhs; whnf); (with_reducible assumption); rfl; (conv => whnf)) | (refine ⟨⟨by omega, by omega⟩, ?_⟩; (conv => whnf))))
    exact ⟨_, rfl, hM.newRow, hM.ext⟩
theorem pgSet {D F : Heap} {pb : Nat} {s : DS} {q : Int} {S : PgL} (hE : Ext D F) (hD : Pg D pb s q S) (l : List UInt8) (A : Option Addr) (c : Nat) (hr : RowAt F A (bytesOf l)) (hl : l.length ≤ 900000) (p : Int) :
    FnK Tryz.prog 8 #[.pointer (some ⟨pb, 0, none⟩), .int .i64 p, .slice A l.length c] F (fun v F' => v = .int .i64 (psE s.size p l) ∧ ∃ D', Moves D F D' F' ∧ Pg D' pb s q (psS s.size S p l)) := by
  have kP := pgPages hE hD
  have hD0 := hD
  obtain ⟨hs, ho, lb, b, ms, L, lS, G, hP⟩ := hD
  have hc := hE _ _ hP.cell
  have k0 := pgReady hc
  have hm := hP.map.mono hE
  have hsr := ps_srt (n := s.size) hs p l
  have hok := ps_ok (n := s.size) ho p l
  have hpg : isPg s.size p = true ↔ 0 ≤ p ∧ p < pagesN s.size := isPg_iff
  have no : ¬ ((0 ≤ p ∧ p < pagesN s.size) ∧ l.length = 240) → psE s.size p l = 1 ∧ psS s.size S p l = S := fun h => by
    unfold psE psS
    rw [if_neg (by rw [hpg]; exact h), if_neg (by rw [hpg]; exact h)]
    exact ⟨rfl, rfl⟩
  have yes : ((0 ≤ p ∧ p < pagesN s.size) ∧ l.length = 240) → psE s.size p l = 0 ∧ psS s.size S p l = insS S p l := fun h => by
    unfold psE psS
    rw [if_pos (by rw [hpg]; exact h), if_pos (by rw [hpg]; exact h)]
    exact ⟨rfl, rfl⟩
  clear hpg
  generalize psE s.size p l = pe at no yes ⊢
  generalize psS s.size S p l = pS at no yes hsr hok ⊢
  generalize pagesN s.size = P at kP no yes
  have fin : ¬ ((0 ≤ p ∧ p < P) ∧ l.length = 240) → Value.int .i64 1 = .int .i64 pe ∧ ∃ D', Moves D F D' F ∧ Pg D' pb s q pS := fun h => by
    obtain ⟨rfl, rfl⟩ := no h
    exact ⟨rfl, D, Moves.refl hE, hD0⟩
  (refine fn_walk tab_ok Tryz.func8 rfl rfl rfl rfl ?_; (conv => whnf))
  refine call_of k0 ?_
  rintro v F ⟨rfl, rfl⟩
  ((conv => whnf); repeat (first | (apply load_at; (conv => lhs; whnf); (with_reducible assumption); rfl; (conv => whnf)) | (apply load_at; (conv => lhs; rw [add_plain, add_plain]); (with_reducible assumption); rfl; (conv => whnf)) | (apply loads_at; (conv => lhs; whnf); (with_reducible assumption); rfl; (conv => whnf)) | (refine ⟨⟨by omega, by omega⟩, ?_⟩; (conv => whnf))))
  refine cond_split (fun h => ?_) (fun h => ?_)
  · have h := of_decide_eq_true (show decide (p < 0) = true from h)
    ((conv => whnf); repeat (first | (apply load_at; (conv => lhs; whnf); (with_reducible assumption); rfl; (conv => whnf)) | (apply load_at; (conv => lhs; rw [add_plain, add_plain]); (with_reducible assumption); rfl; (conv => whnf)) | (apply loads_at; (conv => lhs; whnf); (with_reducible assumption); rfl; (conv => whnf)) | (refine ⟨⟨by omega, by omega⟩, ?_⟩; (conv => whnf))))
    exact fin (by omega)
  have h0 := of_decide_eq_false (show decide (p < 0) = false from h)
  clear h
  ((conv => whnf); repeat (first | (apply load_at; (conv => lhs; whnf); (with_reducible assumption); rfl; (conv => whnf)) | (apply load_at; (conv => lhs; rw [add_plain, add_plain]); (with_reducible assumption); rfl; (conv => whnf)) | (apply loads_at; (conv => lhs; whnf); (with_reducible assumption); rfl; (conv => whnf)) | (refine ⟨⟨by omega, by omega⟩, ?_⟩; (conv => whnf))))
  refine call_of kP ?_
  rintro v F ⟨rfl, rfl⟩
  ((conv => whnf); repeat (first | (apply load_at; (conv => lhs; whnf); (with_reducible assumption); rfl; (conv => whnf)) | (apply load_at; (conv => lhs; rw [add_plain, add_plain]); (with_reducible assumption); rfl; (conv => whnf)) | (apply loads_at; (conv => lhs; whnf); (with_reducible assumption); rfl; (conv => whnf)) | (refine ⟨⟨by omega, by omega⟩, ?_⟩; (conv => whnf))))
  refine cond_split (fun h => ?_) (fun h => ?_)
  · have h := of_decide_eq_true (show decide (p ≥ P) = true from h)
    ((conv => whnf); repeat (first | (apply load_at; (conv => lhs; whnf); (with_reducible assumption); rfl; (conv => whnf)) | (apply load_at; (conv => lhs; rw [add_plain, add_plain]); (with_reducible assumption); rfl; (conv => whnf)) | (apply loads_at; (conv => lhs; whnf); (with_reducible assumption); rfl; (conv => whnf)) | (refine ⟨⟨by omega, by omega⟩, ?_⟩; (conv => whnf))))
    exact fin (by omega)
  have h1 := of_decide_eq_false (show decide (p ≥ P) = false from h)
  clear h
  ((conv => whnf); repeat (first | (apply load_at; (conv => lhs; whnf); (with_reducible assumption); rfl; (conv => whnf)) | (apply load_at; (conv => lhs; rw [add_plain, add_plain]); (with_reducible assumption); rfl; (conv => whnf)) | (apply loads_at; (conv => lhs; whnf); (with_reducible assumption); rfl; (conv => whnf)) | (refine ⟨⟨by omega, by omega⟩, ?_⟩; (conv => whnf))))
  refine cond_split (fun h => ?_) (fun h => ?_)
  · have h : ((l.length : Int) != 240) = true := h
    have hne : l.length ≠ 240 := fun e => by rw [e] at h; exact absurd h (by decide)
    ((conv => whnf); repeat (first | (apply load_at; (conv => lhs; whnf); (with_reducible assumption); rfl; (conv => whnf)) | (apply load_at; (conv => lhs; rw [add_plain, add_plain]); (with_reducible assumption); rfl; (conv => whnf)) | (apply loads_at; (conv => lhs; whnf); (with_reducible assumption); rfl; (conv => whnf)) | (refine ⟨⟨by omega, by omega⟩, ?_⟩; (conv => whnf))))
    exact fin (by omega)
  have h : ((l.length : Int) != 240) = false := h
  have hl2 : l.length = 240 := by have := bne_eq_false_iff_eq.1 h; omega
  clear h
  obtain ⟨rfl, rfl⟩ := yes ⟨by omega, hl2⟩
  refine short [0, 1, 2] [.pointer (some ⟨pb, 0, none⟩), .int .i64 p, .slice A l.length c] rfl fun ρ => ?_
  ((conv => whnf); repeat (first | (apply load_at; (conv => lhs; whnf); (with_reducible assumption); rfl; (conv => whnf)) | (apply load_at; (conv => lhs; rw [add_plain, add_plain]); (with_reducible assumption); rfl; (conv => whnf)) | (apply loads_at; (conv => lhs; whnf); (with_reducible assumption); rfl; (conv => whnf)) | (refine ⟨⟨by omega, by omega⟩, ?_⟩; (conv => whnf))))
  refine draw_walk tab_ok (by kernel_rfl) [0, 1, 2, 3, 4, 5, 6, 7] (by kernel_rfl) ?_
  ((conv => whnf); repeat (first | (apply load_at; (conv => lhs; whnf); (with_reducible assumption); rfl; (conv => whnf)) | (apply load_at; (conv => lhs; rw [add_plain, add_plain]); (with_reducible assumption); rfl; (conv => whnf)) | (apply loads_at; (conv => lhs; whnf); (with_reducible assumption); rfl; (conv => whnf)) | (refine ⟨⟨by omega, by omega⟩, ?_⟩; (conv => whnf))))
  refine call_of (clone l A c F hr hl) ?_
  rintro v F6 hM
  (conv => whnf)
  refine ⟨hM.ext, ?_⟩
  ((conv => whnf); repeat (first | (apply load_at; (conv => lhs; whnf); (with_reducible assumption); rfl; (conv => whnf)) | (apply load_at; (conv => lhs; rw [add_plain, add_plain]); (with_reducible assumption); rfl; (conv => whnf)) | (apply loads_at; (conv => lhs; whnf); (with_reducible assumption); rfl; (conv => whnf)) | (refine ⟨⟨by omega, by omega⟩, ?_⟩; (conv => whnf))))
  refine op_mapUpdateW (t := 43) (kt := 3) (et := 33) (v := v) (k := p) tab_ok rfl rfl rfl rfl rfl rfl (hm.mono hM.ext) fun o' ho' hw' => ?_
  obtain ⟨M6, P6⟩ := hP.set hE hM.ext (i := p) hl2 hM.newRow ho' hw'
  generalize F6.put ms o' = F7 at M6 ⊢
  ((conv => whnf); repeat (first | (apply load_at; (conv => lhs; whnf); (with_reducible assumption); rfl; (conv => whnf)) | (apply load_at; (conv => lhs; rw [add_plain, add_plain]); (with_reducible assumption); rfl; (conv => whnf)) | (apply loads_at; (conv => lhs; whnf); (with_reducible assumption); rfl; (conv => whnf)) | (refine ⟨⟨by omega, by omega⟩, ?_⟩; (conv => whnf))))
  exact ⟨rfl, _, M6, hsr, hok, lb, b, ms, L, _, _, P6⟩
end Go.Proofs.YtmpiggcooboenaaGreatDoor.Al
/- The reference's pagers: their part of memory; Get. -/
namespace Go.Proofs.YtmpiggcooboenaaGreatDoor.Al
open Go Go.Al Go.Proofs Go.RowKit
set_option maxHeartbeats 8000000
set_option maxRecDepth 100000
set_option linter.unusedVariables false
set_option linter.unusedSimpArgs false
theorem rowS_take {xs : List PcR} (n : Nat) : (rowS pcC xs).take (n * 2) = rowS pcC (xs.take n) := by
  induction xs generalizing n with
  | nil => simp [rowS]
  | cons x xs ih =>
    cases n with
    | zero => simp [rowS]
    | succ n =>
      rw [rowS_cons, List.take_succ_cons, rowS_cons, Nat.succ_mul, List.take_append, pcC_len, Nat.add_sub_cancel, ih n, List.take_of_length_le (by rw [pcC_len]; omega)]
theorem rowS_drop {xs : List PcR} (n : Nat) : (rowS pcC xs).drop (n * 2) = rowS pcC (xs.drop n) := by
  induction xs generalizing n with
  | nil => simp [rowS]
  | cons x xs ih =>
    cases n with
    | zero => simp [rowS]
    | succ n =>
      rw [rowS_cons, List.drop_succ_cons, Nat.succ_mul, List.drop_append, pcC_len, Nat.add_sub_cancel, ih n, List.drop_of_length_le (by rw [pcC_len]; omega), List.nil_append]
theorem rowS_cut {F : Heap} {A : Option Addr} {rs : List PcR} (lo n m : Nat) (hr : RowAt F A (rowS pcC rs)) (hm : lo + n ≤ m) (hle : lo + n ≤ rs.length) : RowAt F (if m = lo then A else A.map (·.add (lo * 2))) (rowS pcC ((rs.drop lo).take n)) := by
  by_cases h0 : n = 0
  · subst h0
    rw [List.take_zero]
    exact RowAt.nil _ _
  · obtain ⟨ad, rfl⟩ := hr.some (by rw [rowS_len pcC_len]; omega)
    rw [if_neg (by omega), ← rowS_take, ← rowS_drop]
    exact (hr.drop (lo * 2)).take _
theorem pcs_one (xs : List PcR) : ∀ v ∈ rowS pcC xs, v.oneCell' = true := fun v hv => by
  obtain ⟨x, _, h⟩ := List.mem_flatMap.1 hv
  exact pc_one x v h
theorem own_setD {F : Heap} {b n c : Nat} {rs : List PcR} (h : Own F (.slice (some ⟨b, 0, none⟩) n c) 75 2 n (rowS pcC rs)) {j : Nat} {x y : PcR} (hj : rs[j]? = some x) {a : Addr} (ha : a = ⟨b, j * 2 + 1, none⟩) {v : Value} (hy : pcC y = (pcC x).set 1 v) (hv : v.oneCell' = true) {K : Value → Heap → Prop}
    (hk : ∀ F', Own F' (.slice (some ⟨b, 0, none⟩) n c) 75 2 n (rowS pcC (rs.set j y)) → Keeps F F' (some b) → K undef F') : StoreK F a [v] K := by
  have hlt : j < rs.length := (List.getElem?_eq_some_iff.1 hj).1
  obtain ⟨h1, h2⟩ := h
  rcases h2 with ⟨h2, h3⟩ | ⟨b', c', cs, h2, ⟨fz, hb, hz⟩, hsz, hnc, ht⟩
  · cases h2
  · cases h2
    rw [rowS_len pcC_len] at h1
    have hcs : cs.toList = rowS pcC rs ++ cs.toList.drop (n * 2) := by rw [← ht, List.take_append_drop]
    have hlen : cs.toList.length = c * 2 := by rw [Array.length_toList]; exact hsz
    have hcn : n * 2 ≤ c * 2 := Nat.mul_le_mul_right 2 hnc
    refine store_step b (j * 2 + 1) cs _ ha hb rfl (Nat.ble_eq_true_of_le (by rw [hsz]; show j * 2 + 1 + 1 ≤ _; omega)) (hz.imp id fun h => by show j * 2 + 1 + 1 ≤ _; omega) (fun u hu => by rw [List.mem_singleton.1 hu]; exact hv) ?_
    have hp : putL cs.toList (j * 2 + 1) [v] = rowS pcC (rs.set j y) ++ cs.toList.drop (n * 2) := by
      conv => lhs; rw [hcs]
      rw [← rowS_set pcC_len rs j 1 x y v hj (by decide) hy]
      show (rowS pcC rs ++ cs.toList.drop (n * 2)).set (j * 2 + 1) v = (rowS pcC rs).set (j * 2 + 1) v ++ _
      rw [List.set_append_left _ _ (by rw [rowS_len pcC_len]; omega)]
    rw [hp]
    refine hk _ ⟨by rw [rowS_len pcC_len, List.length_set]; omega, .inr ⟨b, c, _, rfl, ⟨fz, Heap.put_same _ _ _, hz.imp id fun h => ?_⟩, ?_, hnc, ?_⟩⟩ fun k o hk' hne => by rw [Heap.put_other _ _ (fun e => hne (by rw [e]))]; exact hk'
    · rw [List.size_toArray, List.length_append, rowS_len pcC_len, List.length_set, List.length_drop]; omega
    · rw [List.size_toArray, List.length_append, rowS_len pcC_len, List.length_set, List.length_drop]; omega
    · rw [List.toList_toArray]
      exact List.take_left' (by rw [rowS_len pcC_len, List.length_set]; omega)
abbrev xpO (lb : Nat) (T : Value) : Obj := .cells #[.pointer (some ⟨lb, 0, none⟩), T] 53
/-- The part of memory of the reference's pager. -/
structure RpP (X : Heap) (xb lb b : Nat) (T : Value) (L : Heap) (ps : List PcR) (G : Heap) (r : RS) (q : Int) (S : PgL) : Prop where
  cell : X xb = some (xpO lb T)
  log : Rg L lb b r q
  own : Own X T 75 2 ps.length (rowS pcC ps)
  baseL : Ext L X
  base : Ext G X
  lx : L xb = none
  lT : ∀ k, blk T = some k → L k = none
  gx : G xb = none
  gT : ∀ k, blk T = some k → G k = none
  xT : blk T ≠ some xb
  lg : Apart L G
  ok : ∀ p ∈ ps, PcOk G p
  map : ps.map pcW = S
def Rp (X : Heap) (xb : Nat) (r : RS) (q : Int) (S : PgL) : Prop := SrtS S ∧ OkS (r.L.length : Int) S ∧ S.length ≤ 100000 ∧ ∃ lb b T L ps G, RpP X xb lb b T L ps G r q S
theorem rp_new {E F : Heap} {lb b : Nat} {r : RS} {q : Int} (hE : Ext E F) (hL : Rg E lb b r q) {xb : Nat} (h : F xb = none) : Moves E F (E.put xb (xpO lb (.slice none 0 0))) (F.put xb (xpO lb (.slice none 0 0))) ∧ Rp (E.put xb (xpO lb (.slice none 0 0))) xb r q [] := by
  have e1 := hE.none h
  exact ⟨Moves.put hE (.inr h) _, List.Pairwise.nil, (fun x h => by cases h), Nat.zero_le _, lb, b, .slice none 0 0, E, [], emptyH, ⟨Heap.put_same _ _ _, hL, ⟨rfl, .inl ⟨rfl, rfl⟩⟩, (Ext.refl E).put e1 _, emptyH_ext _, e1, (fun k hk => by cases hk), rfl, (fun k hk => by cases hk), (by intro e; cases e), fun _ _ => rfl, (fun p hp => by cases hp), rfl⟩⟩
/-- What is done to its log. -/
theorem RpP.logs {X F L' F' : Heap} {xb lb b : Nat} {T : Value} {L : Heap} {ps : List PcR} {G : Heap} {r r' : RS} {q q' : Int} {S : PgL} (h : RpP X xb lb b T L ps G r q S) (hE : Ext X F) (hM : Moves L F L' F') (hL : Rg L' lb b r' q') :
    ∃ X', Moves X F X' F' ∧ RpP X' xb lb b T L' ps G r' q' S := by
  obtain ⟨m1, m2, m3, m4⟩ := moves_in h.baseL hE hM
  obtain ⟨k1, k2⟩ := join_keep h.baseL hE hM h.base h.lg
  have e1 := m4 _ _ h.cell h.lx
  have e2 : ∀ k, blk T = some k → L' k = none := fun k hk => by
    cases e : X k with
    | none => exact absurd e (h.own.there hk)
    | some o => exact m4 _ _ e (h.lT k hk)
  exact ⟨_, m1, by rw [m3 _ h.lx e1]; exact h.cell, hL, h.own.of_blk fun k o hk ho => by rw [m3 k (h.lT k hk) (e2 k hk)]; exact ho, m2, k1, e1, e2, h.gx, h.gT, h.xT, k2, h.ok, h.map⟩
/-- Nothing is set any more. -/
theorem RpP.clear {X F : Heap} {xb lb b : Nat} {T : Value} {L : Heap} {ps : List PcR} {G : Heap} {r : RS} {q : Int} {S : PgL} (h : RpP X xb lb b T L ps G r q S) (hE : Ext X F) :
    Moves X F (X.put xb (xpO lb (.slice none 0 0))) (F.put xb (xpO lb (.slice none 0 0))) ∧ RpP (X.put xb (xpO lb (.slice none 0 0))) xb lb b (.slice none 0 0) L [] G r q [] :=
  ⟨Moves.put hE (.inl (by rw [h.cell]; simp)) _, ⟨Heap.put_same _ _ _, h.log, ⟨rfl, .inl ⟨rfl, rfl⟩⟩, h.baseL.put h.lx _, h.base.put h.gx _, h.lx, (fun k hk => by cases hk), h.gx, (fun k hk => by cases hk), (by intro e; cases e), h.lg, (fun p hp => by cases hp), rfl⟩⟩
/-- One image's data is another one, in place. -/
theorem RpP.inPlace {X F F' F2 : Heap} {xb lb b : Nat} {T : Value} {L : Heap} {ps ps' : List PcR} {G : Heap} {r : RS} {q : Int} {S : PgL} (h : RpP X xb lb b T L ps G r q S) (hE : Ext X F) (hE2 : Ext F F') (ho : Own F2 T 75 2 ps'.length (rowS pcC ps')) (hk : Keeps F' F2 (blk T)) (hok : ∀ p ∈ ps', PcOk (gain G F F') p) :
    ∃ X', Moves X F X' F2 ∧ RpP X' xb lb b T L ps' (gain G F F') r q (ps'.map pcW) := by
  have hg := gain_ext (F' := F') hE
  have m1 := Moves.gain hE hE2
  have hT : ∀ k, blk T = some k → gain X F F' k ≠ none := fun k hk => by
    cases e : X k with
    | none => exact absurd e (h.own.there hk)
    | some o => rw [hg _ _ e]; simp
  have m2 := Moves.gain1 m1.inn hk hT
  have hold : ∀ c, X c ≠ none → gain G F F' c = G c := fun c hc => by
    cases e : X c with
    | none => exact absurd e hc
    | some o => exact gain_old (hE _ _ e)
  have hkp : ∀ c o, gain X F F' c = some o → blk T ≠ some c → (if blk T = some c then F2 c else gain (gain X F F') F' F2 c) = some o := fun c o hc hne => by
    rw [if_neg hne, gain_old (m1.inn _ _ hc)]; exact hc
  have hTX : ∀ k, blk T = some k → X k ≠ none := fun k hk => h.own.there hk
  have hGD : Ext (gain G F F') (gain X F F') := fun c o hc => by
    cases e : F c with
    | none => rw [gain_new e] at hc ⊢; exact hc
    | some u => rw [gain_old e] at hc ⊢; exact h.base _ _ hc
  refine ⟨_, m1.trans m2, ⟨hkp _ _ (hg _ _ h.cell) h.xT, h.log, ho.of_blk fun k o hk' ho' => by rw [if_pos hk']; exact ho', fun c o hc => hkp c o ((h.baseL.trans hg) c o hc) (fun e => by rw [h.lT c e] at hc; cases hc), fun c o hc => hkp c o (hGD c o hc) (fun e => by rw [hold c (hTX c e), h.gT c e] at hc; cases hc), h.lx, h.lT, by rw [hold _ (by rw [h.cell]; simp)]; exact h.gx, fun k hk' => by rw [hold _ (hTX k hk')]; exact h.gT k hk', h.xT, fun c hc => ?_, hok, rfl⟩⟩
  have hd : X c ≠ none := fun e => hc (h.baseL.none e)
  rw [hold _ hd]
  exact h.lg c hc
/-- What is known but for a row's block. -/
def restT (T : Value) (F : Heap) : Heap := fun c => if blk T = some c then none else F c
theorem restT_row {T : Value} {F : Heap} {A : Option Addr} {vs : List Value} (hr : RowAt F A vs) (h : ∀ a, A = some a → blk T ≠ some a.block) : RowAt (restT T F) A vs := fun j v hj => by
  obtain ⟨a, e, hc⟩ := hr j v hj
  refine ⟨a, e, ?_⟩
  unfold Heap.cell? at hc ⊢
  unfold restT
  rw [if_neg (by rw [add_block]; exact h a e)]
  exact hc
/-- Another list of images. -/
theorem RpP.other {X F F2 : Heap} {xb lb b : Nat} {T T' : Value} {L : Heap} {ps ps' : List PcR} {G : Heap} {r : RS} {q : Int} {S : PgL} (h : RpP X xb lb b T L ps G r q S) (hE : Ext X F) (hE2 : Ext F F2) (ho : Own F2 T' 75 2 ps'.length (rowS pcC ps')) (hf : ∀ k, blk T' = some k → F k = none) (hok : ∀ p ∈ ps', PcOk (gain G F (restT T' F2)) p) :
    Moves X F ((gain X F F2).put xb (xpO lb T')) (F2.put xb (xpO lb T')) ∧ RpP ((gain X F F2).put xb (xpO lb T')) xb lb b T' L ps' (gain G F (restT T' F2)) r q (ps'.map pcW) := by
  have hg := gain_ext (F' := F2) hE
  have m1 := Moves.gain hE hE2
  have hxb : X xb ≠ none := by rw [h.cell]; simp
  have hold : ∀ c H, X c ≠ none → gain G F H c = G c := fun c H hc => by
    cases e : X c with
    | none => exact absurd e hc
    | some o => exact gain_old (hE _ _ e)
  have hxT : blk T' ≠ some xb := fun e => hxb (hE.none (hf _ e))
  refine ⟨m1.trans (Moves.put m1.inn (.inl fun e => hxb (hg.none e)) _), ⟨Heap.put_same _ _ _, h.log, ?_, (h.baseL.trans hg).put h.lx _, Ext.put (fun c o hc => ?_) (by rw [hold _ _ hxb]; exact h.gx) _, h.lx, fun k hk => hE.none (hf k hk) |> fun e => h.baseL.none e, by rw [hold _ _ hxb]; exact h.gx, fun k hk => ?_, hxT, fun c hc => ?_, hok, rfl⟩⟩
  · refine Own.put (ho.of_blk fun k o hk ho' => ?_) hxT
    rw [gain_new (hf k hk)]; exact ho'
  · cases e : F c with
    | none =>
      rw [gain_new e] at hc ⊢
      unfold restT at hc
      split at hc
      · cases hc
      · exact hc
    | some u => rw [gain_old e] at hc ⊢; exact h.base _ _ hc
  · rw [gain_new (hf k hk)]
    unfold restT
    rw [if_pos hk]
  · have hd : X c ≠ none := fun e => hc (h.baseL.none e)
    rw [hold _ _ hd]
    exact h.lg c hc
end Go.Proofs.YtmpiggcooboenaaGreatDoor.Al
