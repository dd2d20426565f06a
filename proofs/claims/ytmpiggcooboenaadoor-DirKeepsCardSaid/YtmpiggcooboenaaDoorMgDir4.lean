/- Texts of this claim, joined: RedI RedJ RedK RedL RedP RedQ RedR RedS RedT RfA RfB RfC RfD RfE RfF RfG RlA RedU RedV RedW RlB RlC RedX RlD AlIter PagA PagB PagC PagD RedY DirE DirA PagU RedZ. -/
import Derived.Test.YtmpiggcooboenaaDoorMgDir1
import Derived.Test.YtmpiggcooboenaaDoorMgDir2
import Derived.Test.YtmpiggcooboenaaDoorMgDir3
/- Logs: redo.Open; what a log tells of itself; Load. -/
namespace Go.Proofs.YtmpiggcooboenaaDoor.Al
open Go Go.Al Go.Proofs Go.RowKit
set_option maxHeartbeats 8000000
set_option maxRecDepth 100000
set_option linter.unusedVariables false
set_option linter.unusedSimpArgs false
theorem un_range (b : List UInt8) : 0 ≤ unP b ∧ 0 ≤ unQ b ∧ unQ b ≤ 4611686018427387904 := by
  unfold unP unQ
  by_cases h : okU b = true
  · rw [if_pos h, if_pos h]
    unfold okU secR inM at h
    rw [show Nat.beq 4 8 = false by decide, cond_false] at h
    simp only [Bool.and_eq_true, decide_eq_true_eq] at h
    exact ⟨h.2.2.1.1, h.2.2.2.1, h.2.2.2.2⟩
  · rw [if_neg h, if_neg h]
    exact ⟨by decide, by decide, by decide⟩
theorem rdN_range {α : Type} (o : DOps α) (a : α) : 0 ≤ (rdN o a).1 ∧ 0 ≤ (rdN o a).2.1 ∧ (rdN o a).2.1 ≤ 4611686018427387904 := by
  unfold rdN
  split
  · exact un_range _
  · exact ⟨Int.le_refl 0, Int.le_refl 0, show (0 : Int) ≤ 4611686018427387904 by decide⟩
/-- What opening a log makes of a disk: the disk, what is wrong, the log's number. -/
def openS {α : Type} (o : DOps α) (a : α) : α × Int × Option Int :=
  if (rdN o a).2.2 ≠ 0 then (a, (rdN o a).2.2, none) else
  match wholeO o a (rdN o a).1 (rdN o a).2.1 with
  | some ws => if (runW o a ws).2 ≠ 0 then ((runW o a ws).1, (runW o a ws).2, none) else ((runW o a ws).1, 0, some (rdN o a).2.1)
  | none => (a, 0, some (rdN o a).2.1)
abbrev lgO (b : Nat) (q : Int) : Obj := .cells #[.pointer (some ⟨b, 0, none⟩), .int .i64 q] 48
/-- What a call that opens a log hands back. -/
def LgV (D F D' F' : Heap) (b : Nat) (w : Value) : Option Int → Prop
  | none => w = .pointer none
  | some q => ∃ lb, w = .pointer (some ⟨lb, 0, none⟩) ∧ (D lb = none → F lb = none) ∧ D' lb = none ∧ F' lb = some (lgO b q)
theorem redoOpen {D F : Heap} {b : Nat} {s : DS} (hE : Ext D F) (hD : Dk D b s) (hN : NibAt F) (hw : s.writes + 40000 < 1000000000) :
    FnK Tryd.prog 18 #[.pointer (some ⟨b, 0, none⟩)] F (fun v F' => ∃ w D', v = .tuple #[w, .int .i64 (openS dsO s).2.1] ∧ Moves D F D' F' ∧ Dk D' b (openS dsO s).1 ∧ LgV D F D' F' b w (openS dsO s).2.2) := by
  have k1 := fun F hE hN => redoRead (F := F) hE hD hN
  have hrg := rdN_range dsO s
  have hO : openS dsO s = if (rdN dsO s).2.2 ≠ 0 then (s, (rdN dsO s).2.2, none) else
    match wholeO dsO s (rdN dsO s).1 (rdN dsO s).2.1 with
    | some ws => if (runW dsO s ws).2 ≠ 0 then ((runW dsO s ws).1, (runW dsO s ws).2, none) else ((runW dsO s ws).1, 0, some (rdN dsO s).2.1)
    | none => (s, 0, some (rdN dsO s).2.1) := rfl
  generalize openS dsO s = os at hO
  generalize rdN dsO s = rn at k1 hrg hO
  obtain ⟨n, q, e⟩ := rn
  dsimp only at k1 hrg hO
  have k2 := fun F hE hN => redoWhole (F := F) hE hD hN n q hrg.1
  have hwl := fun ws h => wholeO_len (o := dsO) (a := s) (n := n) (q := q) (ws := ws) h
  have hle := pagesN_le s.size
  replace hwl : ∀ ws, wholeO dsO s n q = some ws → ws.length = n.toNat ∧ n ≤ pagesN s.size := hwl
  generalize wholeO dsO s n q = wo at k2 hO hwl
  (refine fn_walk tab_ok Tryd.func18 rfl rfl rfl rfl ?_; (conv => whnf))
  refine call_of (k1 F hE hN) ?_
  rintro v F1 ⟨rfl, hE1⟩
  ((conv => whnf); repeat (first | (apply load_at; (conv => lhs; whnf); (with_reducible assumption); rfl; (conv => whnf)) | (apply load_at; (conv => lhs; rw [add_plain, add_plain]); (with_reducible assumption); rfl; (conv => whnf)) | (apply loads_at; (conv => lhs; whnf); (with_reducible assumption); rfl; (conv => whnf)) | (refine ⟨⟨by omega, by omega⟩, ?_⟩; (conv => whnf))))
  refine new_step (.cells #[.int .i64 0, .int .i64 0] 108) rfl fun t h0_t => ?_
  have hE_t := Ext.new h0_t (.cells #[.int .i64 0, .int .i64 0] 108)
  have hB_t := Heap.put_same F1 t (.cells #[.int .i64 0, .int .i64 0] 108)
  generalize F1.put t _ = F2 at hE_t hB_t ⊢
  ((conv => whnf); repeat (first | (apply load_at; (conv => lhs; whnf); (with_reducible assumption); rfl; (conv => whnf)) | (apply load_at; (conv => lhs; rw [add_plain, add_plain]); (with_reducible assumption); rfl; (conv => whnf)) | (apply loads_at; (conv => lhs; whnf); (with_reducible assumption); rfl; (conv => whnf)) | (refine ⟨⟨by omega, by omega⟩, ?_⟩; (conv => whnf))))
  refine store_step t 0 _ #[.int .i64 n, .int .i64 q] rfl hB_t rfl rfl (.inl (Nat.le_refl 0)) (two_ints _ _) ?_
  have hB3 := Heap.put_same F2 t (.cells #[.int .i64 n, .int .i64 q] 108)
  have hE3 : Ext F1 (F2.put t (.cells #[.int .i64 n, .int .i64 q] 108)) := hE_t.put h0_t _
  generalize F2.put t _ = F3 at hB3 hE3 ⊢
  have hE03 := hE1.trans hE3
  refine short [0, 4, 13] [.pointer (some ⟨b, 0, none⟩), .pointer (some ⟨t, 0, none⟩), .int .i64 e] rfl fun ρ => ?_
  ((conv => whnf); repeat (first | (apply load_at; (conv => lhs; whnf); (with_reducible assumption); rfl; (conv => whnf)) | (apply load_at; (conv => lhs; rw [add_plain, add_plain]); (with_reducible assumption); rfl; (conv => whnf)) | (apply loads_at; (conv => lhs; whnf); (with_reducible assumption); rfl; (conv => whnf)) | (refine ⟨⟨by omega, by omega⟩, ?_⟩; (conv => whnf))))
  refine cond_split (fun h => ?_) (fun h => ?_)
  · have he : e ≠ 0 := by
      have h : (e != 0) = true := h
      simpa using h
    rw [if_pos he] at hO
    subst hO
    ((conv => whnf); repeat (first | (apply load_at; (conv => lhs; whnf); (with_reducible assumption); rfl; (conv => whnf)) | (apply load_at; (conv => lhs; rw [add_plain, add_plain]); (with_reducible assumption); rfl; (conv => whnf)) | (apply loads_at; (conv => lhs; whnf); (with_reducible assumption); rfl; (conv => whnf)) | (refine ⟨⟨by omega, by omega⟩, ?_⟩; (conv => whnf))))
    exact ⟨_, D, rfl, Moves.ext hE hE03, hD, rfl⟩
  have he : ¬ e ≠ 0 := by
    have h : (e != 0) = false := h
    simpa using h
  rw [if_neg he] at hO
  clear h
  ((conv => whnf); repeat (first | (apply load_at; (conv => lhs; whnf); (with_reducible assumption); rfl; (conv => whnf)) | (apply load_at; (conv => lhs; rw [add_plain, add_plain]); (with_reducible assumption); rfl; (conv => whnf)) | (apply loads_at; (conv => lhs; whnf); (with_reducible assumption); rfl; (conv => whnf)) | (refine ⟨⟨by omega, by omega⟩, ?_⟩; (conv => whnf))))
  refine call_of (k2 F3 (hE.trans hE03) (hN.mono hE03)) ?_
  rintro v F4 ⟨⟨ps, A, c, rfl, hr, hf, hps, hwo⟩, hE4⟩
  have hE04 := hE03.trans hE4
  have hB4 := hE4 _ _ hB3
  refine short [0, 4, 20] [.pointer (some ⟨b, 0, none⟩), .pointer (some ⟨t, 0, none⟩), .tuple #[.slice A ps.length c, .bool wo.isSome]] rfl fun ρ => ?_
  cases hws : wo with
  | none =>
    rw [hws] at hO
    subst hO
    ((conv => whnf); repeat (first | (apply load_at; (conv => lhs; whnf); (with_reducible assumption); rfl; (conv => whnf)) | (apply load_at; (conv => lhs; rw [add_plain, add_plain]); (with_reducible assumption); rfl; (conv => whnf)) | (apply loads_at; (conv => lhs; whnf); (with_reducible assumption); rfl; (conv => whnf)) | (refine ⟨⟨by omega, by omega⟩, ?_⟩; (conv => whnf))))
    refine new_step (lgO b q) rfl fun lb h0_lb => ?_
    have hE_lb := Ext.new h0_lb (lgO b q)
    have hB_lb := Heap.put_same F4 lb (lgO b q)
    generalize F4.put lb _ = F5 at hE_lb hB_lb ⊢
    ((conv => whnf); repeat (first | (apply load_at; (conv => lhs; whnf); (with_reducible assumption); rfl; (conv => whnf)) | (apply load_at; (conv => lhs; rw [add_plain, add_plain]); (with_reducible assumption); rfl; (conv => whnf)) | (apply loads_at; (conv => lhs; whnf); (with_reducible assumption); rfl; (conv => whnf)) | (refine ⟨⟨by omega, by omega⟩, ?_⟩; (conv => whnf))))
    exact ⟨_, D, rfl, Moves.ext hE (hE04.trans hE_lb), hD, lb, rfl, fun _ => hE04.none h0_lb, (hE.trans hE04).none h0_lb, hB_lb⟩
  | some ws =>
    have hws2 : ws = ps.map pcW := by
      have := hwo (by rw [hws]; rfl)
      rw [hws] at this
      exact Option.some.inj this
    obtain ⟨hl1, hl2⟩ := hwl ws hws
    rw [hws2, List.length_map] at hl1
    rw [hws, hws2] at hO
    dsimp only at hO
    have k3 := redoWrite (hE.trans hE04) hD (newH_ext F F4) (newH_apart F4 hE) ps A c (newH_row hr fun a ha => hE03.none (hf a ha)) (fun p hp => ⟨newH_row (hps p hp).1.row fun a ha => hE03.none ((hps p hp).2 a ha), (hps p hp).1.len⟩) (by omega) (by omega)
    generalize runW dsO s (ps.map pcW) = rw_ at k3 hO
    ((conv => whnf); repeat (first | (apply load_at; (conv => lhs; whnf); (with_reducible assumption); rfl; (conv => whnf)) | (apply load_at; (conv => lhs; rw [add_plain, add_plain]); (with_reducible assumption); rfl; (conv => whnf)) | (apply loads_at; (conv => lhs; whnf); (with_reducible assumption); rfl; (conv => whnf)) | (refine ⟨⟨by omega, by omega⟩, ?_⟩; (conv => whnf))))
    refine call_of k3 ?_
    rintro v F5 ⟨rfl, D5, hM5, hD5⟩
    have hM := (Moves.ext hE hE04).trans hM5
    have hB5 := hM5.out _ _ hB4 (hE.none (hE1.none h0_t))
    have hMo := fun lb (h : F5 lb = none) (hd : D lb = none) => (show F lb = none from by
      cases e : F lb with
      | none => rfl
      | some o => rw [hM.out _ _ e hd] at h; cases h)
    obtain ⟨r1, r2⟩ := rw_
    dsimp only at hO hD5
    refine short [0, 4, 26] [.pointer (some ⟨b, 0, none⟩), .pointer (some ⟨t, 0, none⟩), .int .i64 r2] rfl fun ρ => ?_
    ((conv => whnf); repeat (first | (apply load_at; (conv => lhs; whnf); (with_reducible assumption); rfl; (conv => whnf)) | (apply load_at; (conv => lhs; rw [add_plain, add_plain]); (with_reducible assumption); rfl; (conv => whnf)) | (apply loads_at; (conv => lhs; whnf); (with_reducible assumption); rfl; (conv => whnf)) | (refine ⟨⟨by omega, by omega⟩, ?_⟩; (conv => whnf))))
    refine cond_split (fun h => ?_) (fun h => ?_)
    · have hr2 : r2 ≠ 0 := by
        have h : (r2 != 0) = true := h
        simpa using h
      rw [if_pos hr2] at hO
      subst hO
      ((conv => whnf); repeat (first | (apply load_at; (conv => lhs; whnf); (with_reducible assumption); rfl; (conv => whnf)) | (apply load_at; (conv => lhs; rw [add_plain, add_plain]); (with_reducible assumption); rfl; (conv => whnf)) | (apply loads_at; (conv => lhs; whnf); (with_reducible assumption); rfl; (conv => whnf)) | (refine ⟨⟨by omega, by omega⟩, ?_⟩; (conv => whnf))))
      exact ⟨_, D5, rfl, hM, hD5, rfl⟩
    · have hr2 : ¬ r2 ≠ 0 := by
        have h : (r2 != 0) = false := h
        simpa using h
      rw [if_neg hr2] at hO
      subst hO
      ((conv => whnf); repeat (first | (apply load_at; (conv => lhs; whnf); (with_reducible assumption); rfl; (conv => whnf)) | (apply load_at; (conv => lhs; rw [add_plain, add_plain]); (with_reducible assumption); rfl; (conv => whnf)) | (apply loads_at; (conv => lhs; whnf); (with_reducible assumption); rfl; (conv => whnf)) | (refine ⟨⟨by omega, by omega⟩, ?_⟩; (conv => whnf))))
      refine new_step (lgO b q) rfl fun lb h0_lb => ?_
      have hE_lb := Ext.new h0_lb (lgO b q)
      have hB_lb := Heap.put_same F5 lb (lgO b q)
      generalize F5.put lb _ = F6 at hE_lb hB_lb ⊢
      ((conv => whnf); repeat (first | (apply load_at; (conv => lhs; whnf); (with_reducible assumption); rfl; (conv => whnf)) | (apply load_at; (conv => lhs; rw [add_plain, add_plain]); (with_reducible assumption); rfl; (conv => whnf)) | (apply loads_at; (conv => lhs; whnf); (with_reducible assumption); rfl; (conv => whnf)) | (refine ⟨⟨by omega, by omega⟩, ?_⟩; (conv => whnf))))
      exact ⟨_, D5, rfl, hM.trans (Moves.ext hM.inn hE_lb), hD5, lb, rfl, hMo lb h0_lb, hM.inn.none h0_lb, hB_lb⟩
/-- A log that no call made. -/
def LgNo (F : Heap) (v : Value) : Prop := v = .pointer none ∨ ∃ lb q, v = .pointer (some ⟨lb, 0, none⟩) ∧ F lb = some (.cells #[.pointer none, .int .i64 q] 48)
theorem lgReady {F : Heap} {lb b : Nat} {q : Int} (h : F lb = some (lgO b q)) : FnK Tryd.prog 58 #[.pointer (some ⟨lb, 0, none⟩)] F (fun v F' => v = .bool true ∧ F' = F) := by
  (refine fn_walk tab_ok Tryd.func58 rfl rfl rfl rfl ?_; (conv => whnf))
  ((conv => whnf); repeat (first | (apply load_at; (conv => lhs; whnf); (with_reducible assumption); rfl; (conv => whnf)) | (apply load_at; (conv => lhs; rw [add_plain, add_plain]); (with_reducible assumption); rfl; (conv => whnf)) | (apply loads_at; (conv => lhs; whnf); (with_reducible assumption); rfl; (conv => whnf)) | (refine ⟨⟨by omega, by omega⟩, ?_⟩; (conv => whnf))))
  exact ⟨rfl, rfl⟩
theorem lgPages {D F : Heap} {b lb : Nat} {s : DS} {q : Int} (hE : Ext D F) (hD : Dk D b s) (h : F lb = some (lgO b q)) : FnK Tryd.prog 20 #[.pointer (some ⟨lb, 0, none⟩)] F (fun v F' => v = .int .i64 (pagesN s.size) ∧ F' = F) := by
  have h1 := lgReady h
  have h2 := dk_size hE hD
  have h3 := pages s.size F
  (refine fn_walk tab_ok Tryd.func20 rfl rfl rfl rfl ?_; (conv => whnf))
  refine call_of h1 ?_
  rintro v F ⟨rfl, rfl⟩
  ((conv => whnf); repeat (first | (apply load_at; (conv => lhs; whnf); (with_reducible assumption); rfl; (conv => whnf)) | (apply load_at; (conv => lhs; rw [add_plain, add_plain]); (with_reducible assumption); rfl; (conv => whnf)) | (apply loads_at; (conv => lhs; whnf); (with_reducible assumption); rfl; (conv => whnf)) | (refine ⟨⟨by omega, by omega⟩, ?_⟩; (conv => whnf))))
  refine call_of h2 ?_
  rintro v F ⟨rfl, rfl⟩
  ((conv => whnf); repeat (first | (apply load_at; (conv => lhs; whnf); (with_reducible assumption); rfl; (conv => whnf)) | (apply load_at; (conv => lhs; rw [add_plain, add_plain]); (with_reducible assumption); rfl; (conv => whnf)) | (apply loads_at; (conv => lhs; whnf); (with_reducible assumption); rfl; (conv => whnf)) | (refine ⟨⟨by omega, by omega⟩, ?_⟩; (conv => whnf))))
  refine call_of h3 ?_
  rintro v F ⟨rfl, rfl⟩
  ((conv => whnf); repeat (first | (apply load_at; (conv => lhs; whnf); (with_reducible assumption); rfl; (conv => whnf)) | (apply load_at; (conv => lhs; rw [add_plain, add_plain]); (with_reducible assumption); rfl; (conv => whnf)) | (apply loads_at; (conv => lhs; whnf); (with_reducible assumption); rfl; (conv => whnf)) | (refine ⟨⟨by omega, by omega⟩, ?_⟩; (conv => whnf))))
  exact ⟨rfl, rfl⟩
end Go.Proofs.YtmpiggcooboenaaDoor.Al
/- Logs: Load; what images may be committed. -/
namespace Go.Proofs.YtmpiggcooboenaaDoor.Al
open Go Go.Al Go.Proofs Go.RowKit
set_option maxHeartbeats 8000000
set_option maxRecDepth 100000
set_option linter.unusedVariables false
set_option linter.unusedSimpArgs false
def zeros240 : List UInt8 := List.replicate 240 0
def loadE {α : Type} (o : DOps α) (a : α) (p : Int) : Int := if isPg (o.sz a) p = true then o.rdE a (homeI (o.sz a) p) else 1
def loadL {α : Type} (o : DOps α) (a : α) (p : Int) : List UInt8 :=
  if isPg (o.sz a) p = true then (if o.rdE a (homeI (o.sz a) p) ≠ 0 then [] else if unE (o.rdL a (homeI (o.sz a) p)) ≠ 0 ∨ unP (o.rdL a (homeI (o.sz a) p)) ≠ p then zeros240 else unD (o.rdL a (homeI (o.sz a) p))) else []
theorem lgLoad {D F : Heap} {b lb : Nat} {s : DS} {q : Int} (hE : Ext D F) (hD : Dk D b s) (h : F lb = some (lgO b q)) (hN : NibAt F) (p : Int) :
    FnK Tryd.prog 17 #[.pointer (some ⟨lb, 0, none⟩), .int .i64 p] F (fun v F' => ∃ u, v = .tuple #[u, .int .i64 (loadE dsO s p)] ∧ NewRow F F' u (loadL dsO s p) ∧ Ext F F') := by
  have k0 := lgReady h
  have k1 := fun F hE => dk_size (F := F) hE hD
  have k2 := fun F => home s.size p F
  have k3 := fun F hE => read (F := F) hE hD (homeI s.size p)
  have hl := read_len hD (homeI s.size p)
  have k4 := fun A c F hr hc hN => unpack (readL s (homeI s.size p)) A c F hr (by omega) hc hN
  have hLE : loadE dsO s p = if isPg s.size p = true then readE s (homeI s.size p) else 1 := rfl
  have hLL : loadL dsO s p = if isPg s.size p = true then (if readE s (homeI s.size p) ≠ 0 then [] else if unE (readL s (homeI s.size p)) ≠ 0 ∨ unP (readL s (homeI s.size p)) ≠ p then zeros240 else unD (readL s (homeI s.size p))) else [] := rfl
  generalize loadE dsO s p = le at hLE
  generalize loadL dsO s p = ll at hLL
  generalize homeI s.size p = hm at k2 k3 hl k4 hLE hLL
  generalize unP (readL s hm) = up at k4 hLL
  generalize unQ (readL s hm) = uq at k4
  generalize unE (readL s hm) = ue at k4 hLL
  generalize unD (readL s hm) = ud at k4 hLL
  generalize readL s hm = l at k3 k4 hl
  generalize readE s hm = re at k3 hLE hLL
  generalize isPg s.size p = z at k2 hLE hLL
  (refine fn_walk tab_ok Tryd.func17 rfl rfl rfl rfl ?_; (conv => whnf))
  refine call_of k0 ?_
  rintro v F ⟨rfl, rfl⟩
  ((conv => whnf); repeat (first | (apply load_at; (conv => lhs; whnf); (with_reducible assumption); rfl; (conv => whnf)) | (apply load_at; (conv => lhs; rw [add_plain, add_plain]); (with_reducible assumption); rfl; (conv => whnf)) | (apply loads_at; (conv => lhs; whnf); (with_reducible assumption); rfl; (conv => whnf)) | (refine ⟨⟨by omega, by omega⟩, ?_⟩; (conv => whnf))))
  refine call_of (k1 F hE) ?_
  rintro v F ⟨rfl, rfl⟩
  ((conv => whnf); repeat (first | (apply load_at; (conv => lhs; whnf); (with_reducible assumption); rfl; (conv => whnf)) | (apply load_at; (conv => lhs; rw [add_plain, add_plain]); (with_reducible assumption); rfl; (conv => whnf)) | (apply loads_at; (conv => lhs; whnf); (with_reducible assumption); rfl; (conv => whnf)) | (refine ⟨⟨by omega, by omega⟩, ?_⟩; (conv => whnf))))
  refine call_of (k2 F) ?_
  rintro v F1 ⟨rfl, hE1⟩
  have h1 := hE1 _ _ h
  refine short [0, 1, 23] [.pointer (some ⟨lb, 0, none⟩), .int .i64 p, .tuple #[.int .i64 hm, .bool z]] rfl fun ρ => ?_
  cases z with
  | false =>
    rw [if_neg (by decide)] at hLE hLL
    subst hLE hLL
    ((conv => whnf); repeat (first | (apply load_at; (conv => lhs; whnf); (with_reducible assumption); rfl; (conv => whnf)) | (apply load_at; (conv => lhs; rw [add_plain, add_plain]); (with_reducible assumption); rfl; (conv => whnf)) | (apply loads_at; (conv => lhs; whnf); (with_reducible assumption); rfl; (conv => whnf)) | (refine ⟨⟨by omega, by omega⟩, ?_⟩; (conv => whnf))))
    exact ⟨_, rfl, newRow_nil' _ _, hE1⟩
  | true =>
  rw [if_pos rfl] at hLE hLL
  ((conv => whnf); repeat (first | (apply load_at; (conv => lhs; whnf); (with_reducible assumption); rfl; (conv => whnf)) | (apply load_at; (conv => lhs; rw [add_plain, add_plain]); (with_reducible assumption); rfl; (conv => whnf)) | (apply loads_at; (conv => lhs; whnf); (with_reducible assumption); rfl; (conv => whnf)) | (refine ⟨⟨by omega, by omega⟩, ?_⟩; (conv => whnf))))
  refine call_of (k3 F1 (hE.trans hE1)) ?_
  rintro v F2 ⟨w, rfl, ⟨A, c, rfl, hc, hr, hf⟩, hE2⟩
  have hE02 := hE1.trans hE2
  refine short [0, 1, 34] [.pointer (some ⟨lb, 0, none⟩), .int .i64 p, .tuple #[.slice A l.length c, .int .i64 re]] rfl fun ρ => ?_
  ((conv => whnf); repeat (first | (apply load_at; (conv => lhs; whnf); (with_reducible assumption); rfl; (conv => whnf)) | (apply load_at; (conv => lhs; rw [add_plain, add_plain]); (with_reducible assumption); rfl; (conv => whnf)) | (apply loads_at; (conv => lhs; whnf); (with_reducible assumption); rfl; (conv => whnf)) | (refine ⟨⟨by omega, by omega⟩, ?_⟩; (conv => whnf))))
  refine cond_split (fun h => ?_) (fun h => ?_)
  · have he : re ≠ 0 := by
      have h : (re != 0) = true := h
      simpa using h
    rw [if_pos he] at hLL
    subst hLE hLL
    ((conv => whnf); repeat (first | (apply load_at; (conv => lhs; whnf); (with_reducible assumption); rfl; (conv => whnf)) | (apply load_at; (conv => lhs; rw [add_plain, add_plain]); (with_reducible assumption); rfl; (conv => whnf)) | (apply loads_at; (conv => lhs; whnf); (with_reducible assumption); rfl; (conv => whnf)) | (refine ⟨⟨by omega, by omega⟩, ?_⟩; (conv => whnf))))
    exact ⟨_, rfl, newRow_nil' _ _, hE02⟩
  have he : ¬ re ≠ 0 := by
    have h : (re != 0) = false := h
    simpa using h
  rw [if_neg he] at hLL
  have he0 : le = 0 := by omega
  clear h
  ((conv => whnf); repeat (first | (apply load_at; (conv => lhs; whnf); (with_reducible assumption); rfl; (conv => whnf)) | (apply load_at; (conv => lhs; rw [add_plain, add_plain]); (with_reducible assumption); rfl; (conv => whnf)) | (apply loads_at; (conv => lhs; whnf); (with_reducible assumption); rfl; (conv => whnf)) | (refine ⟨⟨by omega, by omega⟩, ?_⟩; (conv => whnf))))
  refine call_of (k4 A c F2 hr hc (hN.mono hE02)) ?_
  rintro v F3 ⟨w, rfl, hw, hE3⟩
  have hE03 := hE02.trans hE3
  subst he0
  clear hLE he
  refine short [0, 1, 42] [.pointer (some ⟨lb, 0, none⟩), .int .i64 p, .tuple #[.int .i64 up, .int .i64 uq, w, .int .i64 ue]] rfl fun ρ => ?_
  have zz : (ue ≠ 0 ∨ up ≠ p) → ∀ (G : Heap) (g : Nat), F3 g = none → G = F3.put g (.cells (List.replicate 240 (Value.int .u8 0)).toArray 5) → NewRow F G (.slice (some ⟨g, 0, none⟩) 240 240) ll ∧ Ext F G := by
    intro hh G g hg e
    rw [if_pos hh] at hLL
    subst hLL e
    refine ⟨⟨some ⟨g, 0, none⟩, 240, rfl, Nat.le_refl _, ?_, fun a ha => ?_⟩, hE03.trans (Ext.new hg _)⟩
    · have := row_blk (Heap.put_same F3 g (.cells (List.replicate 240 (Value.int .u8 0)).toArray 5))
      rw [List.toList_toArray, zeros_bytes] at this
      exact this
    · injection ha with ha
      subst ha
      exact hE03.none hg
  ((conv => whnf); repeat (first | (apply load_at; (conv => lhs; whnf); (with_reducible assumption); rfl; (conv => whnf)) | (apply load_at; (conv => lhs; rw [add_plain, add_plain]); (with_reducible assumption); rfl; (conv => whnf)) | (apply loads_at; (conv => lhs; whnf); (with_reducible assumption); rfl; (conv => whnf)) | (refine ⟨⟨by omega, by omega⟩, ?_⟩; (conv => whnf))))
  refine cond_split (fun h => ?_) (fun h => ?_)
  · have hu : (ue == 0) = true := by
      have h : (!(ue != 0)) = true := h
      simpa using h
    have hu0 : ue = 0 := by simpa using hu
    clear h
    ((conv => whnf); repeat (first | (apply load_at; (conv => lhs; whnf); (with_reducible assumption); rfl; (conv => whnf)) | (apply load_at; (conv => lhs; rw [add_plain, add_plain]); (with_reducible assumption); rfl; (conv => whnf)) | (apply loads_at; (conv => lhs; whnf); (with_reducible assumption); rfl; (conv => whnf)) | (refine ⟨⟨by omega, by omega⟩, ?_⟩; (conv => whnf))))
    refine cond_split (fun h => ?_) (fun h => ?_)
    · have hp : up ≠ p := by
        have h : (up != p) = true := h
        simpa using h
      ((conv => whnf); repeat (first | (apply load_at; (conv => lhs; whnf); (with_reducible assumption); rfl; (conv => whnf)) | (apply load_at; (conv => lhs; rw [add_plain, add_plain]); (with_reducible assumption); rfl; (conv => whnf)) | (apply loads_at; (conv => lhs; whnf); (with_reducible assumption); rfl; (conv => whnf)) | (refine ⟨⟨by omega, by omega⟩, ?_⟩; (conv => whnf))))
      refine make_one tab_ok (z0 := .int .u8 0) 240 240 rfl rfl rfl rfl rfl ⟨rfl, by decide, _, rfl, rfl⟩ (by decide) (by decide) fun g h0_g => ?_
      obtain ⟨zr, zE⟩ := zz (.inr hp) _ g h0_g rfl
      generalize F3.put g _ = F4 at zr zE ⊢
      ((conv => whnf); repeat (first | (apply load_at; (conv => lhs; whnf); (with_reducible assumption); rfl; (conv => whnf)) | (apply load_at; (conv => lhs; rw [add_plain, add_plain]); (with_reducible assumption); rfl; (conv => whnf)) | (apply loads_at; (conv => lhs; whnf); (with_reducible assumption); rfl; (conv => whnf)) | (refine ⟨⟨by omega, by omega⟩, ?_⟩; (conv => whnf))))
      exact ⟨_, rfl, zr, zE⟩
    · have hp : ¬ up ≠ p := by
        have h : (up != p) = false := h
        simpa using h
      rw [if_neg (by rintro (e | e); exact e hu0; exact hp e)] at hLL
      subst hLL
      ((conv => whnf); repeat (first | (apply load_at; (conv => lhs; whnf); (with_reducible assumption); rfl; (conv => whnf)) | (apply load_at; (conv => lhs; rw [add_plain, add_plain]); (with_reducible assumption); rfl; (conv => whnf)) | (apply loads_at; (conv => lhs; whnf); (with_reducible assumption); rfl; (conv => whnf)) | (refine ⟨⟨by omega, by omega⟩, ?_⟩; (conv => whnf))))
      obtain ⟨A', c', rfl, g1, g2, g3⟩ := hw
      exact ⟨_, rfl, ⟨A', c', rfl, g1, g2, fun a ha => hE02.none (g3 a ha)⟩, hE03⟩
  · have hu : ue ≠ 0 := by
      have h : (!(ue != 0)) = false := h
      simpa using h
    ((conv => whnf); repeat (first | (apply load_at; (conv => lhs; whnf); (with_reducible assumption); rfl; (conv => whnf)) | (apply load_at; (conv => lhs; rw [add_plain, add_plain]); (with_reducible assumption); rfl; (conv => whnf)) | (apply loads_at; (conv => lhs; whnf); (with_reducible assumption); rfl; (conv => whnf)) | (refine ⟨⟨by omega, by omega⟩, ?_⟩; (conv => whnf))))
    refine make_one tab_ok (z0 := .int .u8 0) 240 240 rfl rfl rfl rfl rfl ⟨rfl, by decide, _, rfl, rfl⟩ (by decide) (by decide) fun g h0_g => ?_
    obtain ⟨zr, zE⟩ := zz (.inl hu) _ g h0_g rfl
    generalize F3.put g _ = F4 at zr zE ⊢
    ((conv => whnf); repeat (first | (apply load_at; (conv => lhs; whnf); (with_reducible assumption); rfl; (conv => whnf)) | (apply load_at; (conv => lhs; rw [add_plain, add_plain]); (with_reducible assumption); rfl; (conv => whnf)) | (apply loads_at; (conv => lhs; whnf); (with_reducible assumption); rfl; (conv => whnf)) | (refine ⟨⟨by omega, by omega⟩, ?_⟩; (conv => whnf))))
    exact ⟨_, rfl, zr, zE⟩
abbrev imO (p : PcR) : Obj := .cells (pcC p).toArray 67
/-- Whether images may be committed. -/
def rightL (n : Int) : List (Int × List UInt8) → List Int → Bool
  | [], _ => true
  | p :: ps, seen => isPg n p.1 && ((p.2.length == 240) && (!(seen.contains p.1) && rightL n ps (p.1 :: seen)))
/-- A map of what was seen. -/
def SeenR (l : ML) (seen : List Int) : Prop := ∀ k, getM l k = if k ∈ seen then some (.bool true) else none
theorem SeenR.set {l : ML} {seen : List Int} (h : SeenR l seen) (k : Int) : SeenR (setM l k (.bool true)) (k :: seen) := fun j => by
  rw [getM_setM]
  by_cases e : j = k
  · rw [if_pos e, if_pos (by rw [e]; exact List.mem_cons_self)]
  · rw [if_neg e, h j]
    by_cases e2 : j ∈ seen
    · rw [if_pos e2, if_pos (List.mem_cons_of_mem _ e2)]
    · rw [if_neg e2, if_neg (by rw [List.mem_cons]; rintro (x | x); exact e x; exact e2 x)]
end Go.Proofs.YtmpiggcooboenaaDoor.Al
/- Logs: pieces. -/
namespace Go.Proofs.YtmpiggcooboenaaDoor.Al
open Go Go.Al Go.Proofs Go.RowKit
set_option maxHeartbeats 8000000
set_option maxRecDepth 100000
set_option linter.unusedVariables false
set_option linter.unusedSimpArgs false
def logW (n q : Int) : Nat → List (Int × List UInt8) → List (Int × List UInt8)
  | _, [] => []
  | i, p :: ps => (slotI n (i : Int), packB p.1 q p.2) :: logW n q (i + 1) ps
def homW (n q : Int) (ps : List (Int × List UInt8)) : List (Int × List UInt8) := ps.map fun p => (homeI n p.1, packB p.1 q p.2)
theorem packB_le (p q : Int) (d : List UInt8) : (packB p q d).length ≤ 256 := by
  by_cases h : packY p q d = true
  · rw [packB_len h]; exact Nat.le_refl _
  · unfold packB; rw [if_neg h]; exact Nat.zero_le _
theorem rowS_app (ps : List PcR) (p : PcR) : rowS pcC (ps ++ [p]) = rowS pcC ps ++ rowS pcC [p] := by unfold rowS; rw [List.flatMap_append]
/-- Two rows of pieces of the call's own, and what the pieces hold. -/
structure TwoK (F F1 : Heap) (S T : Value) (ps hs : List PcR) (G : Heap) : Prop where
  s : Mine F F1 S 149 2 ps.length (rowS pcC ps)
  t : Mine F F1 T 149 2 hs.length (rowS pcC hs)
  ne : ∀ k, blk S = some k → blk T ≠ some k
  base : Ext G F1
  outS : ∀ k, blk S = some k → G k = none
  outT : ∀ k, blk T = some k → G k = none
  ok : ∀ p ∈ ps ++ hs, PcOk G p ∧ ∀ a, p.A = some a → F a.block = none
theorem TwoK.grow {F F1 F2 G : Heap} {S T : Value} {ps hs : List PcR} (h : TwoK F F1 S T ps hs G) (hE : Ext F1 F2) : TwoK F F2 S T ps hs (gain G F1 F2) := by
  have hb : ∀ {k}, F1 k ≠ none → gain G F1 F2 k = G k := fun {k} hk => by
    cases e : F1 k with
    | none => exact absurd e hk
    | some o => exact gain_old e
  refine ⟨h.s.mono hE, h.t.mono hE, h.ne, fun z o hz => ?_, fun k hk => by rw [hb (h.s.own.there hk)]; exact h.outS k hk, fun k hk => by rw [hb (h.t.own.there hk)]; exact h.outT k hk, fun p hp => ⟨(h.ok p hp).1.mono (gain_ext h.base), (h.ok p hp).2⟩⟩
  cases e : F1 z with
  | none => rw [gain_new e] at hz; exact hz
  | some u => rw [gain_old e] at hz; exact hE _ _ (h.base _ _ hz)
theorem TwoK.ext {F F1 F2 G : Heap} {S T : Value} {ps hs : List PcR} (h : TwoK F F1 S T ps hs G) (hE : Ext F1 F2) : TwoK F F2 S T ps hs G :=
  ⟨h.s.mono hE, h.t.mono hE, h.ne, h.base.trans hE, h.outS, h.outT, h.ok⟩
theorem TwoK.pushS {F F1 F2 G : Heap} {S T S2 : Value} {ps hs : List PcR} (h : TwoK F F1 S T ps hs G) {p : PcR} (hp : PcOk G p ∧ ∀ a, p.A = some a → F a.block = none)
    (hO : Own F2 S2 149 2 (ps.length + 1) (rowS pcC ps ++ rowS pcC [p])) (hk : Keeps F1 F2 (blk S)) (hf : ∀ b, blk S2 = some b → blk S = some b ∨ F1 b = none) : TwoK F F2 S2 T (ps ++ [p]) hs G := by
  refine ⟨?_, ⟨h.t.own.of_blk fun k o hk' ho => hk k o ho fun e => h.ne k e hk', h.t.fresh, hk.ext h.s.ext h.s.fresh⟩, fun k hk' => ?_, hk.ext h.base h.outS, fun k hk' => ?_, h.outT, fun x hx => ?_⟩
  · rw [rowS_app, List.length_append]
    refine ⟨hO, fun k hk' => ?_, hk.ext h.s.ext h.s.fresh⟩
    rcases hf k hk' with e | e
    · exact h.s.fresh k e
    · exact h.s.ext.none e
  · rcases hf k hk' with e | e
    · exact h.ne k e
    · exact fun e2 => h.t.own.there e2 e
  · rcases hf k hk' with e | e
    · exact h.outS k e
    · exact h.base.none e
  · rw [List.append_assoc, List.mem_append] at hx
    rcases hx with hx | hx
    · exact h.ok x (List.mem_append_left _ hx)
    · rcases List.mem_append.1 hx with hx | hx
      · rw [List.mem_singleton] at hx; subst hx; exact hp
      · exact h.ok x (List.mem_append_right _ hx)
theorem TwoK.swap {F F1 G : Heap} {S T : Value} {ps hs : List PcR} (h : TwoK F F1 S T ps hs G) : TwoK F F1 T S hs ps G :=
  ⟨h.t, h.s, fun k hk e => h.ne k e hk, h.base, h.outT, h.outS, fun p hp => h.ok p (by rw [List.mem_append] at hp ⊢; exact hp.symm)⟩
end Go.Proofs.YtmpiggcooboenaaDoor.Al
/- Logs: a log's part of memory; Commit. -/
namespace Go.Proofs.YtmpiggcooboenaaDoor.Al
open Go Go.Al Go.Proofs Go.RowKit
set_option maxHeartbeats 8000000
set_option maxRecDepth 100000
set_option linter.unusedVariables false
set_option linter.unusedSimpArgs false
/-- What committing images makes of a disk: the disk, what is wrong, the log's number. -/
def commitS {α : Type} (o : DOps α) (a : α) (q : Int) (ps : List (Int × List UInt8)) : α × Int × Int :=
  if (ps.length : Int) > pagesN (o.sz a) then (a, 6, q) else
  if rightL (o.sz a) ps [] = false then (a, 1, q) else
  if ps.length = 0 then (a, 0, q) else
  if (runW o a (logW (o.sz a) (q + 1) 0 ps)).2 ≠ 0 then ((runW o a (logW (o.sz a) (q + 1) 0 ps)).1, (runW o a (logW (o.sz a) (q + 1) 0 ps)).2, q) else
  if (runW o (runW o a (logW (o.sz a) (q + 1) 0 ps)).1 [(0, noteB ps.length (q + 1))]).2 ≠ 0 then ((runW o (runW o a (logW (o.sz a) (q + 1) 0 ps)).1 [(0, noteB ps.length (q + 1))]).1, (runW o (runW o a (logW (o.sz a) (q + 1) 0 ps)).1 [(0, noteB ps.length (q + 1))]).2, q) else
  ((runW o (runW o (runW o a (logW (o.sz a) (q + 1) 0 ps)).1 [(0, noteB ps.length (q + 1))]).1 (homW (o.sz a) (q + 1) ps)).1, (runW o (runW o (runW o a (logW (o.sz a) (q + 1) 0 ps)).1 [(0, noteB ps.length (q + 1))]).1 (homW (o.sz a) (q + 1) ps)).2, q + 1)
/-- A log's part of memory: its disk's, and its own block. -/
def Lg (E : Heap) (lb b : Nat) (s : DS) (q : Int) : Prop := ∃ D, Dk D b s ∧ D lb = none ∧ E = D.put lb (lgO b q) ∧ 0 ≤ q ∧ q ≤ 4611686018427387904
theorem Lg.disk {E : Heap} {lb b : Nat} {s : DS} {q : Int} (h : Lg E lb b s q) : ∃ D, Dk D b s ∧ Ext D E ∧ E lb = some (lgO b q) := by
  obtain ⟨D, h1, h2, rfl, _⟩ := h
  exact ⟨D, h1, (Ext.refl D).put h2 _, Heap.put_same _ _ _⟩
theorem moves_withB {D F D' F' : Heap} {lb : Nat} {o : Obj} (h : Moves D F D' F') (hd : D lb = none) (hf : F lb = some o) : Moves (D.put lb o) F (D'.put lb o) F' ∧ D' lb = none := by
  have hd' : D' lb = none := by
    cases e : D' lb with
    | none => rfl
    | some u =>
      rcases h.new lb (by rw [e]; simp) with k | k
      · exact absurd hd k
      · rw [hf] at k; cases k
  have hf' := h.out _ _ hf hd
  refine ⟨⟨fun c u hc => ?_, fun c u hc hn => ?_, fun c hc => ?_⟩, hd'⟩
  · by_cases e : c = lb
    · subst e; rw [Heap.put_same] at hc; rw [hf']; exact hc
    · rw [Heap.put_other _ _ e] at hc; exact h.inn c u hc
  · by_cases e : c = lb
    · subst e; rw [Heap.put_same] at hn; cases hn
    · rw [Heap.put_other _ _ e] at hn; exact h.out c u hc hn
  · by_cases e : c = lb
    · subst e; rw [Heap.put_same]; exact .inl (by simp)
    · rw [Heap.put_other _ _ e] at hc ⊢; exact h.new c hc
end Go.Proofs.YtmpiggcooboenaaDoor.Al
/- Logs: the plain law, 1: what writing does to what a disk holds; sectors are read as they were packed. -/
namespace Go.Proofs.YtmpiggcooboenaaDoor.Al
open Go Go.Al Go.Proofs Go.RowKit
set_option maxRecDepth 100000
set_option linter.unusedVariables false
set_option linter.unusedSimpArgs false
/-- A disk that no write can bring down. -/
structure Up (s : DS) : Prop where
  down : s.down = false
  arm : s.armed = false
/-- What is written, in order. -/
def putAll (c : Int → List UInt8) (ws : List (Int × List UInt8)) : Int → List UInt8 := ws.foldl (fun c p k => if k = p.1 then p.2 else c k) c
theorem putAll_cons (c : Int → List UInt8) (p : Int × List UInt8) (ws : List (Int × List UInt8)) : putAll c (p :: ws) = putAll (fun k => if k = p.1 then p.2 else c k) ws := rfl
/-- Pieces that may be written. -/
def OkW (n : Int) (ws : List (Int × List UInt8)) : Prop := ∀ p ∈ ws, (0 ≤ p.1 ∧ p.1 < n) ∧ p.2.length = 256
theorem secB_upd (s : DS) (i : Int) (l : List UInt8) (o : List Int) (lf w : Int) (a d : Bool) (k : Int) : secB ⟨a, lf, d, s.size, s.safe, updF s.fresh i (some l), o, w⟩ k = if k = i then l else secB s k := by
  unfold secB updF
  by_cases e : k = i
  · simp only [if_pos e]
  · simp only [if_neg e]
theorem write_up {s : DS} (h : Up s) {i : Int} {l : List UInt8} (hi : 0 ≤ i ∧ i < s.size) (hl : l.length = 256) :
    writeE s i l = 0 ∧ Up (writeS s i l) ∧ (∀ k, secB (writeS s i l) k = if k = i then l else secB s k) ∧ (writeS s i l).writes = s.writes + 1 ∧ (writeS s i l).size = s.size := by
  have hb : burnOk s.armed s.left = true := by unfold burnOk; rw [h.arm]; rfl
  have h1 : writeE s i l = 0 := by
    unfold writeE
    rw [h.down, if_neg (by decide), if_neg (by rintro (e | e); exact e hi; exact e hl), if_pos hb]
  have h2 : writeS s i l = { s with left := if s.armed = true then s.left - 1 else s.left, fresh := updF s.fresh i (some l), order := if s.fresh i = none then s.order ++ [i] else s.order, writes := s.writes + 1 } := by
    unfold writeS
    rw [if_neg (by rintro (e | e | e); rw [h.down] at e; cases e; exact e hi; exact e hl), if_pos hb]
  rw [h2]
  exact ⟨h1, ⟨h.down, h.arm⟩, fun k => secB_upd s i l _ _ _ _ _ k, rfl, rfl⟩
/-- A disk on which all is safe. -/
structure Calm (s : DS) : Prop where
  fresh : ∀ k, s.fresh k = none
  order : s.order = []
theorem flush_up {s : DS} (h : s.down = false) (hw : DWf s) : flushE s = 0 ∧ (∀ k, secB (flushS s) k = secB s k) ∧ Calm (flushS s) ∧ (flushS s).writes = s.writes ∧ (flushS s).size = s.size ∧ (flushS s).down = false ∧ (flushS s).armed = s.armed ∧ (flushS s).left = s.left := by
  have e : flushS s = settleS s (fun _ => true) := by unfold flushS; rw [if_neg (by rw [h]; decide)]
  refine ⟨by unfold flushE; rw [if_neg (by rw [h]; decide)], fun k => ?_, ?_, ?_⟩
  · rw [e]
    have h1 : secB (settleS s (fun _ => true)) k = safB (settleS s (fun _ => true)) k := secB_none rfl
    rw [h1]
    show (match setl (fun _ => true) s.fresh s.order 0 s.safe k with | some l => l | none => List.replicate 256 0) = secB s k
    rw [setl_at _ _ _ _ _ _ hw.nod]
    by_cases hm : k ∈ s.order
    · rw [if_pos ⟨(idxI_mem s.order k 0).2 hm, rfl⟩]
      have := (hw.fr k).1 hm
      unfold secB
      cases hf : s.fresh k with
      | none => exact absurd hf this
      | some l => rfl
    · rw [if_neg fun x => hm ((idxI_mem s.order k 0).1 x.1)]
      have hf : s.fresh k = none := by
        cases hf : s.fresh k with
        | none => rfl
        | some l => exact absurd ((hw.fr k).2 (by rw [hf]; simp)) hm
      unfold secB
      rw [hf]
      rfl
  · rw [e]
    exact ⟨fun _ => rfl, rfl⟩
  · rw [e]
    exact ⟨rfl, rfl, h, rfl, rfl⟩
theorem writeS_wf {s : DS} (h : DWf s) {i : Int} (hi : 0 ≤ i ∧ i < s.size) (hw : s.writes < 1000000000) (l : List UInt8) (hl : l.length = 256) : DWf (writeS s i l) := by
  unfold writeS
  by_cases hd : s.down = true
  · rw [if_pos (.inl hd)]; exact h
  rw [if_neg (by rintro (e | e | e); exact hd e; exact e hi; exact e hl)]
  by_cases hb : burnOk s.armed s.left = true
  · rw [if_pos hb]
    refine write_wf h hi hw l ?_ rfl
    have := h.lf
    unfold burnOk at hb
    split
    · next ha =>
      rw [ha] at hb
      have : s.left ≠ 0 := by simpa using hb
      omega
    · exact this
  · rw [if_neg hb]
    exact ⟨h.sz, h.lf, h.wr, h.ord, h.fr, h.inr, h.nod⟩
theorem flush_wf {s : DS} (h : DWf s) : DWf (flushS s) := by
  unfold flushS
  split
  · exact h
  · exact settle_wf h _
/-- Writing pieces, when nothing brings the disk down. -/
theorem runW_up : ∀ (ws : List (Int × List UInt8)) (s : DS), Up s → DWf s → s.writes + ws.length < 1000000000 → OkW s.size ws →
    (runW dsO s ws).2 = 0 ∧ Up (runW dsO s ws).1 ∧ DWf (runW dsO s ws).1 ∧ Calm (runW dsO s ws).1 ∧ (∀ k, secB (runW dsO s ws).1 k = putAll (secB s) ws k) ∧ (runW dsO s ws).1.writes = s.writes + ws.length ∧ (runW dsO s ws).1.size = s.size
  | [], s, hu, hd, hw, ho => by
    obtain ⟨h1, h2, h3, h4, h5, h6, h7, _⟩ := flush_up hu.down hd
    exact ⟨h1, ⟨h6, h7.trans hu.arm⟩, flush_wf hd, h3, h2, by show (flushS s).writes = s.writes + ((0 : Nat) : Int); omega, h5⟩
  | p :: ws, s, hu, hd, hw, ho => by
    have hw : s.writes + ((ws.length + 1 : Nat) : Int) < 1000000000 := hw
    obtain ⟨hp1, hp2⟩ := ho p List.mem_cons_self
    obtain ⟨h1, h2, h3, h4, h5⟩ := write_up hu hp1 hp2
    have e : runW dsO s (p :: ws) = runW dsO (writeS s p.1 p.2) ws := if_pos h1
    rw [e]
    obtain ⟨g1, g2, g3, g4, g5, g6, g7⟩ := runW_up ws (writeS s p.1 p.2) h2 (writeS_wf hd hp1 (by omega) _ hp2) (by omega) (fun q hq => by rw [h5]; exact ho q (List.mem_cons_of_mem _ hq))
    refine ⟨g1, g2, g3, g4, fun k => ?_, ?_, g7.trans h5⟩
    · rw [g5, putAll_cons]
      have : secB (writeS s p.1 p.2) = fun k => if k = p.1 then p.2 else secB s k := funext h3
      rw [this]
    · rw [g6, h4]
      show s.writes + 1 + (ws.length : Int) = s.writes + ((ws.length + 1 : Nat) : Int)
      omega
/-- What is packed is read as it was. -/
theorem un_pack {p q : Int} {d : List UInt8} (h : packY p q d = true) : okU (packB p q d) = true ∧ unP (packB p q d) = p ∧ unQ (packB p q d) = q ∧ unD (packB p q d) = d ∧ unE (packB p q d) = 0 := by
  have hl := packB_len h
  have hb : packB p q d = sealB (headB p q d) := if_pos h
  have h' := h
  unfold packY secR at h'
  simp only [Bool.and_eq_true, decide_eq_true_eq] at h'
  obtain ⟨⟨hp, hq0, hq1⟩, hdl⟩ := h'
  have hp' : 0 ≤ p ∧ p < 4294967296 := by
    unfold inM at hp
    rw [show Nat.beq 4 8 = false by decide, cond_false, show ((256 ^ 4 : Nat) : Int) = 4294967296 by decide] at hp
    simpa using hp
  have hdl : d.length = 240 := by simpa using hdl
  have hh : headB p q d = beM 4 p ++ (beM 8 q ++ d) := by
    unfold headB putM
    rw [hp, cond_true, show inM 8 q = true by rfl, cond_true, List.nil_append, List.append_assoc]
  have d4 : (packB p q d).drop 4 = beM 4 p ++ (beM 8 q ++ d) := by
    rw [hb]
    unfold sealB
    rw [List.drop_left' (beM_len 4 _), hh]
  have d8 : (packB p q d).drop 8 = beM 8 q ++ d := by
    rw [show (8 : Nat) = 4 + 4 by rfl, ← List.drop_drop, d4, List.drop_left' (beM_len 4 _)]
  have d16 : (packB p q d).drop 16 = d := by
    rw [show (16 : Nat) = 8 + 8 by rfl, ← List.drop_drop, d8, List.drop_left' (beM_len 8 _)]
  have g4 : getN (packB p q d) 4 4 = p := by
    rw [getN_at (by omega), d4, List.take_left' (beM_len 4 _), getV_back (.inr (.inr (.inl rfl))) hp (by omega) (by omega)]
  have g8 : getN (packB p q d) 8 8 = q := by
    rw [getN_at (by omega), d8, List.take_left' (beM_len 8 _), getV_back (.inr (.inr (.inr rfl))) rfl (by omega) (by omega)]
  have hs : (sealB ((packB p q d).drop 4) == packB p q d) = true := by
    rw [d4, ← hh, ← hb]
    exact beq_self_eq_true _
  have hsr : secR p q = true := by
    unfold packY at h
    rw [Bool.and_eq_true] at h
    exact h.1
  have hok : okU (packB p q d) = true := by
    unfold okU
    rw [g4, g8, hs, hsr, hl]
    rfl
  unfold unP unQ unD unE
  rw [if_pos hok, if_pos hok, if_pos hok, if_pos hok]
  exact ⟨hok, g4, g8, d16, rfl⟩
end Go.Proofs.YtmpiggcooboenaaDoor.Al
/- Logs: the plain law, 2: writing that the disk may go down in; what a crash leaves; whole slots. -/
namespace Go.Proofs.YtmpiggcooboenaaDoor.Al
open Go Go.Al Go.Proofs Go.RowKit
set_option maxRecDepth 100000
set_option linter.unusedVariables false
set_option linter.unusedSimpArgs false
/-- What a disk may hold that goes down: what was safe, or some of what was written. -/
structure Mid (b : Int → List UInt8) (A : List (Int × List UInt8)) (s : DS) : Prop where
  wf : DWf s
  safe : ∀ k, safB s k = b k
  fresh : ∀ k l, s.fresh k = some l → (k, l) ∈ A
theorem Mid.mono {b : Int → List UInt8} {A B : List (Int × List UInt8)} {s : DS} (h : Mid b A s) (hs : ∀ p ∈ A, p ∈ B) : Mid b B s := ⟨h.wf, h.safe, fun k l e => hs _ (h.fresh k l e)⟩
/-- What a log finds on a disk hangs on what the disk reads alone. -/
structure SameR {α β : Type} (o : DOps α) (a : α) (o' : DOps β) (a' : β) : Prop where
  sz : o.sz a = o'.sz a'
  e : ∀ i, o.rdE a i = o'.rdE a' i
  l : ∀ i, o.rdL a i = o'.rdL a' i
theorem SameR.slotY {α β : Type} {o : DOps α} {a : α} {o' : DOps β} {a' : β} (h : SameR o a o' a') (q i : Int) : slotY o a q i = slotY o' a' q i := by
  unfold Go.Proofs.YtmpiggcooboenaaDoor.Al.slotY
  rw [h.sz, h.e, h.l]
theorem SameR.slotP {α β : Type} {o : DOps α} {a : α} {o' : DOps β} {a' : β} (h : SameR o a o' a') (i : Int) : slotP o a i = slotP o' a' i := by
  unfold Go.Proofs.YtmpiggcooboenaaDoor.Al.slotP
  rw [h.sz, h.l]
theorem SameR.whl {α β : Type} {o : DOps α} {a : α} {o' : DOps β} {a' : β} (h : SameR o a o' a') (q : Int) : ∀ k i, whl o a q k i = whl o' a' q k i
  | 0, _ => rfl
  | k + 1, i => by
    show (if Go.Proofs.YtmpiggcooboenaaDoor.Al.slotY o a q (i : Int) = true then _ else none) = (if Go.Proofs.YtmpiggcooboenaaDoor.Al.slotY o' a' q (i : Int) = true then _ else none)
    rw [h.slotY, h.slotP, h.whl q k (i + 1)]
theorem SameR.whole {α β : Type} {o : DOps α} {a : α} {o' : DOps β} {a' : β} (h : SameR o a o' a') (n q : Int) : wholeO o a n q = wholeO o' a' n q := by
  unfold wholeO
  rw [h.sz, h.whl]
theorem SameR.rdN {α β : Type} {o : DOps α} {a : α} {o' : DOps β} {a' : β} (h : SameR o a o' a') : rdN o a = rdN o' a' := by
  unfold Go.Proofs.YtmpiggcooboenaaDoor.Al.rdN
  rw [h.e, h.l]
/-- A disk told by what it holds alone. -/
def cO (n : Int) : DOps (Int → List UInt8) := ⟨fun _ => n, fun _ i => if 0 ≤ i ∧ i < n then 0 else 1, fun c i => if 0 ≤ i ∧ i < n then c i else [], fun _ _ _ => 0, fun c _ _ => c, fun _ => 0, fun c => c⟩
theorem same_c {s : DS} (hd : s.down = false) : SameR dsO s (cO s.size) (secB s) := by
  refine ⟨rfl, fun i => ?_, fun i => ?_⟩
  · show readE s i = if 0 ≤ i ∧ i < s.size then 0 else 1
    unfold readE
    rw [hd, if_neg (by decide)]
    by_cases h : 0 ≤ i ∧ i < s.size
    · rw [if_neg (fun e => e h), if_pos h]
    · rw [if_pos h, if_neg h]
  · show readL s i = if 0 ≤ i ∧ i < s.size then secB s i else []
    unfold readL
    rw [hd]
    by_cases h : 0 ≤ i ∧ i < s.size
    · rw [if_neg (by rintro (e | e); cases e; exact e h), if_pos h]
    · rw [if_pos (.inr h), if_neg h]
/-- A page of a disk that holds c. -/
def pgOf (n : Int) (c : Int → List UInt8) (p : Int) : List UInt8 := if unE (c (homeI n p)) ≠ 0 ∨ unP (c (homeI n p)) ≠ p then zeros240 else unD (c (homeI n p))
theorem isPg_iff {n p : Int} : isPg n p = true ↔ 0 ≤ p ∧ p < pagesN n := by unfold isPg; exact decide_eq_true_iff
theorem home_range {n p : Int} (h : 0 ≤ p ∧ p < pagesN n) : homeI n p = 1 + pagesN n + p ∧ 0 ≤ homeI n p ∧ homeI n p < n := by
  have hle := pagesN_le n
  unfold homeI
  rw [if_pos h]
  omega
theorem slot_range {n i : Int} (h : 0 ≤ i ∧ i < pagesN n) : slotI n i = 1 + i ∧ 0 ≤ slotI n i ∧ slotI n i < n := by
  have hle := pagesN_le n
  unfold slotI
  rw [if_pos h]
  omega
theorem load_c {s : DS} (hd : s.down = false) {p : Int} (hp : isPg s.size p = true) : loadE dsO s p = 0 ∧ loadL dsO s p = pgOf s.size (secB s) p := by
  obtain ⟨_, h1, h2⟩ := home_range (isPg_iff.1 hp)
  have hS := same_c hd
  have e : readE s (homeI s.size p) = 0 := (hS.e _).trans (if_pos ⟨h1, h2⟩)
  have l : readL s (homeI s.size p) = secB s (homeI s.size p) := (hS.l _).trans (if_pos ⟨h1, h2⟩)
  refine ⟨?_, ?_⟩
  · show (if isPg s.size p = true then readE s (homeI s.size p) else 1) = 0
    rw [if_pos hp, e]
  · show (if isPg s.size p = true then (if readE s (homeI s.size p) ≠ 0 then [] else if unE (readL s (homeI s.size p)) ≠ 0 ∨ unP (readL s (homeI s.size p)) ≠ p then zeros240 else unD (readL s (homeI s.size p))) else []) = _
    rw [if_pos hp, e, if_neg (by decide), l]
    rfl
theorem unE_len {l : List UInt8} (h : unE l = 0) : l.length = 256 := by
  unfold unE at h
  split at h
  · next e =>
    unfold okU at e
    rw [Bool.and_eq_true] at e
    simpa using e.1
  · cases h
end Go.Proofs.YtmpiggcooboenaaDoor.Al
/- Logs: the plain law, 3: what a disk holds whose log was not committed, or was; opening it. -/
namespace Go.Proofs.YtmpiggcooboenaaDoor.Al
open Go Go.Al Go.Proofs Go.RowKit
set_option maxRecDepth 100000
set_option linter.unusedVariables false
set_option linter.unusedSimpArgs false
theorem right_iff (n : Int) : ∀ (ps : List (Int × List UInt8)) (seen : List Int), rightL n ps seen = true ↔ ((∀ p ∈ ps, isPg n p.1 = true ∧ p.2.length = 240 ∧ p.1 ∉ seen) ∧ (ps.map (·.1)).Nodup)
  | [], seen => by simp [rightL]
  | p :: ps, seen => by
    show (isPg n p.1 && ((p.2.length == 240) && (!(seen.contains p.1) && rightL n ps (p.1 :: seen)))) = true ↔ _
    rw [Bool.and_eq_true, Bool.and_eq_true, Bool.and_eq_true, right_iff n ps (p.1 :: seen), List.map_cons, List.nodup_cons]
    constructor
    · rintro ⟨h1, h2, h3, h4, h5⟩
      have h3 : p.1 ∉ seen := by simpa using h3
      refine ⟨fun x hx => ?_, fun hm => ?_, h5⟩
      · rcases List.mem_cons.1 hx with rfl | hx
        · exact ⟨h1, by simpa using h2, h3⟩
        · obtain ⟨g1, g2, g3⟩ := h4 x hx
          exact ⟨g1, g2, fun e => g3 (List.mem_cons_of_mem _ e)⟩
      · obtain ⟨x, hx, e⟩ := List.mem_map.1 hm
        exact (h4 x hx).2.2 (by rw [e]; exact List.mem_cons_self)
    · rintro ⟨h1, h2, h3⟩
      obtain ⟨g1, g2, g3⟩ := h1 p List.mem_cons_self
      refine ⟨g1, by simpa using g2, by simpa using g3, fun x hx => ?_, h3⟩
      obtain ⟨k1, k2, k3⟩ := h1 x (List.mem_cons_of_mem _ hx)
      refine ⟨k1, k2, fun e => ?_⟩
      rcases List.mem_cons.1 e with e | e
      · exact h2 (by rw [← e]; exact List.mem_map_of_mem hx)
      · exact k3 e
/-- Images that may be committed, under a number. -/
structure Ims (n q : Int) (ps : List (Int × List UInt8)) : Prop where
  pg : ∀ p ∈ ps, isPg n p.1 = true ∧ p.2.length = 240
  nod : (ps.map (·.1)).Nodup
  len : (ps.length : Int) ≤ pagesN n
  q0 : 0 ≤ q ∧ q ≤ 4611686018427387904
theorem secR_of {n q p : Int} (hp : 0 ≤ p ∧ p < 100000) (hq : 0 ≤ q ∧ q ≤ 4611686018427387904) : secR p q = true := by
  unfold secR inM
  rw [show Nat.beq 4 8 = false by decide, cond_false, show ((256 ^ 4 : Nat) : Int) = 4294967296 by decide]
  simp only [Bool.and_eq_true, decide_eq_true_eq]
  omega
theorem Ims.pack {n q : Int} {ps : List (Int × List UInt8)} (h : Ims n q ps) {p : Int × List UInt8} (hp : p ∈ ps) : packY p.1 q p.2 = true := by
  obtain ⟨h1, h2⟩ := h.pg p hp
  have := isPg_iff.1 h1
  have hle := pagesN_le n
  unfold packY
  rw [secR_of (n := n) (by omega) h.q0, h2]
  rfl
theorem Ims.note {n q : Int} {ps : List (Int × List UInt8)} (h : Ims n q ps) : secR (ps.length : Int) q = true := by
  have hle := pagesN_le n
  have := h.len
  exact secR_of (n := n) (by omega) h.q0
theorem note_pack {m q : Int} (h : secR m q = true) : packY m q (List.replicate 240 0) = true := by
  unfold packY
  rw [h, List.length_replicate]
  rfl
theorem putAll_or (ws : List (Int × List UInt8)) : ∀ (c : Int → List UInt8) (k : Int), putAll c ws k = c k ∨ (k, putAll c ws k) ∈ ws := by
  induction ws with
  | nil => exact fun c k => .inl rfl
  | cons p ws ih =>
    intro c k
    rw [putAll_cons]
    rcases ih (fun k => if k = p.1 then p.2 else c k) k with h | h
    · rw [h]
      by_cases e : k = p.1
      · refine .inr ?_
        rw [if_pos e, e]
        exact List.mem_cons_self
      · exact .inl (if_neg e)
    · exact .inr (List.mem_cons_of_mem _ h)
/-- What stands at the mark and in the slots is a commit of images. -/
structure Slots (n q : Int) (ps : List (Int × List UInt8)) (c : Int → List UInt8) : Prop where
  mark : c 0 = noteB (ps.length : Int) q
  slot : ∀ (j : Nat) p, ps[j]? = some p → c (slotI n (j : Int)) = packB p.1 q p.2
theorem rdN_note {n m q : Int} {c : Int → List UInt8} (hn : 3 ≤ n) (hs : secR m q = true) (h : c 0 = noteB m q) : rdN (cO n) c = (m, q, 0) := by
  have e : (cO n).rdE c 0 = 0 := if_pos ⟨Int.le_refl 0, by omega⟩
  have l : (cO n).rdL c 0 = noteB m q := (if_pos ⟨Int.le_refl 0, by omega⟩ : _ = c 0).trans h
  obtain ⟨_, h1, h2, _, h3⟩ := un_pack (note_pack hs)
  unfold rdN
  rw [if_pos e, l]
  unfold noteB
  rw [h1, h2, h3]
theorem slots_whl {n q : Int} {ps : List (Int × List UInt8)} {c : Int → List UInt8} (hI : Ims n q ps) (h : Slots n q ps c) : ∀ k i : Nat, i + k = ps.length → whl (cO n) c q k i = some (homW n q (ps.drop i))
  | 0, i, e => by
    rw [List.drop_of_length_le (by omega)]
    rfl
  | k + 1, i, e => by
    have hi : i < ps.length := by omega
    have hx : ps[i]? = some ps[i] := List.getElem?_eq_getElem hi
    have hpk := hI.pack (List.getElem_mem hi)
    obtain ⟨_, u1, u2, _, u4⟩ := un_pack hpk
    have hl := hI.len
    obtain ⟨g1, g2, g3⟩ := slot_range (n := n) (i := (i : Int)) (by omega)
    have hL : (cO n).rdL c (slotI n (i : Int)) = packB ps[i].1 q ps[i].2 := (if_pos ⟨g2, g3⟩ : _ = c (slotI n (i : Int))).trans (h.slot i _ hx)
    have hE : (cO n).rdE c (slotI n (i : Int)) = 0 := if_pos ⟨g2, g3⟩
    have hY : slotY (cO n) c q (i : Int) = true := by
      show (isPg n (i : Int) && (((cO n).rdE c (slotI n (i : Int)) == 0) && ((unE ((cO n).rdL c (slotI n (i : Int))) == 0) && ((unQ ((cO n).rdL c (slotI n (i : Int))) == q) && isPg n (unP ((cO n).rdL c (slotI n (i : Int)))))))) = true
      rw [hL, hE, u1, u2, u4, isPg_iff.2 (by omega : 0 ≤ (i : Int) ∧ (i : Int) < pagesN n), (hI.pg _ (List.getElem_mem hi)).1]
      simp
    have hP : slotP (cO n) c (i : Int) = (homeI n ps[i].1, packB ps[i].1 q ps[i].2) := by
      show (homeI n (unP ((cO n).rdL c (slotI n (i : Int)))), (cO n).rdL c (slotI n (i : Int))) = _
      rw [hL, u1]
    show (if slotY (cO n) c q (i : Int) = true then (whl (cO n) c q k (i + 1)).map (slotP (cO n) c (i : Int) :: ·) else none) = _
    rw [if_pos hY, slots_whl hI h k (i + 1) (by omega), hP, List.drop_eq_getElem_cons hi]
    rfl
theorem slots_whole {n q : Int} {ps : List (Int × List UInt8)} {c : Int → List UInt8} (hI : Ims n q ps) (h : Slots n q ps c) : wholeO (cO n) c (ps.length : Int) q = some (homW n q ps) := by
  unfold wholeO
  rw [if_neg (by have := hI.len; show ¬ (ps.length : Int) > pagesN n; omega), Int.toNat_natCast, slots_whl hI h ps.length 0 (by omega), List.drop_zero]
end Go.Proofs.YtmpiggcooboenaaDoor.Al
/- Logs: the plain law, 4: committing, opening, crashes. -/
namespace Go.Proofs.YtmpiggcooboenaaDoor.Al
open Go Go.Al Go.Proofs Go.RowKit
set_option maxRecDepth 100000
set_option linter.unusedVariables false
set_option linter.unusedSimpArgs false
/-- What stands on a disk all of whose pages are at home. -/
structure Base (n cnt q : Int) (c0 : Int → List UInt8) : Prop where
  rd : rdN (cO n) c0 = (cnt, q, 0)
  same : ∀ ws, wholeO (cO n) c0 cnt q = some ws → OkW n ws ∧ ∀ p ∈ ws, c0 p.1 = p.2
/-- .. of which slots alone are otherwise, by another number. -/
structure Old (n q : Int) (c0 c : Int → List UInt8) : Prop where
  mark : c 0 = c0 0
  home : ∀ p, isPg n p = true → c (homeI n p) = c0 (homeI n p)
  slot : ∀ i, isPg n i = true → c (slotI n i) = c0 (slotI n i) ∨ unQ (c (slotI n i)) ≠ q
structure New (n q : Int) (ps : List (Int × List UInt8)) (c0 c : Int → List UInt8) : Prop where
  slots : Slots n q ps c
  home : ∀ p, isPg n p = true → c (homeI n p) = c0 (homeI n p) ∨ ∃ x ∈ ps, x.1 = p ∧ c (homeI n p) = packB p q x.2
structure Done (n q : Int) (ps : List (Int × List UInt8)) (c0 c : Int → List UInt8) : Prop where
  slots : Slots n q ps c
  yes : ∀ x ∈ ps, c (homeI n x.1) = packB x.1 q x.2
  no : ∀ p, isPg n p = true → (∀ x ∈ ps, x.1 ≠ p) → c (homeI n p) = c0 (homeI n p)
theorem Done.new {n q : Int} {ps : List (Int × List UInt8)} {c0 c : Int → List UInt8} (h : Done n q ps c0 c) : New n q ps c0 c := ⟨h.slots, fun p hp => by
  by_cases e : ∃ x ∈ ps, x.1 = p
  · obtain ⟨x, hx, rfl⟩ := e
    exact .inr ⟨x, hx, rfl, h.yes x hx⟩
  · exact .inl (h.no p hp fun x hx e2 => e ⟨x, hx, e2⟩)⟩
theorem whl_ok {n q : Int} (c : Int → List UInt8) : ∀ (k i : Nat) (ws : List (Int × List UInt8)), whl (cO n) c q k i = some ws → ∀ w ∈ ws, ∃ p, isPg n p = true ∧ w.1 = homeI n p ∧ w.2.length = 256
  | 0, i, ws, h, w, hw => by cases h; cases hw
  | k + 1, i, ws, h, w, hw => by
    have h : (if slotY (cO n) c q (i : Int) = true then (whl (cO n) c q k (i + 1)).map (slotP (cO n) c (i : Int) :: ·) else none) = some ws := h
    split at h
    · next hy =>
      cases e : whl (cO n) c q k (i + 1) with
      | none => rw [e] at h; cases h
      | some us =>
        rw [e] at h
        cases h
        rcases List.mem_cons.1 hw with rfl | hw
        · unfold slotY at hy
          simp only [Bool.and_eq_true, beq_iff_eq] at hy
          exact ⟨_, hy.2.2.2.2, rfl, unE_len hy.2.2.1⟩
        · exact whl_ok c k (i + 1) us e w hw
    · cases h
theorem whole_ok {n cnt q : Int} {c : Int → List UInt8} {ws : List (Int × List UInt8)} (h : wholeO (cO n) c cnt q = some ws) : OkW n ws ∧ (∀ w ∈ ws, ∃ p, isPg n p = true ∧ w.1 = homeI n p) ∧ ws.length ≤ 32768 := by
  have hl := wholeO_len h
  have hle := pagesN_le n
  have hl2 : cnt ≤ pagesN n := hl.2
  unfold wholeO at h
  split at h
  · cases h
  · have := whl_ok c _ _ ws h
    refine ⟨fun w hw => ?_, fun w hw => ?_, by omega⟩
    · obtain ⟨p, h1, h2, h3⟩ := this w hw
      obtain ⟨_, g1, g2⟩ := home_range (isPg_iff.1 h1)
      rw [h2]
      exact ⟨⟨g1, g2⟩, h3⟩
    · obtain ⟨p, h1, h2, _⟩ := this w hw
      exact ⟨p, h1, h2⟩
/-- What opening a log keeps true. -/
structure Cls (n cnt q : Int) (X : (Int → List UInt8) → Prop) : Prop where
  rd : ∀ c, X c → rdN (cO n) c = (cnt, q, 0)
  ok : ∀ c ws, X c → wholeO (cO n) c cnt q = some ws → ∀ c', (∀ k, c' k = c k ∨ (k, c' k) ∈ ws) → X c'
theorem home_ne {n p : Int} (h : isPg n p = true) : homeI n p ≠ 0 ∧ ∀ i, isPg n i = true → homeI n p ≠ slotI n i := by
  have h1 := isPg_iff.1 h
  refine ⟨by rw [(home_range h1).1]; omega, fun i hi => ?_⟩
  have h2 := isPg_iff.1 hi
  rw [(home_range h1).1, (slot_range h2).1]
  omega
theorem home_inj {n p p' : Int} (h : isPg n p = true) (h' : isPg n p' = true) (e : homeI n p = homeI n p') : p = p' := by
  rw [(home_range (isPg_iff.1 h)).1, (home_range (isPg_iff.1 h')).1] at e
  omega
theorem slots_keep {n q : Int} {ps : List (Int × List UInt8)} {c c' : Int → List UInt8} {ws : List (Int × List UInt8)} (hl : (ps.length : Int) ≤ pagesN n) (h : Slots n q ps c) (hh : ∀ w ∈ ws, ∃ p, isPg n p = true ∧ w.1 = homeI n p) (hc : ∀ k, c' k = c k ∨ (k, c' k) ∈ ws) : Slots n q ps c' := by
  refine ⟨?_, fun j p hj => ?_⟩
  · rcases hc 0 with e2 | e2
    · rw [e2, h.mark]
    · obtain ⟨p, hp, e3⟩ := hh _ e2
      exact absurd e3.symm (home_ne hp).1
  · have hjl := (List.getElem?_eq_some_iff.1 hj).1
    rcases hc (slotI n (j : Int)) with e2 | e2
    · rw [e2, h.slot j p hj]
    · obtain ⟨x, hx, e3⟩ := hh _ e2
      exact absurd e3.symm ((home_ne hx).2 (j : Int) (isPg_iff.2 (by omega)))
theorem cls_done {n q : Int} {ps : List (Int × List UInt8)} {c0 : Int → List UInt8} (hn : 3 ≤ n) (hI : Ims n q ps) : Cls n (ps.length : Int) q (Done n q ps c0) := by
  refine ⟨fun c h => rdN_note hn hI.note h.slots.mark, fun c ws h e c' hc => ?_⟩
  obtain ⟨_, hh, _⟩ := whole_ok e
  rw [slots_whole hI h.slots] at e
  cases e
  have key : ∀ p, isPg n p = true → c' (homeI n p) = c (homeI n p) := fun p hp => by
    rcases hc (homeI n p) with e2 | e2
    · exact e2
    · obtain ⟨x, hx, e3⟩ := List.mem_map.1 e2
      have e4 := home_inj (hI.pg x hx).1 hp (congrArg Prod.fst e3)
      have := congrArg Prod.snd e3
      have e5 : packB x.1 q x.2 = c' (homeI n p) := this
      rw [← e5, ← e4, h.yes x hx]
  exact ⟨slots_keep hI.len h.slots hh hc, fun x hx => by rw [key _ (hI.pg x hx).1]; exact h.yes x hx, fun p hp hno => by rw [key p hp]; exact h.no p hp hno⟩
/-- Opening a log on a disk that nothing brings down. -/
theorem open_up {s : DS} {cnt q : Int} {X : (Int → List UInt8) → Prop} (hX : Cls s.size cnt q X) (hu : Up s) (hd : DWf s) (hc : Calm s) (hw : s.writes + 32768 < 1000000000) (hx : X (secB s)) :
    (openS dsO s).2 = (0, some q) ∧ Up (openS dsO s).1 ∧ DWf (openS dsO s).1 ∧ Calm (openS dsO s).1 ∧ (openS dsO s).1.size = s.size ∧ X (secB (openS dsO s).1) ∧ (openS dsO s).1.writes ≤ s.writes + 32768 ∧ (∀ ws, wholeO (cO s.size) (secB s) cnt q = some ws → secB (openS dsO s).1 = putAll (secB s) ws ∧ (openS dsO s).1.writes = s.writes + ws.length) := by
  have hS := same_c hu.down
  have h1 : rdN dsO s = (cnt, q, 0) := hS.rdN.trans (hX.rd _ hx)
  have h2 : wholeO dsO s cnt q = wholeO (cO s.size) (secB s) cnt q := hS.whole cnt q
  unfold openS
  rw [h1]
  dsimp only
  rw [if_neg (by decide), h2]
  cases e : wholeO (cO s.size) (secB s) cnt q with
  | none => exact ⟨rfl, hu, hd, hc, rfl, hx, by show s.writes ≤ _; omega, fun ws h => by cases h⟩
  | some ws =>
    obtain ⟨k1, k2, k3⟩ := whole_ok e
    obtain ⟨g1, g2, g3, g4, g5, g6, g7⟩ := runW_up ws s hu hd (by omega) k1
    dsimp only
    rw [if_neg (by rw [g1]; decide)]
    refine ⟨rfl, g2, g3, g4, g7, hX.ok _ ws hx e _ fun k => ?_, by show (runW dsO s ws).1.writes ≤ _; omega, fun us h => by cases h; exact ⟨funext g5, g6⟩⟩
    show secB (runW dsO s ws).1 k = secB s k ∨ (k, secB (runW dsO s ws).1 k) ∈ ws
    rw [g5]
    exact putAll_or ws _ k
end Go.Proofs.YtmpiggcooboenaaDoor.Al
/- Logs: the plain law, 5: commits, and what pages tell. -/
namespace Go.Proofs.YtmpiggcooboenaaDoor.Al
open Go Go.Al Go.Proofs Go.RowKit
set_option maxRecDepth 100000
set_option linter.unusedVariables false
set_option linter.unusedSimpArgs false
theorem put_one (c : Int → List UInt8) (l : List UInt8) (k : Int) : putAll c [(0, l)] k = if k = 0 then l else c k := rfl
theorem Ims.right {n q : Int} {ps : List (Int × List UInt8)} (h : Ims n q ps) : rightL n ps [] = true := (right_iff n ps []).2 ⟨fun p hp => ⟨(h.pg p hp).1, (h.pg p hp).2, List.not_mem_nil⟩, h.nod⟩
theorem note_ok {n q : Int} {ps : List (Int × List UInt8)} (hn : 3 ≤ n) (hI : Ims n q ps) : OkW n [(0, noteB (ps.length : Int) q)] := fun p hp => by
  have h := noteB_len hI.note
  generalize noteB (ps.length : Int) q = l at h hp
  rw [List.mem_singleton] at hp
  subst hp
  exact ⟨⟨Int.le_refl 0, by show (0 : Int) < n; omega⟩, h⟩
/-- Pages with some of them otherwise. -/
def vw (ps : List (Int × List UInt8)) (g : Int → List UInt8) (p : Int) : List UInt8 := putAll g ps p
theorem pg_len (n : Int) (c : Int → List UInt8) (p : Int) : (pgOf n c p).length = 240 := by
  unfold pgOf
  split
  · unfold zeros240; rw [List.length_replicate]
  · next h =>
    have h1 : unE (c (homeI n p)) = 0 := by
      cases e : decide (unE (c (homeI n p)) = 0) with
      | true => exact of_decide_eq_true e
      | false => exact absurd (.inl (of_decide_eq_false e)) h
    have hl := unE_len h1
    unfold unE at h1
    split at h1
    · next ho =>
      unfold unD
      rw [if_pos ho, List.length_drop, hl]
    · cases h1
end Go.Proofs.YtmpiggcooboenaaDoor.Al
/- The reference's log: mark, Format, Pages, Load. -/
namespace Go.Proofs.YtmpiggcooboenaaDoor.Al
open Go Go.Al Go.Proofs Go.RowKit
set_option maxHeartbeats 8000000
set_option maxRecDepth 100000
set_option linter.unusedVariables false
set_option linter.unusedSimpArgs false
theorem rk_cell {D : Heap} {b : Nat} {r : RS} (h : Rk D b r) : ∃ q, D b = some (rdO (.slice (some ⟨q, 0, none⟩) r.L.length r.L.length) r.turn r.done r.arm r.armed r.down) := by
  obtain ⟨_, q, os, G, hP⟩ := h
  refine ⟨q, ?_⟩
  have := hP.cell
  rw [hP.L, List.length_map]
  exact this
theorem rread_len {D : Heap} {b : Nat} {r : RS} (hD : Rk D b r) (i : Int) : (rreadL r i).length ≤ 256 := by
  obtain ⟨_, q, os, G, hP⟩ := hD
  unfold rreadL
  split
  · exact Nat.zero_le _
  unfold rsec
  split
  · next o ho =>
    have hm : o ∈ r.L := List.mem_of_getElem? ho
    rw [hP.L] at hm
    obtain ⟨x, hx, rfl⟩ := List.mem_map.1 hm
    have := (hP.ok x hx).ln
    unfold fullB
    rw [List.length_append, List.length_replicate]
    show x.l.length + (256 - x.l.length) ≤ 256
    omega
  · exact Nat.zero_le _
theorem rmark {D F : Heap} {b : Nat} {r : RS} (hE : Ext D F) (hD : Rk D b r) (n q : Int) (hw : r.done + 1 < 1000000000) :
    FnK Tryd.prog 78 #[.pointer (some ⟨b, 0, none⟩), .int .i64 n, .int .i64 q] F (fun v F' => v = .int .i64 (runW rsO r [(0, noteB n q)]).2 ∧ ∃ D', Moves D F D' F' ∧ Rk D' b (runW rsO r [(0, noteB n q)]).1) := by
  have h1 := fun A c F h => rpack n q (List.replicate 240 0) A c F h (by rw [List.length_replicate]; decide)
  have hnl : (noteB n q).length ≤ 900000 := by
    have := packB_le n q (List.replicate 240 0)
    show (packB n q (List.replicate 240 0)).length ≤ _
    omega
  have hM : runW rsO r [(0, noteB n q)] = if rwriteE r 0 (noteB n q) = 0 then (rflushS (rwriteS r 0 (noteB n q)), if (rwriteS r 0 (noteB n q)).down = true then 5 else 0) else (rwriteS r 0 (noteB n q), rwriteE r 0 (noteB n q)) := rfl
  generalize runW rsO r [(0, noteB n q)] = ms at hM
  have hnb : noteB n q = packB n q (List.replicate 240 0) := rfl
  rw [← hnb] at h1
  clear hnb
  generalize noteB n q = nb at h1 hM hnl
  generalize packE n q (List.replicate 240 0) = e at h1
  (refine fn_walk tab_ok Tryd.func78 rfl rfl rfl rfl ?_; (conv => whnf))
  refine make_one tab_ok (z0 := .int .u8 0) 240 240 rfl rfl rfl rfl rfl ⟨rfl, by decide, _, rfl, rfl⟩ (by decide) (by decide) fun g h0_g => ?_
  have hE_g := Ext.new h0_g (.cells (List.replicate 240 (Value.int .u8 0)).toArray 5)
  have hB_g := Heap.put_same F g (.cells (List.replicate 240 (Value.int .u8 0)).toArray 5)
  generalize F.put g _ = F1 at hE_g hB_g ⊢
  have hrow : RowAt F1 (some ⟨g, 0, none⟩) (bytesOf (List.replicate 240 0)) := by
    have := row_blk hB_g
    rw [List.toList_toArray, zeros_bytes] at this
    exact this
  ((conv => whnf); repeat (first | (apply load_at; (conv => lhs; whnf); (with_reducible assumption); rfl; (conv => whnf)) | (apply load_at; (conv => lhs; rw [add_plain, add_plain]); (with_reducible assumption); rfl; (conv => whnf)) | (apply loads_at; (conv => lhs; whnf); (with_reducible assumption); rfl; (conv => whnf)) | (refine ⟨⟨by omega, by omega⟩, ?_⟩; (conv => whnf))))
  refine call_of (h1 (some ⟨g, 0, none⟩) 240 F1 hrow) ?_
  rintro v F2 ⟨w, rfl, ⟨A, c, rfl, hc, hr, hf⟩, hE2⟩
  have hE02 := hE_g.trans hE2
  have hR := newH_ext F F2
  have hA : Apart D (newH F F2) := newH_apart F2 hE
  have hrR := newH_row hr fun a ha => hE_g.none (hf a ha)
  ((conv => whnf); repeat (first | (apply load_at; (conv => lhs; whnf); (with_reducible assumption); rfl; (conv => whnf)) | (apply load_at; (conv => lhs; rw [add_plain, add_plain]); (with_reducible assumption); rfl; (conv => whnf)) | (apply loads_at; (conv => lhs; whnf); (with_reducible assumption); rfl; (conv => whnf)) | (refine ⟨⟨by omega, by omega⟩, ?_⟩; (conv => whnf))))
  refine call_of (rwrite (hE.trans hE02) hD hR hA nb A c hrR hnl 0 (by omega)) ?_
  rintro v F3 ⟨rfl, D3, hM3, hD3⟩
  have hM03 := (Moves.ext hE hE02).trans hM3
  generalize rwriteS r 0 nb = r1 at hM hD3
  generalize rwriteE r 0 nb = e1 at hM ⊢
  refine short [0, 19] [.pointer (some ⟨b, 0, none⟩), .int .i64 e1] rfl fun ρ => ?_
  ((conv => whnf); repeat (first | (apply load_at; (conv => lhs; whnf); (with_reducible assumption); rfl; (conv => whnf)) | (apply load_at; (conv => lhs; rw [add_plain, add_plain]); (with_reducible assumption); rfl; (conv => whnf)) | (apply loads_at; (conv => lhs; whnf); (with_reducible assumption); rfl; (conv => whnf)) | (refine ⟨⟨by omega, by omega⟩, ?_⟩; (conv => whnf))))
  refine cond_split (fun h => ?_) (fun h => ?_)
  · have he : ¬ e1 = 0 := by
      have h : (e1 != 0) = true := h
      simpa using h
    rw [if_neg he] at hM
    subst hM
    ((conv => whnf); repeat (first | (apply load_at; (conv => lhs; whnf); (with_reducible assumption); rfl; (conv => whnf)) | (apply load_at; (conv => lhs; rw [add_plain, add_plain]); (with_reducible assumption); rfl; (conv => whnf)) | (apply loads_at; (conv => lhs; whnf); (with_reducible assumption); rfl; (conv => whnf)) | (refine ⟨⟨by omega, by omega⟩, ?_⟩; (conv => whnf))))
    exact ⟨rfl, D3, hM03, hD3⟩
  · have he : e1 = 0 := by
      have h : (e1 != 0) = false := h
      simpa using h
    rw [if_pos he] at hM
    subst hM
    ((conv => whnf); repeat (first | (apply load_at; (conv => lhs; whnf); (with_reducible assumption); rfl; (conv => whnf)) | (apply load_at; (conv => lhs; rw [add_plain, add_plain]); (with_reducible assumption); rfl; (conv => whnf)) | (apply loads_at; (conv => lhs; whnf); (with_reducible assumption); rfl; (conv => whnf)) | (refine ⟨⟨by omega, by omega⟩, ?_⟩; (conv => whnf))))
    refine call_of (rflush hM3.inn hD3) ?_
    rintro v F4 ⟨rfl, D4, hM4, hD4⟩
    ((conv => whnf); repeat (first | (apply load_at; (conv => lhs; whnf); (with_reducible assumption); rfl; (conv => whnf)) | (apply load_at; (conv => lhs; rw [add_plain, add_plain]); (with_reducible assumption); rfl; (conv => whnf)) | (apply loads_at; (conv => lhs; whnf); (with_reducible assumption); rfl; (conv => whnf)) | (refine ⟨⟨by omega, by omega⟩, ?_⟩; (conv => whnf))))
    exact ⟨rfl, D4, hM03.trans hM4, hD4⟩
theorem rformat {D F : Heap} {b : Nat} {r : RS} (hE : Ext D F) (hD : Rk D b r) (hw : r.done + 1 < 1000000000) :
    FnK Tryd.prog 35 #[.pointer (some ⟨b, 0, none⟩)] F (fun v F' => v = .int .i64 (runW rsO r [(0, noteB 0 1)]).2 ∧ ∃ D', Moves D F D' F' ∧ Rk D' b (runW rsO r [(0, noteB 0 1)]).1) := by
  have h1 := rmark hE hD 0 1 hw
  generalize runW rsO r [(0, noteB 0 1)] = ms at h1
  (refine fn_walk tab_ok Tryd.func35 rfl rfl rfl rfl ?_; (conv => whnf))
  refine call_of h1 ?_
  rintro v F1 ⟨rfl, D', hM, hD'⟩
  ((conv => whnf); repeat (first | (apply load_at; (conv => lhs; whnf); (with_reducible assumption); rfl; (conv => whnf)) | (apply load_at; (conv => lhs; rw [add_plain, add_plain]); (with_reducible assumption); rfl; (conv => whnf)) | (apply loads_at; (conv => lhs; whnf); (with_reducible assumption); rfl; (conv => whnf)) | (refine ⟨⟨by omega, by omega⟩, ?_⟩; (conv => whnf))))
  exact ⟨rfl, D', hM, hD'⟩
abbrev rgO (b : Nat) (q : Int) : Obj := .cells #[.pointer (some ⟨b, 0, none⟩), .int .i64 q] 84
theorem rgPages {D F : Heap} {b lb : Nat} {r : RS} {q : Int} (hE : Ext D F) (hD : Rk D b r) (h : F lb = some (rgO b q)) : FnK Tryd.prog 84 #[.pointer (some ⟨lb, 0, none⟩)] F (fun v F' => v = .int .i64 (pagesN (r.L.length : Int)) ∧ F' = F) := by
  obtain ⟨q', hb⟩ := rk_cell hD
  replace hb := hE _ _ hb
  have h3 := rpages (r.L.length : Int) F
  (refine fn_walk tab_ok Tryd.func84 rfl rfl rfl rfl ?_; (conv => whnf))
  ((conv => whnf); repeat (first | (apply load_at; (conv => lhs; whnf); (with_reducible assumption); rfl; (conv => whnf)) | (apply load_at; (conv => lhs; rw [add_plain, add_plain]); (with_reducible assumption); rfl; (conv => whnf)) | (apply loads_at; (conv => lhs; whnf); (with_reducible assumption); rfl; (conv => whnf)) | (refine ⟨⟨by omega, by omega⟩, ?_⟩; (conv => whnf))))
  refine call_of h3 ?_
  rintro v F ⟨rfl, rfl⟩
  ((conv => whnf); repeat (first | (apply load_at; (conv => lhs; whnf); (with_reducible assumption); rfl; (conv => whnf)) | (apply load_at; (conv => lhs; rw [add_plain, add_plain]); (with_reducible assumption); rfl; (conv => whnf)) | (apply loads_at; (conv => lhs; whnf); (with_reducible assumption); rfl; (conv => whnf)) | (refine ⟨⟨by omega, by omega⟩, ?_⟩; (conv => whnf))))
  exact ⟨rfl, rfl⟩
theorem rgLoad {D F : Heap} {b lb : Nat} {r : RS} {q : Int} (hE : Ext D F) (hD : Rk D b r) (h : F lb = some (rgO b q)) (p : Int) :
    FnK Tryd.prog 40 #[.pointer (some ⟨lb, 0, none⟩), .int .i64 p] F (fun v F' => ∃ u, v = .tuple #[u, .int .i64 (loadE rsO r p)] ∧ NewRow F F' u (loadL rsO r p) ∧ Ext F F') := by
  obtain ⟨q', hb⟩ := rk_cell hD
  replace hb := hE _ _ hb
  have k2 := rhome (r.L.length : Int) p
  have k3 := fun F hE => rread (F := F) hE hD (homeI (r.L.length : Int) p)
  have hl := rread_len hD (homeI (r.L.length : Int) p)
  have k4 := fun A c F hr hc => runpack (rreadL r (homeI (r.L.length : Int) p)) A c F hr (by omega) hc
  have hLE : loadE rsO r p = if isPg (r.L.length : Int) p = true then rreadE r (homeI (r.L.length : Int) p) else 1 := rfl
  have hLL : loadL rsO r p = if isPg (r.L.length : Int) p = true then (if rreadE r (homeI (r.L.length : Int) p) ≠ 0 then [] else if unE (rreadL r (homeI (r.L.length : Int) p)) ≠ 0 ∨ unP (rreadL r (homeI (r.L.length : Int) p)) ≠ p then zeros240 else unD (rreadL r (homeI (r.L.length : Int) p))) else [] := rfl
  generalize loadE rsO r p = le at hLE
  generalize loadL rsO r p = ll at hLL
  generalize homeI (r.L.length : Int) p = hm at k2 k3 hl k4 hLE hLL
  generalize unP (rreadL r hm) = up at k4 hLL
  generalize unQ (rreadL r hm) = uq at k4
  generalize unE (rreadL r hm) = ue at k4 hLL
  generalize unD (rreadL r hm) = ud at k4 hLL
  generalize rreadL r hm = l at k3 k4 hl
  generalize rreadE r hm = re at k3 hLE hLL
  generalize isPg (r.L.length : Int) p = z at k2 hLE hLL
  (refine fn_walk tab_ok Tryd.func40 rfl rfl rfl rfl ?_; (conv => whnf))
  ((conv => whnf); repeat (first | (apply load_at; (conv => lhs; whnf); (with_reducible assumption); rfl; (conv => whnf)) | (apply load_at; (conv => lhs; rw [add_plain, add_plain]); (with_reducible assumption); rfl; (conv => whnf)) | (apply loads_at; (conv => lhs; whnf); (with_reducible assumption); rfl; (conv => whnf)) | (refine ⟨⟨by omega, by omega⟩, ?_⟩; (conv => whnf))))
  refine call_of (k2 F) ?_
  rintro v F ⟨rfl, rfl⟩
  refine short [0, 1, 24] [.pointer (some ⟨lb, 0, none⟩), .int .i64 p, .tuple #[.int .i64 hm, .bool z]] rfl fun ρ => ?_
  cases z with
  | false =>
    rw [if_neg (by decide)] at hLE hLL
    subst hLE hLL
    ((conv => whnf); repeat (first | (apply load_at; (conv => lhs; whnf); (with_reducible assumption); rfl; (conv => whnf)) | (apply load_at; (conv => lhs; rw [add_plain, add_plain]); (with_reducible assumption); rfl; (conv => whnf)) | (apply loads_at; (conv => lhs; whnf); (with_reducible assumption); rfl; (conv => whnf)) | (refine ⟨⟨by omega, by omega⟩, ?_⟩; (conv => whnf))))
    exact ⟨_, rfl, newRow_nil' _ _, Ext.refl _⟩
  | true =>
  rw [if_pos rfl] at hLE hLL
  ((conv => whnf); repeat (first | (apply load_at; (conv => lhs; whnf); (with_reducible assumption); rfl; (conv => whnf)) | (apply load_at; (conv => lhs; rw [add_plain, add_plain]); (with_reducible assumption); rfl; (conv => whnf)) | (apply loads_at; (conv => lhs; whnf); (with_reducible assumption); rfl; (conv => whnf)) | (refine ⟨⟨by omega, by omega⟩, ?_⟩; (conv => whnf))))
  refine call_of (k3 F hE) ?_
  rintro v F2 ⟨w, rfl, ⟨A, c, rfl, hc, hr, hf⟩, hE2⟩
  refine short [0, 1, 35] [.pointer (some ⟨lb, 0, none⟩), .int .i64 p, .tuple #[.slice A l.length c, .int .i64 re]] rfl fun ρ => ?_
  ((conv => whnf); repeat (first | (apply load_at; (conv => lhs; whnf); (with_reducible assumption); rfl; (conv => whnf)) | (apply load_at; (conv => lhs; rw [add_plain, add_plain]); (with_reducible assumption); rfl; (conv => whnf)) | (apply loads_at; (conv => lhs; whnf); (with_reducible assumption); rfl; (conv => whnf)) | (refine ⟨⟨by omega, by omega⟩, ?_⟩; (conv => whnf))))
  refine cond_split (fun h => ?_) (fun h => ?_)
  · have he : re ≠ 0 := by
      have h : (re != 0) = true := h
      simpa using h
    rw [if_pos he] at hLL
    subst hLE hLL
    ((conv => whnf); repeat (first | (apply load_at; (conv => lhs; whnf); (with_reducible assumption); rfl; (conv => whnf)) | (apply load_at; (conv => lhs; rw [add_plain, add_plain]); (with_reducible assumption); rfl; (conv => whnf)) | (apply loads_at; (conv => lhs; whnf); (with_reducible assumption); rfl; (conv => whnf)) | (refine ⟨⟨by omega, by omega⟩, ?_⟩; (conv => whnf))))
    exact ⟨_, rfl, newRow_nil' _ _, hE2⟩
  have he : ¬ re ≠ 0 := by
    have h : (re != 0) = false := h
    simpa using h
  rw [if_neg he] at hLL
  have he0 : le = 0 := by omega
  clear h
  ((conv => whnf); repeat (first | (apply load_at; (conv => lhs; whnf); (with_reducible assumption); rfl; (conv => whnf)) | (apply load_at; (conv => lhs; rw [add_plain, add_plain]); (with_reducible assumption); rfl; (conv => whnf)) | (apply loads_at; (conv => lhs; whnf); (with_reducible assumption); rfl; (conv => whnf)) | (refine ⟨⟨by omega, by omega⟩, ?_⟩; (conv => whnf))))
  refine call_of (k4 A c F2 hr hc) ?_
  rintro v F3 ⟨w, rfl, hw, hE3⟩
  have hE03 := hE2.trans hE3
  subst he0
  clear hLE he
  refine short [0, 1, 43] [.pointer (some ⟨lb, 0, none⟩), .int .i64 p, .tuple #[.int .i64 up, .int .i64 uq, w, .int .i64 ue]] rfl fun ρ => ?_
  have zz : (ue ≠ 0 ∨ up ≠ p) → ∀ (G : Heap) (g : Nat), F3 g = none → G = F3.put g (.cells (List.replicate 240 (Value.int .u8 0)).toArray 5) → NewRow F G (.slice (some ⟨g, 0, none⟩) 240 240) ll ∧ Ext F G := by
    intro hh G g hg e
    rw [if_pos hh] at hLL
    subst hLL e
    refine ⟨⟨some ⟨g, 0, none⟩, 240, rfl, Nat.le_refl _, ?_, fun a ha => ?_⟩, hE03.trans (Ext.new hg _)⟩
    · have := row_blk (Heap.put_same F3 g (.cells (List.replicate 240 (Value.int .u8 0)).toArray 5))
      rw [List.toList_toArray, zeros_bytes] at this
      exact this
    · injection ha with ha
      subst ha
      exact hE03.none hg
  ((conv => whnf); repeat (first | (apply load_at; (conv => lhs; whnf); (with_reducible assumption); rfl; (conv => whnf)) | (apply load_at; (conv => lhs; rw [add_plain, add_plain]); (with_reducible assumption); rfl; (conv => whnf)) | (apply loads_at; (conv => lhs; whnf); (with_reducible assumption); rfl; (conv => whnf)) | (refine ⟨⟨by omega, by omega⟩, ?_⟩; (conv => whnf))))
  refine cond_split (fun h => ?_) (fun h => ?_)
  · have hu : (ue == 0) = true := by
      have h : (!(ue != 0)) = true := h
      simpa using h
    have hu0 : ue = 0 := by simpa using hu
    clear h
    ((conv => whnf); repeat (first | (apply load_at; (conv => lhs; whnf); (with_reducible assumption); rfl; (conv => whnf)) | (apply load_at; (conv => lhs; rw [add_plain, add_plain]); (with_reducible assumption); rfl; (conv => whnf)) | (apply loads_at; (conv => lhs; whnf); (with_reducible assumption); rfl; (conv => whnf)) | (refine ⟨⟨by omega, by omega⟩, ?_⟩; (conv => whnf))))
    refine cond_split (fun h => ?_) (fun h => ?_)
    · have hp : up ≠ p := by
        have h : (up != p) = true := h
        simpa using h
      ((conv => whnf); repeat (first | (apply load_at; (conv => lhs; whnf); (with_reducible assumption); rfl; (conv => whnf)) | (apply load_at; (conv => lhs; rw [add_plain, add_plain]); (with_reducible assumption); rfl; (conv => whnf)) | (apply loads_at; (conv => lhs; whnf); (with_reducible assumption); rfl; (conv => whnf)) | (refine ⟨⟨by omega, by omega⟩, ?_⟩; (conv => whnf))))
      refine make_one tab_ok (z0 := .int .u8 0) 240 240 rfl rfl rfl rfl rfl ⟨rfl, by decide, _, rfl, rfl⟩ (by decide) (by decide) fun g h0_g => ?_
      obtain ⟨zr, zE⟩ := zz (.inr hp) _ g h0_g rfl
      generalize F3.put g _ = F4 at zr zE ⊢
      ((conv => whnf); repeat (first | (apply load_at; (conv => lhs; whnf); (with_reducible assumption); rfl; (conv => whnf)) | (apply load_at; (conv => lhs; rw [add_plain, add_plain]); (with_reducible assumption); rfl; (conv => whnf)) | (apply loads_at; (conv => lhs; whnf); (with_reducible assumption); rfl; (conv => whnf)) | (refine ⟨⟨by omega, by omega⟩, ?_⟩; (conv => whnf))))
      exact ⟨_, rfl, zr, zE⟩
    · have hp : ¬ up ≠ p := by
        have h : (up != p) = false := h
        simpa using h
      rw [if_neg (by rintro (e | e); exact e hu0; exact hp e)] at hLL
      subst hLL
      ((conv => whnf); repeat (first | (apply load_at; (conv => lhs; whnf); (with_reducible assumption); rfl; (conv => whnf)) | (apply load_at; (conv => lhs; rw [add_plain, add_plain]); (with_reducible assumption); rfl; (conv => whnf)) | (apply loads_at; (conv => lhs; whnf); (with_reducible assumption); rfl; (conv => whnf)) | (refine ⟨⟨by omega, by omega⟩, ?_⟩; (conv => whnf))))
      obtain ⟨A', c', rfl, g1, g2, g3⟩ := hw
      exact ⟨_, rfl, ⟨A', c', rfl, g1, g2, fun a ha => hE2.none (g3 a ha)⟩, hE03⟩
  · have hu : ue ≠ 0 := by
      have h : (!(ue != 0)) = false := h
      simpa using h
    ((conv => whnf); repeat (first | (apply load_at; (conv => lhs; whnf); (with_reducible assumption); rfl; (conv => whnf)) | (apply load_at; (conv => lhs; rw [add_plain, add_plain]); (with_reducible assumption); rfl; (conv => whnf)) | (apply loads_at; (conv => lhs; whnf); (with_reducible assumption); rfl; (conv => whnf)) | (refine ⟨⟨by omega, by omega⟩, ?_⟩; (conv => whnf))))
    refine make_one tab_ok (z0 := .int .u8 0) 240 240 rfl rfl rfl rfl rfl ⟨rfl, by decide, _, rfl, rfl⟩ (by decide) (by decide) fun g h0_g => ?_
    obtain ⟨zr, zE⟩ := zz (.inl hu) _ g h0_g rfl
    generalize F3.put g _ = F4 at zr zE ⊢
    ((conv => whnf); repeat (first | (apply load_at; (conv => lhs; whnf); (with_reducible assumption); rfl; (conv => whnf)) | (apply load_at; (conv => lhs; rw [add_plain, add_plain]); (with_reducible assumption); rfl; (conv => whnf)) | (apply loads_at; (conv => lhs; whnf); (with_reducible assumption); rfl; (conv => whnf)) | (refine ⟨⟨by omega, by omega⟩, ?_⟩; (conv => whnf))))
    exact ⟨_, rfl, zr, zE⟩
end Go.Proofs.YtmpiggcooboenaaDoor.Al
/- The reference's log: homes. -/
namespace Go.Proofs.YtmpiggcooboenaaDoor.Al
open Go Go.Al Go.Proofs Go.RowKit
set_option maxHeartbeats 8000000
set_option maxRecDepth 100000
set_option linter.unusedVariables false
set_option linter.unusedSimpArgs false
theorem rw_le (r : RS) (i : Int) (l : List UInt8) : (rwriteS r i l).done ≤ r.done + 1 ∧ (rwriteS r i l).L.length = r.L.length := by
  unfold rwriteS
  split
  · exact ⟨by omega, rfl⟩
  split
  · exact ⟨by show r.done ≤ _; omega, rfl⟩
  · split
    · exact ⟨Int.le_refl _, List.length_set⟩
    · exact ⟨by omega, rfl⟩
/-- A sector with its page. -/
structure RpR where
  pg : Int
  l : List UInt8
  A : Option Addr
  c : Nat
def rbV (p : RpR) : Value := .slice p.A p.l.length p.c
def riV (p : RpR) : Value := .int .i64 p.pg
def rhW (n : Int) (p : RpR) : Int × List UInt8 := (homeI n p.pg, p.l)
structure RpOk (G : Heap) (p : RpR) : Prop where
  row : RowAt G p.A (bytesOf p.l)
  len : p.l.length ≤ 900000
theorem RpOk.mono {F G : Heap} {p : RpR} (h : RpOk F p) (hE : Ext F G) : RpOk G p := ⟨h.row.mono hE, h.len⟩
theorem one_cell {F : Heap} {ad : Addr} {vs : List Value} {j : Nat} {v : Value} (hr : RowAt F (some ad) vs) (hj : vs[j]? = some v) : F.cell? (ad.add (Int.toNat (j : Int) * 1)) = some v := by
  rw [Int.toNat_natCast, Nat.mul_one]
  exact hr.cell hj
theorem rhomes {D F R : Heap} {b : Nat} {r : RS} (hE : Ext D F) (hD : Rk D b r) (hR : Ext R F) (hA : Apart D R) (rs : List RpR) (A1 A2 : Option Addr) (c1 c2 : Nat) (hr1 : RowAt R A1 (rs.map rbV)) (hr2 : RowAt R A2 (rs.map riV)) (hp : ∀ p ∈ rs, RpOk R p) (hl : rs.length ≤ 100000) (hw : r.done + rs.length < 1000000000) :
    FnK Tryd.prog 81 #[.pointer (some ⟨b, 0, none⟩), .slice A1 rs.length c1, .slice A2 rs.length c2] F (fun v F' => v = .int .i64 (runW rsO r (rs.map (rhW (r.L.length : Int)))).2 ∧ ∃ D', Moves D F D' F' ∧ Rk D' b (runW rsO r (rs.map (rhW (r.L.length : Int)))).1) := by
  obtain ⟨res, hres⟩ : ∃ q, q = runW rsO r (rs.map (rhW (r.L.length : Int))) := ⟨_, rfl⟩
  obtain ⟨N, hN⟩ : ∃ N, N = r.L.length := ⟨_, rfl⟩
  rw [← hres]
  rw [← hN] at hres
  (refine fn_walk tab_ok Tryd.func81 rfl rfl rfl rfl ?_; (conv => whnf))
  refine loop_slots [0, 1, 2, 7] (fun k vs F' => ∃ (i : Nat) (s1 : RS) (D1 : Heap), i + k = rs.length ∧ vs = [.pointer (some ⟨b, 0, none⟩), .slice A1 rs.length c1, .slice A2 rs.length c2, .int .i64 (i : Int)] ∧ Moves D F D1 F' ∧ Rk D1 b s1 ∧ s1.done + k < 1000000000 ∧ s1.L.length = N ∧ res = runW rsO s1 ((rs.drop i).map (rhW (N : Int)))) rs.length ⟨0, r, D, by omega, rfl, Moves.refl hE, hD, hw, hN.symm, hres⟩ ?_
  rintro k vs F1 ρ ⟨i, s1, D1, hik, rfl, hM, hD1, hw1, hn1, hrs⟩
  have hR1 := hM.keep hR hA
  have hA1 := hM.apart hR hA
  ((conv => whnf); repeat (first | (apply load_at; (conv => lhs; whnf); (with_reducible assumption); rfl; (conv => whnf)) | (apply load_at; (conv => lhs; rw [add_plain, add_plain]); (with_reducible assumption); rfl; (conv => whnf)) | (apply loads_at; (conv => lhs; whnf); (with_reducible assumption); rfl; (conv => whnf)) | (refine ⟨⟨by omega, by omega⟩, ?_⟩; (conv => whnf))))
  refine cond_split (fun h => ?_) (fun h => ?_)
  · have hi : i < rs.length := by
      have h : decide ((i : Int) < (rs.length : Int)) = true := h
      have := of_decide_eq_true h
      omega
    obtain ⟨ad1, rfl⟩ := hr1.some (by rw [List.length_map]; omega)
    obtain ⟨ad2, rfl⟩ := hr2.some (by rw [List.length_map]; omega)
    have hx : rs[i]? = some rs[i] := List.getElem?_eq_getElem hi
    have hok := (hp _ (List.getElem_mem hi)).mono hR1
    have hokR := hp _ (List.getElem_mem hi)
    rw [List.drop_eq_getElem_cons hi, List.map_cons, runW_cons] at hrs
    have h1 := one_cell (hr1.mono hR1) (v := rbV rs[i]) (by rw [List.getElem?_map, hx]; rfl)
    have h2 := one_cell (hr2.mono hR1) (v := riV rs[i]) (by rw [List.getElem?_map, hx]; rfl)
    generalize rs[i] = p at hok hokR hrs h1 h2
    obtain ⟨pg, pl, pA, pc⟩ := p
    have h1 : F1.cell? (ad1.add (Int.toNat (i : Int) * 1)) = some (.slice pA pl.length pc) := h1
    have h2 : F1.cell? (ad2.add (Int.toNat (i : Int) * 1)) = some (.int .i64 pg) := h2
    obtain ⟨q', hb⟩ := rk_cell hD1
    replace hb := hM.inn _ _ hb
    rw [hn1] at hb
    have kh := rhome (N : Int) pg
    obtain ⟨hle, hln⟩ := rw_le s1 (homeI (N : Int) pg) pl
    replace hrs : res = if rwriteE s1 (homeI (N : Int) pg) pl = 0 then runW rsO (rwriteS s1 (homeI (N : Int) pg) pl) ((rs.drop (i + 1)).map (rhW (N : Int))) else (rwriteS s1 (homeI (N : Int) pg) pl, rwriteE s1 (homeI (N : Int) pg) pl) := hrs
    generalize homeI (N : Int) pg = hm at kh hrs hle hln
    generalize isPg (N : Int) pg = z at kh
    have kw := fun F (hE : Ext D1 F) (hR : Ext R F) => rwrite hE hD1 hR hA1 pl pA pc hokR.row hok.len hm (by omega)
    generalize rwriteS s1 hm pl = s2 at hrs hle hln kw
    generalize rwriteE s1 hm pl = e2 at hrs kw
    ((conv => whnf); repeat (first | (apply load_at; (conv => lhs; whnf); (with_reducible assumption); rfl; (conv => whnf)) | (apply load_at; (conv => lhs; rw [add_plain, add_plain]); (with_reducible assumption); rfl; (conv => whnf)) | (apply loads_at; (conv => lhs; whnf); (with_reducible assumption); rfl; (conv => whnf)) | (refine ⟨⟨by omega, by omega⟩, ?_⟩; (conv => whnf))))
    refine draw_tree tab_ok (by kernel_rfl) [] (DT.row [0, 1, 2, 3, 4, 5, 6, 7, 8, 9, 10, 11, 12, 13, 14] .nil) (by kernel_rfl) ?_
    ((conv => whnf); repeat (first | (apply load_at; (conv => lhs; whnf); (with_reducible assumption); rfl; (conv => whnf)) | (apply load_at; (conv => lhs; rw [add_plain, add_plain]); (with_reducible assumption); rfl; (conv => whnf)) | (apply loads_at; (conv => lhs; whnf); (with_reducible assumption); rfl; (conv => whnf)) | (refine ⟨⟨by omega, by omega⟩, ?_⟩; (conv => whnf))))
    refine load_step h2 ?_
    ((conv => whnf); repeat (first | (apply load_at; (conv => lhs; whnf); (with_reducible assumption); rfl; (conv => whnf)) | (apply load_at; (conv => lhs; rw [add_plain, add_plain]); (with_reducible assumption); rfl; (conv => whnf)) | (apply loads_at; (conv => lhs; whnf); (with_reducible assumption); rfl; (conv => whnf)) | (refine ⟨⟨by omega, by omega⟩, ?_⟩; (conv => whnf))))
    refine call_of (kh F1) ?_
    rintro v F1 ⟨rfl, rfl⟩
    refine ⟨Ext.refl _, ?_⟩
    ((conv => whnf); repeat (first | (apply load_at; (conv => lhs; whnf); (with_reducible assumption); rfl; (conv => whnf)) | (apply load_at; (conv => lhs; rw [add_plain, add_plain]); (with_reducible assumption); rfl; (conv => whnf)) | (apply loads_at; (conv => lhs; whnf); (with_reducible assumption); rfl; (conv => whnf)) | (refine ⟨⟨by omega, by omega⟩, ?_⟩; (conv => whnf))))
    refine load_step h1 ?_
    ((conv => whnf); repeat (first | (apply load_at; (conv => lhs; whnf); (with_reducible assumption); rfl; (conv => whnf)) | (apply load_at; (conv => lhs; rw [add_plain, add_plain]); (with_reducible assumption); rfl; (conv => whnf)) | (apply loads_at; (conv => lhs; whnf); (with_reducible assumption); rfl; (conv => whnf)) | (refine ⟨⟨by omega, by omega⟩, ?_⟩; (conv => whnf))))
    refine call_of (kw F1 hM.inn hR1) ?_
    rintro v F4 ⟨rfl, D2, hM4, hD2⟩
    have hM5 := hM.trans hM4
    refine short [0, 1, 2, 7, 36] [.pointer (some ⟨b, 0, none⟩), .slice (some ad1) rs.length c1, .slice (some ad2) rs.length c2, .int .i64 (i : Int), .int .i64 e2] rfl fun ρ => ?_
    ((conv => whnf); repeat (first | (apply load_at; (conv => lhs; whnf); (with_reducible assumption); rfl; (conv => whnf)) | (apply load_at; (conv => lhs; rw [add_plain, add_plain]); (with_reducible assumption); rfl; (conv => whnf)) | (apply loads_at; (conv => lhs; whnf); (with_reducible assumption); rfl; (conv => whnf)) | (refine ⟨⟨by omega, by omega⟩, ?_⟩; (conv => whnf))))
    refine cond_split (fun h => ?_) (fun h => ?_)
    · have he : ¬ e2 = 0 := by
        have h : (e2 != 0) = true := h
        simpa using h
      rw [if_neg he] at hrs
      rw [hrs]
      ((conv => whnf); repeat (first | (apply load_at; (conv => lhs; whnf); (with_reducible assumption); rfl; (conv => whnf)) | (apply load_at; (conv => lhs; rw [add_plain, add_plain]); (with_reducible assumption); rfl; (conv => whnf)) | (apply loads_at; (conv => lhs; whnf); (with_reducible assumption); rfl; (conv => whnf)) | (refine ⟨⟨by omega, by omega⟩, ?_⟩; (conv => whnf))))
      exact ⟨rfl, D2, hM5, hD2⟩
    · have he : e2 = 0 := by
        have h : (e2 != 0) = false := h
        simpa using h
      rw [if_pos he] at hrs
      ((conv => whnf); repeat (first | (apply load_at; (conv => lhs; whnf); (with_reducible assumption); rfl; (conv => whnf)) | (apply load_at; (conv => lhs; rw [add_plain, add_plain]); (with_reducible assumption); rfl; (conv => whnf)) | (apply loads_at; (conv => lhs; whnf); (with_reducible assumption); rfl; (conv => whnf)) | (refine ⟨⟨by omega, by omega⟩, ?_⟩; (conv => whnf))))
      refine ⟨k - 1, by omega, i + 1, s2, D2, by omega, ?_, hM5, hD2, by omega, hln.trans hn1, hrs⟩
      rw [← wrap_succ (j := i) (by omega)]
      rfl
  · have hi : i = rs.length := by have := of_decide_eq_false h; omega
    subst hi
    rw [List.drop_length] at hrs
    ((conv => whnf); repeat (first | (apply load_at; (conv => lhs; whnf); (with_reducible assumption); rfl; (conv => whnf)) | (apply load_at; (conv => lhs; rw [add_plain, add_plain]); (with_reducible assumption); rfl; (conv => whnf)) | (apply loads_at; (conv => lhs; whnf); (with_reducible assumption); rfl; (conv => whnf)) | (refine ⟨⟨by omega, by omega⟩, ?_⟩; (conv => whnf))))
    refine call_of (rflush hM.inn hD1) ?_
    rintro v F4 ⟨rfl, D2, hM4, hD2⟩
    rw [hrs]
    ((conv => whnf); repeat (first | (apply load_at; (conv => lhs; whnf); (with_reducible assumption); rfl; (conv => whnf)) | (apply load_at; (conv => lhs; rw [add_plain, add_plain]); (with_reducible assumption); rfl; (conv => whnf)) | (apply loads_at; (conv => lhs; whnf); (with_reducible assumption); rfl; (conv => whnf)) | (refine ⟨⟨by omega, by omega⟩, ?_⟩; (conv => whnf))))
    exact ⟨rfl, D2, hM.trans hM4, hD2⟩
end Go.Proofs.YtmpiggcooboenaaDoor.Al
/- The reference's log: slots. -/
namespace Go.Proofs.YtmpiggcooboenaaDoor.Al
open Go Go.Al Go.Proofs Go.RowKit
set_option maxHeartbeats 8000000
set_option maxRecDepth 100000
set_option linter.unusedVariables false
set_option linter.unusedSimpArgs false
/-- Two rows of the call's own, and a part G of memory that they aren't in. -/
structure TwoM (F F1 : Heap) (S T : Value) (e1 z1 n1 : Nat) (xs : List Value) (e2 z2 n2 : Nat) (ys : List Value) (G : Heap) : Prop where
  s : Mine F F1 S e1 z1 n1 xs
  t : Mine F F1 T e2 z2 n2 ys
  ne : ∀ k, blk S = some k → blk T ≠ some k
  base : Ext G F1
  outS : ∀ k, blk S = some k → G k = none
  outT : ∀ k, blk T = some k → G k = none
section
variable {F F1 F2 G : Heap} {S T S2 : Value} {e1 z1 n1 e2 z2 n2 m1 : Nat} {xs ys us : List Value}
theorem TwoM.ext (h : TwoM F F1 S T e1 z1 n1 xs e2 z2 n2 ys G) (hE : Ext F1 F2) : TwoM F F2 S T e1 z1 n1 xs e2 z2 n2 ys G := ⟨h.s.mono hE, h.t.mono hE, h.ne, h.base.trans hE, h.outS, h.outT⟩
theorem TwoM.grow (h : TwoM F F1 S T e1 z1 n1 xs e2 z2 n2 ys G) (hE : Ext F1 F2) : TwoM F F2 S T e1 z1 n1 xs e2 z2 n2 ys (gain G F1 F2) := by
  have hb : ∀ {k}, F1 k ≠ none → gain G F1 F2 k = G k := fun {k} hk => by
    cases e : F1 k with
    | none => exact absurd e hk
    | some o => exact gain_old e
  refine ⟨h.s.mono hE, h.t.mono hE, h.ne, fun z o hz => ?_, fun k hk => by rw [hb (h.s.own.there hk)]; exact h.outS k hk, fun k hk => by rw [hb (h.t.own.there hk)]; exact h.outT k hk⟩
  cases e : F1 z with
  | none => rw [gain_new e] at hz; exact hz
  | some u => rw [gain_old e] at hz; exact hE _ _ (h.base _ _ hz)
theorem TwoM.pushS (h : TwoM F F1 S T e1 z1 n1 xs e2 z2 n2 ys G) (hO : Own F2 S2 e1 z1 m1 us) (hk : Keeps F1 F2 (blk S)) (hf : ∀ b, blk S2 = some b → blk S = some b ∨ F1 b = none) : TwoM F F2 S2 T e1 z1 m1 us e2 z2 n2 ys G := by
  refine ⟨⟨hO, fun k hk' => ?_, hk.ext h.s.ext h.s.fresh⟩, ⟨h.t.own.of_blk fun k o hk' ho => hk k o ho fun e => h.ne k e hk', h.t.fresh, hk.ext h.s.ext h.s.fresh⟩, fun k hk' => ?_, hk.ext h.base h.outS, fun k hk' => ?_, h.outT⟩
  · rcases hf k hk' with e | e
    · exact h.s.fresh k e
    · exact h.s.ext.none e
  · rcases hf k hk' with e | e
    · exact h.ne k e
    · exact fun e2 => h.t.own.there e2 e
  · rcases hf k hk' with e | e
    · exact h.outS k e
    · exact h.base.none e
theorem TwoM.swap (h : TwoM F F1 S T e1 z1 n1 xs e2 z2 n2 ys G) : TwoM F F1 T S e2 z2 n2 ys e1 z1 n1 xs G := ⟨h.t, h.s, fun k hk e => h.ne k e hk, h.base, h.outT, h.outS⟩
end
theorem rread_bad {r : RS} {i : Int} (h : rreadE r i ≠ 0) : unE (rreadL r i) ≠ 0 := by
  have e : rreadL r i = [] := by
    unfold rreadE at h
    unfold rreadL
    by_cases hd : r.down = true
    · rw [if_pos (.inl hd)]
    · rw [if_neg hd] at h
      by_cases hi : ¬ (0 ≤ i ∧ i < (r.L.length : Int))
      · rw [if_pos (.inr hi)]
      · rw [if_neg hi] at h
        exact absurd rfl h
  rw [e]
  decide
theorem rslots {D F : Heap} {b : Nat} {r : RS} (hE : Ext D F) (hD : Rk D b r) (n q : Int) (hn : 0 ≤ n) :
    FnK Tryd.prog 80 #[.pointer (some ⟨b, 0, none⟩), .int .i64 n, .int .i64 q] F (fun v F' => (∃ (rs : List RpR) (A1 A2 : Option Addr) (c1 c2 : Nat), v = .tuple #[.slice A1 rs.length c1, .slice A2 rs.length c2, .bool (wholeO rsO r n q).isSome] ∧ RowAt F' A1 (rs.map rbV) ∧ RowAt F' A2 (rs.map riV) ∧ (∀ a, A1 = some a → F a.block = none) ∧ (∀ a, A2 = some a → F a.block = none) ∧ (∀ p ∈ rs, RpOk F' p ∧ ∀ a, p.A = some a → F a.block = none) ∧ ((wholeO rsO r n q).isSome = true → wholeO rsO r n q = some (rs.map (rhW (r.L.length : Int))))) ∧ Ext F F') := by
  obtain ⟨q', hb⟩ := rk_cell hD
  replace hb := hE _ _ hb
  obtain ⟨N, hN⟩ : ∃ N, N = r.L.length := ⟨_, rfl⟩
  have hle := pagesN_le (N : Int)
  have k1 := fun F => rpages (N : Int) F
  have k2 := fun i F => rslot (N : Int) i F
  have k3 := fun i F hE => rread (F := F) hE hD i
  have k4 := fun i A c F hr hc => runpack (rreadL r i) A c F hr (by have := rread_len hD i; omega) hc
  have hln := fun i => rread_len hD i
  have hW : wholeO rsO r n q = if n > pagesN (N : Int) then none else whl rsO r q n.toNat 0 := by rw [hN]; rfl
  have hrec : ∀ k i : Nat, whl rsO r q (k + 1) i = if slotY rsO r q (i : Int) = true then (whl rsO r q k (i + 1)).map (slotP rsO r (i : Int) :: ·) else none := fun _ _ => rfl
  have h0 : ∀ i, whl rsO r q 0 i = some [] := fun _ => rfl
  have hY : ∀ i : Int, slotY rsO r q i = (isPg (N : Int) i && ((rreadE r (slotI (N : Int) i) == 0) && ((unE (rreadL r (slotI (N : Int) i)) == 0) && ((unQ (rreadL r (slotI (N : Int) i)) == q) && isPg (N : Int) (unP (rreadL r (slotI (N : Int) i))))))) := fun i => by rw [hN]; rfl
  have hSP : ∀ i : Int, slotP rsO r i = (homeI (N : Int) (unP (rreadL r (slotI (N : Int) i))), rreadL r (slotI (N : Int) i)) := fun i => by rw [hN]; rfl
  rw [← hN] at hb ⊢
  generalize wholeO rsO r n q = w at hW
  generalize whl rsO r q = wh at hW hrec h0
  (refine fn_walk tab_ok Tryd.func80 rfl rfl rfl rfl ?_; (conv => whnf))
  ((conv => whnf); repeat (first | (apply load_at; (conv => lhs; whnf); (with_reducible assumption); rfl; (conv => whnf)) | (apply load_at; (conv => lhs; rw [add_plain, add_plain]); (with_reducible assumption); rfl; (conv => whnf)) | (apply loads_at; (conv => lhs; whnf); (with_reducible assumption); rfl; (conv => whnf)) | (refine ⟨⟨by omega, by omega⟩, ?_⟩; (conv => whnf))))
  refine call_of (k1 F) ?_
  rintro v F ⟨rfl, rfl⟩
  ((conv => whnf); repeat (first | (apply load_at; (conv => lhs; whnf); (with_reducible assumption); rfl; (conv => whnf)) | (apply load_at; (conv => lhs; rw [add_plain, add_plain]); (with_reducible assumption); rfl; (conv => whnf)) | (apply loads_at; (conv => lhs; whnf); (with_reducible assumption); rfl; (conv => whnf)) | (refine ⟨⟨by omega, by omega⟩, ?_⟩; (conv => whnf))))
  refine cond_split (fun h => ?_) (fun h => ?_)
  · have hg : n > pagesN (N : Int) := of_decide_eq_true (show decide (n > pagesN (N : Int)) = true from h)
    rw [if_pos hg] at hW
    subst hW
    ((conv => whnf); repeat (first | (apply load_at; (conv => lhs; whnf); (with_reducible assumption); rfl; (conv => whnf)) | (apply load_at; (conv => lhs; rw [add_plain, add_plain]); (with_reducible assumption); rfl; (conv => whnf)) | (apply loads_at; (conv => lhs; whnf); (with_reducible assumption); rfl; (conv => whnf)) | (refine ⟨⟨by omega, by omega⟩, ?_⟩; (conv => whnf))))
    exact ⟨⟨[], none, none, 0, 0, rfl, RowAt.nil _ _, RowAt.nil _ _, (fun a h => by cases h), (fun a h => by cases h), (fun p h => by cases h), fun h => by cases h⟩, Ext.refl _⟩
  have hg : ¬ n > pagesN (N : Int) := of_decide_eq_false (show decide (n > pagesN (N : Int)) = false from h)
  rw [if_neg hg] at hW
  obtain ⟨m, rfl⟩ : ∃ m : Nat, n = (m : Int) := ⟨n.toNat, by omega⟩
  rw [Int.toNat_natCast] at hW
  clear h
  refine short [0, 1, 2, 9] [.pointer (some ⟨b, 0, none⟩), .int .i64 (m : Int), .int .i64 q, .int .i64 (N : Int)] rfl fun ρ => ?_
  ((conv => whnf); repeat (first | (apply load_at; (conv => lhs; whnf); (with_reducible assumption); rfl; (conv => whnf)) | (apply load_at; (conv => lhs; rw [add_plain, add_plain]); (with_reducible assumption); rfl; (conv => whnf)) | (apply loads_at; (conv => lhs; whnf); (with_reducible assumption); rfl; (conv => whnf)) | (refine ⟨⟨by omega, by omega⟩, ?_⟩; (conv => whnf))))
  refine loop_slots [0, 1, 2, 9, 10, 11, 12] (fun k vs F' => ∃ (i : Nat) (S T : Value) (rs : List RpR) (G : Heap), i + k = m ∧ rs.length = i ∧ vs = [.pointer (some ⟨b, 0, none⟩), .int .i64 (m : Int), .int .i64 q, .int .i64 (N : Int), S, T, .int .i64 (i : Int)] ∧ TwoM F F' S T 49 1 rs.length (rs.map rbV) 3 1 rs.length (rs.map riV) G ∧ (∀ p ∈ rs, RpOk G p ∧ ∀ a, p.A = some a → F a.block = none) ∧ w = (wh k i).map (rs.map (rhW (N : Int)) ++ ·)) m ⟨0, .slice none 0 0, .slice none 0 0, [], F, by omega, rfl, rfl, ⟨Mine.nil _ _ _ _ (Ext.refl _), Mine.nil _ _ _ _ (Ext.refl _), (fun k h => by cases h), Ext.refl _, (fun k h => by cases h), fun k h => by cases h⟩, (fun p h => by cases h), by rw [hW]; cases wh m 0 <;> rfl⟩ ?_
  rintro k vs F2 ρ ⟨i, S, T, rs, G, hik, hpi, rfl, hT, hok, hw⟩
  ((conv => whnf); repeat (first | (apply load_at; (conv => lhs; whnf); (with_reducible assumption); rfl; (conv => whnf)) | (apply load_at; (conv => lhs; rw [add_plain, add_plain]); (with_reducible assumption); rfl; (conv => whnf)) | (apply loads_at; (conv => lhs; whnf); (with_reducible assumption); rfl; (conv => whnf)) | (refine ⟨⟨by omega, by omega⟩, ?_⟩; (conv => whnf))))
  refine cond_split (fun h => ?_) (fun h => ?_)
  · have hi : i < m := by
      have h : decide ((i : Int) < (m : Int)) = true := h
      have := of_decide_eq_true h
      omega
    obtain ⟨k', rfl⟩ : ∃ k', k = k' + 1 := ⟨k - 1, by omega⟩
    have hE2 := hT.s.ext
    rw [hrec, hY, hSP] at hw
    have k2' := k2 (i : Int)
    rw [isPg_iff.2 (by omega : 0 ≤ (i : Int) ∧ (i : Int) < pagesN (N : Int)), Bool.true_and] at hw
    rw [isPg_iff.2 (by omega : 0 ≤ (i : Int) ∧ (i : Int) < pagesN (N : Int))] at k2'
    generalize slotI (N : Int) (i : Int) = si at hw k2'
    have k3' := k3 si
    have k4' := k4 si
    have hlen := hln si
    have hbad := rread_bad (r := r) (i := si)
    obtain ⟨hup, _⟩ := un_range (rreadL r si)
    generalize unP (rreadL r si) = up at hw k4' hup
    generalize unQ (rreadL r si) = uq at hw k4'
    generalize unE (rreadL r si) = ue at hw k4' hbad
    generalize unD (rreadL r si) = ud at k4'
    generalize rreadL r si = l at hw k3' k4' hlen
    generalize rreadE r si = re at hw k3' hbad
    ((conv => whnf); repeat (first | (apply load_at; (conv => lhs; whnf); (with_reducible assumption); rfl; (conv => whnf)) | (apply load_at; (conv => lhs; rw [add_plain, add_plain]); (with_reducible assumption); rfl; (conv => whnf)) | (apply loads_at; (conv => lhs; whnf); (with_reducible assumption); rfl; (conv => whnf)) | (refine ⟨⟨by omega, by omega⟩, ?_⟩; (conv => whnf))))
    refine call_of (k2' F2) ?_
    rintro v F2 ⟨rfl, rfl⟩
    ((conv => whnf); repeat (first | (apply load_at; (conv => lhs; whnf); (with_reducible assumption); rfl; (conv => whnf)) | (apply load_at; (conv => lhs; rw [add_plain, add_plain]); (with_reducible assumption); rfl; (conv => whnf)) | (apply loads_at; (conv => lhs; whnf); (with_reducible assumption); rfl; (conv => whnf)) | (refine ⟨⟨by omega, by omega⟩, ?_⟩; (conv => whnf))))
    refine call_of (k3' F2 (hE.trans hE2)) ?_
    rintro v F3 ⟨u, rfl, ⟨B, bc, rfl, hbc, hbr, hbf⟩, hE3⟩
    refine short [0, 1, 2, 9, 10, 11, 12, 44] [.pointer (some ⟨b, 0, none⟩), .int .i64 (m : Int), .int .i64 q, .int .i64 (N : Int), S, T, .int .i64 (i : Int), .tuple #[.slice B l.length bc, .int .i64 re]] rfl fun ρ => ?_
    ((conv => whnf); repeat (first | (apply load_at; (conv => lhs; whnf); (with_reducible assumption); rfl; (conv => whnf)) | (apply load_at; (conv => lhs; rw [add_plain, add_plain]); (with_reducible assumption); rfl; (conv => whnf)) | (apply loads_at; (conv => lhs; whnf); (with_reducible assumption); rfl; (conv => whnf)) | (refine ⟨⟨by omega, by omega⟩, ?_⟩; (conv => whnf))))
    refine call_of (k4' B bc F3 hbr hbc) ?_
    rintro v F4 ⟨u, rfl, _, hE4⟩
    have hE24 := hE3.trans hE4
    have hT4 := hT.grow hE24
    refine short [0, 1, 2, 9, 10, 11, 12, 15, 49] [.pointer (some ⟨b, 0, none⟩), .int .i64 (m : Int), .int .i64 q, .int .i64 (N : Int), S, T, .int .i64 (i : Int), .slice B l.length bc, .tuple #[.int .i64 up, .int .i64 uq, u, .int .i64 ue]] rfl fun ρ => ?_
    have bad : ∀ F', Ext F F' → w = none → (∃ (rs : List RpR) (A1 A2 : Option Addr) (c1 c2 : Nat), Value.tuple #[.slice none 0 0, .slice none 0 0, .bool false] = .tuple #[.slice A1 rs.length c1, .slice A2 rs.length c2, .bool w.isSome] ∧ RowAt F' A1 (rs.map rbV) ∧ RowAt F' A2 (rs.map riV) ∧ (∀ a, A1 = some a → F a.block = none) ∧ (∀ a, A2 = some a → F a.block = none) ∧ (∀ p ∈ rs, RpOk F' p ∧ ∀ a, p.A = some a → F a.block = none) ∧ (w.isSome = true → w = some (rs.map (rhW (N : Int))))) ∧ Ext F F' := by
      rintro F' hF rfl
      exact ⟨⟨[], none, none, 0, 0, rfl, RowAt.nil _ _, RowAt.nil _ _, (fun a h => by cases h), (fun a h => by cases h), (fun p h => by cases h), fun h => by cases h⟩, hF⟩
    ((conv => whnf); repeat (first | (apply load_at; (conv => lhs; whnf); (with_reducible assumption); rfl; (conv => whnf)) | (apply load_at; (conv => lhs; rw [add_plain, add_plain]); (with_reducible assumption); rfl; (conv => whnf)) | (apply loads_at; (conv => lhs; whnf); (with_reducible assumption); rfl; (conv => whnf)) | (refine ⟨⟨by omega, by omega⟩, ?_⟩; (conv => whnf))))
    refine cond_split (fun h => ?_) (fun h => ?_)
    rotate_left
    · have he : (ue == 0) = false := by
        have h : (!(ue != 0)) = false := h
        simpa using h
      rw [he, Bool.false_and, Bool.and_false, if_neg (by decide)] at hw
      ((conv => whnf); repeat (first | (apply load_at; (conv => lhs; whnf); (with_reducible assumption); rfl; (conv => whnf)) | (apply load_at; (conv => lhs; rw [add_plain, add_plain]); (with_reducible assumption); rfl; (conv => whnf)) | (apply loads_at; (conv => lhs; whnf); (with_reducible assumption); rfl; (conv => whnf)) | (refine ⟨⟨by omega, by omega⟩, ?_⟩; (conv => whnf))))
      exact bad _ hT4.s.ext hw
    have he : (ue == 0) = true := by
      have h : (!(ue != 0)) = true := h
      simpa using h
    have hre : (re == 0) = true := by
      rw [beq_iff_eq]
      cases e : decide (re = 0) with
      | true => exact of_decide_eq_true e
      | false => exact absurd (by simpa using he) (hbad (of_decide_eq_false e))
    rw [he, hre, Bool.true_and, Bool.true_and] at hw
    clear h
    ((conv => whnf); repeat (first | (apply load_at; (conv => lhs; whnf); (with_reducible assumption); rfl; (conv => whnf)) | (apply load_at; (conv => lhs; rw [add_plain, add_plain]); (with_reducible assumption); rfl; (conv => whnf)) | (apply loads_at; (conv => lhs; whnf); (with_reducible assumption); rfl; (conv => whnf)) | (refine ⟨⟨by omega, by omega⟩, ?_⟩; (conv => whnf))))
    refine cond_split (fun h => ?_) (fun h => ?_)
    rotate_left
    · have hq : (uq == q) = false := by
        have h : (!(uq != q)) = false := h
        simpa using h
      rw [hq, Bool.false_and, if_neg (by decide)] at hw
      ((conv => whnf); repeat (first | (apply load_at; (conv => lhs; whnf); (with_reducible assumption); rfl; (conv => whnf)) | (apply load_at; (conv => lhs; rw [add_plain, add_plain]); (with_reducible assumption); rfl; (conv => whnf)) | (apply loads_at; (conv => lhs; whnf); (with_reducible assumption); rfl; (conv => whnf)) | (refine ⟨⟨by omega, by omega⟩, ?_⟩; (conv => whnf))))
      exact bad _ hT4.s.ext hw
    have hq : (uq == q) = true := by
      have h : (!(uq != q)) = true := h
      simpa using h
    rw [hq, Bool.true_and] at hw
    clear h
    ((conv => whnf); repeat (first | (apply load_at; (conv => lhs; whnf); (with_reducible assumption); rfl; (conv => whnf)) | (apply load_at; (conv => lhs; rw [add_plain, add_plain]); (with_reducible assumption); rfl; (conv => whnf)) | (apply loads_at; (conv => lhs; whnf); (with_reducible assumption); rfl; (conv => whnf)) | (refine ⟨⟨by omega, by omega⟩, ?_⟩; (conv => whnf))))
    refine call_of (k1 F4) ?_
    rintro v F4 ⟨rfl, rfl⟩
    refine short [0, 1, 2, 9, 10, 11, 12, 15, 17, 61, 62, 64] [.pointer (some ⟨b, 0, none⟩), .int .i64 (m : Int), .int .i64 q, .int .i64 (N : Int), S, T, .int .i64 (i : Int), .slice B l.length bc, .int .i64 up, .bool false, .int .i64 up, .int .i64 (pagesN (N : Int))] (by
      have e2 : (uq != q) = false := by rw [bne, hq]; rfl
      rw [← e2]; rfl) fun ρ => ?_
    ((conv => whnf); repeat (first | (apply load_at; (conv => lhs; whnf); (with_reducible assumption); rfl; (conv => whnf)) | (apply load_at; (conv => lhs; rw [add_plain, add_plain]); (with_reducible assumption); rfl; (conv => whnf)) | (apply loads_at; (conv => lhs; whnf); (with_reducible assumption); rfl; (conv => whnf)) | (refine ⟨⟨by omega, by omega⟩, ?_⟩; (conv => whnf))))
    refine cond_split (fun h => ?_) (fun h => ?_)
    · have hz : isPg (N : Int) up = false := by
        have := of_decide_eq_true (show decide (up ≥ pagesN (N : Int)) = true from h)
        unfold isPg
        exact decide_eq_false (by omega)
      rw [hz, if_neg (by decide)] at hw
      ((conv => whnf); repeat (first | (apply load_at; (conv => lhs; whnf); (with_reducible assumption); rfl; (conv => whnf)) | (apply load_at; (conv => lhs; rw [add_plain, add_plain]); (with_reducible assumption); rfl; (conv => whnf)) | (apply loads_at; (conv => lhs; whnf); (with_reducible assumption); rfl; (conv => whnf)) | (refine ⟨⟨by omega, by omega⟩, ?_⟩; (conv => whnf))))
      exact bad _ hT4.s.ext hw
    have hz : isPg (N : Int) up = true := by
      have := of_decide_eq_false (show decide (up ≥ pagesN (N : Int)) = false from h)
      exact isPg_iff.2 (by omega)
    rw [hz, if_pos rfl] at hw
    clear h
    ((conv => whnf); repeat (first | (apply load_at; (conv => lhs; whnf); (with_reducible assumption); rfl; (conv => whnf)) | (apply load_at; (conv => lhs; rw [add_plain, add_plain]); (with_reducible assumption); rfl; (conv => whnf)) | (apply loads_at; (conv => lhs; whnf); (with_reducible assumption); rfl; (conv => whnf)) | (refine ⟨⟨by omega, by omega⟩, ?_⟩; (conv => whnf))))
    refine new_step (.cells #[.slice B l.length bc] 49) rfl fun g h0_g => ?_
    have hE_g := Ext.new h0_g (.cells #[.slice B l.length bc] 49)
    have hB_g := Heap.put_same F4 g (.cells #[.slice B l.length bc] 49)
    generalize F4.put g _ = F5 at hE_g hB_g ⊢
    have hT5 := hT4.ext hE_g
    have hr5 := row_blk hB_g
    ((conv => whnf); repeat (first | (apply load_at; (conv => lhs; whnf); (with_reducible assumption); rfl; (conv => whnf)) | (apply load_at; (conv => lhs; rw [add_plain, add_plain]); (with_reducible assumption); rfl; (conv => whnf)) | (apply loads_at; (conv => lhs; whnf); (with_reducible assumption); rfl; (conv => whnf)) | (refine ⟨⟨by omega, by omega⟩, ?_⟩; (conv => whnf))))
    refine append_own tab_ok (s := S) (n := rs.length) (xs := rs.map rbV) (m := 1) (ys := [.slice B l.length bc]) (y := .slice (some ⟨g, 0, none⟩) 1 1) rfl rfl rfl rfl rfl ⟨_, rfl, fun k h => by cases h⟩ ⟨_, rfl, rfl⟩ (by decide) hT5.s.own ⟨rfl, .inl ⟨_, _, rfl, hr5⟩⟩ (by simp [Value.oneCell']) (by show 2 * (rs.length + 1) * 24 ≤ _; omega) fun S6 F6 hO6 hk6 hf6 => ?_
    have hT6 := (hT5.pushS hO6 hk6 hf6).swap
    ((conv => whnf); repeat (first | (apply load_at; (conv => lhs; whnf); (with_reducible assumption); rfl; (conv => whnf)) | (apply load_at; (conv => lhs; rw [add_plain, add_plain]); (with_reducible assumption); rfl; (conv => whnf)) | (apply loads_at; (conv => lhs; whnf); (with_reducible assumption); rfl; (conv => whnf)) | (refine ⟨⟨by omega, by omega⟩, ?_⟩; (conv => whnf))))
    refine new_step (.cells #[.int .i64 up] 3) rfl fun e h0_e => ?_
    have hE_e := Ext.new h0_e (.cells #[.int .i64 up] 3)
    have hB_e := Heap.put_same F6 e (.cells #[.int .i64 up] 3)
    generalize F6.put e _ = F7 at hE_e hB_e ⊢
    have hT7 := hT6.ext hE_e
    have hr7 := row_blk hB_e
    ((conv => whnf); repeat (first | (apply load_at; (conv => lhs; whnf); (with_reducible assumption); rfl; (conv => whnf)) | (apply load_at; (conv => lhs; rw [add_plain, add_plain]); (with_reducible assumption); rfl; (conv => whnf)) | (apply loads_at; (conv => lhs; whnf); (with_reducible assumption); rfl; (conv => whnf)) | (refine ⟨⟨by omega, by omega⟩, ?_⟩; (conv => whnf))))
    refine append_own tab_ok (s := T) (n := rs.length) (xs := rs.map riV) (m := 1) (ys := [.int .i64 up]) (y := .slice (some ⟨e, 0, none⟩) 1 1) rfl rfl rfl rfl rfl ⟨_, rfl, fun k h => by cases h⟩ ⟨_, rfl, rfl⟩ (by decide) hT7.s.own ⟨rfl, .inl ⟨_, _, rfl, hr7⟩⟩ (by simp [Value.oneCell']) (by show 2 * (rs.length + 1) * 8 ≤ _; omega) fun T8 F8 hO8 hk8 hf8 => ?_
    have hT8 := (hT7.pushS hO8 hk8 hf8).swap
    have e1 : (rs ++ [(⟨up, l, B, bc⟩ : RpR)]).map rbV = rs.map rbV ++ [.slice B l.length bc] := List.map_append
    have e2 : (rs ++ [(⟨up, l, B, bc⟩ : RpR)]).map riV = rs.map riV ++ [.int .i64 up] := List.map_append
    have e3 : (rs ++ [(⟨up, l, B, bc⟩ : RpR)]).length = rs.length + 1 := List.length_append
    rw [← e1, ← e2, ← e3] at hT8
    ((conv => whnf); repeat (first | (apply load_at; (conv => lhs; whnf); (with_reducible assumption); rfl; (conv => whnf)) | (apply load_at; (conv => lhs; rw [add_plain, add_plain]); (with_reducible assumption); rfl; (conv => whnf)) | (apply loads_at; (conv => lhs; whnf); (with_reducible assumption); rfl; (conv => whnf)) | (refine ⟨⟨by omega, by omega⟩, ?_⟩; (conv => whnf))))
    refine ⟨k', by omega, i + 1, S6, T8, rs ++ [⟨up, l, B, bc⟩], gain G F2 F4, by omega, by rw [e3, hpi], ?_, hT8, fun x hx => ?_, ?_⟩
    · rw [← wrap_succ (j := i) (by omega)]
      rfl
    · rcases List.mem_append.1 hx with hx | hx
      · exact ⟨(hok x hx).1.mono (gain_ext hT.base), (hok x hx).2⟩
      · rw [List.mem_singleton] at hx
        subst hx
        exact ⟨⟨rowAt_gain (hbr.mono hE4) hbf, by show l.length ≤ 900000; omega⟩, fun a ha => hE2.none (hbf a ha)⟩
    · rw [hw]
      cases wh k' (i + 1) with
      | none => rfl
      | some us => show some (rs.map (rhW (N : Int)) ++ ((homeI (N : Int) up, l) :: us)) = some ((rs ++ [(⟨up, l, B, bc⟩ : RpR)]).map (rhW (N : Int)) ++ us); rw [List.map_append, List.append_assoc]; rfl
  · have hi : i = m := by
      have := of_decide_eq_false h
      omega
    obtain rfl : k = 0 := by omega
    rw [h0] at hw
    obtain ⟨A1, c1, rfl, _, hr1⟩ := hT.s.own.row
    obtain ⟨A2, c2, rfl, _, hr2⟩ := hT.t.own.row
    have hw : w = some (rs.map (rhW (N : Int)) ++ []) := hw
    rw [List.append_nil] at hw
    subst hw
    ((conv => whnf); repeat (first | (apply load_at; (conv => lhs; whnf); (with_reducible assumption); rfl; (conv => whnf)) | (apply load_at; (conv => lhs; rw [add_plain, add_plain]); (with_reducible assumption); rfl; (conv => whnf)) | (apply loads_at; (conv => lhs; whnf); (with_reducible assumption); rfl; (conv => whnf)) | (refine ⟨⟨by omega, by omega⟩, ?_⟩; (conv => whnf))))
    exact ⟨⟨rs, A1, A2, c1, c2, rfl, hr1, hr2, fun a ha => hT.s.fresh a.block (by rw [ha]; rfl), fun a ha => hT.t.fresh a.block (by rw [ha]; rfl), fun p hp => ⟨(hok p hp).1.mono hT.base, (hok p hp).2⟩, fun _ => rfl⟩, hT.s.ext⟩
end Go.Proofs.YtmpiggcooboenaaDoor.Al
/- The reference's log: Open, right. -/
namespace Go.Proofs.YtmpiggcooboenaaDoor.Al
open Go Go.Al Go.Proofs Go.RowKit
set_option maxHeartbeats 8000000
set_option maxRecDepth 100000
set_option linter.unusedVariables false
set_option linter.unusedSimpArgs false
def RgV (D F D' F' : Heap) (b : Nat) (w : Value) : Option Int → Prop
  | none => w = .pointer none
  | some q => ∃ lb, w = .pointer (some ⟨lb, 0, none⟩) ∧ (D lb = none → F lb = none) ∧ D' lb = none ∧ F' lb = some (rgO b q)
theorem rgOpen {D F : Heap} {b : Nat} {r : RS} (hE : Ext D F) (hD : Rk D b r) (hw : r.done + 40000 < 1000000000) :
    FnK Tryd.prog 36 #[.pointer (some ⟨b, 0, none⟩)] F (fun v F' => ∃ w D', v = .tuple #[w, .int .i64 (openS rsO r).2.1] ∧ Moves D F D' F' ∧ Rk D' b (openS rsO r).1 ∧ RgV D F D' F' b w (openS rsO r).2.2) := by
  have k1 := rread hE hD 0
  have hl := rread_len hD 0
  have k2 := fun A c F hr hc => runpack (rreadL r 0) A c F hr (by omega) hc
  obtain ⟨u1, u2, u3⟩ := un_range (rreadL r 0)
  have k3 := fun F hE => rslots (F := F) hE hD (unP (rreadL r 0)) (unQ (rreadL r 0)) u1
  have hwl := fun ws h => wholeO_len (o := rsO) (a := r) (n := unP (rreadL r 0)) (q := unQ (rreadL r 0)) (ws := ws) h
  have hle := pagesN_le (r.L.length : Int)
  have hO : openS rsO r = if (rdN rsO r).2.2 ≠ 0 then (r, (rdN rsO r).2.2, none) else
    match wholeO rsO r (rdN rsO r).1 (rdN rsO r).2.1 with
    | some ws => if (runW rsO r ws).2 ≠ 0 then ((runW rsO r ws).1, (runW rsO r ws).2, none) else ((runW rsO r ws).1, 0, some (rdN rsO r).2.1)
    | none => (r, 0, some (rdN rsO r).2.1) := rfl
  have hR : rdN rsO r = if rreadE r 0 = 0 then (unP (rreadL r 0), unQ (rreadL r 0), unE (rreadL r 0)) else (0, 0, rreadE r 0) := rfl
  replace hwl : ∀ ws, wholeO rsO r (unP (rreadL r 0)) (unQ (rreadL r 0)) = some ws → ws.length = (unP (rreadL r 0)).toNat ∧ unP (rreadL r 0) ≤ pagesN (r.L.length : Int) := hwl
  rw [hR] at hO
  clear hR
  generalize openS rsO r = os at hO
  generalize unP (rreadL r 0) = n at k2 k3 hwl hO
  generalize unQ (rreadL r 0) = q at k2 k3 hwl hO
  generalize unE (rreadL r 0) = e at k2 hO
  generalize unD (rreadL r 0) = d at k2
  generalize rreadL r 0 = l at k1 k2 hl
  generalize rreadE r 0 = re at k1 hO
  (refine fn_walk tab_ok Tryd.func36 rfl rfl rfl rfl ?_; (conv => whnf))
  refine call_of k1 ?_
  rintro v F1 ⟨u, rfl, ⟨A, c, rfl, hc, hr, hf⟩, hE1⟩
  refine short [0, 15] [.pointer (some ⟨b, 0, none⟩), .tuple #[.slice A l.length c, .int .i64 re]] rfl fun ρ => ?_
  ((conv => whnf); repeat (first | (apply load_at; (conv => lhs; whnf); (with_reducible assumption); rfl; (conv => whnf)) | (apply load_at; (conv => lhs; rw [add_plain, add_plain]); (with_reducible assumption); rfl; (conv => whnf)) | (apply loads_at; (conv => lhs; whnf); (with_reducible assumption); rfl; (conv => whnf)) | (refine ⟨⟨by omega, by omega⟩, ?_⟩; (conv => whnf))))
  refine cond_split (fun h => ?_) (fun h => ?_)
  · have he : re ≠ 0 := by
      have h : (re != 0) = true := h
      simpa using h
    rw [if_neg he] at hO
    dsimp only at hO
    rw [if_pos he] at hO
    subst hO
    ((conv => whnf); repeat (first | (apply load_at; (conv => lhs; whnf); (with_reducible assumption); rfl; (conv => whnf)) | (apply load_at; (conv => lhs; rw [add_plain, add_plain]); (with_reducible assumption); rfl; (conv => whnf)) | (apply loads_at; (conv => lhs; whnf); (with_reducible assumption); rfl; (conv => whnf)) | (refine ⟨⟨by omega, by omega⟩, ?_⟩; (conv => whnf))))
    exact ⟨_, D, rfl, Moves.ext hE hE1, hD, rfl⟩
  have he : re = 0 := by
    have h : (re != 0) = false := h
    simpa using h
  rw [if_pos he] at hO
  dsimp only at hO
  clear h
  ((conv => whnf); repeat (first | (apply load_at; (conv => lhs; whnf); (with_reducible assumption); rfl; (conv => whnf)) | (apply load_at; (conv => lhs; rw [add_plain, add_plain]); (with_reducible assumption); rfl; (conv => whnf)) | (apply loads_at; (conv => lhs; whnf); (with_reducible assumption); rfl; (conv => whnf)) | (refine ⟨⟨by omega, by omega⟩, ?_⟩; (conv => whnf))))
  refine call_of (k2 A c F1 hr hc) ?_
  rintro v F2 ⟨u, rfl, _, hE2⟩
  have hE02 := hE1.trans hE2
  refine short [0, 23] [.pointer (some ⟨b, 0, none⟩), .tuple #[.int .i64 n, .int .i64 q, u, .int .i64 e]] rfl fun ρ => ?_
  ((conv => whnf); repeat (first | (apply load_at; (conv => lhs; whnf); (with_reducible assumption); rfl; (conv => whnf)) | (apply load_at; (conv => lhs; rw [add_plain, add_plain]); (with_reducible assumption); rfl; (conv => whnf)) | (apply loads_at; (conv => lhs; whnf); (with_reducible assumption); rfl; (conv => whnf)) | (refine ⟨⟨by omega, by omega⟩, ?_⟩; (conv => whnf))))
  refine cond_split (fun h => ?_) (fun h => ?_)
  · have he : e ≠ 0 := by
      have h : (e != 0) = true := h
      simpa using h
    rw [if_pos he] at hO
    subst hO
    ((conv => whnf); repeat (first | (apply load_at; (conv => lhs; whnf); (with_reducible assumption); rfl; (conv => whnf)) | (apply load_at; (conv => lhs; rw [add_plain, add_plain]); (with_reducible assumption); rfl; (conv => whnf)) | (apply loads_at; (conv => lhs; whnf); (with_reducible assumption); rfl; (conv => whnf)) | (refine ⟨⟨by omega, by omega⟩, ?_⟩; (conv => whnf))))
    exact ⟨_, D, rfl, Moves.ext hE hE02, hD, rfl⟩
  have he : ¬ e ≠ 0 := by
    have h : (e != 0) = false := h
    simpa using h
  rw [if_neg he] at hO
  clear h
  ((conv => whnf); repeat (first | (apply load_at; (conv => lhs; whnf); (with_reducible assumption); rfl; (conv => whnf)) | (apply load_at; (conv => lhs; rw [add_plain, add_plain]); (with_reducible assumption); rfl; (conv => whnf)) | (apply loads_at; (conv => lhs; whnf); (with_reducible assumption); rfl; (conv => whnf)) | (refine ⟨⟨by omega, by omega⟩, ?_⟩; (conv => whnf))))
  refine call_of (k3 F2 (hE.trans hE02)) ?_
  rintro v F4 ⟨⟨rs, A1, A2, c1, c2, rfl, hr1, hr2, hf1, hf2, hok, hwo⟩, hE4⟩
  have hE04 := hE02.trans hE4
  generalize wholeO rsO r n q = wo at hO hwl hwo ⊢
  refine short [0, 7, 35] [.pointer (some ⟨b, 0, none⟩), .int .i64 q, .tuple #[.slice A1 rs.length c1, .slice A2 rs.length c2, .bool wo.isSome]] rfl fun ρ => ?_
  cases hws : wo with
  | none =>
    rw [hws] at hO
    subst hO
    ((conv => whnf); repeat (first | (apply load_at; (conv => lhs; whnf); (with_reducible assumption); rfl; (conv => whnf)) | (apply load_at; (conv => lhs; rw [add_plain, add_plain]); (with_reducible assumption); rfl; (conv => whnf)) | (apply loads_at; (conv => lhs; whnf); (with_reducible assumption); rfl; (conv => whnf)) | (refine ⟨⟨by omega, by omega⟩, ?_⟩; (conv => whnf))))
    refine new_step (rgO b q) rfl fun lb h0_lb => ?_
    have hE_lb := Ext.new h0_lb (rgO b q)
    have hB_lb := Heap.put_same F4 lb (rgO b q)
    generalize F4.put lb _ = F5 at hE_lb hB_lb ⊢
    ((conv => whnf); repeat (first | (apply load_at; (conv => lhs; whnf); (with_reducible assumption); rfl; (conv => whnf)) | (apply load_at; (conv => lhs; rw [add_plain, add_plain]); (with_reducible assumption); rfl; (conv => whnf)) | (apply loads_at; (conv => lhs; whnf); (with_reducible assumption); rfl; (conv => whnf)) | (refine ⟨⟨by omega, by omega⟩, ?_⟩; (conv => whnf))))
    exact ⟨_, D, rfl, Moves.ext hE (hE04.trans hE_lb), hD, lb, rfl, fun _ => hE04.none h0_lb, (hE.trans hE04).none h0_lb, hB_lb⟩
  | some ws =>
    have hws2 : ws = rs.map (rhW (r.L.length : Int)) := by
      have := hwo (by rw [hws]; rfl)
      rw [hws] at this
      exact Option.some.inj this
    obtain ⟨hl1, hl2⟩ := hwl ws hws
    rw [hws2, List.length_map] at hl1
    rw [hws, hws2] at hO
    dsimp only at hO
    have k5 := rhomes (hE.trans hE04) hD (newH_ext F F4) (newH_apart F4 hE) rs A1 A2 c1 c2 (newH_row hr1 fun a ha => hE02.none (hf1 a ha)) (newH_row hr2 fun a ha => hE02.none (hf2 a ha)) (fun p hp => ⟨newH_row (hok p hp).1.row fun a ha => hE02.none ((hok p hp).2 a ha), (hok p hp).1.len⟩) (by omega) (by omega)
    generalize runW rsO r (rs.map (rhW (r.L.length : Int))) = rw_ at k5 hO
    ((conv => whnf); repeat (first | (apply load_at; (conv => lhs; whnf); (with_reducible assumption); rfl; (conv => whnf)) | (apply load_at; (conv => lhs; rw [add_plain, add_plain]); (with_reducible assumption); rfl; (conv => whnf)) | (apply loads_at; (conv => lhs; whnf); (with_reducible assumption); rfl; (conv => whnf)) | (refine ⟨⟨by omega, by omega⟩, ?_⟩; (conv => whnf))))
    refine call_of k5 ?_
    rintro v F5 ⟨rfl, D5, hM5, hD5⟩
    have hM := (Moves.ext hE hE04).trans hM5
    have hMo := fun lb (h : F5 lb = none) (hd : D lb = none) => (show F lb = none from by
      cases e : F lb with
      | none => rfl
      | some o => rw [hM.out _ _ e hd] at h; cases h)
    obtain ⟨r1, r2⟩ := rw_
    dsimp only at hO hD5
    refine short [0, 7, 43] [.pointer (some ⟨b, 0, none⟩), .int .i64 q, .int .i64 r2] rfl fun ρ => ?_
    ((conv => whnf); repeat (first | (apply load_at; (conv => lhs; whnf); (with_reducible assumption); rfl; (conv => whnf)) | (apply load_at; (conv => lhs; rw [add_plain, add_plain]); (with_reducible assumption); rfl; (conv => whnf)) | (apply loads_at; (conv => lhs; whnf); (with_reducible assumption); rfl; (conv => whnf)) | (refine ⟨⟨by omega, by omega⟩, ?_⟩; (conv => whnf))))
    refine cond_split (fun h => ?_) (fun h => ?_)
    · have hr2 : r2 ≠ 0 := by
        have h : (r2 != 0) = true := h
        simpa using h
      rw [if_pos hr2] at hO
      subst hO
      ((conv => whnf); repeat (first | (apply load_at; (conv => lhs; whnf); (with_reducible assumption); rfl; (conv => whnf)) | (apply load_at; (conv => lhs; rw [add_plain, add_plain]); (with_reducible assumption); rfl; (conv => whnf)) | (apply loads_at; (conv => lhs; whnf); (with_reducible assumption); rfl; (conv => whnf)) | (refine ⟨⟨by omega, by omega⟩, ?_⟩; (conv => whnf))))
      exact ⟨_, D5, rfl, hM, hD5, rfl⟩
    · have hr2 : ¬ r2 ≠ 0 := by
        have h : (r2 != 0) = false := h
        simpa using h
      rw [if_neg hr2] at hO
      subst hO
      ((conv => whnf); repeat (first | (apply load_at; (conv => lhs; whnf); (with_reducible assumption); rfl; (conv => whnf)) | (apply load_at; (conv => lhs; rw [add_plain, add_plain]); (with_reducible assumption); rfl; (conv => whnf)) | (apply loads_at; (conv => lhs; whnf); (with_reducible assumption); rfl; (conv => whnf)) | (refine ⟨⟨by omega, by omega⟩, ?_⟩; (conv => whnf))))
      refine new_step (rgO b q) rfl fun lb h0_lb => ?_
      have hE_lb := Ext.new h0_lb (rgO b q)
      have hB_lb := Heap.put_same F5 lb (rgO b q)
      generalize F5.put lb _ = F6 at hE_lb hB_lb ⊢
      ((conv => whnf); repeat (first | (apply load_at; (conv => lhs; whnf); (with_reducible assumption); rfl; (conv => whnf)) | (apply load_at; (conv => lhs; rw [add_plain, add_plain]); (with_reducible assumption); rfl; (conv => whnf)) | (apply loads_at; (conv => lhs; whnf); (with_reducible assumption); rfl; (conv => whnf)) | (refine ⟨⟨by omega, by omega⟩, ?_⟩; (conv => whnf))))
      exact ⟨_, D5, rfl, hM.trans (Moves.ext hM.inn hE_lb), hD5, lb, rfl, hMo lb h0_lb, hM.inn.none h0_lb, hB_lb⟩
end Go.Proofs.YtmpiggcooboenaaDoor.Al
/- The reference's log: right. -/
namespace Go.Proofs.YtmpiggcooboenaaDoor.Al
open Go Go.Al Go.Proofs Go.RowKit
set_option maxHeartbeats 8000000
set_option maxRecDepth 100000
set_option linter.unusedVariables false
set_option linter.unusedSimpArgs false
end Go.Proofs.YtmpiggcooboenaaDoor.Al
/- The reference's log: Commit. -/
namespace Go.Proofs.YtmpiggcooboenaaDoor.Al
open Go Go.Al Go.Proofs Go.RowKit
set_option maxHeartbeats 8000000
set_option maxRecDepth 100000
set_option linter.unusedVariables false
set_option linter.unusedSimpArgs false
/-- What is known but for a part. -/
def restH (E F : Heap) : Heap := fun c => match E c with | none => F c | some _ => none
/-- A log's part of memory. -/
def Rg (E : Heap) (lb b : Nat) (r : RS) (q : Int) : Prop := ∃ D, Rk D b r ∧ D lb = none ∧ E = D.put lb (rgO b q) ∧ 0 ≤ q ∧ q ≤ 4611686018427387904
theorem TwoM.moves {R F1 F2 G D1 D2 : Heap} {S T : Value} {e1 z1 n1 e2 z2 n2 : Nat} {xs ys : List Value} (h : TwoM R F1 S T e1 z1 n1 xs e2 z2 n2 ys G) (hM : Moves D1 F1 D2 F2) (hRa : Apart D1 R) (hGa : Apart D1 G) (hS : ∀ k, blk S = some k → D1 k = none) (hT : ∀ k, blk T = some k → D1 k = none) :
    TwoM R F2 S T e1 z1 n1 xs e2 z2 n2 ys G ∧ Apart D2 R ∧ Apart D2 G ∧ (∀ k, blk S = some k → D2 k = none) ∧ ∀ k, blk T = some k → D2 k = none := by
  have key : ∀ k, D1 k = none → F1 k ≠ none → D2 k = none := fun k hk hf => by
    cases e : D2 k with
    | none => rfl
    | some o =>
      rcases hM.new k (by rw [e]; simp) with x | x
      · exact absurd hk x
      · exact absurd x hf
  refine ⟨⟨⟨h.s.own.of_blk fun k o hk ho => hM.out k o ho (hS k hk), h.s.fresh, hM.keep h.s.ext hRa⟩, ⟨h.t.own.of_blk fun k o hk ho => hM.out k o ho (hT k hk), h.t.fresh, hM.keep h.t.ext hRa⟩, h.ne, hM.keep h.base hGa, h.outS, h.outT⟩, hM.apart h.s.ext hRa, hM.apart h.base hGa, fun k hk => key k (hS k hk) (h.s.own.there hk), fun k hk => key k (hT k hk) (h.t.own.there hk)⟩
/-- Two rows of the call's own beside a part of memory that moves. -/
structure St (R F D F1 D2 : Heap) (S T : Value) (e1 z1 n1 : Nat) (xs : List Value) (e2 z2 n2 : Nat) (ys : List Value) (G : Heap) : Prop where
  tm : TwoM R F1 S T e1 z1 n1 xs e2 z2 n2 ys G
  mv : Moves D F D2 F1
  ga : Apart D2 G
  ra : Apart D2 R
  s2 : ∀ k, blk S = some k → D2 k = none
  t2 : ∀ k, blk T = some k → D2 k = none
  sf : ∀ k, blk S = some k → F k = none ∨ D k ≠ none
  tf : ∀ k, blk T = some k → F k = none ∨ D k ≠ none
  gl : ∀ c o, F c = some o → D c = none → R c = none → G c = none
section
variable {R F D F1 F2 D2 D3 G : Heap} {S T S2 : Value} {e1 z1 n1 e2 z2 n2 m1 : Nat} {xs ys us : List Value}
theorem St.grow (h : St R F D F1 D2 S T e1 z1 n1 xs e2 z2 n2 ys G) (hE : Ext F1 F2) : St R F D F2 D2 S T e1 z1 n1 xs e2 z2 n2 ys (gain G F1 F2) := by
  refine ⟨h.tm.grow hE, h.mv.trans (Moves.ext h.mv.inn hE), fun c hc => ?_, h.ra, h.s2, h.t2, h.sf, h.tf, fun c o hc hd hr => by rw [gain_old (h.mv.out _ _ hc hd)]; exact h.gl c o hc hd hr⟩
  cases e : D2 c with
  | none => exact absurd e hc
  | some o => rw [gain_old (h.mv.inn _ _ e)]; exact h.ga c hc
theorem St.pushS (h : St R F D F1 D2 S T e1 z1 n1 xs e2 z2 n2 ys G) (hO : Own F2 S2 e1 z1 m1 us) (hk : Keeps F1 F2 (blk S)) (hf : ∀ b, blk S2 = some b → blk S = some b ∨ F1 b = none) : St R F D F2 D2 S2 T e1 z1 m1 us e2 z2 n2 ys G := by
  refine ⟨h.tm.pushS hO hk hf, ⟨fun c o hc => ?_, fun c o hc hn => ?_, h.mv.new⟩, h.ga, h.ra, fun k hk' => ?_, h.t2, fun k hk' => ?_, h.tf, h.gl⟩
  · exact hk c o (h.mv.inn _ _ hc) fun e => by rw [h.s2 c e] at hc; cases hc
  · refine hk c o (h.mv.out _ _ hc hn) fun e => ?_
    rcases h.sf c e with x | x
    · rw [x] at hc; cases hc
    · exact x hn
  · rcases hf k hk' with e | e
    · exact h.s2 k e
    · exact h.mv.inn.none e
  · rcases hf k hk' with e | e
    · exact h.sf k e
    · cases hF : F k with
      | none => exact .inl rfl
      | some o =>
        refine .inr fun hn => ?_
        rw [h.mv.out _ _ hF hn] at e
        cases e
theorem St.swap (h : St R F D F1 D2 S T e1 z1 n1 xs e2 z2 n2 ys G) : St R F D F1 D2 T S e2 z2 n2 ys e1 z1 n1 xs G := ⟨h.tm.swap, h.mv, h.ga, h.ra, h.t2, h.s2, h.tf, h.sf, h.gl⟩
theorem St.moves (h : St R F D F1 D2 S T e1 z1 n1 xs e2 z2 n2 ys G) (hM : Moves D2 F1 D3 F2) : St R F D F2 D3 S T e1 z1 n1 xs e2 z2 n2 ys G := by
  obtain ⟨k1, k2, k3, k4, k5⟩ := h.tm.moves hM h.ra h.ga h.s2 h.t2
  exact ⟨k1, h.mv.trans hM, k3, k2, k4, k5, h.sf, h.tf, h.gl⟩
end
end Go.Proofs.YtmpiggcooboenaaDoor.Al
/- The reference's log: Commit. -/
namespace Go.Proofs.YtmpiggcooboenaaDoor.Al
open Go Go.Al Go.Proofs Go.RowKit
set_option maxHeartbeats 8000000
set_option maxRecDepth 100000
set_option linter.unusedVariables false
set_option linter.unusedSimpArgs false
end Go.Proofs.YtmpiggcooboenaaDoor.Al
/- Logs: the program's and the reference's go together, in plain Lean. -/
namespace Go.Proofs.YtmpiggcooboenaaDoor.Al
open Go Go.Al Go.Proofs Go.RowKit
set_option maxHeartbeats 8000000
set_option maxRecDepth 100000
set_option linter.unusedVariables false
set_option linter.unusedSimpArgs false
theorem sim_same {s : DS} {r : RS} (h : Sim s r) : SameR dsO s rsO r := ⟨h.sz, fun i => (sim_read h i).1, fun i => (sim_read h i).2⟩
theorem writeS_any {s : DS} (h : DWf s) (hw : s.writes < 1000000000) (i : Int) (l : List UInt8) : DWf (writeS s i l) := by
  by_cases h1 : 0 ≤ i ∧ i < s.size
  · by_cases h2 : l.length = 256
    · exact writeS_wf h h1 hw l h2
    · unfold writeS; rw [if_pos (.inr (.inr h2))]; exact h
  · unfold writeS; rw [if_pos (.inr (.inl h1))]; exact h
theorem sim_run : ∀ (ps : List (Int × List UInt8)) (s : DS) (r : RS), Sim s r → DWf s → s.writes + ps.length < 1000000000 → (runW dsO s ps).2 = (runW rsO r ps).2 ∧ Sim (runW dsO s ps).1 (runW rsO r ps).1 ∧ DWf (runW dsO s ps).1
  | [], s, r, h, hw, _ => ⟨(sim_flush h hw).1, (sim_flush h hw).2, flush_wf hw⟩
  | p :: ps, s, r, h, hw, hl => by
    rw [List.length_cons] at hl
    obtain ⟨e1, h1⟩ := sim_write h p.1 p.2
    have w1 := writeS_any hw (by omega) p.1 p.2
    have hle := (writes_le s p.1 p.2).1
    have ih := sim_run ps (writeS s p.1 p.2) (rwriteS r p.1 p.2) h1 w1 (by omega)
    rw [runW_cons, runW_cons]
    show (if writeE s p.1 p.2 = 0 then runW dsO (writeS s p.1 p.2) ps else (writeS s p.1 p.2, writeE s p.1 p.2)).2 = (if rwriteE r p.1 p.2 = 0 then runW rsO (rwriteS r p.1 p.2) ps else (rwriteS r p.1 p.2, rwriteE r p.1 p.2)).2 ∧ Sim (if writeE s p.1 p.2 = 0 then runW dsO (writeS s p.1 p.2) ps else (writeS s p.1 p.2, writeE s p.1 p.2)).1 (if rwriteE r p.1 p.2 = 0 then runW rsO (rwriteS r p.1 p.2) ps else (rwriteS r p.1 p.2, rwriteE r p.1 p.2)).1 ∧ DWf (if writeE s p.1 p.2 = 0 then runW dsO (writeS s p.1 p.2) ps else (writeS s p.1 p.2, writeE s p.1 p.2)).1
    rw [e1]
    by_cases h0 : rwriteE r p.1 p.2 = 0
    · rw [if_pos h0, if_pos h0]; exact ih
    · rw [if_neg h0, if_neg h0]; exact ⟨rfl, h1, w1⟩
theorem sim_open {s : DS} {r : RS} (h : Sim s r) (hw : DWf s) (hl : s.writes + 40000 < 1000000000) : (openS dsO s).2 = (openS rsO r).2 ∧ Sim (openS dsO s).1 (openS rsO r).1 ∧ (openS dsO s).1.writes ≤ s.writes + 40000 ∧ (openS dsO s).1.size = s.size := by
  have hS := sim_same h
  unfold openS
  rw [hS.rdN, hS.whole]
  generalize rdN rsO r = rn
  by_cases h0 : rn.2.2 ≠ 0
  · rw [if_pos h0, if_pos h0]
    exact ⟨rfl, h, (by omega : s.writes ≤ s.writes + 40000), rfl⟩
  rw [if_neg h0, if_neg h0]
  cases e : wholeO rsO r rn.1 rn.2.1 with
  | none => exact ⟨rfl, h, (by omega : s.writes ≤ s.writes + 40000), rfl⟩
  | some ws =>
    obtain ⟨l1, l2⟩ := wholeO_len e
    have hle := pagesN_le (rsO.sz r)
    have hn : (ws.length : Int) ≤ 32768 := by omega
    obtain ⟨e1, h1, w1⟩ := sim_run ws s r h hw (by omega)
    have hrl := runW_le ws s
    dsimp only
    rw [e1]
    by_cases h2 : (runW rsO r ws).2 ≠ 0
    · rw [if_pos h2, if_pos h2]
      exact ⟨rfl, h1, (by omega : (runW dsO s ws).1.writes ≤ s.writes + 40000), hrl.2⟩
    · rw [if_neg h2, if_neg h2]
      exact ⟨rfl, h1, (by omega : (runW dsO s ws).1.writes ≤ s.writes + 40000), hrl.2⟩
end Go.Proofs.YtmpiggcooboenaaDoor.Al
/- bytes.Repeat of one byte, 240 times; the laws' own words: page, some, all. -/
namespace Go.Proofs.YtmpiggcooboenaaDoor.Al
open Go Go.Al Go.Proofs Go.RowKit
set_option maxHeartbeats 8000000
set_option maxRecDepth 100000
set_option linter.unusedVariables false
set_option linter.unusedSimpArgs false
end Go.Proofs.YtmpiggcooboenaaDoor.Al
/- The laws' own words: some, all. -/
namespace Go.Proofs.YtmpiggcooboenaaDoor.Al
open Go Go.Al Go.Proofs Go.RowKit
set_option maxHeartbeats 8000000
set_option maxRecDepth 100000
set_option linter.unusedVariables false
set_option linter.unusedSimpArgs false
/-- Images of pages, each once, as the law makes them. -/
def someS (y : UInt8) : Nat → List UInt8 → List (Int × List UInt8) → List (Int × List UInt8)
  | _, [], acc => acc
  | i, n :: l, acc => someS y (i + 1) l (if acc.any (fun d => d.1 == ((n.toNat % 13 : Nat) : Int)) = true then acc else acc ++ [(((n.toNat % 13 : Nat) : Int), List.replicate 240 (y + UInt8.ofNat i))])
end Go.Proofs.YtmpiggcooboenaaDoor.Al
/- The laws' own words, 2: what some makes; a new log; all. -/
namespace Go.Proofs.YtmpiggcooboenaaDoor.Al
open Go Go.Al Go.Proofs Go.RowKit
set_option maxHeartbeats 8000000
set_option maxRecDepth 100000
set_option linter.unusedVariables false
set_option linter.unusedSimpArgs false
structure SomeOk (ps : List (Int × List UInt8)) : Prop where
  pg : ∀ p ∈ ps, (0 ≤ p.1 ∧ p.1 < 13) ∧ p.2.length = 240
  nod : (ps.map (·.1)).Nodup
theorem ims_nil {n q : Int} (hq : 0 ≤ q ∧ q ≤ 4611686018427387904) : Ims n q [] := ⟨fun p h => (by cases h), List.nodup_nil, (pagesN_le n).1, hq⟩
theorem new_up (n : Int) : Up (newS n) ∧ Calm (newS n) := ⟨⟨rfl, rfl⟩, ⟨fun _ => rfl, rfl⟩⟩
/-- A new log on a new disk. -/
abbrev fmtS (n : Int) : DS := (runW dsO (newS n) [(0, noteB 0 1)]).1
abbrev frsS (n : Int) : DS := (openS dsO (fmtS n)).1
structure Fresh (n : Int) (s : DS) : Prop where
  up : Up s
  wf : DWf s
  calm : Calm s
  size : s.size = n
  writes : s.writes = 1
  done : Done n 1 [] (secB s) (secB s)
  zero : ∀ k, k ≠ 0 → secB s k = List.replicate 256 0
theorem fmt_fresh {n : Int} (hn : 3 ≤ n ∧ n ≤ 65536) : (runW dsO (newS n) [(0, noteB 0 1)]).2 = 0 ∧ Fresh n (fmtS n) := by
  obtain ⟨u, c⟩ := new_up n
  have hI : Ims n 1 [] := ims_nil (by decide)
  have ho : OkW n [(0, noteB ((([] : List (Int × List UInt8)).length : Nat) : Int) 1)] := note_ok hn.1 hI
  obtain ⟨a1, a2, a3, a4, a5, a6, a7⟩ := runW_up [(0, noteB 0 1)] (newS n) u (newS_wf hn.1 hn.2) (by show (0 : Int) + ((1 : Nat) : Int) < _; omega) ho
  refine ⟨a1, a2, a3, a4, a7, a6.trans (by show (0 : Int) + ((1 : Nat) : Int) = 1; omega), ⟨⟨?_, fun j p h => (by cases h)⟩, fun x h => (by cases h), fun p _ _ => rfl⟩, fun k hk => ?_⟩
  · rw [a5, put_one, if_pos rfl]
    rfl
  · rw [a5, put_one, if_neg hk]
    rfl
theorem frs_fresh {n : Int} (hn : 3 ≤ n ∧ n ≤ 65536) : (openS dsO (fmtS n)).2 = (0, some 1) ∧ Fresh n (frsS n) := by
  obtain ⟨_, h⟩ := fmt_fresh hn
  show (openS dsO (fmtS n)).2 = (0, some 1) ∧ Fresh n (openS dsO (fmtS n)).1
  generalize fmtS n = s at h ⊢
  obtain ⟨u, w, c, sz, wr, d, z⟩ := h
  subst sz
  have hI : Ims s.size 1 [] := ims_nil (by decide)
  obtain ⟨b1, b2, b3, b4, b5, b6, b7, b8⟩ := open_up (cls_done (c0 := secB s) hn.1 hI) u w c (by omega) d
  obtain ⟨b9, b10⟩ := b8 [] (slots_whole hI d.slots)
  have e : secB (openS dsO s).1 = secB s := b9
  refine ⟨b1, b2, b3, b4, b5, by rw [b10, wr]; rfl, ?_, fun k hk => ?_⟩
  · show Done s.size 1 [] (secB (openS dsO s).1) (secB (openS dsO s).1)
    rw [e]; exact d
  · show secB (openS dsO s).1 k = _
    rw [e]; exact z k hk
/-- All pages, one behind the other. -/
def pgsN (g : Int → List UInt8) : Nat → List UInt8
  | 0 => []
  | n + 1 => pgsN g n ++ g (n : Int)
end Go.Proofs.YtmpiggcooboenaaDoor.Al
/- RedoLives: the law's calls, few and images, over what is known of memory. -/
namespace Go.Proofs.YtmpiggcooboenaaDoor.Al
open Go Go.Al Go.Proofs Go.RowKit
set_option maxHeartbeats 8000000
set_option maxRecDepth 100000
set_option linter.unusedVariables false
set_option linter.unusedSimpArgs false
structure LvR where
  op : Int
  i : Int
  byte : UInt8
  pgs : List Int
  P : Option Addr
  pc : Nat
  keep : List Int
  A : Option Addr
  c : Nat
def lvC (r : LvR) : List Value := [.int .i64 r.op, .int .i64 r.i, .int .u8 r.byte.toNat, .slice r.P r.pgs.length r.pc, .slice r.A r.keep.length r.c]
abbrev lvK : Kind (Int × (Int × (Int × ((List Int) × (List Int))))) := kPair 1 (kInt .i64) (kPair 1 (kInt .i64) (kPair 1 (kInt .u8) (kPair 1 (kSlice 1 (kInt .i64)) (kSlice 1 (kInt .i64)))))
abbrev lvWf : Int × (Int × (Int × ((List Int) × (List Int)))) → Prop := (fun p => (fun n => (Lit.int .i64 n).wf = true) p.1 ∧ (fun p => (fun n => (Lit.int .i64 n).wf = true) p.1 ∧ (fun p => (fun n => (Lit.int .u8 n).wf = true) p.1 ∧ (fun p => (fun xs => xs.length ≤ maxLen ∧ ∀ x ∈ xs, (fun n => (Lit.int .i64 n).wf = true) x) p.1 ∧ (fun xs => xs.length ≤ maxLen ∧ ∀ x ∈ xs, (fun n => (Lit.int .i64 n).wf = true) x) p.2) p.2) p.2) p.2)
structure LvOk (F : Heap) (r : LvR) : Prop where
  row : RowAt F r.A (r.keep.map (.int .i64))
  pgs : RowAt F r.P (r.pgs.map (.int .i64))
  i : -9223372036854775808 ≤ r.i ∧ r.i < 9223372036854775808
theorem LvOk.mono {F G : Heap} {r : LvR} (h : LvOk F r) (hE : Ext F G) : LvOk G r := ⟨h.row.mono hE, h.pgs.mono hE, h.i⟩
def fewV (r : LvR) : Bool := decide (r.keep.length ≤ 60) && decide (r.pgs.length ≤ 30)
def fewVs (rs : List LvR) : Bool := decide (rs.length ≤ 30) && rs.all fewV
end Go.Proofs.YtmpiggcooboenaaDoor.Al
/- RedoLives: the law's images, over what is known of memory. -/
namespace Go.Proofs.YtmpiggcooboenaaDoor.Al
open Go Go.Al Go.Proofs Go.RowKit
set_option maxHeartbeats 8000000
set_option maxRecDepth 100000
set_option linter.unusedVariables false
set_option linter.unusedSimpArgs false
def u8I (n : Int) : UInt8 := UInt8.ofNat (n % 256).toNat
def imgS (x : UInt8) (l : List Int) : List (Int × List UInt8) := l.map fun n => (n, List.replicate 240 (x + u8I n))
end Go.Proofs.YtmpiggcooboenaaDoor.Al
/- The laws' awake. -/
namespace Go.Proofs.YtmpiggcooboenaaDoor.Al
open Go Go.Al Go.Proofs Go.RowKit
set_option maxHeartbeats 8000000
set_option maxRecDepth 100000
set_option linter.unusedVariables false
set_option linter.unusedSimpArgs false
theorem lgv_take {D F D' F' : Heap} {b lb : Nat} {s : DS} {q : Int} (hM : Moves D F D' F') (hD : Dk D' b s) (h1 : D lb = none → F lb = none) (h2 : D' lb = none) (h3 : F' lb = some (lgO b q)) (hq : 0 ≤ q ∧ q ≤ 4611686018427387904) :
    Moves D F (D'.put lb (lgO b q)) F' ∧ Lg (D'.put lb (lgO b q)) lb b s q := by
  refine ⟨⟨fun c u hc => ?_, hM.out, fun c hc => ?_⟩, D', hD, h2, rfl, hq⟩
  · by_cases e : c = lb
    · subst e; rw [Heap.put_same] at hc; rw [h3]; exact hc
    · rw [Heap.put_other _ _ e] at hc; exact hM.inn c u hc
  · by_cases e : c = lb
    · subst e
      cases e2 : D c with
      | none => exact .inr (h1 e2)
      | some o => exact .inl (by simp)
    · rw [Heap.put_other _ _ e] at hc; exact hM.new c hc
theorem Lg.ext {E : Heap} {lb b : Nat} {s : DS} {q : Int} {F : Heap} (h : Lg E lb b s q) (hE : Ext E F) : ∃ D, Dk D b s ∧ Ext D F ∧ F lb = some (lgO b q) := by
  obtain ⟨D, h1, h2, h3⟩ := h.disk
  exact ⟨D, h1, h2.trans hE, hE _ _ h3⟩
def awkI : List (Int × List UInt8) := [(2, List.replicate 240 7), (0, List.replicate 240 8)]
end Go.Proofs.YtmpiggcooboenaaDoor.Al
/- RedoLives: two logs, each in its own part of memory. -/
namespace Go.Proofs.YtmpiggcooboenaaDoor.Al
open Go Go.Al Go.Proofs Go.RowKit
set_option maxHeartbeats 8000000
set_option maxRecDepth 100000
set_option linter.unusedVariables false
set_option linter.unusedSimpArgs false
structure Duo (F E X : Heap) : Prop where
  d : Ext E F
  x : Ext X F
  ap : Apart E X
section
variable {F F' E E' X X' D : Heap}
theorem Duo.onD (h : Duo F E X) (hM : Moves E F E' F') : Duo F' E' X ∧ Steps F E X F' E' X :=
  ⟨⟨hM.inn, hM.keep h.x h.ap, hM.apart h.x h.ap⟩, fun R h1 h2 h3 => ⟨hM.keep h1 h2, hM.apart h1 h2, h3⟩⟩
theorem Duo.onX (h : Duo F E X) (hM : Moves X F X' F') : Duo F' E X' ∧ Steps F E X F' E X' :=
  ⟨⟨hM.keep h.d h.ap.symm, hM.inn, (hM.apart h.d h.ap.symm).symm⟩, fun R h1 h2 h3 => ⟨hM.keep h1 h3, h2, hM.apart h1 h3⟩⟩
theorem Duo.ext (h : Duo F E X) (hE : Ext F F') : Duo F' E X ∧ Steps F E X F' E X :=
  ⟨⟨h.d.trans hE, h.x.trans hE, h.ap⟩, fun R h1 h2 h3 => ⟨h1.trans hE, h2, h3⟩⟩
end
/-- A log that may not be there. -/
def LgS (E : Heap) (b : Nat) (s : DS) (v : Value) : Option Int → Prop
  | none => v = .pointer none ∧ Dk E b s
  | some q => ∃ lb, v = .pointer (some ⟨lb, 0, none⟩) ∧ Lg E lb b s q
def RgS (E : Heap) (b : Nat) (r : RS) (v : Value) : Option Int → Prop
  | none => v = .pointer none ∧ Rk E b r
  | some q => ∃ lb, v = .pointer (some ⟨lb, 0, none⟩) ∧ Rg E lb b r q
theorem LgS.disk {E : Heap} {b : Nat} {s : DS} {v : Value} {o : Option Int} (h : LgS E b s v o) : ∃ D, Dk D b s ∧ Ext D E ∧ ∀ {F F' D' : Heap} {s' : DS}, Ext E F → Moves D F D' F' → Dk D' b s' → ∃ E', Moves E F E' F' ∧ LgS E' b s' v o := by
  cases o with
  | none =>
    obtain ⟨rfl, h⟩ := h
    exact ⟨E, h, Ext.refl E, fun {F F' D' s'} _ hM hD => ⟨D', hM, rfl, hD⟩⟩
  | some q =>
    obtain ⟨lb, rfl, D, hD, hdl, rfl, h1, h2⟩ := h
    refine ⟨D, hD, (Ext.refl D).put hdl _, fun {F F' D' s'} hE hM hD' => ?_⟩
    obtain ⟨m1, m2⟩ := moves_withB hM hdl (hE _ _ (Heap.put_same _ _ _))
    exact ⟨_, m1, lb, rfl, D', hD', m2, rfl, h1, h2⟩
theorem RgS.disk {E : Heap} {b : Nat} {r : RS} {v : Value} {o : Option Int} (h : RgS E b r v o) : ∃ D, Rk D b r ∧ Ext D E ∧ ∀ {F F' D' : Heap} {r' : RS}, Ext E F → Moves D F D' F' → Rk D' b r' → ∃ E', Moves E F E' F' ∧ RgS E' b r' v o := by
  cases o with
  | none =>
    obtain ⟨rfl, h⟩ := h
    exact ⟨E, h, Ext.refl E, fun {F F' D' r'} _ hM hD => ⟨D', hM, rfl, hD⟩⟩
  | some q =>
    obtain ⟨lb, rfl, D, hD, hdl, rfl, h1, h2⟩ := h
    refine ⟨D, hD, (Ext.refl D).put hdl _, fun {F F' D' r'} hE hM hD' => ?_⟩
    obtain ⟨m1, m2⟩ := moves_withB hM hdl (hE _ _ (Heap.put_same _ _ _))
    exact ⟨_, m1, lb, rfl, D', hD', m2, rfl, h1, h2⟩
theorem rgv_take {D F D' F' : Heap} {b lb : Nat} {r : RS} {q : Int} (hM : Moves D F D' F') (hD : Rk D' b r) (h1 : D lb = none → F lb = none) (h2 : D' lb = none) (h3 : F' lb = some (rgO b q)) (hq : 0 ≤ q ∧ q ≤ 4611686018427387904) :
    Moves D F (D'.put lb (rgO b q)) F' ∧ Rg (D'.put lb (rgO b q)) lb b r q := by
  refine ⟨⟨fun c u hc => ?_, hM.out, fun c hc => ?_⟩, D', hD, h2, rfl, hq⟩
  · by_cases e : c = lb
    · subst e; rw [Heap.put_same] at hc; rw [h3]; exact hc
    · rw [Heap.put_other _ _ e] at hc; exact hM.inn c u hc
  · by_cases e : c = lb
    · subst e
      cases e2 : D c with
      | none => exact .inr (h1 e2)
      | some o => exact .inl (by simp)
    · rw [Heap.put_other _ _ e] at hc; exact hM.new c hc
theorem onD {F E X : Heap} {b : Nat} {s s' : DS} {va w : Value} {o : Option Int} {f : Nat} {args : Array Value} (H : Duo F E X) (hL : LgS E b s va o) (hk : ∀ D, Dk D b s → Ext D F → Ext D E → FnK Tryd.prog f args F (fun v F' => v = w ∧ ∃ D', Moves D F D' F' ∧ Dk D' b s')) :
    FnK Tryd.prog f args F (fun v F' => v = w ∧ ∃ E', Duo F' E' X ∧ Steps F E X F' E' X ∧ LgS E' b s' va o) := by
  obtain ⟨D, hD, hDE, hu⟩ := hL.disk
  refine (hk D hD (hDE.trans H.d) hDE).mono ?_
  rintro v F' ⟨rfl, D', hM, hD'⟩
  obtain ⟨E', hM', hL'⟩ := hu H.d hM hD'
  exact ⟨rfl, E', (H.onD hM').1, (H.onD hM').2, hL'⟩
theorem onX {F E X : Heap} {b : Nat} {r r' : RS} {va w : Value} {o : Option Int} {f : Nat} {args : Array Value} (H : Duo F E X) (hL : RgS X b r va o) (hk : ∀ D, Rk D b r → Ext D F → Ext D X → FnK Tryd.prog f args F (fun v F' => v = w ∧ ∃ D', Moves D F D' F' ∧ Rk D' b r')) :
    FnK Tryd.prog f args F (fun v F' => v = w ∧ ∃ X', Duo F' E X' ∧ Steps F E X F' E X' ∧ RgS X' b r' va o) := by
  obtain ⟨D, hD, hDE, hu⟩ := hL.disk
  refine (hk D hD (hDE.trans H.x) hDE).mono ?_
  rintro v F' ⟨rfl, D', hM, hD'⟩
  obtain ⟨E', hM', hL'⟩ := hu H.x hM hD'
  exact ⟨rfl, E', (H.onX hM').1, (H.onX hM').2, hL'⟩
theorem Rg.disk {E : Heap} {lb b : Nat} {r : RS} {q : Int} (h : Rg E lb b r q) : ∃ D, Rk D b r ∧ Ext D E ∧ E lb = some (rgO b q) := by
  obtain ⟨D, h1, h2, rfl, _⟩ := h
  exact ⟨D, h1, (Ext.refl D).put h2 _, Heap.put_same _ _ _⟩
end Go.Proofs.YtmpiggcooboenaaDoor.Al
/- The logic of a known part of memory, 19: maps whose entries' stamps are in order; ranges over maps. It holds for every program. -/
namespace Go.Al
open Go

def WfE (es : List MapEntry) (cl : Nat) : Prop := (es.map (·.born)).Nodup ∧ ∀ e ∈ es, e.born < cl
def WfM (o : Obj) : Prop := ∃ es cl, o = .map es cl ∧ WfE es.toList cl
theorem WfM.nil (cl : Nat) : WfM (.map #[] cl) := ⟨#[], cl, rfl, List.nodup_nil, fun e h => by cases h⟩
/-- A map, and its entries' stamps in order. -/
def MapAtW (F : Heap) (m : Nat) (l : ML) : Prop := ∃ o, F m = some o ∧ MapO o l ∧ WfM o
theorem MapAtW.at_ {F : Heap} {m : Nat} {l : ML} (h : MapAtW F m l) : MapAt F m l := by
  obtain ⟨o, h1, h2, _⟩ := h
  exact ⟨o, h1, h2⟩
theorem MapAtW.mono {F G : Heap} {m : Nat} {l : ML} (h : MapAtW F m l) (hE : Ext F G) : MapAtW G m l := by
  obtain ⟨o, h1, h2, h3⟩ := h
  exact ⟨o, hE _ _ h1, h2, h3⟩
theorem MapAtW.put {F : Heap} {m : Nat} {o : Obj} {l : ML} (h : MapO o l) (hw : WfM o) : MapAtW (F.put m o) m l := ⟨o, Heap.put_same _ _ _, h, hw⟩
theorem MapAtW.open {F : Heap} {m : Nat} {l : ML} (h : MapAtW F m l) : ∃ es cl, F m = some (.map es cl) ∧ mapL es.toList l ∧ WfE es.toList cl := by
  obtain ⟨o, h1, ⟨es, cl, rfl, h2⟩, es', cl', h3, h4⟩ := h
  cases h3
  exact ⟨es, cl, h1, h2, h4⟩
theorem wfE_modify {es : Array MapEntry} {cl j : Nat} {f : MapEntry → MapEntry} (hf : ∀ e, (f e).born = e.born) (h : WfE es.toList cl) : WfE (es.modify j f).toList cl := by
  have e : (es.modify j f).toList.map (·.born) = es.toList.map (·.born) := by
    apply List.ext_getElem?
    intro n
    rw [Array.toList_modify, List.getElem?_map, List.getElem?_map, List.getElem?_modify]
    cases es.toList[n]? with
    | none => rfl
    | some x =>
      split
      · show some (f x).born = some x.born
        rw [hf]
      · rfl
  refine ⟨by rw [e]; exact h.1, fun x hx => ?_⟩
  have : x.born ∈ (es.modify j f).toList.map (·.born) := List.mem_map_of_mem hx
  rw [e] at this
  obtain ⟨y, hy, e2⟩ := List.mem_map.1 this
  rw [← e2]
  exact h.2 y hy
theorem wfE_push {es : Array MapEntry} {cl : Nat} {k v : Value} (h : WfE es.toList cl) : WfE (es.push ⟨k, v, cl⟩).toList (cl + 1) := by
  rw [Array.toList_push]
  refine ⟨?_, fun x hx => ?_⟩
  · rw [List.map_append, List.nodup_append]
    refine ⟨h.1, List.nodup_cons.2 ⟨List.not_mem_nil, List.nodup_nil⟩, fun a ha b hb e => ?_⟩
    obtain ⟨y, hy, rfl⟩ := List.mem_map.1 ha
    have hb := List.mem_singleton.1 hb
    have := h.2 y hy
    have hb : b = cl := hb
    omega
  · rcases List.mem_append.1 hx with hx | hx
    · exact Nat.lt_succ_of_lt (h.2 x hx)
    · rw [List.mem_singleton.1 hx]
      exact Nat.lt_succ_self _
theorem op_mapUpdateW {P : Program} {T : Tab} (hT : TabOk P T) {o : Oper} {ev : Operand → Value} {F : Heap} {K : Value → Heap → Prop} {t kt et : TypeId} {x i y : Operand} {m : Nat} {k : Int} {v : Value} {l : ML} {a1 a2 b1 b2 : Nat} {z1 z2 : Option Value}
    (ho : o.op = .mapUpdate t x i y) (hx : ev x = .map (some m)) (hi : ev i = .int .i64 k) (hy : ev y = v) (h1 : T t = some ⟨a1, a2, .map kt et, z1⟩) (h2 : T kt = some ⟨b1, b2, .int .i64, z2⟩)
    (hm : MapAtW F m l) (hk : ∀ o', MapO o' (setM l k v) → WfM o' → K undef (F.put m o')) : OpK P o ev F K := by
  obtain ⟨hu1, _⟩ := hT _ _ h1
  obtain ⟨hu2, _⟩ := hT _ _ h2
  obtain ⟨es, cl, hF, hes, hw⟩ := hm.open
  refine ⟨opW_wk ?_⟩
  simp only [execOp, ho, hx, hi, hy]
  unfold Instr.mapUpdate
  simp only [wk_bind]
  rw [wk_underlying hu1]
  dsimp only
  simp only [wk_bind]
  refine ⟨_, hF, (by intro c e fz h; cases h), ?_⟩
  rw [wk_pure']
  dsimp only
  simp only [wk_bind]
  refine wk_checkKey hu2 _ _ _ _ ?_
  unfold Instr.findKey
  rw [wk_bind, wk_underlying hu2, findNow_ints es.toList l k 0 hes]
  simp only [wk_pure]
  unfold setM at hk
  have hset : ∀ (o' : Obj) (K' : Unit → Heap → Prop), K' () (F.put m o') → wk P (setObj m o') F K' := fun o' K' h => ⟨⟨_, hF, (by intro c e fz h; cases h), (by intro d h; cases h)⟩, h⟩
  cases hf : findM l k 0 with
  | none =>
    rw [hf] at hk
    dsimp only at hk ⊢
    refine hset _ _ ?_
    refine hk _ ⟨_, _, rfl, ?_⟩ ⟨_, _, rfl, wfE_push hw⟩
    unfold mapL at hes ⊢
    simp [hes]
  | some q =>
    obtain ⟨j, u⟩ := q
    rw [hf] at hk
    obtain ⟨_, hj⟩ := findM_some l k 0 j u hf
    rw [Nat.sub_zero] at hj
    obtain ⟨e, he1, he2, he3⟩ := mapL_get hes hj
    have he1' : es[j]? = some e := by simpa using he1
    dsimp only at hk ⊢
    rw [he1']
    simp only [Option.map_some, Option.getD_some, he2, wk_bind]
    unfold Instr.keyThatStays
    rw [if_pos (by simp [Instr.sameBits])]
    simp only [wk_pure]
    refine hset _ _ ?_
    refine hk _ ⟨_, _, rfl, ?_⟩ ⟨_, _, rfl, wfE_modify (by intro e; rfl) hw⟩
    unfold mapL at hes ⊢
    apply List.ext_getElem?
    intro n
    have hn := congrArg (fun x => x[n]?) hes
    simp only [List.getElem?_map, Array.toList_modify, List.getElem?_modify, List.getElem?_set] at hn ⊢
    by_cases hjn : j = n
    · subst hjn
      have hlt : j < l.length := (List.getElem?_eq_some_iff.1 hj).1
      simp [he1, hlt]
    · simp only [hjn, if_false]
      simpa using hn
/-- A slice of many parts, when it is known what its cells are. -/
theorem op_buildSlice {P : Program} {T : Tab} (hT : TabOk P T) {o : Oper} {ev : Operand → Value} {F : Heap} {K : Value → Heap → Prop} {t e : TypeId} {n : Nat} {parts : Array (Nat × Operand)} {a1 a2 : Nat} {z1 : Option Value} {d : TD} {z cs : List Value}
    (ho : o.op = .buildSlice t n parts) (h1 : T t = some ⟨a1, a2, .slice e, z1⟩) (h2 : T e = some d) (h3 : zcells d = some z) (h4 : (Nat.beq z.length d.size && Nat.ble (n * d.size) 16777216 && Nat.blt 0 d.size) = true)
    (h5 : fillL (fun i => some (i * d.size, d.size)) (zerosL z n) (parts.toList.map fun p => (p.1, ev p.2)) = some cs)
    (hk : ∀ b, F b = none → K (.slice (some ⟨b, 0, none⟩) n n) (F.put b (.cells cs.toArray e))) : OpK P o ev F K := by
  refine ⟨stepK_sound hT ?_⟩
  unfold stepK
  have hv : isVal o.op = false := by rw [ho]; rfl
  rw [hv, cond_false]
  unfold memK
  simp only [ho, h1, h2, h3, h4, h5, cond_true]
  exact ⟨hk⟩
end Go.Al
/- Pagers: pages that were set, in plain Lean; a pager's part of memory. -/
namespace Go.Proofs.YtmpiggcooboenaaDoor.Al
open Go Go.Al Go.Proofs Go.RowKit
set_option maxHeartbeats 8000000
set_option maxRecDepth 100000
set_option linter.unusedVariables false
set_option linter.unusedSimpArgs false
abbrev PgL := List (Int × List UInt8)
def lkS : PgL → Int → Option (List UInt8)
  | [], _ => none
  | x :: t, k => if k = x.1 then some x.2 else lkS t k
def insS : PgL → Int → List UInt8 → PgL
  | [], p, d => [(p, d)]
  | x :: t, p, d => if x.1 < p then x :: insS t p d else if x.1 = p then (p, d) :: t else (p, d) :: x :: t
theorem lk_ins : ∀ (S : PgL) (p : Int) (d : List UInt8) (k : Int), lkS (insS S p d) k = if k = p then some d else lkS S k
  | [], p, d, k => rfl
  | x :: t, p, d, k => by
    unfold insS
    by_cases h1 : x.1 < p
    · rw [if_pos h1]
      show (if k = x.1 then some x.2 else lkS (insS t p d) k) = _
      rw [lk_ins t p d k]
      show _ = if k = p then some d else if k = x.1 then some x.2 else lkS t k
      by_cases e : k = x.1
      · rw [if_pos e, if_neg (show ¬ k = p by omega), if_pos e]
      · rw [if_neg e, if_neg e]
    · rw [if_neg h1]
      by_cases h2 : x.1 = p
      · rw [if_pos h2]
        show (if k = p then some d else lkS t k) = if k = p then some d else if k = x.1 then some x.2 else lkS t k
        by_cases e : k = p
        · rw [if_pos e, if_pos e]
        · rw [if_neg e, if_neg e, if_neg (show ¬ k = x.1 by omega)]
      · rw [if_neg h2]
        rfl
/-- Rising. -/
def SrtS (S : PgL) : Prop := S.Pairwise fun x y => x.1 < y.1
theorem ins_mem {S : PgL} {p : Int} {d : List UInt8} {y : Int × List UInt8} (h : y ∈ insS S p d) : y = (p, d) ∨ y ∈ S := by
  induction S with
  | nil => exact .inl (List.mem_singleton.1 h)
  | cons x t ih =>
    unfold insS at h
    split at h
    · rcases List.mem_cons.1 h with rfl | h
      · exact .inr List.mem_cons_self
      · rcases ih h with h | h
        · exact .inl h
        · exact .inr (List.mem_cons_of_mem _ h)
    · split at h
      · rcases List.mem_cons.1 h with rfl | h
        · exact .inl rfl
        · exact .inr (List.mem_cons_of_mem _ h)
      · rcases List.mem_cons.1 h with rfl | h
        · exact .inl rfl
        · exact .inr h
theorem ins_srt : ∀ {S : PgL}, SrtS S → ∀ (p : Int) (d : List UInt8), SrtS (insS S p d)
  | [], _, p, d => List.pairwise_singleton _ _
  | x :: t, h, p, d => by
    obtain ⟨h1, h2⟩ := List.pairwise_cons.1 h
    unfold insS
    by_cases e1 : x.1 < p
    · rw [if_pos e1]
      refine List.pairwise_cons.2 ⟨fun y hy => ?_, ins_srt h2 p d⟩
      rcases ins_mem hy with rfl | hy
      · exact e1
      · exact h1 y hy
    · rw [if_neg e1]
      by_cases e2 : x.1 = p
      · rw [if_pos e2]
        exact List.pairwise_cons.2 ⟨fun y hy => by have := h1 y hy; show p < y.1; omega, h2⟩
      · rw [if_neg e2]
        refine List.pairwise_cons.2 ⟨fun y hy => ?_, h⟩
        rcases List.mem_cons.1 hy with rfl | hy
        · show p < y.1; omega
        · have := h1 y hy; show p < y.1; omega
/-- What calls say and do. -/
def pgE {α : Type} (o : DOps α) (a : α) (S : PgL) (p : Int) : Int := match lkS S p with | some _ => 0 | none => loadE o a p
def pgD {α : Type} (o : DOps α) (a : α) (S : PgL) (p : Int) : List UInt8 := match lkS S p with | some d => d | none => loadL o a p
def psE (n p : Int) (d : List UInt8) : Int := if isPg n p = true ∧ d.length = 240 then 0 else 1
def psS (n : Int) (S : PgL) (p : Int) (d : List UInt8) : PgL := if isPg n p = true ∧ d.length = 240 then insS S p d else S
theorem ps_srt {n : Int} {S : PgL} (h : SrtS S) (p : Int) (d : List UInt8) : SrtS (psS n S p d) := by
  unfold psS
  split
  · exact ins_srt h p d
  · exact h
/-- All that was set are pages of the disk. -/
def OkS (n : Int) (S : PgL) : Prop := ∀ x ∈ S, isPg n x.1 = true ∧ x.2.length = 240
theorem ps_ok {n : Int} {S : PgL} (h : OkS n S) (p : Int) (d : List UInt8) : OkS n (psS n S p d) := by
  unfold psS
  split
  · next c =>
    intro x hx
    rcases ins_mem hx with rfl | hx
    · exact c
    · exact h x hx
  · exact h
/-- One part of memory over another one. -/
def joinH (A B : Heap) : Heap := fun c => match A c with | some o => some o | none => B c
theorem joinH_l {A B : Heap} {c : Nat} {o : Obj} (h : A c = some o) : joinH A B c = some o := by unfold joinH; rw [h]
theorem joinH_r {A B : Heap} {c : Nat} (h : A c = none) : joinH A B c = B c := by unfold joinH; rw [h]
/-- What happens to a part of a part. -/
theorem moves_in {D L F L' F' : Heap} (hL : Ext L D) (hD : Ext D F) (hM : Moves L F L' F') : Moves D F (joinH L' (restH L D)) F' ∧ Ext L' (joinH L' (restH L D)) ∧ (∀ c, L c = none → L' c = none → joinH L' (restH L D) c = D c) ∧ ∀ c o, D c = some o → L c = none → L' c = none := by
  have hn : ∀ c o, D c = some o → L c = none → L' c = none := fun c o hc hl => by
    cases e : L' c with
    | none => rfl
    | some u =>
      rcases hM.new c (by rw [e]; simp) with h | h
      · exact absurd hl h
      · rw [hD _ _ hc] at h; cases h
  refine ⟨⟨fun c o hc => ?_, fun c o hc hd => ?_, fun c hc => ?_⟩, fun c o hc => joinH_l hc, fun c h1 h2 => ?_, hn⟩
  · cases e : L' c with
    | some u => rw [joinH_l e] at hc; rw [← hc]; exact hM.inn _ _ e
    | none =>
      rw [joinH_r e] at hc
      unfold restH at hc
      split at hc
      · next h => exact hM.out _ _ (hD _ _ hc) h
      · cases hc
  · exact hM.out _ _ hc (hL.none hd)
  · cases e : L' c with
    | some u =>
      rcases hM.new c (by rw [e]; simp) with h | h
      · refine .inl fun hd => h (hL.none hd)
      · exact .inr h
    | none =>
      rw [joinH_r e] at hc
      unfold restH at hc
      split at hc
      · exact .inl hc
      · exact absurd rfl hc
  · rw [joinH_r h2]
    unfold restH
    rw [h1]
theorem join_keep {D L F L' F' G : Heap} (hL : Ext L D) (hD : Ext D F) (hM : Moves L F L' F') (hG : Ext G D) (hA : Apart L G) : Ext G (joinH L' (restH L D)) ∧ Apart L' G := by
  obtain ⟨_, _, h3, h4⟩ := moves_in hL hD hM
  have hl : ∀ c o, G c = some o → L c = none := fun c o hc => by
    cases e : L c with
    | none => rfl
    | some u => rw [hA c (by rw [e]; simp)] at hc; cases hc
  refine ⟨fun c o hc => ?_, fun c hc => ?_⟩
  · have e := hl c o hc
    rw [h3 c e (h4 c o (hG _ _ hc) e)]
    exact hG _ _ hc
  · cases e : G c with
    | none => rfl
    | some o => exact absurd (h4 c o (hG _ _ e) (hl c o e)) hc
theorem MapAt.at_ {F G : Heap} {m : Nat} {l : ML} (h : MapAt F m l) (e : G m = F m) : MapAt G m l := by
  obtain ⟨o, h1, h2⟩ := h
  exact ⟨o, by rw [e]; exact h1, h2⟩
/-- What the map of a pager tells. -/
structure MapP (G : Heap) (m : ML) (S : PgL) : Prop where
  no : ∀ k, getM m k = none → lkS S k = none
  yes : ∀ k v, getM m k = some v → ∃ l, lkS S k = some l ∧ l.length = 240 ∧ VRow G v l
theorem MapP.mono {G F : Heap} {m : ML} {S : PgL} (h : MapP G m S) (hE : Ext G F) : MapP F m S :=
  ⟨h.no, fun k v hv => by
    obtain ⟨l, h1, h2, h3⟩ := h.yes k v hv
    exact ⟨l, h1, h2, h3.mono hE⟩⟩
theorem MapP.nil (G : Heap) : MapP G [] [] := ⟨fun _ _ => rfl, fun k v h => by cases h⟩
theorem MapP.set {G : Heap} {m : ML} {S : PgL} (h : MapP G m S) {i : Int} {v : Value} {l : List UInt8} (hl : l.length = 240) (hv : VRow G v l) : MapP G (setM m i v) (insS S i l) := by
  refine ⟨fun k hk => ?_, fun k u hk => ?_⟩
  · rw [getM_setM] at hk
    rw [lk_ins]
    by_cases e : k = i
    · rw [if_pos e] at hk; cases hk
    · rw [if_neg e] at hk ⊢; exact h.no k hk
  · rw [getM_setM] at hk
    rw [lk_ins]
    by_cases e : k = i
    · rw [if_pos e] at hk ⊢
      cases hk
      exact ⟨l, rfl, hl, hv⟩
    · rw [if_neg e] at hk ⊢; exact h.yes k u hk
theorem findM_no : ∀ (l : ML) (k : Int) (i : Nat), findM l k i = none ↔ k ∉ l.map (·.1)
  | [], k, i => ⟨fun _ => List.not_mem_nil, fun _ => rfl⟩
  | p :: l, k, i => by
    rw [findM_cons, List.map_cons, List.mem_cons]
    by_cases e : k = p.1
    · rw [if_pos (by simpa using e)]
      exact ⟨(fun h => by cases h), fun h => absurd (.inl e) h⟩
    · rw [if_neg (by simpa using e), findM_no l k (i + 1)]
      exact ⟨fun h h2 => h2.elim e h, fun h h2 => h (.inr h2)⟩
theorem setM_nodup {l : ML} (h : (l.map (·.1)).Nodup) (k : Int) (v : Value) : ((setM l k v).map (·.1)).Nodup := by
  unfold setM
  cases hf : findM l k 0 with
  | none =>
    have := (findM_no l k 0).1 hf
    dsimp only
    rw [List.map_append, List.nodup_append]
    refine ⟨h, List.nodup_cons.2 ⟨List.not_mem_nil, List.nodup_nil⟩, fun a ha b hb e => ?_⟩
    have hb : b = k := List.mem_singleton.1 hb
    exact this (by rw [← hb, ← e]; exact ha)
  | some q =>
    obtain ⟨j, u⟩ := q
    obtain ⟨_, hj⟩ := findM_some l k 0 j u hf
    rw [Nat.sub_zero] at hj
    dsimp only
    have e : (l.set j (k, v)).map (·.1) = l.map (·.1) := by
      rw [List.map_set]
      apply List.ext_getElem?
      intro n
      rw [List.getElem?_set, List.getElem?_map]
      by_cases c : j = n
      · subst c
        rw [if_pos rfl, hj, List.length_map, if_pos (List.getElem?_eq_some_iff.1 hj).1]
        rfl
      · rw [if_neg c]
    rw [e]
    exact h
abbrev pgO (lb ms : Nat) : Obj := .cells #[.pointer (some ⟨lb, 0, none⟩), .map (some ms)] 141
structure PgP (D : Heap) (pb lb b ms : Nat) (L : Heap) (lS : ML) (G : Heap) (s : DS) (q : Int) (S : PgL) : Prop where
  cell : D pb = some (pgO lb ms)
  log : Lg L lb b s q
  map : MapAtW D ms lS
  baseL : Ext L D
  base : Ext G D
  lp : L pb = none
  lm : L ms = none
  gp : G pb = none
  gm : G ms = none
  lg : Apart L G
  rs : MapP G lS S
  nd : (lS.map (·.1)).Nodup
def Pg (D : Heap) (pb : Nat) (s : DS) (q : Int) (S : PgL) : Prop := SrtS S ∧ OkS s.size S ∧ ∃ lb b ms L lS G, PgP D pb lb b ms L lS G s q S
theorem PgP.msp {D : Heap} {pb lb b ms : Nat} {L : Heap} {lS : ML} {G : Heap} {s : DS} {q : Int} {S : PgL} (h : PgP D pb lb b ms L lS G s q S) : ms ≠ pb := h.map.at_.not_cells h.cell
/-- A page's new bytes. -/
theorem PgP.set {D F F' : Heap} {pb lb b ms : Nat} {L : Heap} {lS : ML} {G : Heap} {s : DS} {q : Int} {S : PgL} (h : PgP D pb lb b ms L lS G s q S) (hE : Ext D F) (hE2 : Ext F F') {i : Int} {v : Value} {l : List UInt8} (hl : l.length = 240) (hv : NewRow F F' v l) {o' : Obj} (ho : MapO o' (setM lS i v)) (hw : WfM o') :
    Moves D F ((gain D F F').put ms o') (F'.put ms o') ∧ PgP ((gain D F F').put ms o') pb lb b ms L (setM lS i v) (gain G F F') s q (insS S i l) := by
  have hm := Moves.gain hE hE2
  have hg := gain_ext (F' := F') hE
  have hold : ∀ c, D c ≠ none → gain G F F' c = G c := fun c hc => by
    cases e : D c with
    | none => exact absurd e hc
    | some o => exact gain_old (hE _ _ e)
  have hms : D ms ≠ none := by obtain ⟨o, h1, _⟩ := h.map; rw [h1]; simp
  have hpb : D pb ≠ none := by rw [h.cell]; simp
  have hG : Ext G (gain G F F') := gain_ext (h.base.trans hE)
  have hGD : Ext (gain G F F') (gain D F F') := fun c o hc => by
    cases e : F c with
    | none => rw [gain_new e] at hc ⊢; exact hc
    | some u => rw [gain_old e] at hc ⊢; exact h.base _ _ hc
  refine ⟨hm.trans (Moves.put hm.inn (.inl fun e => hms (hg.none e)) _), ⟨?_, h.log, MapAtW.put ho hw, (h.baseL.trans hg).put h.lm _, hGD.put (by rw [hold _ hms]; exact h.gm) _, h.lp, h.lm, by rw [hold _ hpb]; exact h.gp, by rw [hold _ hms]; exact h.gm, fun c hc => ?_, ?_, setM_nodup h.nd i v⟩⟩
  · rw [Heap.put_other _ _ (Ne.symm h.msp)]; exact hg _ _ h.cell
  · have hd : D c ≠ none := fun e => hc (h.baseL.none e)
    rw [hold _ hd]
    exact h.lg c hc
  · obtain ⟨A, c, h1, h2, h3, h4⟩ := hv
    exact (h.rs.mono hG).set hl ⟨A, c, h1, h2, rowAt_gain h3 h4⟩
/-- Nothing is set any more. -/
theorem PgP.clear {D F : Heap} {pb lb b ms : Nat} {L : Heap} {lS : ML} {G : Heap} {s : DS} {q : Int} {S : PgL} (h : PgP D pb lb b ms L lS G s q S) (hE : Ext D F) {o' : Obj} (ho : MapO o' []) (hw : WfM o') :
    Moves D F (D.put ms o') (F.put ms o') ∧ PgP (D.put ms o') pb lb b ms L [] G s q [] := by
  have hms : D ms ≠ none := by obtain ⟨o, h1, _⟩ := h.map; rw [h1]; simp
  refine ⟨Moves.put hE (.inl hms) _, ⟨?_, h.log, MapAtW.put ho hw, h.baseL.put h.lm _, h.base.put h.gm _, h.lp, h.lm, h.gp, h.gm, h.lg, MapP.nil G, List.nodup_nil⟩⟩
  rw [Heap.put_other _ _ (Ne.symm h.msp)]
  exact h.cell
/-- What is done to its log. -/
theorem PgP.logs {D F L' F' : Heap} {pb lb b ms : Nat} {L : Heap} {lS : ML} {G : Heap} {s s' : DS} {q q' : Int} {S : PgL} (h : PgP D pb lb b ms L lS G s q S) (hE : Ext D F) (hM : Moves L F L' F') (hL : Lg L' lb b s' q') :
    ∃ D', Moves D F D' F' ∧ PgP D' pb lb b ms L' lS G s' q' S := by
  obtain ⟨m1, m2, m3, m4⟩ := moves_in h.baseL hE hM
  obtain ⟨k1, k2⟩ := join_keep h.baseL hE hM h.base h.lg
  obtain ⟨o, hm, ho⟩ := h.map
  have e1 := m4 _ _ h.cell h.lp
  have e2 := m4 _ _ hm h.lm
  exact ⟨_, m1, by rw [m3 _ h.lp e1]; exact h.cell, hL, ⟨o, by rw [m3 _ h.lm e2]; exact hm, ho⟩, m2, k1, e1, e2, h.gp, h.gm, k2, h.rs, h.nd⟩
end Go.Proofs.YtmpiggcooboenaaDoor.Al
/- Pagers: New, Get, Set, over what is known of memory. -/
namespace Go.Proofs.YtmpiggcooboenaaDoor.Al
open Go Go.Al Go.Proofs Go.RowKit
set_option maxHeartbeats 8000000
set_option maxRecDepth 100000
set_option linter.unusedVariables false
set_option linter.unusedSimpArgs false
theorem pgReady {F : Heap} {pb lb ms : Nat} (h : F pb = some (pgO lb ms)) : FnK Tryd.prog 94 #[.pointer (some ⟨pb, 0, none⟩)] F (fun v F' => v = .bool true ∧ F' = F) := by
  (refine fn_walk tab_ok Tryd.func94 rfl rfl rfl rfl ?_; (conv => whnf))
  ((conv => whnf); repeat (first | (apply load_at; (conv => lhs; whnf); (with_reducible assumption); rfl; (conv => whnf)) | (apply load_at; (conv => lhs; rw [add_plain, add_plain]); (with_reducible assumption); rfl; (conv => whnf)) | (apply loads_at; (conv => lhs; whnf); (with_reducible assumption); rfl; (conv => whnf)) | (refine ⟨⟨by omega, by omega⟩, ?_⟩; (conv => whnf))))
  exact ⟨rfl, rfl⟩
theorem Lg.pages {E F : Heap} {lb b : Nat} {s : DS} {q : Int} (hE : Ext E F) (hL : Lg E lb b s q) : FnK Tryd.prog 20 #[.pointer (some ⟨lb, 0, none⟩)] F (fun v F' => v = .int .i64 (pagesN s.size) ∧ F' = F) := by
  obtain ⟨D0, h1, h2, h3⟩ := hL.disk
  exact lgPages (h2.trans hE) h1 (hE _ _ h3)
theorem Lg.load {E F : Heap} {lb b : Nat} {s : DS} {q : Int} (hE : Ext E F) (hL : Lg E lb b s q) (hN : NibAt F) (p : Int) : FnK Tryd.prog 17 #[.pointer (some ⟨lb, 0, none⟩), .int .i64 p] F (fun v F' => ∃ u, v = .tuple #[u, .int .i64 (loadE dsO s p)] ∧ NewRow F F' u (loadL dsO s p) ∧ Ext F F') := by
  obtain ⟨D0, h1, h2, h3⟩ := hL.disk
  exact lgLoad (h2.trans hE) h1 (hE _ _ h3) hN p
theorem pgPages {D F : Heap} {pb : Nat} {s : DS} {q : Int} {S : PgL} (hE : Ext D F) (hD : Pg D pb s q S) : FnK Tryd.prog 95 #[.pointer (some ⟨pb, 0, none⟩)] F (fun v F' => v = .int .i64 (pagesN s.size) ∧ F' = F) := by
  obtain ⟨hs, ho, lb, b, ms, L, lS, G, hP⟩ := hD
  have hc := hE _ _ hP.cell
  have k0 := pgReady hc
  have k1 := Lg.pages (hP.baseL.trans hE) hP.log
  generalize pagesN s.size = P at k1 ⊢
  (refine fn_walk tab_ok Tryd.func95 rfl rfl rfl rfl ?_; (conv => whnf))
  refine call_of k0 ?_
  rintro v F ⟨rfl, rfl⟩
  ((conv => whnf); repeat (first | (apply load_at; (conv => lhs; whnf); (with_reducible assumption); rfl; (conv => whnf)) | (apply load_at; (conv => lhs; rw [add_plain, add_plain]); (with_reducible assumption); rfl; (conv => whnf)) | (apply loads_at; (conv => lhs; whnf); (with_reducible assumption); rfl; (conv => whnf)) | (refine ⟨⟨by omega, by omega⟩, ?_⟩; (conv => whnf))))
  refine call_of k1 ?_
  rintro v F ⟨rfl, rfl⟩
  ((conv => whnf); repeat (first | (apply load_at; (conv => lhs; whnf); (with_reducible assumption); rfl; (conv => whnf)) | (apply load_at; (conv => lhs; rw [add_plain, add_plain]); (with_reducible assumption); rfl; (conv => whnf)) | (apply loads_at; (conv => lhs; whnf); (with_reducible assumption); rfl; (conv => whnf)) | (refine ⟨⟨by omega, by omega⟩, ?_⟩; (conv => whnf))))
  exact ⟨rfl, rfl⟩
theorem pgNew {E F : Heap} {lb b : Nat} {s : DS} {q : Int} (hE : Ext E F) (hL : Lg E lb b s q) (h0 : pagesN s.size ≠ 0) : FnK Tryd.prog 45 #[.pointer (some ⟨lb, 0, none⟩)] F (fun v F' => ∃ pb D', v = .tuple #[.pointer (some ⟨pb, 0, none⟩), .int .i64 0] ∧ Moves E F D' F' ∧ Pg D' pb s q []) := by
  have k1 := Lg.pages hE hL
  generalize pagesN s.size = P at k1 h0
  (refine fn_walk tab_ok Tryd.func45 rfl rfl rfl rfl ?_; (conv => whnf))
  refine call_of k1 ?_
  rintro v F ⟨rfl, rfl⟩
  ((conv => whnf); repeat (first | (apply load_at; (conv => lhs; whnf); (with_reducible assumption); rfl; (conv => whnf)) | (apply load_at; (conv => lhs; rw [add_plain, add_plain]); (with_reducible assumption); rfl; (conv => whnf)) | (apply loads_at; (conv => lhs; whnf); (with_reducible assumption); rfl; (conv => whnf)) | (refine ⟨⟨by omega, by omega⟩, ?_⟩; (conv => whnf))))
  refine cond_split (fun h => ?_) (fun h => ?_)
  · exact absurd (by simpa using (show (P == 0) = true from h)) h0
  ((conv => whnf); repeat (first | (apply load_at; (conv => lhs; whnf); (with_reducible assumption); rfl; (conv => whnf)) | (apply load_at; (conv => lhs; rw [add_plain, add_plain]); (with_reducible assumption); rfl; (conv => whnf)) | (apply loads_at; (conv => lhs; whnf); (with_reducible assumption); rfl; (conv => whnf)) | (refine ⟨⟨by omega, by omega⟩, ?_⟩; (conv => whnf))))
  refine op_makeMap rfl fun ms h1 => ?_
  have M1 := Moves.put hE (.inr h1) (.map #[] 0)
  have A1 := Heap.put_same F ms (.map #[] 0)
  have e1 := hE.none h1
  have E1 := (Ext.refl F).put h1 (.map #[] 0)
  generalize F.put ms _ = F1 at M1 A1 E1 ⊢
  (conv => whnf)
  refine new_step (pgO lb ms) rfl fun pb h2 => ?_
  have M2 := M1.trans (Moves.put M1.inn (.inr h2) (pgO lb ms))
  have n1 : ms ≠ pb := fun e => by rw [e, h2] at A1; cases A1
  have e2 := hE.none (E1.none h2)
  (conv => whnf)
  exact ⟨pb, _, rfl, M2, List.Pairwise.nil, (fun x h => by cases h), lb, b, ms, E, [], emptyH, ⟨Heap.put_same _ _ _, hL, ⟨_, by rw [Heap.put_other _ _ n1, Heap.put_same], ⟨#[], 0, rfl, rfl⟩, WfM.nil 0⟩, ((Ext.refl E).put e1 _).put e2 _, emptyH_ext _, e2, e1, rfl, rfl, fun _ _ => rfl, MapP.nil _, List.nodup_nil⟩⟩
theorem pgGet {D F : Heap} {pb : Nat} {s : DS} {q : Int} {S : PgL} (hE : Ext D F) (hD : Pg D pb s q S) (hN : NibAt F) (p : Int) :
    FnK Tryd.prog 49 #[.pointer (some ⟨pb, 0, none⟩), .int .i64 p] F (fun v F' => ∃ u, v = .tuple #[u, .int .i64 (pgE dsO s S p)] ∧ NewRow F F' u (pgD dsO s S p) ∧ Ext F F') := by
  obtain ⟨hs, ho, lb, b, ms, L, lS, G, hP⟩ := hD
  have hc := hE _ _ hP.cell
  have k0 := pgReady hc
  have k1 := Lg.load (hP.baseL.trans hE) hP.log hN p
  have hm := hP.map.mono hE
  cases hg : getM lS p with
  | none =>
    have h1 := hP.rs.no p hg
    unfold pgE pgD
    rw [h1]
    dsimp only
    generalize loadE dsO s p = le at k1 ⊢
    generalize loadL dsO s p = ll at k1 ⊢
    (refine fn_walk tab_ok Tryd.func49 rfl rfl rfl rfl ?_; (conv => whnf))
    refine call_of k0 ?_
    rintro v F ⟨rfl, rfl⟩
    ((conv => whnf); repeat (first | (apply load_at; (conv => lhs; whnf); (with_reducible assumption); rfl; (conv => whnf)) | (apply load_at; (conv => lhs; rw [add_plain, add_plain]); (with_reducible assumption); rfl; (conv => whnf)) | (apply loads_at; (conv => lhs; whnf); (with_reducible assumption); rfl; (conv => whnf)) | (refine ⟨⟨by omega, by omega⟩, ?_⟩; (conv => whnf))))
    refine op_lookup_at tab_ok rfl rfl rfl rfl rfl rfl rfl hm.at_ hg ?_
    ((conv => whnf); repeat (first | (apply load_at; (conv => lhs; whnf); (with_reducible assumption); rfl; (conv => whnf)) | (apply load_at; (conv => lhs; rw [add_plain, add_plain]); (with_reducible assumption); rfl; (conv => whnf)) | (apply loads_at; (conv => lhs; whnf); (with_reducible assumption); rfl; (conv => whnf)) | (refine ⟨⟨by omega, by omega⟩, ?_⟩; (conv => whnf))))
    refine call_of k1 ?_
    rintro v F1 ⟨u, rfl, hu, hE1⟩
    ((conv => whnf); repeat (first | (apply load_at; (conv => lhs; whnf); (with_reducible assumption); rfl; (conv => whnf)) | (apply load_at; (conv => lhs; rw [add_plain, add_plain]); (with_reducible assumption); rfl; (conv => whnf)) | (apply loads_at; (conv => lhs; whnf); (with_reducible assumption); rfl; (conv => whnf)) | (refine ⟨⟨by omega, by omega⟩, ?_⟩; (conv => whnf))))
    exact ⟨_, rfl, hu, hE1⟩
  | some v0 =>
    obtain ⟨l, h1, h2, A, c, rfl, h3, h4⟩ := hP.rs.yes p v0 hg
    have k2 := clone l A c F (h4.mono (hP.base.trans hE)) (by omega)
    unfold pgE pgD
    rw [h1]
    dsimp only
    (refine fn_walk tab_ok Tryd.func49 rfl rfl rfl rfl ?_; (conv => whnf))
    refine call_of k0 ?_
    rintro v F ⟨rfl, rfl⟩
    ((conv => whnf); repeat (first | (apply load_at; (conv => lhs; whnf); (with_reducible assumption); rfl; (conv => whnf)) | (apply load_at; (conv => lhs; rw [add_plain, add_plain]); (with_reducible assumption); rfl; (conv => whnf)) | (apply loads_at; (conv => lhs; whnf); (with_reducible assumption); rfl; (conv => whnf)) | (refine ⟨⟨by omega, by omega⟩, ?_⟩; (conv => whnf))))
    refine op_lookup_at tab_ok rfl rfl rfl rfl rfl rfl rfl hm.at_ hg ?_
    ((conv => whnf); repeat (first | (apply load_at; (conv => lhs; whnf); (with_reducible assumption); rfl; (conv => whnf)) | (apply load_at; (conv => lhs; rw [add_plain, add_plain]); (with_reducible assumption); rfl; (conv => whnf)) | (apply loads_at; (conv => lhs; whnf); (with_reducible assumption); rfl; (conv => whnf)) | (refine ⟨⟨by omega, by omega⟩, ?_⟩; (conv => whnf))))
    refine call_of k2 ?_
    rintro v F1 hM
    ((conv => whnf); repeat (first | (apply load_at; (conv => lhs; whnf); (with_reducible assumption); rfl; (conv => whnf)) | (apply load_at; (conv => lhs; rw [add_plain, add_plain]); (with_reducible assumption); rfl; (conv => whnf)) | (apply loads_at; (conv => lhs; whnf); (with_reducible assumption); rfl; (conv => whnf)) | (refine ⟨⟨by omega, by omega⟩, ?_⟩; (conv => whnf))))
    exact ⟨_, rfl, hM.newRow, hM.ext⟩
theorem pgSet {D F : Heap} {pb : Nat} {s : DS} {q : Int} {S : PgL} (hE : Ext D F) (hD : Pg D pb s q S) (l : List UInt8) (A : Option Addr) (c : Nat) (hr : RowAt F A (bytesOf l)) (hl : l.length ≤ 900000) (p : Int) :
    FnK Tryd.prog 51 #[.pointer (some ⟨pb, 0, none⟩), .int .i64 p, .slice A l.length c] F (fun v F' => v = .int .i64 (psE s.size p l) ∧ ∃ D', Moves D F D' F' ∧ Pg D' pb s q (psS s.size S p l)) := by
  have kP := pgPages hE hD
  have hD0 := hD
  obtain ⟨hs, ho, lb, b, ms, L, lS, G, hP⟩ := hD
  have hc := hE _ _ hP.cell
  have k0 := pgReady hc
  have hm := hP.map.mono hE
  have hsr := ps_srt (n := s.size) hs p l
  have hok := ps_ok (n := s.size) ho p l
  have hpg : isPg s.size p = true ↔ 0 ≤ p ∧ p < pagesN s.size := isPg_iff
  have no : ¬ ((0 ≤ p ∧ p < pagesN s.size) ∧ l.length = 240) → psE s.size p l = 1 ∧ psS s.size S p l = S := fun h => by
    unfold psE psS
    rw [if_neg (by rw [hpg]; exact h), if_neg (by rw [hpg]; exact h)]
    exact ⟨rfl, rfl⟩
  have yes : ((0 ≤ p ∧ p < pagesN s.size) ∧ l.length = 240) → psE s.size p l = 0 ∧ psS s.size S p l = insS S p l := fun h => by
    unfold psE psS
    rw [if_pos (by rw [hpg]; exact h), if_pos (by rw [hpg]; exact h)]
    exact ⟨rfl, rfl⟩
  clear hpg
  generalize psE s.size p l = pe at no yes ⊢
  generalize psS s.size S p l = pS at no yes hsr hok ⊢
  generalize pagesN s.size = P at kP no yes
  have fin : ¬ ((0 ≤ p ∧ p < P) ∧ l.length = 240) → Value.int .i64 1 = .int .i64 pe ∧ ∃ D', Moves D F D' F ∧ Pg D' pb s q pS := fun h => by
    obtain ⟨rfl, rfl⟩ := no h
    exact ⟨rfl, D, Moves.refl hE, hD0⟩
  (refine fn_walk tab_ok Tryd.func51 rfl rfl rfl rfl ?_; (conv => whnf))
  refine call_of k0 ?_
  rintro v F ⟨rfl, rfl⟩
  ((conv => whnf); repeat (first | (apply load_at; (conv => lhs; whnf); (with_reducible assumption); rfl; (conv => whnf)) | (apply load_at; (conv => lhs; rw [add_plain, add_plain]); (with_reducible assumption); rfl; (conv => whnf)) | (apply loads_at; (conv => lhs; whnf); (with_reducible assumption); rfl; (conv => whnf)) | (refine ⟨⟨by omega, by omega⟩, ?_⟩; (conv => whnf))))
  refine cond_split (fun h => ?_) (fun h => ?_)
  · have h := of_decide_eq_true (show decide (p < 0) = true from h)
    ((conv => whnf); repeat (first | (apply load_at; (conv => lhs; whnf); (with_reducible assumption); rfl; (conv => whnf)) | (apply load_at; (conv => lhs; rw [add_plain, add_plain]); (with_reducible assumption); rfl; (conv => whnf)) | (apply loads_at; (conv => lhs; whnf); (with_reducible assumption); rfl; (conv => whnf)) | (refine ⟨⟨by omega, by omega⟩, ?_⟩; (conv => whnf))))
    exact fin (by omega)
  have h0 := of_decide_eq_false (show decide (p < 0) = false from h)
  clear h
  ((conv => whnf); repeat (first | (apply load_at; (conv => lhs; whnf); (with_reducible assumption); rfl; (conv => whnf)) | (apply load_at; (conv => lhs; rw [add_plain, add_plain]); (with_reducible assumption); rfl; (conv => whnf)) | (apply loads_at; (conv => lhs; whnf); (with_reducible assumption); rfl; (conv => whnf)) | (refine ⟨⟨by omega, by omega⟩, ?_⟩; (conv => whnf))))
  refine call_of kP ?_
  rintro v F ⟨rfl, rfl⟩
  ((conv => whnf); repeat (first | (apply load_at; (conv => lhs; whnf); (with_reducible assumption); rfl; (conv => whnf)) | (apply load_at; (conv => lhs; rw [add_plain, add_plain]); (with_reducible assumption); rfl; (conv => whnf)) | (apply loads_at; (conv => lhs; whnf); (with_reducible assumption); rfl; (conv => whnf)) | (refine ⟨⟨by omega, by omega⟩, ?_⟩; (conv => whnf))))
  refine cond_split (fun h => ?_) (fun h => ?_)
  · have h := of_decide_eq_true (show decide (p ≥ P) = true from h)
    ((conv => whnf); repeat (first | (apply load_at; (conv => lhs; whnf); (with_reducible assumption); rfl; (conv => whnf)) | (apply load_at; (conv => lhs; rw [add_plain, add_plain]); (with_reducible assumption); rfl; (conv => whnf)) | (apply loads_at; (conv => lhs; whnf); (with_reducible assumption); rfl; (conv => whnf)) | (refine ⟨⟨by omega, by omega⟩, ?_⟩; (conv => whnf))))
    exact fin (by omega)
  have h1 := of_decide_eq_false (show decide (p ≥ P) = false from h)
  clear h
  ((conv => whnf); repeat (first | (apply load_at; (conv => lhs; whnf); (with_reducible assumption); rfl; (conv => whnf)) | (apply load_at; (conv => lhs; rw [add_plain, add_plain]); (with_reducible assumption); rfl; (conv => whnf)) | (apply loads_at; (conv => lhs; whnf); (with_reducible assumption); rfl; (conv => whnf)) | (refine ⟨⟨by omega, by omega⟩, ?_⟩; (conv => whnf))))
  refine cond_split (fun h => ?_) (fun h => ?_)
  · have h : ((l.length : Int) != 240) = true := h
    have hne : l.length ≠ 240 := fun e => by rw [e] at h; exact absurd h (by decide)
    ((conv => whnf); repeat (first | (apply load_at; (conv => lhs; whnf); (with_reducible assumption); rfl; (conv => whnf)) | (apply load_at; (conv => lhs; rw [add_plain, add_plain]); (with_reducible assumption); rfl; (conv => whnf)) | (apply loads_at; (conv => lhs; whnf); (with_reducible assumption); rfl; (conv => whnf)) | (refine ⟨⟨by omega, by omega⟩, ?_⟩; (conv => whnf))))
    exact fin (by omega)
  have h : ((l.length : Int) != 240) = false := h
  have hl2 : l.length = 240 := by have := bne_eq_false_iff_eq.1 h; omega
  clear h
  obtain ⟨rfl, rfl⟩ := yes ⟨by omega, hl2⟩
  refine short [0, 1, 2] [.pointer (some ⟨pb, 0, none⟩), .int .i64 p, .slice A l.length c] rfl fun ρ => ?_
  ((conv => whnf); repeat (first | (apply load_at; (conv => lhs; whnf); (with_reducible assumption); rfl; (conv => whnf)) | (apply load_at; (conv => lhs; rw [add_plain, add_plain]); (with_reducible assumption); rfl; (conv => whnf)) | (apply loads_at; (conv => lhs; whnf); (with_reducible assumption); rfl; (conv => whnf)) | (refine ⟨⟨by omega, by omega⟩, ?_⟩; (conv => whnf))))
  refine draw_walk tab_ok (by kernel_rfl) [0, 1, 2, 3, 4, 5, 6, 7] (by kernel_rfl) ?_
  ((conv => whnf); repeat (first | (apply load_at; (conv => lhs; whnf); (with_reducible assumption); rfl; (conv => whnf)) | (apply load_at; (conv => lhs; rw [add_plain, add_plain]); (with_reducible assumption); rfl; (conv => whnf)) | (apply loads_at; (conv => lhs; whnf); (with_reducible assumption); rfl; (conv => whnf)) | (refine ⟨⟨by omega, by omega⟩, ?_⟩; (conv => whnf))))
  refine call_of (clone l A c F hr hl) ?_
  rintro v F6 hM
  (conv => whnf)
  refine ⟨hM.ext, ?_⟩
  ((conv => whnf); repeat (first | (apply load_at; (conv => lhs; whnf); (with_reducible assumption); rfl; (conv => whnf)) | (apply load_at; (conv => lhs; rw [add_plain, add_plain]); (with_reducible assumption); rfl; (conv => whnf)) | (apply loads_at; (conv => lhs; whnf); (with_reducible assumption); rfl; (conv => whnf)) | (refine ⟨⟨by omega, by omega⟩, ?_⟩; (conv => whnf))))
  refine op_mapUpdateW (t := 120) (kt := 3) (et := 49) (v := v) (k := p) tab_ok rfl rfl rfl rfl rfl rfl (hm.mono hM.ext) fun o' ho' hw' => ?_
  obtain ⟨M6, P6⟩ := hP.set hE hM.ext (i := p) hl2 hM.newRow ho' hw'
  generalize F6.put ms o' = F7 at M6 ⊢
  ((conv => whnf); repeat (first | (apply load_at; (conv => lhs; whnf); (with_reducible assumption); rfl; (conv => whnf)) | (apply load_at; (conv => lhs; rw [add_plain, add_plain]); (with_reducible assumption); rfl; (conv => whnf)) | (apply loads_at; (conv => lhs; whnf); (with_reducible assumption); rfl; (conv => whnf)) | (refine ⟨⟨by omega, by omega⟩, ?_⟩; (conv => whnf))))
  exact ⟨rfl, _, M6, hsr, hok, lb, b, ms, L, _, _, P6⟩
end Go.Proofs.YtmpiggcooboenaaDoor.Al
/- The reference's pagers: their part of memory; Get. -/
namespace Go.Proofs.YtmpiggcooboenaaDoor.Al
open Go Go.Al Go.Proofs Go.RowKit
set_option maxHeartbeats 8000000
set_option maxRecDepth 100000
set_option linter.unusedVariables false
set_option linter.unusedSimpArgs false
abbrev xpO (lb : Nat) (T : Value) : Obj := .cells #[.pointer (some ⟨lb, 0, none⟩), T] 93
/-- The part of memory of the reference's pager. -/
structure RpP (X : Heap) (xb lb b : Nat) (T : Value) (L : Heap) (ps : List PcR) (G : Heap) (r : RS) (q : Int) (S : PgL) : Prop where
  cell : X xb = some (xpO lb T)
  log : Rg L lb b r q
  own : Own X T 67 2 ps.length (rowS pcC ps)
  baseL : Ext L X
  base : Ext G X
  lx : L xb = none
  lT : ∀ k, blk T = some k → L k = none
  gx : G xb = none
  gT : ∀ k, blk T = some k → G k = none
  xT : blk T ≠ some xb
  lg : Apart L G
  ok : ∀ p ∈ ps, PcOk G p
  map : ps.map pcW = S
def Rp (X : Heap) (xb : Nat) (r : RS) (q : Int) (S : PgL) : Prop := SrtS S ∧ OkS (r.L.length : Int) S ∧ S.length ≤ 100000 ∧ ∃ lb b T L ps G, RpP X xb lb b T L ps G r q S
theorem rp_new {E F : Heap} {lb b : Nat} {r : RS} {q : Int} (hE : Ext E F) (hL : Rg E lb b r q) {xb : Nat} (h : F xb = none) : Moves E F (E.put xb (xpO lb (.slice none 0 0))) (F.put xb (xpO lb (.slice none 0 0))) ∧ Rp (E.put xb (xpO lb (.slice none 0 0))) xb r q [] := by
  have e1 := hE.none h
  exact ⟨Moves.put hE (.inr h) _, List.Pairwise.nil, (fun x h => by cases h), Nat.zero_le _, lb, b, .slice none 0 0, E, [], emptyH, ⟨Heap.put_same _ _ _, hL, ⟨rfl, .inl ⟨rfl, rfl⟩⟩, (Ext.refl E).put e1 _, emptyH_ext _, e1, (fun k hk => by cases hk), rfl, (fun k hk => by cases hk), (by intro e; cases e), fun _ _ => rfl, (fun p hp => by cases hp), rfl⟩⟩
/-- What is done to its log. -/
theorem RpP.logs {X F L' F' : Heap} {xb lb b : Nat} {T : Value} {L : Heap} {ps : List PcR} {G : Heap} {r r' : RS} {q q' : Int} {S : PgL} (h : RpP X xb lb b T L ps G r q S) (hE : Ext X F) (hM : Moves L F L' F') (hL : Rg L' lb b r' q') :
    ∃ X', Moves X F X' F' ∧ RpP X' xb lb b T L' ps G r' q' S := by
  obtain ⟨m1, m2, m3, m4⟩ := moves_in h.baseL hE hM
  obtain ⟨k1, k2⟩ := join_keep h.baseL hE hM h.base h.lg
  have e1 := m4 _ _ h.cell h.lx
  have e2 : ∀ k, blk T = some k → L' k = none := fun k hk => by
    cases e : X k with
    | none => exact absurd e (h.own.there hk)
    | some o => exact m4 _ _ e (h.lT k hk)
  exact ⟨_, m1, by rw [m3 _ h.lx e1]; exact h.cell, hL, h.own.of_blk fun k o hk ho => by rw [m3 k (h.lT k hk) (e2 k hk)]; exact ho, m2, k1, e1, e2, h.gx, h.gT, h.xT, k2, h.ok, h.map⟩
/-- Nothing is set any more. -/
theorem RpP.clear {X F : Heap} {xb lb b : Nat} {T : Value} {L : Heap} {ps : List PcR} {G : Heap} {r : RS} {q : Int} {S : PgL} (h : RpP X xb lb b T L ps G r q S) (hE : Ext X F) :
    Moves X F (X.put xb (xpO lb (.slice none 0 0))) (F.put xb (xpO lb (.slice none 0 0))) ∧ RpP (X.put xb (xpO lb (.slice none 0 0))) xb lb b (.slice none 0 0) L [] G r q [] :=
  ⟨Moves.put hE (.inl (by rw [h.cell]; simp)) _, ⟨Heap.put_same _ _ _, h.log, ⟨rfl, .inl ⟨rfl, rfl⟩⟩, h.baseL.put h.lx _, h.base.put h.gx _, h.lx, (fun k hk => by cases hk), h.gx, (fun k hk => by cases hk), (by intro e; cases e), h.lg, (fun p hp => by cases hp), rfl⟩⟩
/-- What is known but for a row's block. -/
def restT (T : Value) (F : Heap) : Heap := fun c => if blk T = some c then none else F c
/-- Another list of images. -/
theorem RpP.other {X F F2 : Heap} {xb lb b : Nat} {T T' : Value} {L : Heap} {ps ps' : List PcR} {G : Heap} {r : RS} {q : Int} {S : PgL} (h : RpP X xb lb b T L ps G r q S) (hE : Ext X F) (hE2 : Ext F F2) (ho : Own F2 T' 67 2 ps'.length (rowS pcC ps')) (hf : ∀ k, blk T' = some k → F k = none) (hok : ∀ p ∈ ps', PcOk (gain G F (restT T' F2)) p) :
    Moves X F ((gain X F F2).put xb (xpO lb T')) (F2.put xb (xpO lb T')) ∧ RpP ((gain X F F2).put xb (xpO lb T')) xb lb b T' L ps' (gain G F (restT T' F2)) r q (ps'.map pcW) := by
  have hg := gain_ext (F' := F2) hE
  have m1 := Moves.gain hE hE2
  have hxb : X xb ≠ none := by rw [h.cell]; simp
  have hold : ∀ c H, X c ≠ none → gain G F H c = G c := fun c H hc => by
    cases e : X c with
    | none => exact absurd e hc
    | some o => exact gain_old (hE _ _ e)
  have hxT : blk T' ≠ some xb := fun e => hxb (hE.none (hf _ e))
  refine ⟨m1.trans (Moves.put m1.inn (.inl fun e => hxb (hg.none e)) _), ⟨Heap.put_same _ _ _, h.log, ?_, (h.baseL.trans hg).put h.lx _, Ext.put (fun c o hc => ?_) (by rw [hold _ _ hxb]; exact h.gx) _, h.lx, fun k hk => hE.none (hf k hk) |> fun e => h.baseL.none e, by rw [hold _ _ hxb]; exact h.gx, fun k hk => ?_, hxT, fun c hc => ?_, hok, rfl⟩⟩
  · refine Own.put (ho.of_blk fun k o hk ho' => ?_) hxT
    rw [gain_new (hf k hk)]; exact ho'
  · cases e : F c with
    | none =>
      rw [gain_new e] at hc ⊢
      unfold restT at hc
      split at hc
      · cases hc
      · exact hc
    | some u => rw [gain_old e] at hc ⊢; exact h.base _ _ hc
  · rw [gain_new (hf k hk)]
    unfold restT
    rw [if_pos hk]
  · have hd : X c ≠ none := fun e => hc (h.baseL.none e)
    rw [hold _ _ hd]
    exact h.lg c hc
end Go.Proofs.YtmpiggcooboenaaDoor.Al
/- The reference's pagers: Get and Set, over what is known of memory. -/
namespace Go.Proofs.YtmpiggcooboenaaDoor.Al
open Go Go.Al Go.Proofs Go.RowKit
set_option maxHeartbeats 8000000
set_option maxRecDepth 100000
set_option linter.unusedVariables false
set_option linter.unusedSimpArgs false
theorem Rg.pages {E F : Heap} {lb b : Nat} {r : RS} {q : Int} (hE : Ext E F) (hL : Rg E lb b r q) : FnK Tryd.prog 84 #[.pointer (some ⟨lb, 0, none⟩)] F (fun v F' => v = .int .i64 (pagesN (r.L.length : Int)) ∧ F' = F) := by
  obtain ⟨D0, h1, h2, h3⟩ := hL.disk
  exact rgPages (h2.trans hE) h1 (hE _ _ h3)
theorem Rg.load {E F : Heap} {lb b : Nat} {r : RS} {q : Int} (hE : Ext E F) (hL : Rg E lb b r q) (p : Int) : FnK Tryd.prog 40 #[.pointer (some ⟨lb, 0, none⟩), .int .i64 p] F (fun v F' => ∃ u, v = .tuple #[u, .int .i64 (loadE rsO r p)] ∧ NewRow F F' u (loadL rsO r p) ∧ Ext F F') := by
  obtain ⟨D0, h1, h2, h3⟩ := hL.disk
  exact rgLoad (h2.trans hE) h1 (hE _ _ h3) p
end Go.Proofs.YtmpiggcooboenaaDoor.Al
/- Logs on new disks: the first calls, as one word each. -/
namespace Go.Proofs.YtmpiggcooboenaaDoor.Al
open Go Go.Al Go.Proofs Go.RowKit
set_option maxHeartbeats 8000000
set_option maxRecDepth 100000
set_option linter.unusedVariables false
set_option linter.unusedSimpArgs false
theorem new_n {n : Int} (hn : 3 ≤ n ∧ n ≤ 65536) (F : Heap) : FnK Tryd.prog 24 #[.int .i64 n] F (fun v F' => ∃ b D', v = .tuple #[.pointer (some ⟨b, 0, none⟩), .int .i64 0] ∧ Moves emptyH F D' F' ∧ Dk D' b (newS n)) := by
  refine (new n F).mono ?_
  rintro v F' (⟨h, _⟩ | ⟨_, _, b, D, h1, h2, h3⟩)
  · omega
  · exact ⟨b, D, h1, h2, h3⟩
end Go.Proofs.YtmpiggcooboenaaDoor.Al
/- Pagers on new disks. -/
namespace Go.Proofs.YtmpiggcooboenaaDoor.Al
open Go Go.Al Go.Proofs Go.RowKit
set_option maxHeartbeats 8000000
set_option maxRecDepth 100000
set_option linter.unusedVariables false
set_option linter.unusedSimpArgs false
theorem start_n {n : Nat} (hn : 3 ≤ (n : Int) ∧ (n : Int) ≤ 65536) : ∃ r1 r2, runW rsO (newR n) [(0, noteB 0 1)] = (r1, 0) ∧ openS rsO r1 = (r2, 0, some 1) ∧ Sim (frsS n) r2 ∧ r1.done + 40000 < 1000000000 := by
  have S0 := sim_new n
  obtain ⟨e1, S1, w1⟩ := sim_run [(0, noteB 0 1)] _ _ S0 (newS_wf hn.1 hn.2) (by show (0 : Int) + ((1 : Nat) : Int) < _; omega)
  have b1 := runW_le [(0, noteB 0 1)] (newS (n : Int))
  replace b1 : (runW dsO (newS (n : Int)) [(0, noteB 0 1)]).1.writes ≤ 0 + ((1 : Nat) : Int) ∧ (runW dsO (newS (n : Int)) [(0, noteB 0 1)]).1.size = n := b1
  obtain ⟨f1, _⟩ := fmt_fresh hn
  obtain ⟨f2, _⟩ := frs_fresh hn
  rw [f1] at e1
  obtain ⟨e2, S2, _, _⟩ := sim_open S1 w1 (by omega)
  have f2 : (openS dsO (runW dsO (newS (n : Int)) [(0, noteB 0 1)]).1).2 = (0, some 1) := f2
  rw [f2] at e2
  refine ⟨(runW rsO (newR n) [(0, noteB 0 1)]).1, (openS rsO (runW rsO (newR n) [(0, noteB 0 1)]).1).1, ?_, ?_, S2, ?_⟩
  · exact Prod.ext rfl e1.symm
  · exact Prod.ext rfl e2.symm
  · have := S1.wr
    omega
theorem apart_new {F D F' : Heap} (h : Moves emptyH F D F') : Apart D F := fun c hc => by
  rcases h.new c hc with h1 | h1
  · exact absurd rfl h1
  · exact h1
theorem fresh_ext {F D F' : Heap} (h : Moves emptyH F D F') : Ext F F' := fun c o hc => h.out c o hc rfl
end Go.Proofs.YtmpiggcooboenaaDoor.Al
/- Directories: Need, find, right. -/
namespace Go.Proofs.YtmpiggcooboenaaDoor.Al
open Go Go.Al Go.Proofs Go.RowKit
set_option maxHeartbeats 8000000
set_option maxRecDepth 100000
set_option linter.unusedVariables false
set_option linter.unusedSimpArgs false
def dpN (d : Int) : Nat := (min (max d 0) 10).toNat
def needI (d : Int) : Int := (((2 ^ dpN d + 59) / 60 : Nat) : Int)
def mtC (d f n k : Int) (A : Option Addr) (l c : Nat) : Array Value := #[.int .i64 d, .int .i64 f, .int .i64 n, .int .i64 k, .slice A l c]
def okF (d : Int) (l : Nat) (slot : Int) : Bool := decide (0 ≤ d ∧ d ≤ 10 ∧ (l : Int) = needI d ∧ 0 ≤ slot ∧ slot < ((2 ^ dpN d : Nat) : Int))
def fdP (d : Int) (ms : List Int) (slot : Int) : Int := if okF d ms.length slot = true then (ms[(slot / 60).toNat]?).getD 0 else 0
def fdA (d : Int) (ms : List Int) (slot : Int) : Int := if okF d ms.length slot = true then slot % 60 * 4 else 0
theorem need_ (d : Int) (F : Heap) : FnK Tryd.prog 15 #[.int .i64 d] F (fun v F' => v = .int .i64 (needI d) ∧ F' = F) := by
  obtain ⟨k, hk, hk2, hd⟩ : ∃ k : Nat, (if 10 < (if d < 0 then 0 else d) then (10 : Int) else (if d < 0 then 0 else d)) = (k : Int) ∧ k ≤ 10 ∧ dpN d = k := by
    unfold dpN
    by_cases h : d < 0
    · exact ⟨0, by rw [if_pos h]; rfl, by decide, by omega⟩
    · by_cases h2 : 10 < d
      · exact ⟨10, by rw [if_neg h, if_pos h2]; rfl, by decide, by omega⟩
      · exact ⟨d.toNat, by rw [if_neg h, if_neg h2]; omega, by omega, by omega⟩
  unfold needI
  rw [hd]
  (refine fn_walk tab_ok Tryd.func15 rfl rfl rfl rfl ?_; (conv => whnf))
  rw [hk]
  have : k = 0 ∨ k = 1 ∨ k = 2 ∨ k = 3 ∨ k = 4 ∨ k = 5 ∨ k = 6 ∨ k = 7 ∨ k = 8 ∨ k = 9 ∨ k = 10 := by omega
  rcases this with rfl | rfl | rfl | rfl | rfl | rfl | rfl | rfl | rfl | rfl | rfl
  all_goals
    refine ⟨by decide, ?_⟩
    (conv => whnf)
    refine ⟨by decide, ?_⟩
    (conv => whnf)
    exact ⟨rfl, rfl⟩
theorem pow_le {j : Nat} (h : j ≤ 10) : 2 ^ j ≤ 1024 := by
  have : j = 0 ∨ j = 1 ∨ j = 2 ∨ j = 3 ∨ j = 4 ∨ j = 5 ∨ j = 6 ∨ j = 7 ∨ j = 8 ∨ j = 9 ∨ j = 10 := by omega
  rcases this with rfl | rfl | rfl | rfl | rfl | rfl | rfl | rfl | rfl | rfl | rfl <;> decide
theorem place_lt {d : Int} {l : Nat} {slot : Int} (h : okF d l slot = true) : 0 ≤ slot / 60 ∧ slot / 60 < (l : Int) ∧ 0 ≤ slot := by
  have h := of_decide_eq_true h
  have hp := pow_le (j := dpN d) (by unfold dpN; omega)
  unfold needI at h
  generalize 2 ^ dpN d = N at h hp
  omega
theorem shl_eq {d : Int} (h0 : 0 ≤ d) (h1 : d ≤ 10) : IntKind.i64.wrap (1 * 2 ^ min d.toNat IntKind.i64.bits) = ((2 ^ dpN d : Nat) : Int) := by
  obtain ⟨k, rfl⟩ : ∃ k : Nat, d = (k : Int) := ⟨d.toNat, by omega⟩
  have : k = 0 ∨ k = 1 ∨ k = 2 ∨ k = 3 ∨ k = 4 ∨ k = 5 ∨ k = 6 ∨ k = 7 ∨ k = 8 ∨ k = 9 ∨ k = 10 := by omega
  rcases this with rfl | rfl | rfl | rfl | rfl | rfl | rfl | rfl | rfl | rfl | rfl <;> decide
theorem find_ (d f n k : Int) (A : Option Addr) (ms : List Int) (c : Nat) (slot : Int) (F : Heap) (hr : RowAt F A (ms.map (.int .i64))) (hl : ms.length ≤ 1000000) :
    FnK Tryd.prog 47 #[.agg (mtC d f n k A ms.length c), .int .i64 slot] F (fun v F' => v = .tuple #[.agg #[.int .i64 (fdP d ms slot), .int .i64 (fdA d ms slot)], .bool (okF d ms.length slot)] ∧ Ext F F') := by
  have kn := fun F => need_ d F
  have hK : okF d ms.length slot = decide (0 ≤ d ∧ d ≤ 10 ∧ (ms.length : Int) = needI d ∧ 0 ≤ slot ∧ slot < ((2 ^ dpN d : Nat) : Int)) := rfl
  have hplace := fun h => place_lt (d := d) (l := ms.length) (slot := slot) h
  have hP : fdP d ms slot = if okF d ms.length slot = true then (ms[(slot / 60).toNat]?).getD 0 else 0 := rfl
  have hA : fdA d ms slot = if okF d ms.length slot = true then slot % 60 * 4 else 0 := rfl
  have hsh := fun h0 h1 => shl_eq (d := d) h0 h1
  generalize fdP d ms slot = P at hP ⊢
  generalize fdA d ms slot = T at hA ⊢
  generalize okF d ms.length slot = K at hK hplace hP hA ⊢
  generalize needI d = nd at kn hK
  generalize ((2 ^ dpN d : Nat) : Int) = N at hK hsh
  have no : ¬ (0 ≤ d ∧ d ≤ 10 ∧ (ms.length : Int) = nd ∧ 0 ≤ slot ∧ slot < N) → K = false ∧ P = 0 ∧ T = 0 := fun h => by
    rw [decide_eq_false h] at hK
    subst hK
    exact ⟨rfl, hP, hA⟩
  have yes : (0 ≤ d ∧ d ≤ 10 ∧ (ms.length : Int) = nd ∧ 0 ≤ slot ∧ slot < N) → K = true ∧ P = (ms[(slot / 60).toNat]?).getD 0 ∧ T = slot % 60 * 4 ∧ 0 ≤ slot / 60 ∧ slot / 60 < (ms.length : Int) := fun h => by
    rw [decide_eq_true h] at hK
    subst hK
    obtain ⟨g1, g2, _⟩ := hplace rfl
    exact ⟨rfl, hP, hA, g1, g2⟩
  clear hK hP hA hplace
  (refine fn_walk tab_ok Tryd.func47 rfl rfl rfl rfl ?_; (conv => whnf))
  refine new_step (.cells (mtC d f n k A ms.length c) 24) rfl fun t h0_t => ?_
  have hE_t := Ext.new h0_t (.cells (mtC d f n k A ms.length c) 24)
  have hB_t := Heap.put_same F t (.cells (mtC d f n k A ms.length c) 24)
  generalize F.put t _ = F1 at hE_t hB_t ⊢
  ((conv => whnf); repeat (first | (apply load_at; (conv => lhs; whnf); (with_reducible assumption); rfl; (conv => whnf)) | (apply load_at; (conv => lhs; rw [add_plain, add_plain]); (with_reducible assumption); rfl; (conv => whnf)) | (apply loads_at; (conv => lhs; whnf); (with_reducible assumption); rfl; (conv => whnf)) | (refine ⟨⟨by omega, by omega⟩, ?_⟩; (conv => whnf))))
  refine new_step (.cells #[.int .i64 0, .int .i64 0] 95) rfl fun u h0_u => ?_
  have hE_u := Ext.new h0_u (.cells #[.int .i64 0, .int .i64 0] 95)
  have hB_u := Heap.put_same F1 u (.cells #[.int .i64 0, .int .i64 0] 95)
  generalize F1.put u _ = F2 at hE_u hB_u ⊢
  have hB2 := hE_u _ _ hB_t
  have hE2 := hE_t.trans hE_u
  have h0u : F u = none := hE_t.none h0_u
  have bad : ¬ (0 ≤ d ∧ d ≤ 10 ∧ (ms.length : Int) = nd ∧ 0 ≤ slot ∧ slot < N) → Value.tuple #[.agg #[.int .i64 0, .int .i64 0], .bool false] = .tuple #[.agg #[.int .i64 P, .int .i64 T], .bool K] ∧ Ext F (F2.put u (.cells #[.int .i64 0, .int .i64 0] 95)) := fun h => by
    obtain ⟨rfl, rfl, rfl⟩ := no h
    exact ⟨rfl, hE2.put h0u _⟩
  ((conv => whnf); repeat (first | (apply load_at; (conv => lhs; whnf); (with_reducible assumption); rfl; (conv => whnf)) | (apply load_at; (conv => lhs; rw [add_plain, add_plain]); (with_reducible assumption); rfl; (conv => whnf)) | (apply loads_at; (conv => lhs; whnf); (with_reducible assumption); rfl; (conv => whnf)) | (refine ⟨⟨by omega, by omega⟩, ?_⟩; (conv => whnf))))
  refine draw_tree tab_ok (by kernel_rfl) [] (DT.row [0, 1, 2, 3, 4, 5, 6, 7, 8, 9, 10, 11, 12, 13, 14, 15, 16] .nil) (by kernel_rfl) ?_
  ((conv => whnf); repeat (first | (apply load_at; (conv => lhs; whnf); (with_reducible assumption); rfl; (conv => whnf)) | (apply load_at; (conv => lhs; rw [add_plain, add_plain]); (with_reducible assumption); rfl; (conv => whnf)) | (apply loads_at; (conv => lhs; whnf); (with_reducible assumption); rfl; (conv => whnf)) | (refine ⟨⟨by omega, by omega⟩, ?_⟩; (conv => whnf))))
  cases hd : decide (d < 0) with
  | true =>
    have h := of_decide_eq_true hd
    ((conv => whnf); repeat (first | (apply load_at; (conv => lhs; whnf); (with_reducible assumption); rfl; (conv => whnf)) | (apply load_at; (conv => lhs; rw [add_plain, add_plain]); (with_reducible assumption); rfl; (conv => whnf)) | (apply loads_at; (conv => lhs; whnf); (with_reducible assumption); rfl; (conv => whnf)) | (refine ⟨⟨by omega, by omega⟩, ?_⟩; (conv => whnf))))
    refine store_step u 0 _ #[.int .i64 0, .int .i64 0] rfl hB_u rfl rfl (.inl (Nat.le_refl 0)) (two_ints _ _) ?_
    ((conv => whnf); repeat (first | (apply load_at; (conv => lhs; whnf); (with_reducible assumption); rfl; (conv => whnf)) | (apply load_at; (conv => lhs; rw [add_plain, add_plain]); (with_reducible assumption); rfl; (conv => whnf)) | (apply loads_at; (conv => lhs; whnf); (with_reducible assumption); rfl; (conv => whnf)) | (refine ⟨⟨by omega, by omega⟩, ?_⟩; (conv => whnf))))
    refine res_cells tab_ok rfl rfl (Heap.put_same _ _ _) rfl ?_
    ((conv => whnf); repeat (first | (apply load_at; (conv => lhs; whnf); (with_reducible assumption); rfl; (conv => whnf)) | (apply load_at; (conv => lhs; rw [add_plain, add_plain]); (with_reducible assumption); rfl; (conv => whnf)) | (apply loads_at; (conv => lhs; whnf); (with_reducible assumption); rfl; (conv => whnf)) | (refine ⟨⟨by omega, by omega⟩, ?_⟩; (conv => whnf))))
    exact bad (by omega)
  | false =>
  have h0 := of_decide_eq_false hd
  ((conv => whnf); repeat (first | (apply load_at; (conv => lhs; whnf); (with_reducible assumption); rfl; (conv => whnf)) | (apply load_at; (conv => lhs; rw [add_plain, add_plain]); (with_reducible assumption); rfl; (conv => whnf)) | (apply loads_at; (conv => lhs; whnf); (with_reducible assumption); rfl; (conv => whnf)) | (refine ⟨⟨by omega, by omega⟩, ?_⟩; (conv => whnf))))
  cases hd2 : decide (d > 10) with
  | true =>
    have h := of_decide_eq_true hd2
    ((conv => whnf); repeat (first | (apply load_at; (conv => lhs; whnf); (with_reducible assumption); rfl; (conv => whnf)) | (apply load_at; (conv => lhs; rw [add_plain, add_plain]); (with_reducible assumption); rfl; (conv => whnf)) | (apply loads_at; (conv => lhs; whnf); (with_reducible assumption); rfl; (conv => whnf)) | (refine ⟨⟨by omega, by omega⟩, ?_⟩; (conv => whnf))))
    refine store_step u 0 _ #[.int .i64 0, .int .i64 0] rfl hB_u rfl rfl (.inl (Nat.le_refl 0)) (two_ints _ _) ?_
    ((conv => whnf); repeat (first | (apply load_at; (conv => lhs; whnf); (with_reducible assumption); rfl; (conv => whnf)) | (apply load_at; (conv => lhs; rw [add_plain, add_plain]); (with_reducible assumption); rfl; (conv => whnf)) | (apply loads_at; (conv => lhs; whnf); (with_reducible assumption); rfl; (conv => whnf)) | (refine ⟨⟨by omega, by omega⟩, ?_⟩; (conv => whnf))))
    refine res_cells tab_ok rfl rfl (Heap.put_same _ _ _) rfl ?_
    ((conv => whnf); repeat (first | (apply load_at; (conv => lhs; whnf); (with_reducible assumption); rfl; (conv => whnf)) | (apply load_at; (conv => lhs; rw [add_plain, add_plain]); (with_reducible assumption); rfl; (conv => whnf)) | (apply loads_at; (conv => lhs; whnf); (with_reducible assumption); rfl; (conv => whnf)) | (refine ⟨⟨by omega, by omega⟩, ?_⟩; (conv => whnf))))
    exact bad (by omega)
  | false =>
  have h1 := of_decide_eq_false hd2
  clear hd hd2
  ((conv => whnf); repeat (first | (apply load_at; (conv => lhs; whnf); (with_reducible assumption); rfl; (conv => whnf)) | (apply load_at; (conv => lhs; rw [add_plain, add_plain]); (with_reducible assumption); rfl; (conv => whnf)) | (apply loads_at; (conv => lhs; whnf); (with_reducible assumption); rfl; (conv => whnf)) | (refine ⟨⟨by omega, by omega⟩, ?_⟩; (conv => whnf))))
  refine call_of (kn F2) ?_
  rintro v F3 ⟨rfl, rfl⟩
  (conv => whnf)
  refine ⟨Ext.refl _, ?_⟩
  ((conv => whnf); repeat (first | (apply load_at; (conv => lhs; whnf); (with_reducible assumption); rfl; (conv => whnf)) | (apply load_at; (conv => lhs; rw [add_plain, add_plain]); (with_reducible assumption); rfl; (conv => whnf)) | (apply loads_at; (conv => lhs; whnf); (with_reducible assumption); rfl; (conv => whnf)) | (refine ⟨⟨by omega, by omega⟩, ?_⟩; (conv => whnf))))
  refine ⟨Ext.refl _, ?_⟩
  ((conv => whnf); repeat (first | (apply load_at; (conv => lhs; whnf); (with_reducible assumption); rfl; (conv => whnf)) | (apply load_at; (conv => lhs; rw [add_plain, add_plain]); (with_reducible assumption); rfl; (conv => whnf)) | (apply loads_at; (conv => lhs; whnf); (with_reducible assumption); rfl; (conv => whnf)) | (refine ⟨⟨by omega, by omega⟩, ?_⟩; (conv => whnf))))
  refine cond_split (fun h => ?_) (fun h => ?_)
  · have h : ((ms.length : Int) != nd) = true := h
    have hne : ¬ (ms.length : Int) = nd := by simpa using h
    ((conv => whnf); repeat (first | (apply load_at; (conv => lhs; whnf); (with_reducible assumption); rfl; (conv => whnf)) | (apply load_at; (conv => lhs; rw [add_plain, add_plain]); (with_reducible assumption); rfl; (conv => whnf)) | (apply loads_at; (conv => lhs; whnf); (with_reducible assumption); rfl; (conv => whnf)) | (refine ⟨⟨by omega, by omega⟩, ?_⟩; (conv => whnf))))
    refine store_step u 0 _ #[.int .i64 0, .int .i64 0] rfl hB_u rfl rfl (.inl (Nat.le_refl 0)) (two_ints _ _) ?_
    ((conv => whnf); repeat (first | (apply load_at; (conv => lhs; whnf); (with_reducible assumption); rfl; (conv => whnf)) | (apply load_at; (conv => lhs; rw [add_plain, add_plain]); (with_reducible assumption); rfl; (conv => whnf)) | (apply loads_at; (conv => lhs; whnf); (with_reducible assumption); rfl; (conv => whnf)) | (refine ⟨⟨by omega, by omega⟩, ?_⟩; (conv => whnf))))
    refine res_cells tab_ok rfl rfl (Heap.put_same _ _ _) rfl ?_
    ((conv => whnf); repeat (first | (apply load_at; (conv => lhs; whnf); (with_reducible assumption); rfl; (conv => whnf)) | (apply load_at; (conv => lhs; rw [add_plain, add_plain]); (with_reducible assumption); rfl; (conv => whnf)) | (apply loads_at; (conv => lhs; whnf); (with_reducible assumption); rfl; (conv => whnf)) | (refine ⟨⟨by omega, by omega⟩, ?_⟩; (conv => whnf))))
    exact bad (fun e => hne e.2.2.1)
  have h : ((ms.length : Int) != nd) = false := h
  have heq : (ms.length : Int) = nd := by simpa using h
  clear h
  refine short [1, 2, 4] [.int .i64 slot, .pointer (some ⟨t, 0, none⟩), .pointer (some ⟨u, 0, none⟩)] rfl fun ρ => ?_
  ((conv => whnf); repeat (first | (apply load_at; (conv => lhs; whnf); (with_reducible assumption); rfl; (conv => whnf)) | (apply load_at; (conv => lhs; rw [add_plain, add_plain]); (with_reducible assumption); rfl; (conv => whnf)) | (apply loads_at; (conv => lhs; whnf); (with_reducible assumption); rfl; (conv => whnf)) | (refine ⟨⟨by omega, by omega⟩, ?_⟩; (conv => whnf))))
  cases hd : decide (slot < 0) with
  | true =>
    have h := of_decide_eq_true hd
    ((conv => whnf); repeat (first | (apply load_at; (conv => lhs; whnf); (with_reducible assumption); rfl; (conv => whnf)) | (apply load_at; (conv => lhs; rw [add_plain, add_plain]); (with_reducible assumption); rfl; (conv => whnf)) | (apply loads_at; (conv => lhs; whnf); (with_reducible assumption); rfl; (conv => whnf)) | (refine ⟨⟨by omega, by omega⟩, ?_⟩; (conv => whnf))))
    refine store_step u 0 _ #[.int .i64 0, .int .i64 0] rfl hB_u rfl rfl (.inl (Nat.le_refl 0)) (two_ints _ _) ?_
    ((conv => whnf); repeat (first | (apply load_at; (conv => lhs; whnf); (with_reducible assumption); rfl; (conv => whnf)) | (apply load_at; (conv => lhs; rw [add_plain, add_plain]); (with_reducible assumption); rfl; (conv => whnf)) | (apply loads_at; (conv => lhs; whnf); (with_reducible assumption); rfl; (conv => whnf)) | (refine ⟨⟨by omega, by omega⟩, ?_⟩; (conv => whnf))))
    refine res_cells tab_ok rfl rfl (Heap.put_same _ _ _) rfl ?_
    ((conv => whnf); repeat (first | (apply load_at; (conv => lhs; whnf); (with_reducible assumption); rfl; (conv => whnf)) | (apply load_at; (conv => lhs; rw [add_plain, add_plain]); (with_reducible assumption); rfl; (conv => whnf)) | (apply loads_at; (conv => lhs; whnf); (with_reducible assumption); rfl; (conv => whnf)) | (refine ⟨⟨by omega, by omega⟩, ?_⟩; (conv => whnf))))
    exact bad (by omega)
  | false =>
  have h2 := of_decide_eq_false hd
  clear hd
  ((conv => whnf); repeat (first | (apply load_at; (conv => lhs; whnf); (with_reducible assumption); rfl; (conv => whnf)) | (apply load_at; (conv => lhs; rw [add_plain, add_plain]); (with_reducible assumption); rfl; (conv => whnf)) | (apply loads_at; (conv => lhs; whnf); (with_reducible assumption); rfl; (conv => whnf)) | (refine ⟨⟨by omega, by omega⟩, ?_⟩; (conv => whnf))))
  refine ⟨by omega, ?_⟩
  ((conv => whnf); repeat (first | (apply load_at; (conv => lhs; whnf); (with_reducible assumption); rfl; (conv => whnf)) | (apply load_at; (conv => lhs; rw [add_plain, add_plain]); (with_reducible assumption); rfl; (conv => whnf)) | (apply loads_at; (conv => lhs; whnf); (with_reducible assumption); rfl; (conv => whnf)) | (refine ⟨⟨by omega, by omega⟩, ?_⟩; (conv => whnf))))
  refine cond_split (fun h => ?_) (fun h => ?_)
  · have h : decide (slot ≥ IntKind.i64.wrap (1 * 2 ^ min d.toNat IntKind.i64.bits)) = true := h
    rw [hsh (by omega) (by omega)] at h
    have h := of_decide_eq_true h
    ((conv => whnf); repeat (first | (apply load_at; (conv => lhs; whnf); (with_reducible assumption); rfl; (conv => whnf)) | (apply load_at; (conv => lhs; rw [add_plain, add_plain]); (with_reducible assumption); rfl; (conv => whnf)) | (apply loads_at; (conv => lhs; whnf); (with_reducible assumption); rfl; (conv => whnf)) | (refine ⟨⟨by omega, by omega⟩, ?_⟩; (conv => whnf))))
    refine store_step u 0 _ #[.int .i64 0, .int .i64 0] rfl hB_u rfl rfl (.inl (Nat.le_refl 0)) (two_ints _ _) ?_
    ((conv => whnf); repeat (first | (apply load_at; (conv => lhs; whnf); (with_reducible assumption); rfl; (conv => whnf)) | (apply load_at; (conv => lhs; rw [add_plain, add_plain]); (with_reducible assumption); rfl; (conv => whnf)) | (apply loads_at; (conv => lhs; whnf); (with_reducible assumption); rfl; (conv => whnf)) | (refine ⟨⟨by omega, by omega⟩, ?_⟩; (conv => whnf))))
    refine res_cells tab_ok rfl rfl (Heap.put_same _ _ _) rfl ?_
    ((conv => whnf); repeat (first | (apply load_at; (conv => lhs; whnf); (with_reducible assumption); rfl; (conv => whnf)) | (apply load_at; (conv => lhs; rw [add_plain, add_plain]); (with_reducible assumption); rfl; (conv => whnf)) | (apply loads_at; (conv => lhs; whnf); (with_reducible assumption); rfl; (conv => whnf)) | (refine ⟨⟨by omega, by omega⟩, ?_⟩; (conv => whnf))))
    exact bad (by omega)
  have h : decide (slot ≥ IntKind.i64.wrap (1 * 2 ^ min d.toNat IntKind.i64.bits)) = false := h
  rw [hsh (by omega) (by omega)] at h
  have h := of_decide_eq_false h
  obtain ⟨rfl, hP, hT, g1, g2⟩ := yes ⟨by omega, by omega, heq, by omega, by omega⟩
  clear bad no yes hsh
  obtain ⟨j, hj⟩ : ∃ j : Nat, slot / 60 = (j : Int) := ⟨(slot / 60).toNat, by omega⟩
  rw [hj, Int.toNat_natCast] at hP
  have hjl : j < ms.length := by omega
  have e1 : IntKind.i64.wrap (slot.tdiv 60) = (j : Int) := by rw [Int.tdiv_eq_ediv_of_nonneg (by omega), hj, wrap_eq (by omega) (by omega)]
  have e2 : IntKind.i64.wrap (slot.tmod 60 * 4) = T := by rw [Int.tmod_eq_emod_of_nonneg (by omega), hT, wrap_eq (by omega) (by omega)]
  obtain ⟨ad, rfl⟩ := hr.some (by rw [List.length_map]; omega)
  have hcl := one_cell (j := j) (v := .int .i64 P) (hr.mono hE2) (by rw [List.getElem?_map, List.getElem?_eq_getElem hjl, hP, List.getElem?_eq_getElem hjl]; rfl)
  ((conv => whnf); repeat (first | (apply load_at; (conv => lhs; whnf); (with_reducible assumption); rfl; (conv => whnf)) | (apply load_at; (conv => lhs; rw [add_plain, add_plain]); (with_reducible assumption); rfl; (conv => whnf)) | (apply loads_at; (conv => lhs; whnf); (with_reducible assumption); rfl; (conv => whnf)) | (refine ⟨⟨by omega, by omega⟩, ?_⟩; (conv => whnf))))
  refine ⟨by decide, ?_⟩
  ((conv => whnf); repeat (first | (apply load_at; (conv => lhs; whnf); (with_reducible assumption); rfl; (conv => whnf)) | (apply load_at; (conv => lhs; rw [add_plain, add_plain]); (with_reducible assumption); rfl; (conv => whnf)) | (apply loads_at; (conv => lhs; whnf); (with_reducible assumption); rfl; (conv => whnf)) | (refine ⟨⟨by omega, by omega⟩, ?_⟩; (conv => whnf))))
  rw [e1]
  ((conv => whnf); repeat (first | (apply load_at; (conv => lhs; whnf); (with_reducible assumption); rfl; (conv => whnf)) | (apply load_at; (conv => lhs; rw [add_plain, add_plain]); (with_reducible assumption); rfl; (conv => whnf)) | (apply loads_at; (conv => lhs; whnf); (with_reducible assumption); rfl; (conv => whnf)) | (refine ⟨⟨by omega, by omega⟩, ?_⟩; (conv => whnf))))
  refine load_step hcl ?_
  ((conv => whnf); repeat (first | (apply load_at; (conv => lhs; whnf); (with_reducible assumption); rfl; (conv => whnf)) | (apply load_at; (conv => lhs; rw [add_plain, add_plain]); (with_reducible assumption); rfl; (conv => whnf)) | (apply loads_at; (conv => lhs; whnf); (with_reducible assumption); rfl; (conv => whnf)) | (refine ⟨⟨by omega, by omega⟩, ?_⟩; (conv => whnf))))
  refine ⟨by decide, ?_⟩
  ((conv => whnf); repeat (first | (apply load_at; (conv => lhs; whnf); (with_reducible assumption); rfl; (conv => whnf)) | (apply load_at; (conv => lhs; rw [add_plain, add_plain]); (with_reducible assumption); rfl; (conv => whnf)) | (apply loads_at; (conv => lhs; whnf); (with_reducible assumption); rfl; (conv => whnf)) | (refine ⟨⟨by omega, by omega⟩, ?_⟩; (conv => whnf))))
  refine store_step u 0 _ #[.int .i64 P, .int .i64 (IntKind.i64.wrap (slot.tmod 60 * 4))] rfl hB_u rfl rfl (.inl (Nat.le_refl 0)) (two_ints _ _) ?_
  ((conv => whnf); repeat (first | (apply load_at; (conv => lhs; whnf); (with_reducible assumption); rfl; (conv => whnf)) | (apply load_at; (conv => lhs; rw [add_plain, add_plain]); (with_reducible assumption); rfl; (conv => whnf)) | (apply loads_at; (conv => lhs; whnf); (with_reducible assumption); rfl; (conv => whnf)) | (refine ⟨⟨by omega, by omega⟩, ?_⟩; (conv => whnf))))
  refine res_cells tab_ok rfl rfl (Heap.put_same _ _ _) rfl ?_
  ((conv => whnf); repeat (first | (apply load_at; (conv => lhs; whnf); (with_reducible assumption); rfl; (conv => whnf)) | (apply load_at; (conv => lhs; rw [add_plain, add_plain]); (with_reducible assumption); rfl; (conv => whnf)) | (apply loads_at; (conv => lhs; whnf); (with_reducible assumption); rfl; (conv => whnf)) | (refine ⟨⟨by omega, by omega⟩, ?_⟩; (conv => whnf))))
  refine ⟨?_, hE2.put h0u _⟩
  show Value.tuple #[.agg #[.int .i64 P, .int .i64 (IntKind.i64.wrap (slot.tmod 60 * 4))], .bool true] = _
  rw [e2]
end Go.Proofs.YtmpiggcooboenaaDoor.Al
/- Unpack, Load, Get once more: what they hand back is a row of the call's own. -/
namespace Go.Proofs.YtmpiggcooboenaaDoor.Al
open Go Go.Al Go.Proofs Go.RowKit
set_option maxHeartbeats 8000000
set_option maxRecDepth 100000
set_option linter.unusedVariables false
set_option linter.unusedSimpArgs false
/-- A row of bytes of the call's own. -/
abbrev MineB (F F' : Heap) (u : Value) (l : List UInt8) : Prop := Mine F F' u 5 1 l.length (bytesOf l)
theorem MineB.nil {F F' : Heap} (h : Ext F F') : MineB F F' (.slice none 0 0) [] := Mine.nil _ _ _ _ h
theorem unpackM (b : List UInt8) (A : Option Addr) (c : Nat) (F : Heap) (hr : RowAt F A (bytesOf b)) (hl : b.length ≤ 900000) (hc : b.length ≤ c) (hN : NibAt F) :
    FnK Tryd.prog 61 #[.slice A b.length c] F (fun v F' => ∃ u, v = .tuple #[.int .i64 (unP b), .int .i64 (unQ b), u, .int .i64 (unE b)] ∧ MineB F F' u (unD b) ∧ Ext F F') := by
  have hOk : okU b = ((b.length == 256) && ((sealB (b.drop 4) == b) && secR (getN b 4 4) (getN b 8 8))) := rfl
  unfold unP unQ unD unE
  by_cases hb : b.length = 256
  · have hdl : (b.drop 4).length = 252 := by rw [List.length_drop, hb]
    have hdl2 : (b.drop 16).length = 240 := by rw [List.length_drop, hb]
    have k1 : b.length - 4 = (b.drop 4).length := by rw [List.length_drop]
    have k2 : b.length - 16 = (b.drop 16).length := by rw [List.length_drop]
    have h1 := fun A c F h hN => sealed (b.drop 4) A c F h (by omega) hN
    have hsl : (sealB (b.drop 4)).length = 256 := by rw [sealB_len, hdl]
    have h2 := fun A B c e F hx hy => bytesEqual (sealB (b.drop 4)) b A B c e F hx hy
    have h3 := fun F h => getG 4 (.inr (.inr (.inl rfl))) b A c 4 F h (by omega) hc (by decide)
    have h4 := fun F h => getG 8 (.inr (.inr (.inr rfl))) b A c 8 F h (by omega) hc (by decide)
    have h5 := fun F => secRight (getN b 4 4) (getN b 8 8) F
    have h6 := fun A c F h => clone (b.drop 16) A c F h (by omega)
    have r1 : ∀ F, RowAt F A (bytesOf b) → RowAt F (if c = 4 then A else A.map (·.add (4 * 1))) (bytesOf (b.drop 4)) := fun F h => by
      have := row_cut3 4 252 c 4 h rfl (by omega) (by omega)
      rwa [List.take_of_length_le (by omega)] at this
    have r2 : ∀ F, RowAt F A (bytesOf b) → RowAt F (if c = 16 then A else A.map (·.add (16 * 1))) (bytesOf (b.drop 16)) := fun F h => by
      have := row_cut3 16 240 c 16 h rfl (by omega) (by omega)
      rwa [List.take_of_length_le (by omega)] at this
    generalize getN b 4 4 = p at h3 h5 hOk ⊢
    generalize getN b 8 8 = q at h4 h5 hOk ⊢
    generalize getE b 4 4 = e3 at h3
    generalize getE b 8 8 = e4 at h4
    generalize secR p q = z at h5 hOk
    generalize sealB (b.drop 4) = sb at h1 h2 hsl hOk
    generalize (sb == b) = y at h2 hOk
    generalize b.drop 4 = b4 at h1 r1 k1 hdl
    generalize b.drop 16 = b16 at h6 r2 k2 hdl2 ⊢
    rw [show (b.length == 256) = true by simpa using hb, Bool.true_and] at hOk
    rw [hOk]
    clear hOk
    (refine fn_walk tab_ok Tryd.func61 rfl rfl rfl rfl ?_; (conv => whnf))
    refine cond_split (fun h => ?_) (fun h => ?_)
    rotate_left
    · exact absurd hb (by
        have h : (!((b.length : Int) != 256)) = false := h
        simp only [Bool.not_eq_false', bne_iff_ne, ne_eq] at h
        omega)
    clear h
    ((conv => whnf); repeat (first | (apply load_at; (conv => lhs; whnf); (with_reducible assumption); rfl; (conv => whnf)) | (apply load_at; (conv => lhs; rw [add_plain, add_plain]); (with_reducible assumption); rfl; (conv => whnf)) | (apply loads_at; (conv => lhs; whnf); (with_reducible assumption); rfl; (conv => whnf)) | (refine ⟨⟨by omega, by omega⟩, ?_⟩; (conv => whnf))))
    refine call_args (xs' := #[.slice (if c = 4 then A else A.map (·.add (4 * 1))) b4.length (c - 4)]) ?hq (call_of (h1 _ _ F (r1 F hr) hN) ?_)
    case hq =>
      refine congrArg (fun x => #[x]) (slice_eq rfl ?_ rfl)
      exact k1
    rintro v F1 hM1
    obtain ⟨A1, c1, rfl, _, hr1⟩ := hM1.own.row
    ((conv => whnf); repeat (first | (apply load_at; (conv => lhs; whnf); (with_reducible assumption); rfl; (conv => whnf)) | (apply load_at; (conv => lhs; rw [add_plain, add_plain]); (with_reducible assumption); rfl; (conv => whnf)) | (apply loads_at; (conv => lhs; whnf); (with_reducible assumption); rfl; (conv => whnf)) | (refine ⟨⟨by omega, by omega⟩, ?_⟩; (conv => whnf))))
    refine call_of (h2 A1 A c1 c F1 hr1 (hr.mono hM1.ext)) ?_
    rintro v _ ⟨rfl, rfl⟩
    have hr' := hr.mono hM1.ext
    have hE1 := hM1.ext
    cases y with
    | false =>
      ((conv => whnf); repeat (first | (apply load_at; (conv => lhs; whnf); (with_reducible assumption); rfl; (conv => whnf)) | (apply load_at; (conv => lhs; rw [add_plain, add_plain]); (with_reducible assumption); rfl; (conv => whnf)) | (apply loads_at; (conv => lhs; whnf); (with_reducible assumption); rfl; (conv => whnf)) | (refine ⟨⟨by omega, by omega⟩, ?_⟩; (conv => whnf))))
      exact ⟨_, rfl, MineB.nil hE1, hE1⟩
    | true =>
    rw [Bool.true_and]
    clear h1 h2 hr hM1 hr1
    refine short [0, 13, 18] [.slice A b.length c, .bool false, .bool true] rfl fun ρ => ?_
    ((conv => whnf); repeat (first | (apply load_at; (conv => lhs; whnf); (with_reducible assumption); rfl; (conv => whnf)) | (apply load_at; (conv => lhs; rw [add_plain, add_plain]); (with_reducible assumption); rfl; (conv => whnf)) | (apply loads_at; (conv => lhs; whnf); (with_reducible assumption); rfl; (conv => whnf)) | (refine ⟨⟨by omega, by omega⟩, ?_⟩; (conv => whnf))))
    refine call_of (h3 _ hr') ?_
    rintro v _ ⟨rfl, rfl⟩
    ((conv => whnf); repeat (first | (apply load_at; (conv => lhs; whnf); (with_reducible assumption); rfl; (conv => whnf)) | (apply load_at; (conv => lhs; rw [add_plain, add_plain]); (with_reducible assumption); rfl; (conv => whnf)) | (apply loads_at; (conv => lhs; whnf); (with_reducible assumption); rfl; (conv => whnf)) | (refine ⟨⟨by omega, by omega⟩, ?_⟩; (conv => whnf))))
    refine call_of (h4 _ hr') ?_
    rintro v _ ⟨rfl, rfl⟩
    ((conv => whnf); repeat (first | (apply load_at; (conv => lhs; whnf); (with_reducible assumption); rfl; (conv => whnf)) | (apply load_at; (conv => lhs; rw [add_plain, add_plain]); (with_reducible assumption); rfl; (conv => whnf)) | (apply loads_at; (conv => lhs; whnf); (with_reducible assumption); rfl; (conv => whnf)) | (refine ⟨⟨by omega, by omega⟩, ?_⟩; (conv => whnf))))
    refine call_of (h5 _) ?_
    rintro v _ ⟨rfl, rfl⟩
    cases z with
    | false =>
      ((conv => whnf); repeat (first | (apply load_at; (conv => lhs; whnf); (with_reducible assumption); rfl; (conv => whnf)) | (apply load_at; (conv => lhs; rw [add_plain, add_plain]); (with_reducible assumption); rfl; (conv => whnf)) | (apply loads_at; (conv => lhs; whnf); (with_reducible assumption); rfl; (conv => whnf)) | (refine ⟨⟨by omega, by omega⟩, ?_⟩; (conv => whnf))))
      exact ⟨_, rfl, MineB.nil hE1, hE1⟩
    | true =>
    ((conv => whnf); repeat (first | (apply load_at; (conv => lhs; whnf); (with_reducible assumption); rfl; (conv => whnf)) | (apply load_at; (conv => lhs; rw [add_plain, add_plain]); (with_reducible assumption); rfl; (conv => whnf)) | (apply loads_at; (conv => lhs; whnf); (with_reducible assumption); rfl; (conv => whnf)) | (refine ⟨⟨by omega, by omega⟩, ?_⟩; (conv => whnf))))
    refine call_args (xs' := #[.slice (if c = 16 then A else A.map (·.add (16 * 1))) b16.length (c - 16)]) ?hq2 (call_of (h6 _ _ _ (r2 _ hr')) ?_)
    case hq2 => exact congrArg (fun x => #[x]) (slice_eq rfl k2 rfl)
    rintro v F3 hM3
    obtain ⟨A3, c3, rfl, g1, g2⟩ := hM3.own.row
    ((conv => whnf); repeat (first | (apply load_at; (conv => lhs; whnf); (with_reducible assumption); rfl; (conv => whnf)) | (apply load_at; (conv => lhs; rw [add_plain, add_plain]); (with_reducible assumption); rfl; (conv => whnf)) | (apply loads_at; (conv => lhs; whnf); (with_reducible assumption); rfl; (conv => whnf)) | (refine ⟨⟨by omega, by omega⟩, ?_⟩; (conv => whnf))))
    exact ⟨_, rfl, ⟨hM3.own, fun k hk => hE1.none (hM3.fresh k hk), hE1.trans hM3.ext⟩, hE1.trans hM3.ext⟩
  · rw [show (b.length == 256) = false by simpa using hb, Bool.false_and] at hOk
    rw [hOk]
    have hb' : ((b.length : Int) != 256) = true := by
      rw [bne_iff_ne]
      omega
    clear hOk
    show FnK _ _ _ F (fun v F' => ∃ u, v = .tuple #[.int .i64 0, .int .i64 0, u, .int .i64 4] ∧ MineB F F' u [] ∧ Ext F F')
    (refine fn_walk tab_ok Tryd.func61 rfl rfl rfl rfl ?_; (conv => whnf))
    refine cond_split (fun h => ?_) (fun h => ?_)
    · exact absurd (by
        have h : (!((b.length : Int) != 256)) = true := h
        simp only [Bool.not_eq_true', bne_eq_false_iff_eq] at h
        omega) hb
    clear h
    ((conv => whnf); repeat (first | (apply load_at; (conv => lhs; whnf); (with_reducible assumption); rfl; (conv => whnf)) | (apply load_at; (conv => lhs; rw [add_plain, add_plain]); (with_reducible assumption); rfl; (conv => whnf)) | (apply loads_at; (conv => lhs; whnf); (with_reducible assumption); rfl; (conv => whnf)) | (refine ⟨⟨by omega, by omega⟩, ?_⟩; (conv => whnf))))
    exact ⟨_, rfl, MineB.nil (Ext.refl _), Ext.refl _⟩
theorem lgLoadM {D F : Heap} {b lb : Nat} {s : DS} {q : Int} (hE : Ext D F) (hD : Dk D b s) (h : F lb = some (lgO b q)) (hN : NibAt F) (p : Int) :
    FnK Tryd.prog 17 #[.pointer (some ⟨lb, 0, none⟩), .int .i64 p] F (fun v F' => ∃ u, v = .tuple #[u, .int .i64 (loadE dsO s p)] ∧ MineB F F' u (loadL dsO s p) ∧ Ext F F') := by
  have k0 := lgReady h
  have k1 := fun F hE => dk_size (F := F) hE hD
  have k2 := fun F => home s.size p F
  have k3 := fun F hE => read (F := F) hE hD (homeI s.size p)
  have hl := read_len hD (homeI s.size p)
  have k4 := fun A c F hr hc hN => unpackM (readL s (homeI s.size p)) A c F hr (by omega) hc hN
  have hLE : loadE dsO s p = if isPg s.size p = true then readE s (homeI s.size p) else 1 := rfl
  have hLL : loadL dsO s p = if isPg s.size p = true then (if readE s (homeI s.size p) ≠ 0 then [] else if unE (readL s (homeI s.size p)) ≠ 0 ∨ unP (readL s (homeI s.size p)) ≠ p then zeros240 else unD (readL s (homeI s.size p))) else [] := rfl
  generalize loadE dsO s p = le at hLE
  generalize loadL dsO s p = ll at hLL
  generalize homeI s.size p = hm at k2 k3 hl k4 hLE hLL
  generalize unP (readL s hm) = up at k4 hLL
  generalize unQ (readL s hm) = uq at k4
  generalize unE (readL s hm) = ue at k4 hLL
  generalize unD (readL s hm) = ud at k4 hLL
  generalize readL s hm = l at k3 k4 hl
  generalize readE s hm = re at k3 hLE hLL
  generalize isPg s.size p = z at k2 hLE hLL
  (refine fn_walk tab_ok Tryd.func17 rfl rfl rfl rfl ?_; (conv => whnf))
  refine call_of k0 ?_
  rintro v F ⟨rfl, rfl⟩
  ((conv => whnf); repeat (first | (apply load_at; (conv => lhs; whnf); (with_reducible assumption); rfl; (conv => whnf)) | (apply load_at; (conv => lhs; rw [add_plain, add_plain]); (with_reducible assumption); rfl; (conv => whnf)) | (apply loads_at; (conv => lhs; whnf); (with_reducible assumption); rfl; (conv => whnf)) | (refine ⟨⟨by omega, by omega⟩, ?_⟩; (conv => whnf))))
  refine call_of (k1 F hE) ?_
  rintro v F ⟨rfl, rfl⟩
  ((conv => whnf); repeat (first | (apply load_at; (conv => lhs; whnf); (with_reducible assumption); rfl; (conv => whnf)) | (apply load_at; (conv => lhs; rw [add_plain, add_plain]); (with_reducible assumption); rfl; (conv => whnf)) | (apply loads_at; (conv => lhs; whnf); (with_reducible assumption); rfl; (conv => whnf)) | (refine ⟨⟨by omega, by omega⟩, ?_⟩; (conv => whnf))))
  refine call_of (k2 F) ?_
  rintro v F1 ⟨rfl, hE1⟩
  have h1 := hE1 _ _ h
  refine short [0, 1, 23] [.pointer (some ⟨lb, 0, none⟩), .int .i64 p, .tuple #[.int .i64 hm, .bool z]] rfl fun ρ => ?_
  cases z with
  | false =>
    rw [if_neg (by decide)] at hLE hLL
    subst hLE hLL
    ((conv => whnf); repeat (first | (apply load_at; (conv => lhs; whnf); (with_reducible assumption); rfl; (conv => whnf)) | (apply load_at; (conv => lhs; rw [add_plain, add_plain]); (with_reducible assumption); rfl; (conv => whnf)) | (apply loads_at; (conv => lhs; whnf); (with_reducible assumption); rfl; (conv => whnf)) | (refine ⟨⟨by omega, by omega⟩, ?_⟩; (conv => whnf))))
    exact ⟨_, rfl, MineB.nil hE1, hE1⟩
  | true =>
  rw [if_pos rfl] at hLE hLL
  ((conv => whnf); repeat (first | (apply load_at; (conv => lhs; whnf); (with_reducible assumption); rfl; (conv => whnf)) | (apply load_at; (conv => lhs; rw [add_plain, add_plain]); (with_reducible assumption); rfl; (conv => whnf)) | (apply loads_at; (conv => lhs; whnf); (with_reducible assumption); rfl; (conv => whnf)) | (refine ⟨⟨by omega, by omega⟩, ?_⟩; (conv => whnf))))
  refine call_of (k3 F1 (hE.trans hE1)) ?_
  rintro v F2 ⟨w, rfl, ⟨A, c, rfl, hc, hr, hf⟩, hE2⟩
  have hE02 := hE1.trans hE2
  refine short [0, 1, 34] [.pointer (some ⟨lb, 0, none⟩), .int .i64 p, .tuple #[.slice A l.length c, .int .i64 re]] rfl fun ρ => ?_
  ((conv => whnf); repeat (first | (apply load_at; (conv => lhs; whnf); (with_reducible assumption); rfl; (conv => whnf)) | (apply load_at; (conv => lhs; rw [add_plain, add_plain]); (with_reducible assumption); rfl; (conv => whnf)) | (apply loads_at; (conv => lhs; whnf); (with_reducible assumption); rfl; (conv => whnf)) | (refine ⟨⟨by omega, by omega⟩, ?_⟩; (conv => whnf))))
  refine cond_split (fun h => ?_) (fun h => ?_)
  · have he : re ≠ 0 := by
      have h : (re != 0) = true := h
      simpa using h
    rw [if_pos he] at hLL
    subst hLE hLL
    ((conv => whnf); repeat (first | (apply load_at; (conv => lhs; whnf); (with_reducible assumption); rfl; (conv => whnf)) | (apply load_at; (conv => lhs; rw [add_plain, add_plain]); (with_reducible assumption); rfl; (conv => whnf)) | (apply loads_at; (conv => lhs; whnf); (with_reducible assumption); rfl; (conv => whnf)) | (refine ⟨⟨by omega, by omega⟩, ?_⟩; (conv => whnf))))
    exact ⟨_, rfl, MineB.nil hE02, hE02⟩
  have he : ¬ re ≠ 0 := by
    have h : (re != 0) = false := h
    simpa using h
  rw [if_neg he] at hLL
  have he0 : le = 0 := by omega
  clear h
  ((conv => whnf); repeat (first | (apply load_at; (conv => lhs; whnf); (with_reducible assumption); rfl; (conv => whnf)) | (apply load_at; (conv => lhs; rw [add_plain, add_plain]); (with_reducible assumption); rfl; (conv => whnf)) | (apply loads_at; (conv => lhs; whnf); (with_reducible assumption); rfl; (conv => whnf)) | (refine ⟨⟨by omega, by omega⟩, ?_⟩; (conv => whnf))))
  refine call_of (k4 A c F2 hr hc (hN.mono hE02)) ?_
  rintro v F3 ⟨w, rfl, hw, hE3⟩
  have hE03 := hE02.trans hE3
  subst he0
  clear hLE he
  refine short [0, 1, 42] [.pointer (some ⟨lb, 0, none⟩), .int .i64 p, .tuple #[.int .i64 up, .int .i64 uq, w, .int .i64 ue]] rfl fun ρ => ?_
  have zz : (ue ≠ 0 ∨ up ≠ p) → ∀ (G : Heap) (g : Nat), F3 g = none → G = F3.put g (.cells (List.replicate 240 (Value.int .u8 0)).toArray 5) → MineB F G (.slice (some ⟨g, 0, none⟩) 240 240) ll ∧ Ext F G := by
    intro hh G g hg e
    rw [if_pos hh] at hLL
    subst hLL e
    have m := mine_blk (n := 240) (c := 240) (z := 1) (hE03.trans (Ext.new hg _)) (hE03.none hg) (Heap.put_same F3 g (.cells (List.replicate 240 (Value.int .u8 0)).toArray 5)) (by rw [List.size_toArray, List.length_replicate]) (Nat.le_refl _)
    rw [List.toList_toArray, List.take_of_length_le (by rw [List.length_replicate]; exact Nat.le_refl _), zeros_bytes] at m
    exact ⟨m, hE03.trans (Ext.new hg _)⟩
  ((conv => whnf); repeat (first | (apply load_at; (conv => lhs; whnf); (with_reducible assumption); rfl; (conv => whnf)) | (apply load_at; (conv => lhs; rw [add_plain, add_plain]); (with_reducible assumption); rfl; (conv => whnf)) | (apply loads_at; (conv => lhs; whnf); (with_reducible assumption); rfl; (conv => whnf)) | (refine ⟨⟨by omega, by omega⟩, ?_⟩; (conv => whnf))))
  refine cond_split (fun h => ?_) (fun h => ?_)
  · have hu : (ue == 0) = true := by
      have h : (!(ue != 0)) = true := h
      simpa using h
    have hu0 : ue = 0 := by simpa using hu
    clear h
    ((conv => whnf); repeat (first | (apply load_at; (conv => lhs; whnf); (with_reducible assumption); rfl; (conv => whnf)) | (apply load_at; (conv => lhs; rw [add_plain, add_plain]); (with_reducible assumption); rfl; (conv => whnf)) | (apply loads_at; (conv => lhs; whnf); (with_reducible assumption); rfl; (conv => whnf)) | (refine ⟨⟨by omega, by omega⟩, ?_⟩; (conv => whnf))))
    refine cond_split (fun h => ?_) (fun h => ?_)
    · have hp : up ≠ p := by
        have h : (up != p) = true := h
        simpa using h
      ((conv => whnf); repeat (first | (apply load_at; (conv => lhs; whnf); (with_reducible assumption); rfl; (conv => whnf)) | (apply load_at; (conv => lhs; rw [add_plain, add_plain]); (with_reducible assumption); rfl; (conv => whnf)) | (apply loads_at; (conv => lhs; whnf); (with_reducible assumption); rfl; (conv => whnf)) | (refine ⟨⟨by omega, by omega⟩, ?_⟩; (conv => whnf))))
      refine make_one tab_ok (z0 := .int .u8 0) 240 240 rfl rfl rfl rfl rfl ⟨rfl, by decide, _, rfl, rfl⟩ (by decide) (by decide) fun g h0_g => ?_
      obtain ⟨zr, zE⟩ := zz (.inr hp) _ g h0_g rfl
      generalize F3.put g _ = F4 at zr zE ⊢
      ((conv => whnf); repeat (first | (apply load_at; (conv => lhs; whnf); (with_reducible assumption); rfl; (conv => whnf)) | (apply load_at; (conv => lhs; rw [add_plain, add_plain]); (with_reducible assumption); rfl; (conv => whnf)) | (apply loads_at; (conv => lhs; whnf); (with_reducible assumption); rfl; (conv => whnf)) | (refine ⟨⟨by omega, by omega⟩, ?_⟩; (conv => whnf))))
      exact ⟨_, rfl, zr, zE⟩
    · have hp : ¬ up ≠ p := by
        have h : (up != p) = false := h
        simpa using h
      rw [if_neg (by rintro (e | e); exact e hu0; exact hp e)] at hLL
      subst hLL
      ((conv => whnf); repeat (first | (apply load_at; (conv => lhs; whnf); (with_reducible assumption); rfl; (conv => whnf)) | (apply load_at; (conv => lhs; rw [add_plain, add_plain]); (with_reducible assumption); rfl; (conv => whnf)) | (apply loads_at; (conv => lhs; whnf); (with_reducible assumption); rfl; (conv => whnf)) | (refine ⟨⟨by omega, by omega⟩, ?_⟩; (conv => whnf))))
      exact ⟨_, rfl, ⟨hw.own, fun k hk => hE02.none (hw.fresh k hk), hE03⟩, hE03⟩
  · have hu : ue ≠ 0 := by
      have h : (!(ue != 0)) = false := h
      simpa using h
    ((conv => whnf); repeat (first | (apply load_at; (conv => lhs; whnf); (with_reducible assumption); rfl; (conv => whnf)) | (apply load_at; (conv => lhs; rw [add_plain, add_plain]); (with_reducible assumption); rfl; (conv => whnf)) | (apply loads_at; (conv => lhs; whnf); (with_reducible assumption); rfl; (conv => whnf)) | (refine ⟨⟨by omega, by omega⟩, ?_⟩; (conv => whnf))))
    refine make_one tab_ok (z0 := .int .u8 0) 240 240 rfl rfl rfl rfl rfl ⟨rfl, by decide, _, rfl, rfl⟩ (by decide) (by decide) fun g h0_g => ?_
    obtain ⟨zr, zE⟩ := zz (.inl hu) _ g h0_g rfl
    generalize F3.put g _ = F4 at zr zE ⊢
    ((conv => whnf); repeat (first | (apply load_at; (conv => lhs; whnf); (with_reducible assumption); rfl; (conv => whnf)) | (apply load_at; (conv => lhs; rw [add_plain, add_plain]); (with_reducible assumption); rfl; (conv => whnf)) | (apply loads_at; (conv => lhs; whnf); (with_reducible assumption); rfl; (conv => whnf)) | (refine ⟨⟨by omega, by omega⟩, ?_⟩; (conv => whnf))))
    exact ⟨_, rfl, zr, zE⟩
theorem Lg.loadM {E F : Heap} {lb b : Nat} {s : DS} {q : Int} (hE : Ext E F) (hL : Lg E lb b s q) (hN : NibAt F) (p : Int) : FnK Tryd.prog 17 #[.pointer (some ⟨lb, 0, none⟩), .int .i64 p] F (fun v F' => ∃ u, v = .tuple #[u, .int .i64 (loadE dsO s p)] ∧ MineB F F' u (loadL dsO s p) ∧ Ext F F') := by
  obtain ⟨D0, h1, h2, h3⟩ := hL.disk
  exact lgLoadM (h2.trans hE) h1 (hE _ _ h3) hN p
theorem pgGetM {D F : Heap} {pb : Nat} {s : DS} {q : Int} {S : PgL} (hE : Ext D F) (hD : Pg D pb s q S) (hN : NibAt F) (p : Int) :
    FnK Tryd.prog 49 #[.pointer (some ⟨pb, 0, none⟩), .int .i64 p] F (fun v F' => ∃ u, v = .tuple #[u, .int .i64 (pgE dsO s S p)] ∧ MineB F F' u (pgD dsO s S p) ∧ Ext F F') := by
  obtain ⟨hs, ho, lb, b, ms, L, lS, G, hP⟩ := hD
  have hc := hE _ _ hP.cell
  have k0 := pgReady hc
  have k1 := Lg.loadM (hP.baseL.trans hE) hP.log hN p
  have hm := hP.map.mono hE
  cases hg : getM lS p with
  | none =>
    have h1 := hP.rs.no p hg
    unfold pgE pgD
    rw [h1]
    dsimp only
    generalize loadE dsO s p = le at k1 ⊢
    generalize loadL dsO s p = ll at k1 ⊢
    (refine fn_walk tab_ok Tryd.func49 rfl rfl rfl rfl ?_; (conv => whnf))
    refine call_of k0 ?_
    rintro v F ⟨rfl, rfl⟩
    ((conv => whnf); repeat (first | (apply load_at; (conv => lhs; whnf); (with_reducible assumption); rfl; (conv => whnf)) | (apply load_at; (conv => lhs; rw [add_plain, add_plain]); (with_reducible assumption); rfl; (conv => whnf)) | (apply loads_at; (conv => lhs; whnf); (with_reducible assumption); rfl; (conv => whnf)) | (refine ⟨⟨by omega, by omega⟩, ?_⟩; (conv => whnf))))
    refine op_lookup_at tab_ok rfl rfl rfl rfl rfl rfl rfl hm.at_ hg ?_
    ((conv => whnf); repeat (first | (apply load_at; (conv => lhs; whnf); (with_reducible assumption); rfl; (conv => whnf)) | (apply load_at; (conv => lhs; rw [add_plain, add_plain]); (with_reducible assumption); rfl; (conv => whnf)) | (apply loads_at; (conv => lhs; whnf); (with_reducible assumption); rfl; (conv => whnf)) | (refine ⟨⟨by omega, by omega⟩, ?_⟩; (conv => whnf))))
    refine call_of k1 ?_
    rintro v F1 ⟨u, rfl, hu, hE1⟩
    ((conv => whnf); repeat (first | (apply load_at; (conv => lhs; whnf); (with_reducible assumption); rfl; (conv => whnf)) | (apply load_at; (conv => lhs; rw [add_plain, add_plain]); (with_reducible assumption); rfl; (conv => whnf)) | (apply loads_at; (conv => lhs; whnf); (with_reducible assumption); rfl; (conv => whnf)) | (refine ⟨⟨by omega, by omega⟩, ?_⟩; (conv => whnf))))
    exact ⟨_, rfl, hu, hE1⟩
  | some v0 =>
    obtain ⟨l, h1, h2, A, c, rfl, h3, h4⟩ := hP.rs.yes p v0 hg
    have k2 := clone l A c F (h4.mono (hP.base.trans hE)) (by omega)
    unfold pgE pgD
    rw [h1]
    dsimp only
    (refine fn_walk tab_ok Tryd.func49 rfl rfl rfl rfl ?_; (conv => whnf))
    refine call_of k0 ?_
    rintro v F ⟨rfl, rfl⟩
    ((conv => whnf); repeat (first | (apply load_at; (conv => lhs; whnf); (with_reducible assumption); rfl; (conv => whnf)) | (apply load_at; (conv => lhs; rw [add_plain, add_plain]); (with_reducible assumption); rfl; (conv => whnf)) | (apply loads_at; (conv => lhs; whnf); (with_reducible assumption); rfl; (conv => whnf)) | (refine ⟨⟨by omega, by omega⟩, ?_⟩; (conv => whnf))))
    refine op_lookup_at tab_ok rfl rfl rfl rfl rfl rfl rfl hm.at_ hg ?_
    ((conv => whnf); repeat (first | (apply load_at; (conv => lhs; whnf); (with_reducible assumption); rfl; (conv => whnf)) | (apply load_at; (conv => lhs; rw [add_plain, add_plain]); (with_reducible assumption); rfl; (conv => whnf)) | (apply loads_at; (conv => lhs; whnf); (with_reducible assumption); rfl; (conv => whnf)) | (refine ⟨⟨by omega, by omega⟩, ?_⟩; (conv => whnf))))
    refine call_of k2 ?_
    rintro v F1 hM
    ((conv => whnf); repeat (first | (apply load_at; (conv => lhs; whnf); (with_reducible assumption); rfl; (conv => whnf)) | (apply load_at; (conv => lhs; rw [add_plain, add_plain]); (with_reducible assumption); rfl; (conv => whnf)) | (apply loads_at; (conv => lhs; whnf); (with_reducible assumption); rfl; (conv => whnf)) | (refine ⟨⟨by omega, by omega⟩, ?_⟩; (conv => whnf))))
    exact ⟨_, rfl, hM, hM.ext⟩
end Go.Proofs.YtmpiggcooboenaaDoor.Al
/- Logs: a commit that may be cut short, opened again: both ways that it may go. -/
namespace Go.Proofs.YtmpiggcooboenaaDoor.Al
open Go Go.Al Go.Proofs Go.RowKit
set_option maxHeartbeats 8000000
set_option maxRecDepth 100000
set_option linter.unusedVariables false
set_option linter.unusedSimpArgs false
/-- What opening makes of a disk, and what its pages are then. -/
structure Way (n cnt q : Int) (X Y : (Int → List UInt8) → Prop) (pg : Int → List UInt8) : Prop where
  x : Cls n cnt q X
  y : Cls n cnt q Y
  go : ∀ c c', X c → X c' → (∀ ws, wholeO (cO n) c cnt q = some ws → c' = putAll c ws) → Y c'
  at_ : ∀ c, Y c → ∀ p, isPg n p = true → pgOf n c p = pg p
theorem putL_cut {cs ys : List Value} {off n : Nat} (h : off + ys.length ≤ n) (hn : n ≤ cs.length) : (putL cs off ys).take n = (cs.take n).take off ++ (ys ++ (cs.take n).drop (off + ys.length)) := by
  have e1 : (cs.take off).take n = cs.take off := List.take_of_length_le (by rw [List.length_take]; omega)
  have e2 : (ys ++ cs.drop (off + ys.length)).take (n - off) = ys ++ (cs.drop (off + ys.length)).take (n - off - ys.length) := by
    rw [List.take_append, List.take_of_length_le (show ys.length ≤ n - off by omega)]
  rw [putL_eq ys cs off (by omega), List.take_append, List.length_take, Nat.min_eq_left (show off ≤ cs.length by omega), e1, e2, List.take_take, Nat.min_eq_left (show off ≤ n by omega), List.drop_take, show n - (off + ys.length) = n - off - ys.length by omega]
end Go.Proofs.YtmpiggcooboenaaDoor.Al
