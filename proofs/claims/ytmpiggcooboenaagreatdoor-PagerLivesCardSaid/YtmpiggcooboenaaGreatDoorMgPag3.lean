/- Texts of this claim, joined: DskC DskD DskE DskAwake AlStruct DskOpen DskF DskG DskH DskI DskJ DskK DskL DskSafe DskM DskN RedB AlGrow RedC. -/
import Derived.Test.YtmpiggcooboenaaGreatDoorMgPag1
import Derived.Test.YtmpiggcooboenaaGreatDoorMgPag2
/- Disks: disk.New, Write and Read, over what is known of memory. -/
namespace Go.Proofs.YtmpiggcooboenaaGreatDoor.Al
open Go Go.Al Go.Proofs Go.RowKit
set_option maxHeartbeats 8000000
set_option maxRecDepth 100000
set_option linter.unusedVariables false
set_option linter.unusedSimpArgs false
def emptyH : Heap := fun _ => none
theorem emptyH_ext (F : Heap) : Ext emptyH F := fun c o h => by cases h
def newS (n : Int) : DS := ⟨false, 0, false, n, fun _ => none, fun _ => none, [], 0⟩
theorem newS_wf {n : Int} (h : 3 ≤ n) (h2 : n ≤ 65536) : DWf (newS n) where
  sz := ⟨h, h2⟩
  lf := ⟨(by decide : (0 : Int) ≤ 0), (by decide : (0 : Int) ≤ 9223372036854775807)⟩
  wr := ⟨(by decide : (0 : Int) ≤ 0), (by decide : (0 : Int) ≤ 1000000000)⟩
  ord := (by decide : ((0 : Nat) : Int) ≤ 0)
  fr := fun i => ⟨fun h => (List.not_mem_nil h).elim, fun h => (h rfl).elim⟩
  inr := fun i hi => (List.not_mem_nil hi).elim
  nod := List.nodup_nil
theorem new (n : Int) (F : Heap) : FnK Tryz.prog 23 #[.int .i64 n] F (fun v F' => ((n < 3 ∨ n > 65536) ∧ v = .tuple #[.pointer none, .int .i64 1] ∧ F' = F) ∨
    (3 ≤ n ∧ n ≤ 65536 ∧ ∃ b D', v = .tuple #[.pointer (some ⟨b, 0, none⟩), .int .i64 0] ∧ Moves emptyH F D' F' ∧ Dk D' b (newS n))) := by
  (refine fn_walk tab_ok Tryz.func23 rfl rfl rfl rfl ?_; (conv => whnf))
  refine cond_split (fun h => ?_) (fun h => ?_)
  · have h : (!decide (n < 3)) = true := h
    have h3 : ¬ n < 3 := by simpa using h
    (conv => whnf)
    refine cond_split (fun h => ?_) (fun h => ?_)
    · have h : decide (n > 65536) = true := h
      (conv => whnf)
      exact .inl ⟨.inr (of_decide_eq_true h), rfl, rfl⟩
    · have h : decide (n > 65536) = false := h
      have h4 := of_decide_eq_false h
      (conv => whnf)
      refine op_makeMap rfl fun m1 h1 => ?_
      have M1 := Moves.put (emptyH_ext F) (.inr h1) (.map #[] 0)
      have A1 := Heap.put_same F m1 (.map #[] 0)
      have B1 : Heap.put emptyH m1 (.map #[] 0) = Heap.put emptyH m1 (.map #[] 0) := rfl
      generalize F.put m1 _ = F1 at M1 A1 ⊢
      (conv => whnf)
      refine op_makeMap rfl fun m2 h2 => ?_
      have M2 := M1.trans (Moves.put M1.inn (.inr h2) (.map #[] 0))
      have A2 : F1.put m2 (.map #[] 0) m1 = some (.map #[] 0) := by rw [Heap.put_other _ _ (fun e => by rw [e, h2] at A1; cases A1)]; exact A1
      have A3 := Heap.put_same F1 m2 (.map #[] 0)
      generalize F1.put m2 _ = F2 at M2 A2 A3 ⊢
      (conv => whnf)
      refine new_step (dkO false 0 false n (.map (some m1)) (.map (some m2)) (.slice none 0 0) 0) rfl fun b hb => ?_
      have M3 := M2.trans (Moves.put M2.inn (.inr hb) (dkO false 0 false n (.map (some m1)) (.map (some m2)) (.slice none 0 0) 0))
      have n1 : m1 ≠ m2 := fun e => by rw [e, h2] at A1; cases A1
      have n2 : m1 ≠ b := fun e => by rw [e, hb] at A2; cases A2
      have n3 : m2 ≠ b := fun e => by rw [e, hb] at A3; cases A3
      (conv => whnf)
      refine .inr ⟨by omega, by omega, b, _, rfl, M3, newS_wf (by omega) (by omega), m1, m2, .slice none 0 0, [], [], emptyH, ?_⟩
      exact ⟨Heap.put_same _ _ _, ⟨_, by rw [Heap.put_other _ _ n2, Heap.put_other _ _ n1, Heap.put_same], #[], 0, rfl, rfl⟩, ⟨_, by rw [Heap.put_other _ _ n3, Heap.put_same], #[], 0, rfl, rfl⟩, ⟨rfl, .inl ⟨rfl, rfl⟩⟩, emptyH_ext _, rfl, rfl, rfl, fun k hk => rfl, n1, (by intro e; cases e), MapR.nil _, MapR.nil _⟩
  · have h : (!decide (n < 3)) = false := h
    have h3 : n < 3 := by simpa using h
    (conv => whnf)
    exact .inl ⟨.inl h3, rfl, rfl⟩
def writeE (s : DS) (i : Int) (l : List UInt8) : Int := if s.down = true then 5 else if ¬ (0 ≤ i ∧ i < s.size) ∨ l.length ≠ 256 then 1 else if burnOk s.armed s.left = true then 0 else 5
def writeS (s : DS) (i : Int) (l : List UInt8) : DS :=
  if s.down = true ∨ ¬ (0 ≤ i ∧ i < s.size) ∨ l.length ≠ 256 then s else if burnOk s.armed s.left = true then
    { s with left := if s.armed = true then s.left - 1 else s.left, fresh := updF s.fresh i (some l), order := if s.fresh i = none then s.order ++ [i] else s.order, writes := s.writes + 1 }
  else { s with down := true }
theorem write_wf {s : DS} (h : DWf s) {i : Int} (hi : 0 ≤ i ∧ i < s.size) (hw : s.writes < 1000000000) (l : List UInt8) {lf : Int} (hlf : 0 ≤ lf ∧ lf ≤ 9223372036854775807) {o : List Int} (ho : o = if s.fresh i = none then s.order ++ [i] else s.order) :
    DWf { s with left := lf, fresh := updF s.fresh i (some l), order := o, writes := s.writes + 1 } := by
  have h1 := h.wr
  have h2 := h.ord
  have hmem : ∀ k, k ∈ o ↔ updF s.fresh i (some l) k ≠ none := fun k => by
    subst ho
    unfold updF
    by_cases e : s.fresh i = none
    · rw [if_pos e, List.mem_append, List.mem_singleton, h.fr]
      by_cases e2 : k = i
      · rw [if_pos e2]; exact ⟨fun _ h => (by cases h), fun _ => .inr e2⟩
      · rw [if_neg e2]; exact ⟨fun h => h.resolve_right e2, .inl⟩
    · rw [if_neg e, h.fr]
      by_cases e2 : k = i
      · rw [if_pos e2, e2]; exact ⟨fun _ h => (by cases h), fun _ => e⟩
      · rw [if_neg e2]
  refine ⟨h.sz, hlf, ⟨(by omega : 0 ≤ s.writes + 1), (by omega : s.writes + 1 ≤ 1000000000)⟩, (?_ : (o.length : Int) ≤ s.writes + 1), hmem, fun k hk => (?_ : 0 ≤ k ∧ k < s.size), (?_ : o.Nodup)⟩
  · subst ho
    split
    · rw [List.length_append]; simp only [List.length_singleton]; omega
    · omega
  · subst ho
    by_cases e : s.fresh i = none
    · rw [if_pos e] at hk
      rcases List.mem_append.1 hk with hk | hk
      · exact h.inr k hk
      · rw [List.mem_singleton] at hk; rw [hk]; exact hi
    · rw [if_neg e] at hk; exact h.inr k hk
  · subst ho
    by_cases e : s.fresh i = none
    · rw [if_pos e, List.nodup_append]
      refine ⟨h.nod, List.nodup_cons.2 ⟨List.not_mem_nil, List.nodup_nil⟩, fun x hx y hy => ?_⟩
      rw [List.mem_singleton] at hy
      subst hy
      intro e2
      subst e2
      exact (h.fr x).1 hx e
    · rw [if_neg e]; exact h.nod
theorem write {D F R : Heap} {b : Nat} {s : DS} (hE : Ext D F) (hD : Dk D b s) (hR : Ext R F) (hA : Apart D R) (l : List UInt8) (A : Option Addr) (c : Nat) (hr : RowAt R A (bytesOf l)) (hl : l.length ≤ 900000) (i : Int) (hw : s.writes < 1000000000) :
    FnK Tryz.prog 70 #[.pointer (some ⟨b, 0, none⟩), .int .i64 i, .slice A l.length c] F (fun v F' => v = .int .i64 (writeE s i l) ∧ ∃ D', Moves D F D' F' ∧ Dk D' b (writeS s i l)) := by
  obtain ⟨hwf, ms, mf, S, lS, lF, G, hP⟩ := hD
  have hsz := hwf.sz
  have hcell := hE _ _ hP.cell
  have hm := may hcell
  have ht := there hcell i
  have hwe : writeE s i l = if s.down = true then 5 else if ¬ (0 ≤ i ∧ i < s.size) ∨ l.length ≠ 256 then 1 else if burnOk s.armed s.left = true then 0 else 5 := rfl
  have hws : writeS s i l = if s.down = true ∨ ¬ (0 ≤ i ∧ i < s.size) ∨ l.length ≠ 256 then s else if burnOk s.armed s.left = true then
    { s with left := if s.armed = true then s.left - 1 else s.left, fresh := updF s.fresh i (some l), order := if s.fresh i = none then s.order ++ [i] else s.order, writes := s.writes + 1 }
  else { s with down := true } := rfl
  rw [show mayE s.down s.size = if s.down = true then 5 else 0 from if_pos (by omega)] at hm
  generalize writeE s i l = we at hwe ⊢
  generalize writeS s i l = ws at hws ⊢
  (refine fn_walk tab_ok Tryz.func70 rfl rfl rfl rfl ?_; (conv => whnf))
  refine call_of hm ?_
  rintro v F2 ⟨rfl, rfl⟩
  ((conv => whnf); repeat (first | (apply load_at; (conv => lhs; whnf); (with_reducible assumption); rfl; (conv => whnf)) | (apply load_at; (conv => lhs; rw [add_plain, add_plain]); (with_reducible assumption); rfl; (conv => whnf)) | (apply loads_at; (conv => lhs; whnf); (with_reducible assumption); rfl; (conv => whnf)) | (refine ⟨⟨by omega, by omega⟩, ?_⟩; (conv => whnf))))
  refine cond_split (fun h => ?_) (fun h => ?_)
  · have h : ((if s.down = true then (5 : Int) else 0) != 0) = true := h
    have hd : s.down = true := by
      cases e : s.down with
      | true => rfl
      | false => rw [e] at h; exact absurd h (by decide)
    rw [if_pos hd] at hwe
    rw [if_pos (.inl hd)] at hws
    ((conv => whnf); repeat (first | (apply load_at; (conv => lhs; whnf); (with_reducible assumption); rfl; (conv => whnf)) | (apply load_at; (conv => lhs; rw [add_plain, add_plain]); (with_reducible assumption); rfl; (conv => whnf)) | (apply loads_at; (conv => lhs; whnf); (with_reducible assumption); rfl; (conv => whnf)) | (refine ⟨⟨by omega, by omega⟩, ?_⟩; (conv => whnf))))
    refine ⟨?_, D, Moves.refl hE, by rw [hws]; exact ⟨hwf, ms, mf, S, lS, lF, G, hP⟩⟩
    rw [hwe]
    show Value.int .i64 (if s.down = true then 5 else 0) = _
    rw [if_pos hd]
  have h : ((if s.down = true then (5 : Int) else 0) != 0) = false := h
  have hd : s.down = false := by
    cases e : s.down with
    | true => rw [e] at h; exact absurd h (by decide)
    | false => rfl
  rw [if_neg (by rw [hd]; decide)] at hwe
  have hdn : ¬ s.down = true := by rw [hd]; decide
  ((conv => whnf); repeat (first | (apply load_at; (conv => lhs; whnf); (with_reducible assumption); rfl; (conv => whnf)) | (apply load_at; (conv => lhs; rw [add_plain, add_plain]); (with_reducible assumption); rfl; (conv => whnf)) | (apply loads_at; (conv => lhs; whnf); (with_reducible assumption); rfl; (conv => whnf)) | (refine ⟨⟨by omega, by omega⟩, ?_⟩; (conv => whnf))))
  refine call_of ht ?_
  rintro v F2 ⟨rfl, rfl⟩
  ((conv => whnf); repeat (first | (apply load_at; (conv => lhs; whnf); (with_reducible assumption); rfl; (conv => whnf)) | (apply load_at; (conv => lhs; rw [add_plain, add_plain]); (with_reducible assumption); rfl; (conv => whnf)) | (apply loads_at; (conv => lhs; whnf); (with_reducible assumption); rfl; (conv => whnf)) | (refine ⟨⟨by omega, by omega⟩, ?_⟩; (conv => whnf))))
  refine cond_split (fun h => ?_) (fun h => ?_)
  case refine_2 =>
    have h : (!!decide (0 ≤ i ∧ i < s.size)) = false := h
    have hi : ¬ (0 ≤ i ∧ i < s.size) := by simpa only [Bool.not_not, decide_eq_false_iff_not] using h
    rw [if_pos (.inl hi)] at hwe
    rw [if_pos (.inr (.inl hi))] at hws
    ((conv => whnf); repeat (first | (apply load_at; (conv => lhs; whnf); (with_reducible assumption); rfl; (conv => whnf)) | (apply load_at; (conv => lhs; rw [add_plain, add_plain]); (with_reducible assumption); rfl; (conv => whnf)) | (apply loads_at; (conv => lhs; whnf); (with_reducible assumption); rfl; (conv => whnf)) | (refine ⟨⟨by omega, by omega⟩, ?_⟩; (conv => whnf))))
    refine ⟨by rw [hwe]; rfl, D, Moves.refl hE, by rw [hws]; exact ⟨hwf, ms, mf, S, lS, lF, G, hP⟩⟩
  have h : (!!decide (0 ≤ i ∧ i < s.size)) = true := h
  have hi : 0 ≤ i ∧ i < s.size := by simpa only [Bool.not_not, decide_eq_true_eq] using h
  ((conv => whnf); repeat (first | (apply load_at; (conv => lhs; whnf); (with_reducible assumption); rfl; (conv => whnf)) | (apply load_at; (conv => lhs; rw [add_plain, add_plain]); (with_reducible assumption); rfl; (conv => whnf)) | (apply loads_at; (conv => lhs; whnf); (with_reducible assumption); rfl; (conv => whnf)) | (refine ⟨⟨by omega, by omega⟩, ?_⟩; (conv => whnf))))
  refine cond_split (fun h => ?_) (fun h => ?_)
  · have h : ((l.length : Int) != 256) = true := h
    have hne : l.length ≠ 256 := fun e => by rw [e] at h; exact absurd h (by decide)
    rw [if_pos (.inr hne)] at hwe
    rw [if_pos (.inr (.inr hne))] at hws
    ((conv => whnf); repeat (first | (apply load_at; (conv => lhs; whnf); (with_reducible assumption); rfl; (conv => whnf)) | (apply load_at; (conv => lhs; rw [add_plain, add_plain]); (with_reducible assumption); rfl; (conv => whnf)) | (apply loads_at; (conv => lhs; whnf); (with_reducible assumption); rfl; (conv => whnf)) | (refine ⟨⟨by omega, by omega⟩, ?_⟩; (conv => whnf))))
    refine ⟨by rw [hwe]; rfl, D, Moves.refl hE, by rw [hws]; exact ⟨hwf, ms, mf, S, lS, lF, G, hP⟩⟩
  have h : ((l.length : Int) != 256) = false := h
  have hl256 : l.length = 256 := by have := bne_eq_false_iff_eq.1 h; omega
  rw [if_neg (by rintro (h1 | h1); exact h1 hi; exact h1 hl256)] at hwe
  rw [if_neg (by rintro (h1 | h1 | h1); exact hdn h1; exact h1 hi; exact h1 hl256)] at hws
  have hbn := burn hcell hwf.lf.1 hwf.lf.2
  ((conv => whnf); repeat (first | (apply load_at; (conv => lhs; whnf); (with_reducible assumption); rfl; (conv => whnf)) | (apply load_at; (conv => lhs; rw [add_plain, add_plain]); (with_reducible assumption); rfl; (conv => whnf)) | (apply loads_at; (conv => lhs; whnf); (with_reducible assumption); rfl; (conv => whnf)) | (refine ⟨⟨by omega, by omega⟩, ?_⟩; (conv => whnf))))
  refine call_of hbn ?_
  rintro v F3 ⟨rfl, hF3⟩
  generalize hbo : burnOk s.armed s.left = bo at hF3 hwe hws ⊢
  ((conv => whnf); repeat (first | (apply load_at; (conv => lhs; whnf); (with_reducible assumption); rfl; (conv => whnf)) | (apply load_at; (conv => lhs; rw [add_plain, add_plain]); (with_reducible assumption); rfl; (conv => whnf)) | (apply loads_at; (conv => lhs; whnf); (with_reducible assumption); rfl; (conv => whnf)) | (refine ⟨⟨by omega, by omega⟩, ?_⟩; (conv => whnf))))
  refine cond_split (fun h => ?_) (fun h => ?_)
  · have h : (!bo) = true := h
    have hb0 : bo = false := by simpa using h
    subst hb0
    rw [if_neg (by decide)] at hwe hws
    rcases hF3 with ⟨h1, _⟩ | ⟨_, rfl⟩
    · cases h1
    ((conv => whnf); repeat (first | (apply load_at; (conv => lhs; whnf); (with_reducible assumption); rfl; (conv => whnf)) | (apply load_at; (conv => lhs; rw [add_plain, add_plain]); (with_reducible assumption); rfl; (conv => whnf)) | (apply loads_at; (conv => lhs; whnf); (with_reducible assumption); rfl; (conv => whnf)) | (refine ⟨⟨by omega, by omega⟩, ?_⟩; (conv => whnf))))
    refine ⟨by rw [hwe]; rfl, _, Moves.put hE (.inl (by rw [hP.cell]; simp)) _, ?_⟩
    rw [hws]
    exact ⟨⟨hwf.sz, hwf.lf, hwf.wr, hwf.ord, hwf.fr, hwf.inr, hwf.nod⟩, ms, mf, S, lS, lF, G, hP.nums s.armed s.left true s.writes⟩
  have h : (!bo) = false := h
  have hb0 : bo = true := by simpa using h
  subst hb0
  rw [if_pos rfl] at hwe hws
  rcases hF3 with ⟨_, hF3⟩ | ⟨h1, _⟩
  case inr => cases h1
  have M3 := Moves.put hE (.inl (by rw [hP.cell]; simp)) (dkO s.armed (if s.armed = true then s.left - 1 else s.left) s.down s.size (.map (some ms)) (.map (some mf)) S s.writes)
  have P3 := hP.nums s.armed (if s.armed = true then s.left - 1 else s.left) s.down s.writes
  rw [← hF3] at M3
  clear hF3 hbn
  generalize D.put b _ = D3 at M3 P3
  generalize hlf' : (if s.armed = true then s.left - 1 else s.left) = lf' at P3 hws
  have hlf2 : 0 ≤ lf' ∧ lf' ≤ 9223372036854775807 := by
    have h1 := hwf.lf
    rw [← hlf']
    split
    · next ha =>
      have : s.left ≠ 0 := fun e => by rw [ha, e] at hbo; exact absurd hbo (by decide)
      omega
    · omega
  have hb3 : F3 b = some (dkO s.armed lf' s.down s.size (.map (some ms)) (.map (some mf)) S s.writes) := M3.inn _ _ P3.cell
  ((conv => whnf); repeat (first | (apply load_at; (conv => lhs; whnf); (with_reducible assumption); rfl; (conv => whnf)) | (apply load_at; (conv => lhs; rw [add_plain, add_plain]); (with_reducible assumption); rfl; (conv => whnf)) | (apply loads_at; (conv => lhs; whnf); (with_reducible assumption); rfl; (conv => whnf)) | (refine ⟨⟨by omega, by omega⟩, ?_⟩; (conv => whnf))))
  refine op_lookup tab_ok rfl rfl rfl rfl rfl rfl rfl (P3.fresh.mono M3.inn) ?_
  ((conv => whnf); repeat (first | (apply load_at; (conv => lhs; whnf); (with_reducible assumption); rfl; (conv => whnf)) | (apply load_at; (conv => lhs; rw [add_plain, add_plain]); (with_reducible assumption); rfl; (conv => whnf)) | (apply loads_at; (conv => lhs; whnf); (with_reducible assumption); rfl; (conv => whnf)) | (refine ⟨⟨by omega, by omega⟩, ?_⟩; (conv => whnf))))
  refine cond_split (fun h => ?_) (fun h => ?_)
  · have h : (!(getM lF i).isSome) = true := h
    have hn : s.fresh i = none := P3.rf.no i (by simpa using h)
    refine short [0, 1, 2] [.pointer (some ⟨b, 0, none⟩), .int .i64 i, .slice A l.length c] rfl fun ρ => ?_
    ((conv => whnf); repeat (first | (apply load_at; (conv => lhs; whnf); (with_reducible assumption); rfl; (conv => whnf)) | (apply load_at; (conv => lhs; rw [add_plain, add_plain]); (with_reducible assumption); rfl; (conv => whnf)) | (apply loads_at; (conv => lhs; whnf); (with_reducible assumption); rfl; (conv => whnf)) | (refine ⟨⟨by omega, by omega⟩, ?_⟩; (conv => whnf))))
    refine new_step (.cells #[.int .i64 i] 3) rfl fun g h0_g => ?_
    have hE_g := Ext.new h0_g (.cells #[.int .i64 i] 3)
    have hB_g := Heap.put_same F3 g (.cells #[.int .i64 i] 3)
    generalize F3.put g _ = F4 at hE_g hB_g ⊢
    have M4 := M3.trans (Moves.ext M3.inn hE_g)
    have hb4 := hE_g _ _ hb3
    ((conv => whnf); repeat (first | (apply load_at; (conv => lhs; whnf); (with_reducible assumption); rfl; (conv => whnf)) | (apply load_at; (conv => lhs; rw [add_plain, add_plain]); (with_reducible assumption); rfl; (conv => whnf)) | (apply loads_at; (conv => lhs; whnf); (with_reducible assumption); rfl; (conv => whnf)) | (refine ⟨⟨by omega, by omega⟩, ?_⟩; (conv => whnf))))
    have hord : s.order.length ≤ 1000000000 := by have := hwf.ord; have := hwf.wr; omega
    refine append_own tab_ok (e := 3) (n := s.order.length) (m := 1) (xs := s.order.map (.int .i64)) (ys := [.int .i64 i]) (s := S) (y := .slice (some ⟨g, 0, none⟩) 1 1) rfl rfl rfl rfl rfl ⟨_, rfl, fun k h => by cases h⟩ ⟨_, rfl, rfl⟩ (by decide) (P3.own.of_blk fun k o _ ho => hE_g _ _ (M3.inn _ _ ho)) ⟨rfl, .inl ⟨_, _, rfl, row_blk hB_g⟩⟩ (one_int _ _) (by show 2 * (s.order.length + 1) * 8 ≤ _; omega) fun S5 F5 ho hk hf => ?_
    have hb5 : F5 b = _ := hk _ _ hb4 P3.bS
    obtain ⟨A5, c5, hS5, _, _⟩ := ho.row
    subst hS5
    ((conv => whnf); repeat (first | (apply load_at; (conv => lhs; whnf); (with_reducible assumption); rfl; (conv => whnf)) | (apply load_at; (conv => lhs; rw [add_plain, add_plain]); (with_reducible assumption); rfl; (conv => whnf)) | (apply loads_at; (conv => lhs; whnf); (with_reducible assumption); rfl; (conv => whnf)) | (refine ⟨⟨by omega, by omega⟩, ?_⟩; (conv => whnf))))
    refine store_step b 6 _ (dkC s.armed lf' s.down s.size (.map (some ms)) (.map (some mf)) (.slice A5 (s.order.length + 1) c5) s.writes) rfl hb5 rfl rfl (.inl (Nat.le_refl 0)) (one_slice _ _ _) ?_
    obtain ⟨D5, M5, P5⟩ := P3.push M4.inn ho hk hf
    replace M5 := M4.trans M5
    have hb5 := Heap.put_same F5 b (dkO s.armed lf' s.down s.size (.map (some ms)) (.map (some mf)) (.slice A5 (s.order.length + 1) c5) s.writes)
    generalize F5.put b _ = F5 at M5 hb5 ⊢
    ((conv => whnf); repeat (first | (apply load_at; (conv => lhs; whnf); (with_reducible assumption); rfl; (conv => whnf)) | (apply load_at; (conv => lhs; rw [add_plain, add_plain]); (with_reducible assumption); rfl; (conv => whnf)) | (apply loads_at; (conv => lhs; whnf); (with_reducible assumption); rfl; (conv => whnf)) | (refine ⟨⟨by omega, by omega⟩, ?_⟩; (conv => whnf))))
    refine draw_walk tab_ok (by kernel_rfl) [0, 1, 2, 3, 4, 5, 6, 7] (by kernel_rfl) ?_
    ((conv => whnf); repeat (first | (apply load_at; (conv => lhs; whnf); (with_reducible assumption); rfl; (conv => whnf)) | (apply load_at; (conv => lhs; rw [add_plain, add_plain]); (with_reducible assumption); rfl; (conv => whnf)) | (apply loads_at; (conv => lhs; whnf); (with_reducible assumption); rfl; (conv => whnf)) | (refine ⟨⟨by omega, by omega⟩, ?_⟩; (conv => whnf))))
    refine call_of (clone l A c F5 (hr.mono (M5.keep hR hA)) hl) ?_
    rintro v F6 hM
    (conv => whnf)
    refine ⟨hM.ext, ?_⟩
    ((conv => whnf); repeat (first | (apply load_at; (conv => lhs; whnf); (with_reducible assumption); rfl; (conv => whnf)) | (apply load_at; (conv => lhs; rw [add_plain, add_plain]); (with_reducible assumption); rfl; (conv => whnf)) | (apply loads_at; (conv => lhs; whnf); (with_reducible assumption); rfl; (conv => whnf)) | (refine ⟨⟨by omega, by omega⟩, ?_⟩; (conv => whnf))))
    refine op_mapUpdate (t := 43) (kt := 3) (et := 33) (v := v) (k := i) tab_ok rfl rfl rfl rfl rfl rfl (P5.fresh.mono (M5.inn.trans hM.ext)) fun o' ho => ?_
    obtain ⟨M6, P6⟩ := P5.setF M5.inn hM.ext (i := i) hl256 hM.newRow ho
    have hb7 : F6.put mf o' b = some (dkO s.armed lf' s.down s.size (.map (some ms)) (.map (some mf)) (.slice A5 (s.order.length + 1) c5) s.writes) := M6.inn _ _ P6.cell
    generalize F6.put mf o' = F7 at M6 hb7 ⊢
    ((conv => whnf); repeat (first | (apply load_at; (conv => lhs; whnf); (with_reducible assumption); rfl; (conv => whnf)) | (apply load_at; (conv => lhs; rw [add_plain, add_plain]); (with_reducible assumption); rfl; (conv => whnf)) | (apply loads_at; (conv => lhs; whnf); (with_reducible assumption); rfl; (conv => whnf)) | (refine ⟨⟨by omega, by omega⟩, ?_⟩; (conv => whnf))))
    refine store_step b 7 _ (dkC s.armed lf' s.down s.size (.map (some ms)) (.map (some mf)) (.slice A5 (s.order.length + 1) c5) (IntKind.i64.wrap (s.writes + 1))) rfl hb7 rfl rfl (.inl (Nat.le_refl 0)) (one_int _ _) ?_
    ((conv => whnf); repeat (first | (apply load_at; (conv => lhs; whnf); (with_reducible assumption); rfl; (conv => whnf)) | (apply load_at; (conv => lhs; rw [add_plain, add_plain]); (with_reducible assumption); rfl; (conv => whnf)) | (apply loads_at; (conv => lhs; whnf); (with_reducible assumption); rfl; (conv => whnf)) | (refine ⟨⟨by omega, by omega⟩, ?_⟩; (conv => whnf))))
    refine ⟨by rw [hwe]; rfl, _, (M5.trans M6).trans (Moves.put M6.inn (.inl (by rw [P6.cell]; simp)) _), ?_⟩
    have P7 := P6.nums s.armed lf' s.down (s.writes + 1)
    rw [wrap_eq (by have := hwf.wr; omega) (by omega), hws, if_pos hn]
    exact ⟨write_wf hwf hi hw l hlf2 (if_pos hn).symm, ms, mf, _, lS, _, _, P7⟩
  · have h : (!(getM lF i).isSome) = false := h
    have hn : ¬ s.fresh i = none := by
      cases e : getM lF i with
      | none => rw [e] at h; cases h
      | some v =>
        obtain ⟨l', h1, _⟩ := P3.rf.yes i v e
        rw [h1]
        intro h; cases h
    have M5 := M3
    have P5 := P3
    have hb5 := hb3
    clear M3 P3 hb3
    obtain ⟨F5, hF5⟩ : ∃ F5, F5 = F3 := ⟨_, rfl⟩
    obtain ⟨S5, hS5⟩ : ∃ S5, S5 = S := ⟨_, rfl⟩
    subst hF5 hS5
    refine short [0, 1, 2] [.pointer (some ⟨b, 0, none⟩), .int .i64 i, .slice A l.length c] rfl fun ρ => ?_
    ((conv => whnf); repeat (first | (apply load_at; (conv => lhs; whnf); (with_reducible assumption); rfl; (conv => whnf)) | (apply load_at; (conv => lhs; rw [add_plain, add_plain]); (with_reducible assumption); rfl; (conv => whnf)) | (apply loads_at; (conv => lhs; whnf); (with_reducible assumption); rfl; (conv => whnf)) | (refine ⟨⟨by omega, by omega⟩, ?_⟩; (conv => whnf))))
    refine draw_walk tab_ok (by kernel_rfl) [0, 1, 2, 3, 4, 5, 6, 7] (by kernel_rfl) ?_
    ((conv => whnf); repeat (first | (apply load_at; (conv => lhs; whnf); (with_reducible assumption); rfl; (conv => whnf)) | (apply load_at; (conv => lhs; rw [add_plain, add_plain]); (with_reducible assumption); rfl; (conv => whnf)) | (apply loads_at; (conv => lhs; whnf); (with_reducible assumption); rfl; (conv => whnf)) | (refine ⟨⟨by omega, by omega⟩, ?_⟩; (conv => whnf))))
    refine call_of (clone l A c F5 (hr.mono (M5.keep hR hA)) hl) ?_
    rintro v F6 hM
    (conv => whnf)
    refine ⟨hM.ext, ?_⟩
    ((conv => whnf); repeat (first | (apply load_at; (conv => lhs; whnf); (with_reducible assumption); rfl; (conv => whnf)) | (apply load_at; (conv => lhs; rw [add_plain, add_plain]); (with_reducible assumption); rfl; (conv => whnf)) | (apply loads_at; (conv => lhs; whnf); (with_reducible assumption); rfl; (conv => whnf)) | (refine ⟨⟨by omega, by omega⟩, ?_⟩; (conv => whnf))))
    refine op_mapUpdate (t := 43) (kt := 3) (et := 33) (v := v) (k := i) tab_ok rfl rfl rfl rfl rfl rfl (P5.fresh.mono (M5.inn.trans hM.ext)) fun o' ho => ?_
    obtain ⟨M6, P6⟩ := P5.setF M5.inn hM.ext (i := i) hl256 hM.newRow ho
    have hb7 : F6.put mf o' b = some (dkO s.armed lf' s.down s.size (.map (some ms)) (.map (some mf)) S5 s.writes) := M6.inn _ _ P6.cell
    generalize F6.put mf o' = F7 at M6 hb7 ⊢
    ((conv => whnf); repeat (first | (apply load_at; (conv => lhs; whnf); (with_reducible assumption); rfl; (conv => whnf)) | (apply load_at; (conv => lhs; rw [add_plain, add_plain]); (with_reducible assumption); rfl; (conv => whnf)) | (apply loads_at; (conv => lhs; whnf); (with_reducible assumption); rfl; (conv => whnf)) | (refine ⟨⟨by omega, by omega⟩, ?_⟩; (conv => whnf))))
    refine store_step b 7 _ (dkC s.armed lf' s.down s.size (.map (some ms)) (.map (some mf)) S5 (IntKind.i64.wrap (s.writes + 1))) rfl hb7 rfl rfl (.inl (Nat.le_refl 0)) (one_int _ _) ?_
    ((conv => whnf); repeat (first | (apply load_at; (conv => lhs; whnf); (with_reducible assumption); rfl; (conv => whnf)) | (apply load_at; (conv => lhs; rw [add_plain, add_plain]); (with_reducible assumption); rfl; (conv => whnf)) | (apply loads_at; (conv => lhs; whnf); (with_reducible assumption); rfl; (conv => whnf)) | (refine ⟨⟨by omega, by omega⟩, ?_⟩; (conv => whnf))))
    refine ⟨by rw [hwe]; rfl, _, (M5.trans M6).trans (Moves.put M6.inn (.inl (by rw [P6.cell]; simp)) _), ?_⟩
    have P7 := P6.nums s.armed lf' s.down (s.writes + 1)
    rw [wrap_eq (by have := hwf.wr; omega) (by omega), hws, if_neg hn]
    exact ⟨write_wf hwf hi hw l hlf2 (if_neg hn).symm, ms, mf, _, lS, _, _, P7⟩
end Go.Proofs.YtmpiggcooboenaaGreatDoor.Al
/- Disks: disk.Read and Pending, over what is known of memory. -/
namespace Go.Proofs.YtmpiggcooboenaaGreatDoor.Al
open Go Go.Al Go.Proofs Go.RowKit
set_option maxHeartbeats 8000000
set_option maxRecDepth 100000
set_option linter.unusedVariables false
set_option linter.unusedSimpArgs false
def readE (s : DS) (i : Int) : Int := if s.down = true then 5 else if ¬ (0 ≤ i ∧ i < s.size) then 1 else 0
def secB (s : DS) (i : Int) : List UInt8 := match s.fresh i with | some l => l | none => (match s.safe i with | some l => l | none => List.replicate 256 0)
def readL (s : DS) (i : Int) : List UInt8 := if s.down = true ∨ ¬ (0 ≤ i ∧ i < s.size) then [] else secB s i
theorem newRow_nil (F : Heap) : NewRow F F (.slice none 0 0) [] := ⟨none, 0, rfl, Nat.le_refl 0, RowAt.nil _ _, fun a h => by cases h⟩
theorem zeros_bytes (n : Nat) : List.replicate n (Value.int .u8 0) = bytesOf (List.replicate n 0) := by
  unfold bytesOf
  rw [List.map_replicate]
  rfl
theorem read {D F : Heap} {b : Nat} {s : DS} (hE : Ext D F) (hD : Dk D b s) (i : Int) :
    FnK Tryz.prog 56 #[.pointer (some ⟨b, 0, none⟩), .int .i64 i] F (fun v F' => ∃ u, v = .tuple #[u, .int .i64 (readE s i)] ∧ NewRow F F' u (readL s i) ∧ Ext F F') := by
  obtain ⟨hwf, ms, mf, S, lS, lF, G, hP⟩ := hD
  have hsz := hwf.sz
  have hcell := hE _ _ hP.cell
  have hm := may hcell
  have ht := there hcell i
  rw [show mayE s.down s.size = if s.down = true then 5 else 0 from if_pos (by omega)] at hm
  have hre : readE s i = if s.down = true then 5 else if ¬ (0 ≤ i ∧ i < s.size) then 1 else 0 := rfl
  have hrl : readL s i = if s.down = true ∨ ¬ (0 ≤ i ∧ i < s.size) then [] else secB s i := rfl
  generalize readE s i = re at hre ⊢
  generalize readL s i = rl at hrl ⊢
  (refine fn_walk tab_ok Tryz.func56 rfl rfl rfl rfl ?_; (conv => whnf))
  refine call_of hm ?_
  rintro v F2 ⟨rfl, rfl⟩
  ((conv => whnf); repeat (first | (apply load_at; (conv => lhs; whnf); (with_reducible assumption); rfl; (conv => whnf)) | (apply load_at; (conv => lhs; rw [add_plain, add_plain]); (with_reducible assumption); rfl; (conv => whnf)) | (apply loads_at; (conv => lhs; whnf); (with_reducible assumption); rfl; (conv => whnf)) | (refine ⟨⟨by omega, by omega⟩, ?_⟩; (conv => whnf))))
  refine cond_split (fun h => ?_) (fun h => ?_)
  · have h : ((if s.down = true then (5 : Int) else 0) != 0) = true := h
    have hd : s.down = true := by
      cases e : s.down with
      | true => rfl
      | false => rw [e] at h; exact absurd h (by decide)
    rw [if_pos hd] at hre
    rw [if_pos (.inl hd)] at hrl
    ((conv => whnf); repeat (first | (apply load_at; (conv => lhs; whnf); (with_reducible assumption); rfl; (conv => whnf)) | (apply load_at; (conv => lhs; rw [add_plain, add_plain]); (with_reducible assumption); rfl; (conv => whnf)) | (apply loads_at; (conv => lhs; whnf); (with_reducible assumption); rfl; (conv => whnf)) | (refine ⟨⟨by omega, by omega⟩, ?_⟩; (conv => whnf))))
    refine ⟨.slice none 0 0, ?_, by rw [hrl]; exact newRow_nil _, Ext.refl _⟩
    rw [hre]
    show Value.tuple #[.slice none 0 0, .int .i64 (if s.down = true then 5 else 0)] = _
    rw [if_pos hd]
  have h : ((if s.down = true then (5 : Int) else 0) != 0) = false := h
  have hd : s.down = false := by
    cases e : s.down with
    | true => rw [e] at h; exact absurd h (by decide)
    | false => rfl
  have hdn : ¬ s.down = true := by rw [hd]; decide
  rw [if_neg hdn] at hre
  ((conv => whnf); repeat (first | (apply load_at; (conv => lhs; whnf); (with_reducible assumption); rfl; (conv => whnf)) | (apply load_at; (conv => lhs; rw [add_plain, add_plain]); (with_reducible assumption); rfl; (conv => whnf)) | (apply loads_at; (conv => lhs; whnf); (with_reducible assumption); rfl; (conv => whnf)) | (refine ⟨⟨by omega, by omega⟩, ?_⟩; (conv => whnf))))
  refine call_of ht ?_
  rintro v F2 ⟨rfl, rfl⟩
  ((conv => whnf); repeat (first | (apply load_at; (conv => lhs; whnf); (with_reducible assumption); rfl; (conv => whnf)) | (apply load_at; (conv => lhs; rw [add_plain, add_plain]); (with_reducible assumption); rfl; (conv => whnf)) | (apply loads_at; (conv => lhs; whnf); (with_reducible assumption); rfl; (conv => whnf)) | (refine ⟨⟨by omega, by omega⟩, ?_⟩; (conv => whnf))))
  refine cond_split (fun h => ?_) (fun h => ?_)
  · have h : (!decide (0 ≤ i ∧ i < s.size)) = true := h
    have hi : ¬ (0 ≤ i ∧ i < s.size) := by simpa only [Bool.not_eq_true', decide_eq_false_iff_not] using h
    rw [if_pos hi] at hre
    rw [if_pos (.inr hi)] at hrl
    ((conv => whnf); repeat (first | (apply load_at; (conv => lhs; whnf); (with_reducible assumption); rfl; (conv => whnf)) | (apply load_at; (conv => lhs; rw [add_plain, add_plain]); (with_reducible assumption); rfl; (conv => whnf)) | (apply loads_at; (conv => lhs; whnf); (with_reducible assumption); rfl; (conv => whnf)) | (refine ⟨⟨by omega, by omega⟩, ?_⟩; (conv => whnf))))
    exact ⟨.slice none 0 0, by rw [hre]; rfl, by rw [hrl]; exact newRow_nil _, Ext.refl _⟩
  have h : (!decide (0 ≤ i ∧ i < s.size)) = false := h
  have hi : 0 ≤ i ∧ i < s.size := by simpa using h
  rw [if_neg (fun e => e hi)] at hre
  rw [if_neg (by rintro (e | e); exact hdn e; exact e hi)] at hrl
  ((conv => whnf); repeat (first | (apply load_at; (conv => lhs; whnf); (with_reducible assumption); rfl; (conv => whnf)) | (apply load_at; (conv => lhs; rw [add_plain, add_plain]); (with_reducible assumption); rfl; (conv => whnf)) | (apply loads_at; (conv => lhs; whnf); (with_reducible assumption); rfl; (conv => whnf)) | (refine ⟨⟨by omega, by omega⟩, ?_⟩; (conv => whnf))))
  cases hgF : getM lF i with
  | some v =>
    obtain ⟨l, h1, h2, A, c, rfl, h3, h4⟩ := hP.rf.yes i v hgF
    have hsec : secB s i = l := by unfold secB; rw [h1]
    refine op_lookup_at tab_ok rfl rfl rfl rfl rfl rfl rfl (hP.fresh.mono hE) hgF ?_
    ((conv => whnf); repeat (first | (apply load_at; (conv => lhs; whnf); (with_reducible assumption); rfl; (conv => whnf)) | (apply load_at; (conv => lhs; rw [add_plain, add_plain]); (with_reducible assumption); rfl; (conv => whnf)) | (apply loads_at; (conv => lhs; whnf); (with_reducible assumption); rfl; (conv => whnf)) | (refine ⟨⟨by omega, by omega⟩, ?_⟩; (conv => whnf))))
    refine call_of (clone l A c F2 (h4.mono (hP.base.trans hE)) (by omega)) ?_
    rintro v F3 hM
    ((conv => whnf); repeat (first | (apply load_at; (conv => lhs; whnf); (with_reducible assumption); rfl; (conv => whnf)) | (apply load_at; (conv => lhs; rw [add_plain, add_plain]); (with_reducible assumption); rfl; (conv => whnf)) | (apply loads_at; (conv => lhs; whnf); (with_reducible assumption); rfl; (conv => whnf)) | (refine ⟨⟨by omega, by omega⟩, ?_⟩; (conv => whnf))))
    exact ⟨v, by rw [hre]; rfl, by rw [hrl, hsec]; exact hM.newRow, hM.ext⟩
  | none =>
    refine op_lookup_at tab_ok rfl rfl rfl rfl rfl rfl rfl (hP.fresh.mono hE) hgF ?_
    ((conv => whnf); repeat (first | (apply load_at; (conv => lhs; whnf); (with_reducible assumption); rfl; (conv => whnf)) | (apply load_at; (conv => lhs; rw [add_plain, add_plain]); (with_reducible assumption); rfl; (conv => whnf)) | (apply loads_at; (conv => lhs; whnf); (with_reducible assumption); rfl; (conv => whnf)) | (refine ⟨⟨by omega, by omega⟩, ?_⟩; (conv => whnf))))
    cases hgS : getM lS i with
    | some v =>
      obtain ⟨l, h1, h2, A, c, rfl, h3, h4⟩ := hP.rs.yes i v hgS
      have hsec : secB s i = l := by unfold secB; rw [hP.rf.no i hgF, h1]
      refine op_lookup_at tab_ok rfl rfl rfl rfl rfl rfl rfl (hP.safe.mono hE) hgS ?_
      ((conv => whnf); repeat (first | (apply load_at; (conv => lhs; whnf); (with_reducible assumption); rfl; (conv => whnf)) | (apply load_at; (conv => lhs; rw [add_plain, add_plain]); (with_reducible assumption); rfl; (conv => whnf)) | (apply loads_at; (conv => lhs; whnf); (with_reducible assumption); rfl; (conv => whnf)) | (refine ⟨⟨by omega, by omega⟩, ?_⟩; (conv => whnf))))
      refine call_of (clone l A c F2 (h4.mono (hP.base.trans hE)) (by omega)) ?_
      rintro v F3 hM
      ((conv => whnf); repeat (first | (apply load_at; (conv => lhs; whnf); (with_reducible assumption); rfl; (conv => whnf)) | (apply load_at; (conv => lhs; rw [add_plain, add_plain]); (with_reducible assumption); rfl; (conv => whnf)) | (apply loads_at; (conv => lhs; whnf); (with_reducible assumption); rfl; (conv => whnf)) | (refine ⟨⟨by omega, by omega⟩, ?_⟩; (conv => whnf))))
      exact ⟨v, by rw [hre]; rfl, by rw [hrl, hsec]; exact hM.newRow, hM.ext⟩
    | none =>
      have hsec : secB s i = List.replicate 256 0 := by unfold secB; rw [hP.rf.no i hgF, hP.rs.no i hgS]
      refine op_lookup_at tab_ok rfl rfl rfl rfl rfl rfl rfl (hP.safe.mono hE) hgS ?_
      ((conv => whnf); repeat (first | (apply load_at; (conv => lhs; whnf); (with_reducible assumption); rfl; (conv => whnf)) | (apply load_at; (conv => lhs; rw [add_plain, add_plain]); (with_reducible assumption); rfl; (conv => whnf)) | (apply loads_at; (conv => lhs; whnf); (with_reducible assumption); rfl; (conv => whnf)) | (refine ⟨⟨by omega, by omega⟩, ?_⟩; (conv => whnf))))
      refine make_one tab_ok 256 256 rfl rfl rfl rfl rfl ⟨rfl, by decide, _, rfl, rfl⟩ (Nat.le_refl _) (by decide) fun g hg => ?_
      have hB := Heap.put_same F2 g (.cells (List.replicate 256 (Value.int .u8 0)).toArray 5)
      have hE2 := Ext.new hg (.cells (List.replicate 256 (Value.int .u8 0)).toArray 5)
      generalize F2.put g _ = F3 at hB hE2 ⊢
      ((conv => whnf); repeat (first | (apply load_at; (conv => lhs; whnf); (with_reducible assumption); rfl; (conv => whnf)) | (apply load_at; (conv => lhs; rw [add_plain, add_plain]); (with_reducible assumption); rfl; (conv => whnf)) | (apply loads_at; (conv => lhs; whnf); (with_reducible assumption); rfl; (conv => whnf)) | (refine ⟨⟨by omega, by omega⟩, ?_⟩; (conv => whnf))))
      refine ⟨.slice (some ⟨g, 0, none⟩) 256 256, by rw [hre]; rfl, ?_, hE2⟩
      rw [hrl, hsec]
      refine ⟨some ⟨g, 0, none⟩, 256, rfl, Nat.le_refl _, ?_, fun a ha => by obtain rfl := Option.some.inj ha; exact hg⟩
      rw [← zeros_bytes]
      exact row_blk hB
end Go.Proofs.YtmpiggcooboenaaGreatDoor.Al
/- Disks: disk.settle, Flush and Crash, over what is known of memory. -/
namespace Go.Proofs.YtmpiggcooboenaaGreatDoor.Al
open Go Go.Al Go.Proofs Go.RowKit
set_option maxHeartbeats 8000000
set_option maxRecDepth 100000
set_option linter.unusedVariables false
set_option linter.unusedSimpArgs false
def setl (kp : Nat → Bool) (f : Int → Option (List UInt8)) (l : List Int) (j : Nat) (sf : Int → Option (List UInt8)) : Int → Option (List UInt8) :=
  match l with | [] => sf | i :: l => setl kp f l (j + 1) (if kp j = true then updF sf i (f i) else sf)
theorem setl_cons (kp : Nat → Bool) (f : Int → Option (List UInt8)) (i : Int) (l : List Int) (j : Nat) (sf : Int → Option (List UInt8)) : setl kp f (i :: l) j sf = setl kp f l (j + 1) (if kp j = true then updF sf i (f i) else sf) := rfl
def settleS (s : DS) (kp : Nat → Bool) : DS := { s with safe := setl kp s.fresh s.order 0 s.safe, fresh := fun _ => none, order := [] }
theorem settle_wf {s : DS} (h : DWf s) (kp : Nat → Bool) : DWf (settleS s kp) where
  sz := h.sz
  lf := h.lf
  wr := h.wr
  ord := (by have := h.wr; show ((0 : Nat) : Int) ≤ s.writes; omega)
  fr := fun i => ⟨fun h => (List.not_mem_nil h).elim, fun h => (h rfl).elim⟩
  inr := fun i hi => (List.not_mem_nil hi).elim
  nod := List.nodup_nil
theorem settle {D F R : Heap} {b : Nat} {s : DS} (hE : Ext D F) (hD : Dk D b s) (hR : Ext R F) (hA : Apart D R) (fid : Nat) (caps : List Value) (kp : Nat → Bool)
    (hk : ∀ (F' : Heap) (j : Nat), j < s.order.length → Ext R F' → FnK Tryz.prog fid (Value.int .i64 (j : Int) :: caps).toArray F' (fun v F'' => v = .bool (kp j) ∧ F'' = F')) :
    FnK Tryz.prog 102 #[.pointer (some ⟨b, 0, none⟩), .func (.func fid) #[] caps.toArray] F (fun v F' => v = .tuple #[] ∧ ∃ D', Moves D F D' F' ∧ Dk D' b (settleS s kp)) := by
  obtain ⟨hwf, ms, mf, S, lS, lF, G, hP⟩ := hD
  have hord : s.order.length ≤ 1000000000 := by have := hwf.ord; have := hwf.wr; omega
  have hcell := hE _ _ hP.cell
  obtain ⟨A, c, hS, hc, _⟩ := hP.own.row
  subst hS
  (refine fn_walk tab_ok Tryz.func102 rfl rfl rfl rfl ?_; (conv => whnf))
  ((conv => whnf); repeat (first | (apply load_at; (conv => lhs; whnf); (with_reducible assumption); rfl; (conv => whnf)) | (apply load_at; (conv => lhs; rw [add_plain, add_plain]); (with_reducible assumption); rfl; (conv => whnf)) | (apply loads_at; (conv => lhs; whnf); (with_reducible assumption); rfl; (conv => whnf)) | (refine ⟨⟨by omega, by omega⟩, ?_⟩; (conv => whnf))))
  refine loop_slots [0, 1, 9, 10, 11] (fun k vs F' => ∃ (j : Nat) (D' : Heap) (lS' : ML) (sf : Int → Option (List UInt8)), j + k = s.order.length ∧ vs = [.pointer (some ⟨b, 0, none⟩), .func (.func fid) #[] caps.toArray, .slice A s.order.length c, .int .i64 (s.order.length : Int), .int .i64 (j : Int)] ∧ Moves D F D' F' ∧ DkP D' b ms mf (.slice A s.order.length c) lS' lF G { s with safe := sf } ∧ setl kp s.fresh (s.order.drop j) j sf = setl kp s.fresh s.order 0 s.safe) s.order.length ⟨0, D, lS, s.safe, by omega, rfl, Moves.refl hE, hP, rfl⟩ ?_
  rintro k vs F2 ρ ⟨j, D', lS', sf, hjk, rfl, hM, hP', hst⟩
  have hcell' : F2 b = some (dkO s.armed s.left s.down s.size (.map (some ms)) (.map (some mf)) (.slice A s.order.length c) s.writes) := hM.inn _ _ hP'.cell
  have hR' := hM.keep hR hA
  ((conv => whnf); repeat (first | (apply load_at; (conv => lhs; whnf); (with_reducible assumption); rfl; (conv => whnf)) | (apply load_at; (conv => lhs; rw [add_plain, add_plain]); (with_reducible assumption); rfl; (conv => whnf)) | (apply loads_at; (conv => lhs; whnf); (with_reducible assumption); rfl; (conv => whnf)) | (refine ⟨⟨by omega, by omega⟩, ?_⟩; (conv => whnf))))
  refine cond_split (fun h => ?_) (fun h => ?_)
  · have hj : j < s.order.length := by have := of_decide_eq_true h; omega
    obtain ⟨_, _, hS', _, hrow⟩ := (hP'.own.of_blk fun k o _ ho => hM.inn _ _ ho : Own F2 (.slice A s.order.length c) 3 1 s.order.length (s.order.map (.int .i64))).row
    cases hS'
    obtain ⟨ad, rfl⟩ := hrow.some (by simp; omega)
    have hxj : s.order[j]? = some s.order[j] := List.getElem?_eq_getElem hj
    have hdr : s.order.drop j = s.order[j] :: s.order.drop (j + 1) := (List.drop_eq_getElem_cons hj)
    have hmem : s.order[j] ∈ s.order := List.getElem_mem hj
    rw [hdr, setl_cons] at hst
    generalize s.order[j] = y at hxj hst hmem
    have hws : IntKind.i64.wrap ((j : Int) + 1) = ((j + 1 : Nat) : Int) := wrap_succ (by omega)
    ((conv => whnf); repeat (first | (apply load_at; (conv => lhs; whnf); (with_reducible assumption); rfl; (conv => whnf)) | (apply load_at; (conv => lhs; rw [add_plain, add_plain]); (with_reducible assumption); rfl; (conv => whnf)) | (apply loads_at; (conv => lhs; whnf); (with_reducible assumption); rfl; (conv => whnf)) | (refine ⟨⟨by omega, by omega⟩, ?_⟩; (conv => whnf))))
    refine load_step (v := .int .i64 y) ?_ ?_
    · show F2.cell? (ad.add (Int.toNat (j : Int) * 1)) = _
      rw [Int.toNat_natCast, Nat.mul_one]
      exact hrow.cell (by simp [hxj])
    ((conv => whnf); repeat (first | (apply load_at; (conv => lhs; whnf); (with_reducible assumption); rfl; (conv => whnf)) | (apply load_at; (conv => lhs; rw [add_plain, add_plain]); (with_reducible assumption); rfl; (conv => whnf)) | (apply loads_at; (conv => lhs; whnf); (with_reducible assumption); rfl; (conv => whnf)) | (refine ⟨⟨by omega, by omega⟩, ?_⟩; (conv => whnf))))
    refine call_of (hk F2 j hj hR') ?_
    rintro v F3 ⟨rfl, rfl⟩
    ((conv => whnf); repeat (first | (apply load_at; (conv => lhs; whnf); (with_reducible assumption); rfl; (conv => whnf)) | (apply load_at; (conv => lhs; rw [add_plain, add_plain]); (with_reducible assumption); rfl; (conv => whnf)) | (apply loads_at; (conv => lhs; whnf); (with_reducible assumption); rfl; (conv => whnf)) | (refine ⟨⟨by omega, by omega⟩, ?_⟩; (conv => whnf))))
    refine cond_split (fun h => ?_) (fun h => ?_)
    · have h : kp j = true := h
      rw [if_pos h] at hst
      obtain ⟨v, hv⟩ : ∃ v, getM lF y = some v := by
        cases e : getM lF y with
        | some v => exact ⟨v, rfl⟩
        | none => exact absurd (hP'.rf.no y e) ((hwf.fr y).1 hmem)
      ((conv => whnf); repeat (first | (apply load_at; (conv => lhs; whnf); (with_reducible assumption); rfl; (conv => whnf)) | (apply load_at; (conv => lhs; rw [add_plain, add_plain]); (with_reducible assumption); rfl; (conv => whnf)) | (apply loads_at; (conv => lhs; whnf); (with_reducible assumption); rfl; (conv => whnf)) | (refine ⟨⟨by omega, by omega⟩, ?_⟩; (conv => whnf))))
      refine draw_walk tab_ok (by kernel_rfl) [0, 1, 2, 3, 4, 5, 6, 7, 8, 9, 10, 11] (by kernel_rfl) ?_
      ((conv => whnf); repeat (first | (apply load_at; (conv => lhs; whnf); (with_reducible assumption); rfl; (conv => whnf)) | (apply load_at; (conv => lhs; rw [add_plain, add_plain]); (with_reducible assumption); rfl; (conv => whnf)) | (apply loads_at; (conv => lhs; whnf); (with_reducible assumption); rfl; (conv => whnf)) | (refine ⟨⟨by omega, by omega⟩, ?_⟩; (conv => whnf))))
      refine op_lookup_at tab_ok rfl rfl rfl rfl rfl rfl rfl (hP'.fresh.mono hM.inn) hv ?_
      (conv => whnf)
      refine ⟨Ext.refl _, ?_⟩
      ((conv => whnf); repeat (first | (apply load_at; (conv => lhs; whnf); (with_reducible assumption); rfl; (conv => whnf)) | (apply load_at; (conv => lhs; rw [add_plain, add_plain]); (with_reducible assumption); rfl; (conv => whnf)) | (apply loads_at; (conv => lhs; whnf); (with_reducible assumption); rfl; (conv => whnf)) | (refine ⟨⟨by omega, by omega⟩, ?_⟩; (conv => whnf))))
      refine op_mapUpdate (t := 43) (kt := 3) (et := 33) (v := v) (k := y) tab_ok rfl rfl rfl rfl rfl rfl (hP'.safe.mono hM.inn) fun o' ho => ?_
      have P2 := hP'.setS hv ho
      have M2 := hM.trans (Moves.put hM.inn (.inl (by obtain ⟨o, h1, _⟩ := hP'.safe; rw [h1]; simp)) o')
      generalize Heap.put F3 ms o' = F4 at M2 ⊢
      ((conv => whnf); repeat (first | (apply load_at; (conv => lhs; whnf); (with_reducible assumption); rfl; (conv => whnf)) | (apply load_at; (conv => lhs; rw [add_plain, add_plain]); (with_reducible assumption); rfl; (conv => whnf)) | (apply loads_at; (conv => lhs; whnf); (with_reducible assumption); rfl; (conv => whnf)) | (refine ⟨⟨by omega, by omega⟩, ?_⟩; (conv => whnf))))
      refine ⟨k - 1, by omega, j + 1, _, _, _, by omega, ?_, M2, P2, hst⟩
      rw [← hws]
      rfl
    · have h : kp j = false := h
      rw [if_neg (by rw [h]; decide)] at hst
      ((conv => whnf); repeat (first | (apply load_at; (conv => lhs; whnf); (with_reducible assumption); rfl; (conv => whnf)) | (apply load_at; (conv => lhs; rw [add_plain, add_plain]); (with_reducible assumption); rfl; (conv => whnf)) | (apply loads_at; (conv => lhs; whnf); (with_reducible assumption); rfl; (conv => whnf)) | (refine ⟨⟨by omega, by omega⟩, ?_⟩; (conv => whnf))))
      refine ⟨k - 1, by omega, j + 1, _, _, _, by omega, ?_, hM, hP', hst⟩
      rw [← hws]
      rfl
  · have hj : j = s.order.length := by have := of_decide_eq_false h; omega
    subst hj
    rw [List.drop_length] at hst
    have hst : sf = setl kp s.fresh s.order 0 s.safe := hst
    subst hst
    ((conv => whnf); repeat (first | (apply load_at; (conv => lhs; whnf); (with_reducible assumption); rfl; (conv => whnf)) | (apply load_at; (conv => lhs; rw [add_plain, add_plain]); (with_reducible assumption); rfl; (conv => whnf)) | (apply loads_at; (conv => lhs; whnf); (with_reducible assumption); rfl; (conv => whnf)) | (refine ⟨⟨by omega, by omega⟩, ?_⟩; (conv => whnf))))
    refine op_clear tab_ok rfl rfl rfl (hP'.fresh.mono hM.inn) fun o' ho => ?_
    have hP2 := hP'.clear ho
    have M2 := hM.trans (Moves.put hM.inn (.inl (by obtain ⟨o, h1, _⟩ := hP'.fresh; rw [h1]; simp)) o')
    have hb2 : F2.put mf o' b = some (dkO s.armed s.left s.down s.size (.map (some ms)) (.map (some mf)) (.slice A s.order.length c) s.writes) := by rw [Heap.put_other _ _ (Ne.symm hP'.mfb)]; exact hcell'
    generalize F2.put mf o' = F4 at M2 hb2 ⊢
    ((conv => whnf); repeat (first | (apply load_at; (conv => lhs; whnf); (with_reducible assumption); rfl; (conv => whnf)) | (apply load_at; (conv => lhs; rw [add_plain, add_plain]); (with_reducible assumption); rfl; (conv => whnf)) | (apply loads_at; (conv => lhs; whnf); (with_reducible assumption); rfl; (conv => whnf)) | (refine ⟨⟨by omega, by omega⟩, ?_⟩; (conv => whnf))))
    refine store_step b 6 _ (dkC s.armed s.left s.down s.size (.map (some ms)) (.map (some mf)) (.slice none 0 0) s.writes) rfl hb2 rfl rfl (.inl (Nat.le_refl 0)) (one_slice _ _ _) ?_
    ((conv => whnf); repeat (first | (apply load_at; (conv => lhs; whnf); (with_reducible assumption); rfl; (conv => whnf)) | (apply load_at; (conv => lhs; rw [add_plain, add_plain]); (with_reducible assumption); rfl; (conv => whnf)) | (apply loads_at; (conv => lhs; whnf); (with_reducible assumption); rfl; (conv => whnf)) | (refine ⟨⟨by omega, by omega⟩, ?_⟩; (conv => whnf))))
    refine ⟨rfl, _, M2.trans (Moves.put M2.inn (.inl ?_) _), settle_wf hwf kp, ms, mf, _, _, _, G, hP2⟩
    rw [Heap.put_other _ _ (Ne.symm hP'.mfb), hP'.cell]
    simp
theorem keepAll (F : Heap) (j : Nat) : FnK Tryz.prog 103 (Value.int .i64 (j : Int) :: []).toArray F (fun v F'' => v = .bool ((fun _ => true : Nat → Bool) j) ∧ F'' = F) := by
  (refine fn_walk tab_ok Tryz.func103 rfl rfl rfl rfl ?_; (conv => whnf))
  exact ⟨rfl, rfl⟩
def flushE (s : DS) : Int := if s.down = true then 5 else 0
def flushS (s : DS) : DS := if s.down = true then s else settleS s (fun _ => true)
theorem flush {D F : Heap} {b : Nat} {s : DS} (hE : Ext D F) (hD : Dk D b s) :
    FnK Tryz.prog 71 #[.pointer (some ⟨b, 0, none⟩)] F (fun v F' => v = .int .i64 (flushE s) ∧ ∃ D', Moves D F D' F' ∧ Dk D' b (flushS s)) := by
  have hset := settle hE hD (emptyH_ext F) (Apart.symm (Apart.none D)) 103 [] (fun _ => true) (fun F' j _ _ => keepAll F' j)
  have hD0 := hD
  obtain ⟨hwf, ms, mf, S, lS, lF, G, hP⟩ := hD
  have hsz := hwf.sz
  have hm := may (hE _ _ hP.cell)
  rw [show mayE s.down s.size = if s.down = true then 5 else 0 from if_pos (by omega)] at hm
  (refine fn_walk tab_ok Tryz.func71 rfl rfl rfl rfl ?_; (conv => whnf))
  refine call_of hm ?_
  rintro v F2 ⟨rfl, rfl⟩
  ((conv => whnf); repeat (first | (apply load_at; (conv => lhs; whnf); (with_reducible assumption); rfl; (conv => whnf)) | (apply load_at; (conv => lhs; rw [add_plain, add_plain]); (with_reducible assumption); rfl; (conv => whnf)) | (apply loads_at; (conv => lhs; whnf); (with_reducible assumption); rfl; (conv => whnf)) | (refine ⟨⟨by omega, by omega⟩, ?_⟩; (conv => whnf))))
  refine cond_split (fun h => ?_) (fun h => ?_)
  · have h : ((if s.down = true then (5 : Int) else 0) != 0) = true := h
    have hd : s.down = true := by
      cases e : s.down with
      | true => rfl
      | false => rw [e] at h; exact absurd h (by decide)
    ((conv => whnf); repeat (first | (apply load_at; (conv => lhs; whnf); (with_reducible assumption); rfl; (conv => whnf)) | (apply load_at; (conv => lhs; rw [add_plain, add_plain]); (with_reducible assumption); rfl; (conv => whnf)) | (apply loads_at; (conv => lhs; whnf); (with_reducible assumption); rfl; (conv => whnf)) | (refine ⟨⟨by omega, by omega⟩, ?_⟩; (conv => whnf))))
    exact ⟨rfl, D, Moves.refl hE, by unfold flushS; rw [if_pos hd]; exact hD0⟩
  have h : ((if s.down = true then (5 : Int) else 0) != 0) = false := h
  have hd : ¬ s.down = true := by
    intro e
    rw [if_pos e] at h
    exact absurd h (by decide)
  ((conv => whnf); repeat (first | (apply load_at; (conv => lhs; whnf); (with_reducible assumption); rfl; (conv => whnf)) | (apply load_at; (conv => lhs; rw [add_plain, add_plain]); (with_reducible assumption); rfl; (conv => whnf)) | (apply loads_at; (conv => lhs; whnf); (with_reducible assumption); rfl; (conv => whnf)) | (refine ⟨⟨by omega, by omega⟩, ?_⟩; (conv => whnf))))
  refine call_of hset ?_
  rintro v F3 ⟨rfl, D', hM, hD'⟩
  ((conv => whnf); repeat (first | (apply load_at; (conv => lhs; whnf); (with_reducible assumption); rfl; (conv => whnf)) | (apply load_at; (conv => lhs; rw [add_plain, add_plain]); (with_reducible assumption); rfl; (conv => whnf)) | (apply loads_at; (conv => lhs; whnf); (with_reducible assumption); rfl; (conv => whnf)) | (refine ⟨⟨by omega, by omega⟩, ?_⟩; (conv => whnf))))
  refine ⟨?_, D', hM, by unfold flushS; rw [if_neg hd]; exact hD'⟩
  unfold flushE
  rw [if_neg hd]
  rfl
def crashS (s : DS) (keep : List Int) : DS := { settleS s (fun j => decide ((j : Int) ∈ keep)) with armed := false, left := 0, down := false }
end Go.Proofs.YtmpiggcooboenaaGreatDoor.Al
/- Disks: exchequerlaw03.awake, over what is known of memory. -/
namespace Go.Proofs.YtmpiggcooboenaaGreatDoor.Al
open Go Go.Al Go.Proofs Go.RowKit
set_option maxHeartbeats 8000000
set_option maxRecDepth 100000
set_option linter.unusedVariables false
set_option linter.unusedSimpArgs false
abbrev awk1 : DS := writeS (newS 4) 1 (List.replicate 256 7)
abbrev awk2 : DS := flushS awk1
abbrev awk3 : DS := writeS awk2 1 (List.replicate 256 8)
abbrev awk4 : DS := writeS awk3 2 (List.replicate 256 9)
abbrev awk5 : DS := crashS awk4 [1]
theorem newRow_apart {D F F' : Heap} {v : Value} {l : List UInt8} (hE : Ext D F) (h : NewRow F F' v l) : ∃ R A c, v = .slice A l.length c ∧ l.length ≤ c ∧ Ext R F' ∧ Apart D R ∧ RowAt R A (bytesOf l) := by
  obtain ⟨A, c, h1, h2, h3, h4⟩ := h
  refine ⟨gain emptyH F F', A, c, h1, h2, fun c o hc => ?_, fun c hc => ?_, rowAt_gain h3 h4⟩
  · cases e : F c with
    | none => rw [gain_new e] at hc; exact hc
    | some u => rw [gain_old e] at hc; cases hc
  · cases e : D c with
    | none => exact absurd e hc
    | some o => exact gain_old (hE _ _ e)
end Go.Proofs.YtmpiggcooboenaaGreatDoor.Al
/- The logic of a known part of memory, 18: rows whose elements take several cells. It holds for every program. -/
namespace Go.Al
open Go

def rowS {α : Type} (f : α → List Value) (xs : List α) : List Value := xs.flatMap f
section
variable {α : Type} {f : α → List Value} {z : Nat}
theorem rowS_cons (x : α) (xs : List α) : rowS f (x :: xs) = f x ++ rowS f xs := by unfold rowS; rw [List.flatMap_cons]
theorem rowS_len (hz : ∀ x, (f x).length = z) (xs : List α) : (rowS f xs).length = xs.length * z := by
  induction xs with
  | nil => show 0 = 0 * z; omega
  | cons x xs ih => rw [rowS_cons, List.length_append, ih, hz, List.length_cons, Nat.succ_mul]; omega
theorem rowS_at (hz : ∀ x, (f x).length = z) : ∀ (xs : List α) (j : Nat) (x : α), xs[j]? = some x → ((rowS f xs).drop (j * z)).take z = f x := by
  intro xs
  induction xs with
  | nil => intro j x h; simp at h
  | cons y xs ih =>
    intro j x h
    rw [rowS_cons]
    cases j with
    | zero =>
      obtain rfl : y = x := by simpa using h
      rw [Nat.zero_mul, List.drop_zero]
      exact List.take_left' (hz y)
    | succ j =>
      rw [Nat.succ_mul, Nat.add_comm, ← List.drop_drop, List.drop_left' (hz y)]
      exact ih j x (by simpa using h)
theorem rowS_get (hz : ∀ x, (f x).length = z) {xs : List α} {j q : Nat} {x : α} {v : Value} (h : xs[j]? = some x) (hq : (f x)[q]? = some v) : (rowS f xs)[j * z + q]? = some v := by
  have hlt : q < z := by rw [← hz x]; exact (List.getElem?_eq_some_iff.1 hq).1
  rw [← rowS_at hz xs j x h, List.getElem?_take, if_pos hlt, List.getElem?_drop] at hq
  exact hq
theorem rowS_loads (hz : ∀ x, (f x).length = z) (h0 : 0 < z) {F : Heap} {ad : Addr} {xs : List α} {j : Nat} {x : α} {K : Value → Prop} (hr : RowAt F (some ad) (rowS f xs)) (h : xs[j]? = some x) (hk : K (.agg (f x).toArray)) : LoadsK F (ad.add (Int.toNat (j : Int) * z)) z K := by
  have hlt : j < xs.length := (List.getElem?_eq_some_iff.1 h).1
  rw [Int.toNat_natCast]
  refine loads_row hr h0 ?_ ?_
  · rw [rowS_len hz]
    calc j * z + z = (j + 1) * z := (Nat.succ_mul j z).symm
      _ ≤ xs.length * z := Nat.mul_le_mul_right z hlt
  · rw [rowS_at hz xs j x h]; exact hk
theorem rowS_cell (hz : ∀ x, (f x).length = z) {F : Heap} {ad : Addr} {xs : List α} {j q : Nat} {x : α} {v : Value} (hr : RowAt F (some ad) (rowS f xs)) (h : xs[j]? = some x) (hq : (f x)[q]? = some v) : F.cell? ((ad.add (Int.toNat (j : Int) * z)).add q) = some v := by
  rw [Int.toNat_natCast, add_add]
  exact hr.cell (rowS_get hz h hq)
/-- One element is another one. -/
theorem rowS_set (hz : ∀ x, (f x).length = z) : ∀ (xs : List α) (j q : Nat) (x y : α) (v : Value), xs[j]? = some x → q < z → f y = (f x).set q v → putL (rowS f xs) (j * z + q) [v] = rowS f (xs.set j y) := by
  intro xs
  induction xs with
  | nil => intro j q x y v h; simp at h
  | cons w xs ih =>
    intro j q x y v h hq hy
    rw [rowS_cons]
    cases j with
    | zero =>
      obtain rfl : w = x := by simpa using h
      rw [List.set_cons_zero, rowS_cons, hy, Nat.zero_mul, Nat.zero_add]
      show (f w ++ rowS f xs).set q v = _
      rw [List.set_append_left _ _ (by rw [hz]; exact hq)]
    | succ j =>
      have := ih j q x y v (by simpa using h) hq hy
      rw [List.set_cons_succ, rowS_cons, ← this]
      show (f w ++ rowS f xs).set ((j + 1) * z + q) v = f w ++ (rowS f xs).set (j * z + q) v
      rw [List.set_append_right _ _ (by rw [hz, Nat.succ_mul]; omega), hz, Nat.succ_mul]
      congr 2
      omega
/-- Rows of structs among a law's arguments. -/
theorem rowS_open {β : Type} {K : Kind β} {G : β → Prop} {Q : α → β → Prop} (hz : ∀ x, (f x).length = z) (h0 : 0 < z) {F : Heap} {A : Option Addr} {xs : List β} (w : ∀ x ∈ xs, G x) (h : Elems F A z K xs) (ho : ∀ x c, G x → K F x c → ∃ r, c = f r ∧ Q r x) :
    ∃ rs : List α, rs.length = xs.length ∧ RowAt F A (rowS f rs) ∧ ∀ (j : Nat) r x, rs[j]? = some r → xs[j]? = some x → Q r x := by
  have hex : ∀ (j : Nat) (hj : j < xs.length), ∃ r : α, Q r xs[j] ∧ ∃ a, A = some a ∧ ∀ q u, (f r)[q]? = some u → F.cell? (a.add (j * z + q)) = some u := by
    intro j hj
    obtain ⟨a, c, h1, h2, h3, h4⟩ := h j _ (List.getElem?_eq_getElem hj)
    obtain ⟨r, rfl, hr⟩ := ho _ _ (w _ (List.getElem_mem hj)) h3
    exact ⟨r, hr, a, h1, h4⟩
  have key : ∀ n, n ≤ xs.length → ∃ rs : List α, rs.length = n ∧ ∀ (j : Nat) r, rs[j]? = some r → (∀ x, xs[j]? = some x → Q r x) ∧ ∃ a, A = some a ∧ ∀ q u, (f r)[q]? = some u → F.cell? (a.add (j * z + q)) = some u := by
    intro n
    induction n with
    | zero => intro _; exact ⟨[], rfl, fun j r h => by simp at h⟩
    | succ n ih =>
      intro hn
      obtain ⟨rs, hl, hp⟩ := ih (by omega)
      obtain ⟨r, hr, hr2⟩ := hex n (by omega)
      refine ⟨rs ++ [r], by simp [hl], fun j q hq => ?_⟩
      by_cases hj : j < rs.length
      · rw [List.getElem?_append_left hj] at hq
        exact hp j q hq
      · rw [List.getElem?_append_right (by omega)] at hq
        have hj0 : j - rs.length = 0 := by
          have := (List.getElem?_eq_some_iff.1 hq).1
          simp at this; omega
        rw [hj0] at hq
        obtain rfl : r = q := by simpa using hq
        obtain rfl : j = n := by omega
        refine ⟨fun x hx => ?_, hr2⟩
        rw [List.getElem?_eq_getElem (by omega)] at hx
        obtain rfl := Option.some.inj hx
        exact hr
  obtain ⟨rs, hl, hp⟩ := key xs.length (Nat.le_refl _)
  refine ⟨rs, hl, ?_, fun j r x hj hx => (hp j r hj).1 x hx⟩
  intro j v hj
  have hlt : j < (rowS f rs).length := (List.getElem?_eq_some_iff.1 hj).1
  rw [rowS_len hz] at hlt
  have hq : j / z < rs.length := (Nat.div_lt_iff_lt_mul h0).2 hlt
  have hx := List.getElem?_eq_getElem hq
  obtain ⟨_, a, h1, h2⟩ := hp _ _ hx
  refine ⟨a, h1, ?_⟩
  have hjz : j / z * z + j % z = j := by rw [Nat.mul_comm]; exact Nat.div_add_mod j z
  have := h2 (j % z) v (by rw [← rowS_at hz rs _ _ hx, List.getElem?_take, if_pos (Nat.mod_lt _ h0), List.getElem?_drop, hjz]; exact hj)
  rwa [hjz] at this
end
/-- A new row of zeros of several cells each. -/
theorem make_rows {P : Program} {T : Tab} (hT : TabOk P T) {o : Oper} {ev : Operand → Value} {F : Heap} {K : Value → Heap → Prop} {t e : TypeId} {p q : Operand} (c : Nat) {zc : Array Value} {a1 a2 : Nat} {z1 : Option Value} {d : TD}
    (ho : o.op = .makeSlice t p q) (hp : ev p = .int .i64 c) (hq : ev q = .int .i64 c) (h1 : T t = some ⟨a1, a2, .slice e, z1⟩) (h2 : T e = some d) (hd : zc.size = d.size ∧ 0 < d.bytes ∧ ∃ zv, d.zero = some zv ∧ zv.cells = zc)
    (hc : c * d.bytes ≤ 281474976710656) (h0 : 0 < c) (hs : 0 < d.size)
    (hk : ∀ b, F b = none → K (.slice (some ⟨b, 0, none⟩) c c) (F.put b (.cells (zerosL zc.toList c).toArray e))) : OpK P o ev F K := by
  obtain ⟨hu1, _⟩ := hT _ _ h1
  obtain ⟨_, i, hi, hsz, hby, hze⟩ := hT _ _ h2
  obtain ⟨hd1, hd2, zv, hzv, hzc⟩ := hd
  have hcc : c ≤ 281474976710656 := Nat.le_trans (Nat.le_mul_of_pos_right c hd2) hc
  refine ⟨opW_v (s := Instr.makeSlice t (ev p) (ev q)) (by simp only [execOp, ho]) ?_⟩
  rw [hp, hq]
  unfold Instr.makeSlice
  rw [wk_bind, wk_underlying hu1]
  dsimp only
  have hw2 : IntKind.i64.wrap (c : Int) = c := by rw [IntKind.wrap_i64]; omega
  have hb : ¬ ((d.bytes : Int) * (c : Int) > 2 ^ 48) := by
    have : ((c * d.bytes : Nat) : Int) ≤ ((281474976710656 : Nat) : Int) := Int.ofNat_le.2 hc
    rw [Int.natCast_mul] at this
    rw [Int.mul_comm]
    omega
  simp only [asInt, asIntOf, wk_bind, wk_pure, wk_typeInfo hi, hby, hw2]
  rw [if_neg (by simp; omega)]
  simp only [wk_bind, wk_askRoom, wk_sizeOf hi, hsz, Int.toNat_natCast]
  have fin : wk P (newRow e ((Array.range (c * d.size)).map (fun x => zc[x % zc.size]!))) F (fun a F' => K (.slice (some a) c c) F') := by
    have : (Array.range (c * d.size)).map (fun x => zc[x % zc.size]!) = (zerosL zc.toList c).toArray := by
      rw [← Array.toList_inj, ← hd1, zeros_eq, List.toList_toArray]
    rw [this]
    simp only [newRow, wk_bind, wk_pure]
    exact run_new ⟨fun b hb => hk b hb⟩
  rw [if_neg (by first | omega | exact Nat.ne_of_gt (Nat.mul_pos h0 hs)), wk_bind, wk_zeroValue hi (hze.trans hzv)]
  simp only [wk_bind, wk_pure, hzc]
  exact (wk_bind _ _ F _).1 fin
end Go.Al
/- Disks: calls as arguments; numbers below 16. -/
namespace Go.Proofs.YtmpiggcooboenaaGreatDoor.Al
open Go Go.Al Go.Proofs Go.RowKit
set_option maxHeartbeats 8000000
set_option linter.unusedVariables false
set_option linter.unusedSimpArgs false
/-- A call, as it lies in memory. -/
structure DoR where
  op : Int
  i : Int
  byte : UInt8
  keep : List Int
  A : Option Addr
  c : Nat
def doC (r : DoR) : List Value := [.int .i64 r.op, .int .i64 r.i, .int .u8 r.byte.toNat, .slice r.A r.keep.length r.c]
theorem doC_len (r : DoR) : (doC r).length = 4 := rfl
abbrev doK : Kind (Int × (Int × (Int × (List Int)))) := kPair 1 (kInt .i64) (kPair 1 (kInt .i64) (kPair 1 (kInt .u8) (kSlice 1 (kInt .i64))))
abbrev doWf : Int × (Int × (Int × (List Int))) → Prop := (fun p => (fun n => (Lit.int .i64 n).wf = true) p.1 ∧ (fun p => (fun n => (Lit.int .i64 n).wf = true) p.1 ∧ (fun p => (fun n => (Lit.int .u8 n).wf = true) p.1 ∧ (fun xs => xs.length ≤ maxLen ∧ ∀ x ∈ xs, (fun n => (Lit.int .i64 n).wf = true) x) p.2) p.2) p.2)
structure DoOk (F : Heap) (r : DoR) : Prop where
  row : RowAt F r.A (r.keep.map (.int .i64))
  cap : r.keep.length ≤ r.c
  i : -9223372036854775808 ≤ r.i ∧ r.i < 9223372036854775808
theorem DoOk.mono {F G : Heap} {r : DoR} (h : DoOk F r) (hE : Ext F G) : DoOk G r := ⟨h.row.mono hE, h.cap, h.i⟩
theorem do_open {F : Heap} {A : Option Addr} {xs : List (Int × (Int × (Int × (List Int))))} (w : ∀ x ∈ xs, doWf x) (h : Elems F A 4 doK xs) : ∃ rs : List DoR, rs.length = xs.length ∧ RowAt F A (rowS doC rs) ∧ ∀ r ∈ rs, DoOk F r := by
  obtain ⟨rs, h1, h2, h3⟩ := rowS_open (f := doC) (Q := fun r _ => DoOk F r) doC_len (by decide) w h (by
    rintro ⟨op, i, x, keep⟩ c hw hK
    obtain ⟨c1, d1, rfl, hl1, rfl, c2, d2, rfl, hl2, rfl, c3, d3, rfl, hl3, rfl, A', cc, rfl, hc, hE⟩ := hK
    obtain ⟨l, hl⟩ := bytes_of_wf (xs := [x]) (by intro y hy; rw [List.mem_singleton.1 hy]; exact hw.2.2.1)
    match l, hl with
    | [b], hl =>
      obtain rfl : x = (b.toNat : Int) := by simpa using hl
      exact ⟨⟨op, i, b, keep, A', cc⟩, rfl, elems_ints hE, hc, wf_i64 hw.2.1⟩)
  refine ⟨rs, h1, h2, fun r hr => ?_⟩
  obtain ⟨j, hj, rfl⟩ := List.getElem_of_mem hr
  exact h3 j _ _ (List.getElem?_eq_getElem hj) (List.getElem?_eq_getElem (by omega))
/-- The last four bits. -/
def i15 (a : Int) : Nat := (BitVec.ofInt 64 a &&& BitVec.ofInt 64 15).toNat
theorem i15_lt (a : Int) : i15 a < 16 := by
  unfold i15
  rw [BitVec.toNat_and]
  have := Nat.and_le_right (n := (BitVec.ofInt 64 a).toNat) (m := (BitVec.ofInt 64 15).toNat)
  have h : (BitVec.ofInt 64 15).toNat = 15 := by decide
  omega
theorem wrap_i15 (a : Int) : IntKind.i64.wrap ((i15 a : Nat) : Int) = ((i15 a : Nat) : Int) := wrap_eq (by omega) (by have := i15_lt a; omega)
theorem dk_size {D F : Heap} {b : Nat} {s : DS} (hE : Ext D F) (hD : Dk D b s) : FnK Tryz.prog 55 #[.pointer (some ⟨b, 0, none⟩)] F (fun v F' => v = .int .i64 s.size ∧ F' = F) := by
  obtain ⟨hw, ms, mf, S, lS, lF, G, hP⟩ := hD
  exact size (hE _ _ hP.cell) (by have := hw.sz; omega)
/-- A write of a sector of one byte. -/
theorem writeSec {D F F0 : Heap} {b : Nat} {s : DS} {u : Value} (x : UInt8) (hE : Ext D F0) (hD : Dk D b s) (hr : NewRow F0 F u (List.replicate 256 x)) (hE2 : Ext F0 F) (i : Int) (hw : s.writes < 1000000000) :
    FnK Tryz.prog 70 #[.pointer (some ⟨b, 0, none⟩), .int .i64 i, u] F (fun v F' => v = .int .i64 (writeE s i (List.replicate 256 x)) ∧ ∃ D', Moves D F0 D' F' ∧ Dk D' b (writeS s i (List.replicate 256 x))) := by
  obtain ⟨R, A, c, rfl, hc, hR, hA, hrow⟩ := newRow_apart hE hr
  have hM := Moves.ext hE hE2
  refine (write hM.inn hD hR hA (List.replicate 256 x) A c hrow (by rw [List.length_replicate]; decide) i hw).mono ?_
  rintro v F' ⟨rfl, D', hM', hD'⟩
  exact ⟨rfl, D', hM.trans hM', hD'⟩
end Go.Proofs.YtmpiggcooboenaaGreatDoor.Al
/- The reference's disks: what they are in memory; exchequerref03.New, full, has, Fuse and Read. -/
namespace Go.Proofs.YtmpiggcooboenaaGreatDoor.Al
open Go Go.Al Go.Proofs Go.RowKit
set_option maxHeartbeats 8000000
set_option maxRecDepth 100000
set_option linter.unusedVariables false
set_option linter.unusedSimpArgs false
/-- A sector as told. -/
structure OD where
  s : List UInt8
  l : List UInt8
  t : Int
structure RS where
  L : List OD
  turn : Int
  done : Int
  arm : Int
  armed : Bool
  down : Bool
/-- A sector as it lies in memory. -/
structure OR where
  s : List UInt8
  l : List UInt8
  t : Int
  sA : Option Addr
  sc : Nat
  lA : Option Addr
  lc : Nat
def orC (o : OR) : List Value := [.slice o.sA o.s.length o.sc, .slice o.lA o.l.length o.lc, .int .i64 o.t]
theorem orC_len (o : OR) : (orC o).length = 3 := rfl
def od (o : OR) : OD := ⟨o.s, o.l, o.t⟩
structure OrOk (G : Heap) (o : OR) : Prop where
  s : RowAt G o.sA (bytesOf o.s)
  l : RowAt G o.lA (bytesOf o.l)
  sc : o.s.length ≤ o.sc
  lc : o.l.length ≤ o.lc
  sn : o.s.length = 0 ∨ o.s.length = 256
  ln : o.l.length = 0 ∨ o.l.length = 256
theorem OrOk.mono {F G : Heap} {o : OR} (h : OrOk F o) (hE : Ext F G) : OrOk G o := ⟨h.s.mono hE, h.l.mono hE, h.sc, h.lc, h.sn, h.ln⟩
abbrev rdC (S : Value) (turn done arm : Int) (armed down : Bool) : Array Value := #[S, .int .i64 turn, .int .i64 done, .int .i64 arm, .bool armed, .bool down]
abbrev rdO (S : Value) (turn done arm : Int) (armed down : Bool) : Obj := .cells (rdC S turn done arm armed down) 79
abbrev osO (os : List OR) : Obj := .cells (rowS orC os).toArray 123
structure RWf (r : RS) : Prop where
  len : 3 ≤ r.L.length ∧ r.L.length ≤ 65536
  turn : 0 ≤ r.turn ∧ r.turn ≤ r.done
  done : r.done ≤ 1000000000
  arm : 0 ≤ r.arm ∧ r.arm ≤ 9223372036854775807
  ts : ∀ o ∈ r.L, 0 ≤ o.t ∧ o.t ≤ r.turn
structure RkP (D : Heap) (b q : Nat) (os : List OR) (G : Heap) (r : RS) : Prop where
  cell : D b = some (rdO (.slice (some ⟨q, 0, none⟩) os.length os.length) r.turn r.done r.arm r.armed r.down)
  row : D q = some (osO os)
  L : r.L = os.map od
  base : Ext G D
  gb : G b = none
  gq : G q = none
  bq : b ≠ q
  ok : ∀ o ∈ os, OrOk G o
def Rk (D : Heap) (b : Nat) (r : RS) : Prop := RWf r ∧ ∃ q os G, RkP D b q os G r
theorem RkP.nums {D : Heap} {b q : Nat} {os : List OR} {G : Heap} {r : RS} (h : RkP D b q os G r) (tn dn am : Int) (ad dw : Bool) :
    RkP (D.put b (rdO (.slice (some ⟨q, 0, none⟩) os.length os.length) tn dn am ad dw)) b q os G { r with turn := tn, done := dn, arm := am, armed := ad, down := dw } :=
  ⟨Heap.put_same _ _ _, by rw [Heap.put_other _ _ (Ne.symm h.bq)]; exact h.row, h.L, h.base.put h.gb _, h.gb, h.gq, h.bq, h.ok⟩
/-- A sector is another one. -/
theorem RkP.set {D : Heap} {b q : Nat} {os : List OR} {G : Heap} {r : RS} (h : RkP D b q os G r) (i : Nat) (o : OR) (ho : OrOk G o) :
    RkP (D.put q (osO (os.set i o))) b q (os.set i o) G { r with L := r.L.set i (od o) } :=
  ⟨by rw [Heap.put_other _ _ h.bq, List.length_set]; exact h.cell, Heap.put_same _ _ _, by show r.L.set i (od o) = _; rw [h.L, List.map_set], h.base.put h.gq _, h.gb, h.gq, h.bq, fun x hx => by
    rcases List.mem_or_eq_of_mem_set hx with hx | rfl
    · exact h.ok x hx
    · exact ho⟩
def newR (n : Nat) : RS := ⟨List.replicate n ⟨[], [], 0⟩, 0, 0, 0, false, false⟩
abbrev o0 : OR := ⟨[], [], 0, none, 0, none, 0⟩
theorem zeros_os (n : Nat) : zerosL [.slice none 0 0, .slice none 0 0, .int .i64 0] n = rowS orC (List.replicate n o0) := by
  induction n with
  | zero => rfl
  | succ n ih =>
    rw [List.replicate_succ, rowS_cons, ← ih]
    rfl
theorem rnew (n : Int) (F : Heap) : FnK Tryz.prog 26 #[.int .i64 n] F (fun v F' => ((n < 3 ∨ n > 65536) ∧ v = .tuple #[.pointer none, .int .i64 1] ∧ F' = F) ∨
    (3 ≤ n ∧ n ≤ 65536 ∧ ∃ b D', v = .tuple #[.pointer (some ⟨b, 0, none⟩), .int .i64 0] ∧ Moves emptyH F D' F' ∧ Rk D' b (newR n.toNat))) := by
  (refine fn_walk tab_ok Tryz.func26 rfl rfl rfl rfl ?_; (conv => whnf))
  refine cond_split (fun h => ?_) (fun h => ?_)
  case refine_2 =>
    have h : (!decide (n < 3)) = false := h
    have h3 : n < 3 := by simpa using h
    (conv => whnf)
    exact .inl ⟨.inl h3, rfl, rfl⟩
  have h : (!decide (n < 3)) = true := h
  have h3 : ¬ n < 3 := by simpa using h
  (conv => whnf)
  refine cond_split (fun h => ?_) (fun h => ?_)
  · have h : decide (n > 65536) = true := h
    (conv => whnf)
    exact .inl ⟨.inr (of_decide_eq_true h), rfl, rfl⟩
  have h : decide (n > 65536) = false := h
  have h4 := of_decide_eq_false h
  obtain ⟨m, rfl⟩ : ∃ m : Nat, n = m := ⟨n.toNat, by omega⟩
  (conv => whnf)
  refine make_rows tab_ok m rfl rfl rfl rfl rfl (zc := #[.slice none 0 0, .slice none 0 0, .int .i64 0]) ⟨rfl, by decide, _, rfl, rfl⟩ (by show m * 56 ≤ _; omega) (by omega) (by decide) fun q hq => ?_
  have M1 := Moves.put (emptyH_ext F) (.inr hq) (.cells (zerosL (#[.slice none 0 0, .slice none 0 0, .int .i64 0] : Array Value).toList m).toArray 123)
  have A1 := Heap.put_same F q (.cells (zerosL (#[.slice none 0 0, .slice none 0 0, .int .i64 0] : Array Value).toList m).toArray 123)
  generalize F.put q _ = F1 at M1 A1 ⊢
  (conv => whnf)
  refine new_step (rdO (.slice (some ⟨q, 0, none⟩) m m) 0 0 0 false false) rfl fun b hb => ?_
  have M2 := M1.trans (Moves.put M1.inn (.inr hb) (rdO (.slice (some ⟨q, 0, none⟩) m m) 0 0 0 false false))
  have hne : b ≠ q := fun e => by rw [← e, hb] at A1; cases A1
  (conv => whnf)
  refine .inr ⟨by omega, by omega, b, _, rfl, M2, ⟨⟨by show 3 ≤ (List.replicate _ _).length; rw [List.length_replicate]; omega, by show (List.replicate _ _).length ≤ _; rw [List.length_replicate]; omega⟩, ⟨(by decide : (0 : Int) ≤ 0), (by decide : (0 : Int) ≤ 0)⟩, (by decide : (0 : Int) ≤ 1000000000), ⟨(by decide : (0 : Int) ≤ 0), (by decide : (0 : Int) ≤ 9223372036854775807)⟩, fun o ho => by
    obtain rfl := List.eq_of_mem_replicate ho
    exact ⟨(by decide : (0 : Int) ≤ 0), (by decide : (0 : Int) ≤ 0)⟩⟩, q, List.replicate m o0, emptyH, ?_⟩
  refine ⟨?_, ?_, ?_, emptyH_ext _, rfl, rfl, hne, fun o ho => ?_⟩
  · rw [Heap.put_same, List.length_replicate]; rfl
  · rw [Heap.put_other _ _ (Ne.symm hne), Heap.put_same]
    exact congrArg (fun l => some (Obj.cells (List.toArray l) 123)) (zeros_os m)
  · show List.replicate _ _ = _
    rw [List.map_replicate, Int.toNat_natCast]; rfl
  · obtain rfl := List.eq_of_mem_replicate ho
    exact ⟨RowAt.nil _ _, RowAt.nil _ _, Nat.le_refl _, Nat.le_refl _, .inl rfl, .inl rfl⟩
def fullB (l : List UInt8) : List UInt8 := l ++ List.replicate (256 - l.length) 0
theorem full (l : List UInt8) (A : Option Addr) (c : Nat) (F : Heap) (hr : RowAt F A (bytesOf l)) (hl : l.length ≤ 256) : FnK Tryz.prog 72 #[.slice A l.length c] F (fun v F' => NewRow F F' v (fullB l) ∧ Ext F F') := by
  (refine fn_walk tab_ok Tryz.func72 rfl rfl rfl rfl ?_; (conv => whnf))
  refine make_one tab_ok 256 256 rfl rfl rfl rfl rfl ⟨rfl, by decide, _, rfl, rfl⟩ (Nat.le_refl _) (by decide) fun g hg => ?_
  have hB := Heap.put_same F g (.cells (List.replicate 256 (Value.int .u8 0)).toArray 5)
  have hE := Ext.new hg (.cells (List.replicate 256 (Value.int .u8 0)).toArray 5)
  generalize F.put g _ = F1 at hB hE ⊢
  ((conv => whnf); repeat (first | (apply load_at; (conv => lhs; whnf); (with_reducible assumption); rfl; (conv => whnf)) | (apply load_at; (conv => lhs; rw [add_plain, add_plain]); (with_reducible assumption); rfl; (conv => whnf)) | (apply loads_at; (conv => lhs; whnf); (with_reducible assumption); rfl; (conv => whnf)) | (refine ⟨⟨by omega, by omega⟩, ?_⟩; (conv => whnf))))
  refine copy_to (g := g) (off := 0) (dl := 256) (dc := 256) (m := l.length) (ys := bytesOf l) (y := .slice A l.length c) tab_ok rfl rfl rfl rfl rfl rfl ⟨by simp [bytesOf], .inl ⟨_, _, rfl, hr.mono hE⟩⟩ hB (Nat.le_refl 0) (by simp) (hone_bytes l) ?_
  have hB2 := Heap.put_same F1 g (.cells (putL (List.replicate 256 (Value.int .u8 0)).toArray.toList 0 ((bytesOf l).take (min l.length 256))).toArray 5)
  have hE2 := hE.put hg (.cells (putL (List.replicate 256 (Value.int .u8 0)).toArray.toList 0 ((bytesOf l).take (min l.length 256))).toArray 5)
  generalize F1.put g _ = F2 at hB2 hE2 ⊢
  ((conv => whnf); repeat (first | (apply load_at; (conv => lhs; whnf); (with_reducible assumption); rfl; (conv => whnf)) | (apply load_at; (conv => lhs; rw [add_plain, add_plain]); (with_reducible assumption); rfl; (conv => whnf)) | (apply loads_at; (conv => lhs; whnf); (with_reducible assumption); rfl; (conv => whnf)) | (refine ⟨⟨by omega, by omega⟩, ?_⟩; (conv => whnf))))
  have hlen : (fullB l).length = 256 := by unfold fullB; rw [List.length_append, List.length_replicate]; omega
  refine ⟨⟨some ⟨g, 0, none⟩, 256, by rw [hlen]; rfl, by rw [hlen]; exact Nat.le_refl _, ?_, fun a ha => by obtain rfl := Option.some.inj ha; exact hg⟩, hE2⟩
  have := row_blk hB2
  rw [List.toList_toArray] at this
  have e : putL (List.replicate 256 (Value.int .u8 0)).toArray.toList 0 ((bytesOf l).take (min l.length 256)) = bytesOf (fullB l) := by
    rw [putL_eq _ _ _ (by simp [bytesOf]; omega), List.take_zero, List.nil_append, List.toList_toArray, Nat.min_eq_left hl, List.take_of_length_le (by simp [bytesOf]), Nat.zero_add, List.drop_replicate]
    unfold fullB
    rw [bytes_app, bytes_len, zeros_bytes]
  rw [e] at this
  exact this
end Go.Proofs.YtmpiggcooboenaaGreatDoor.Al
/- The reference's disks: Read, over what is known of memory. -/
namespace Go.Proofs.YtmpiggcooboenaaGreatDoor.Al
open Go Go.Al Go.Proofs Go.RowKit
set_option maxHeartbeats 8000000
set_option maxRecDepth 100000
set_option linter.unusedVariables false
set_option linter.unusedSimpArgs false
def rreadE (r : RS) (i : Int) : Int := if r.down = true then 5 else if ¬ (0 ≤ i ∧ i < (r.L.length : Int)) then 1 else 0
def rsec (r : RS) (i : Int) : List UInt8 := match r.L[i.toNat]? with | some o => fullB o.l | none => []
def rreadL (r : RS) (i : Int) : List UInt8 := if r.down = true ∨ ¬ (0 ≤ i ∧ i < (r.L.length : Int)) then [] else rsec r i
theorem ad3 (q j k : Nat) : Addr.add (Addr.add ⟨q, 0, none⟩ ((Int.toNat (j : Int)) * 3)) k = ⟨q, j * 3 + k, none⟩ := by
  rw [Int.toNat_natCast, add_plain, add_plain, Nat.zero_add]
theorem os_get {os : List OR} {j k : Nat} {o : OR} {v : Value} (h : os[j]? = some o) (hv : (orC o)[k]? = some v) : (rowS orC os).toArray[j * 3 + k]? = some v := by
  rw [List.getElem?_toArray]
  exact rowS_get orC_len h hv
theorem rread {D F : Heap} {b : Nat} {r : RS} (hE : Ext D F) (hD : Rk D b r) (i : Int) :
    FnK Tryz.prog 45 #[.pointer (some ⟨b, 0, none⟩), .int .i64 i] F (fun v F' => ∃ u, v = .tuple #[u, .int .i64 (rreadE r i)] ∧ NewRow F F' u (rreadL r i) ∧ Ext F F') := by
  obtain ⟨hw, q, os, G, hP⟩ := hD
  have hb := hE _ _ hP.cell
  have hq := hE _ _ hP.row
  have hlen : r.L.length = os.length := by rw [hP.L, List.length_map]
  have hre : rreadE r i = if r.down = true then 5 else if ¬ (0 ≤ i ∧ i < (os.length : Int)) then 1 else 0 := by unfold rreadE; rw [hlen]
  have hrl : rreadL r i = if r.down = true ∨ ¬ (0 ≤ i ∧ i < (os.length : Int)) then [] else rsec r i := by unfold rreadL; rw [hlen]
  generalize rreadE r i = re at hre ⊢
  generalize rreadL r i = rl at hrl ⊢
  (refine fn_walk tab_ok Tryz.func45 rfl rfl rfl rfl ?_; (conv => whnf))
  ((conv => whnf); repeat (first | (apply load_at; (conv => lhs; whnf); (with_reducible assumption); rfl; (conv => whnf)) | (apply load_at; (conv => lhs; rw [add_plain, add_plain]); (with_reducible assumption); rfl; (conv => whnf)) | (apply loads_at; (conv => lhs; whnf); (with_reducible assumption); rfl; (conv => whnf)) | (refine ⟨⟨by omega, by omega⟩, ?_⟩; (conv => whnf))))
  refine cond_split (fun h => ?_) (fun h => ?_)
  · have hd : r.down = true := h
    rw [if_pos hd] at hre
    rw [if_pos (.inl hd)] at hrl
    ((conv => whnf); repeat (first | (apply load_at; (conv => lhs; whnf); (with_reducible assumption); rfl; (conv => whnf)) | (apply load_at; (conv => lhs; rw [add_plain, add_plain]); (with_reducible assumption); rfl; (conv => whnf)) | (apply loads_at; (conv => lhs; whnf); (with_reducible assumption); rfl; (conv => whnf)) | (refine ⟨⟨by omega, by omega⟩, ?_⟩; (conv => whnf))))
    exact ⟨.slice none 0 0, by rw [hre]; rfl, by rw [hrl]; exact newRow_nil _, Ext.refl _⟩
  have hd : r.down = false := h
  have hdn : ¬ r.down = true := by rw [hd]; decide
  rw [if_neg hdn] at hre
  ((conv => whnf); repeat (first | (apply load_at; (conv => lhs; whnf); (with_reducible assumption); rfl; (conv => whnf)) | (apply load_at; (conv => lhs; rw [add_plain, add_plain]); (with_reducible assumption); rfl; (conv => whnf)) | (apply loads_at; (conv => lhs; whnf); (with_reducible assumption); rfl; (conv => whnf)) | (refine ⟨⟨by omega, by omega⟩, ?_⟩; (conv => whnf))))
  refine cond_split (fun h => ?_) (fun h => ?_)
  case refine_2 =>
    have h : (!decide (i < 0)) = false := h
    have h0 : i < 0 := by simpa using h
    have hi : ¬ (0 ≤ i ∧ i < (os.length : Int)) := by omega
    rw [if_pos hi] at hre
    rw [if_pos (.inr hi)] at hrl
    ((conv => whnf); repeat (first | (apply load_at; (conv => lhs; whnf); (with_reducible assumption); rfl; (conv => whnf)) | (apply load_at; (conv => lhs; rw [add_plain, add_plain]); (with_reducible assumption); rfl; (conv => whnf)) | (apply loads_at; (conv => lhs; whnf); (with_reducible assumption); rfl; (conv => whnf)) | (refine ⟨⟨by omega, by omega⟩, ?_⟩; (conv => whnf))))
    exact ⟨.slice none 0 0, by rw [hre]; rfl, by rw [hrl]; exact newRow_nil _, Ext.refl _⟩
  have h : (!decide (i < 0)) = true := h
  have h0 : ¬ i < 0 := by simpa using h
  ((conv => whnf); repeat (first | (apply load_at; (conv => lhs; whnf); (with_reducible assumption); rfl; (conv => whnf)) | (apply load_at; (conv => lhs; rw [add_plain, add_plain]); (with_reducible assumption); rfl; (conv => whnf)) | (apply loads_at; (conv => lhs; whnf); (with_reducible assumption); rfl; (conv => whnf)) | (refine ⟨⟨by omega, by omega⟩, ?_⟩; (conv => whnf))))
  refine cond_split (fun h => ?_) (fun h => ?_)
  · have h : decide (i ≥ (os.length : Int)) = true := h
    have hi : ¬ (0 ≤ i ∧ i < (os.length : Int)) := by have := of_decide_eq_true h; omega
    rw [if_pos hi] at hre
    rw [if_pos (.inr hi)] at hrl
    ((conv => whnf); repeat (first | (apply load_at; (conv => lhs; whnf); (with_reducible assumption); rfl; (conv => whnf)) | (apply load_at; (conv => lhs; rw [add_plain, add_plain]); (with_reducible assumption); rfl; (conv => whnf)) | (apply loads_at; (conv => lhs; whnf); (with_reducible assumption); rfl; (conv => whnf)) | (refine ⟨⟨by omega, by omega⟩, ?_⟩; (conv => whnf))))
    exact ⟨.slice none 0 0, by rw [hre]; rfl, by rw [hrl]; exact newRow_nil _, Ext.refl _⟩
  have h : decide (i ≥ (os.length : Int)) = false := h
  have hi : 0 ≤ i ∧ i < (os.length : Int) := by have := of_decide_eq_false h; omega
  rw [if_neg (fun e => e hi)] at hre
  rw [if_neg (by rintro (e | e); exact hdn e; exact e hi)] at hrl
  obtain ⟨j, rfl⟩ : ∃ j : Nat, i = j := ⟨i.toNat, by omega⟩
  have hj : j < os.length := by omega
  obtain ⟨o, ho⟩ : ∃ o, os[j]? = some o := ⟨_, List.getElem?_eq_getElem hj⟩
  have hok := hP.ok o (List.mem_of_getElem? ho)
  have hsec : rsec r (j : Int) = fullB o.l := by
    unfold rsec
    rw [Int.toNat_natCast, hP.L, List.getElem?_map, ho]
    rfl
  ((conv => whnf); repeat (first | (apply load_at; (conv => lhs; whnf); (with_reducible assumption); rfl; (conv => whnf)) | (apply load_at; (conv => lhs; rw [add_plain, add_plain]); (with_reducible assumption); rfl; (conv => whnf)) | (apply loads_at; (conv => lhs; whnf); (with_reducible assumption); rfl; (conv => whnf)) | (refine ⟨⟨by omega, by omega⟩, ?_⟩; (conv => whnf))))
  refine load_at (ad3 q j 1) hq (os_get ho rfl) ?_
  ((conv => whnf); repeat (first | (apply load_at; (conv => lhs; whnf); (with_reducible assumption); rfl; (conv => whnf)) | (apply load_at; (conv => lhs; rw [add_plain, add_plain]); (with_reducible assumption); rfl; (conv => whnf)) | (apply loads_at; (conv => lhs; whnf); (with_reducible assumption); rfl; (conv => whnf)) | (refine ⟨⟨by omega, by omega⟩, ?_⟩; (conv => whnf))))
  refine call_of (full o.l o.lA o.lc F (hok.l.mono (hP.base.trans hE)) (by have := hok.ln; omega)) ?_
  rintro v F2 ⟨hr, hE2⟩
  ((conv => whnf); repeat (first | (apply load_at; (conv => lhs; whnf); (with_reducible assumption); rfl; (conv => whnf)) | (apply load_at; (conv => lhs; rw [add_plain, add_plain]); (with_reducible assumption); rfl; (conv => whnf)) | (apply loads_at; (conv => lhs; whnf); (with_reducible assumption); rfl; (conv => whnf)) | (refine ⟨⟨by omega, by omega⟩, ?_⟩; (conv => whnf))))
  exact ⟨v, by rw [hre]; rfl, by rw [hrl, hsec]; exact hr, hE2⟩
end Go.Proofs.YtmpiggcooboenaaGreatDoor.Al
/- The reference's disks: Write, over what is known of memory. -/
namespace Go.Proofs.YtmpiggcooboenaaGreatDoor.Al
open Go Go.Al Go.Proofs Go.RowKit
set_option maxHeartbeats 8000000
set_option maxRecDepth 100000
set_option linter.unusedVariables false
set_option linter.unusedSimpArgs false
theorem os_put {os : List OR} {j k : Nat} {o o' : OR} {v : Value} (h : os[j]? = some o) (hk : k < 3) (hv : orC o' = (orC o).set k v) : (putL (rowS orC os).toArray.toList (j * 3 + k) [v]).toArray = (rowS orC (os.set j o')).toArray := by
  rw [List.toList_toArray, rowS_set orC_len os j k o o' v h hk hv]
theorem os_in {os : List OR} {j k : Nat} (h : j < os.length) (hk : k < 3) : Nat.ble (j * 3 + k + 1) (rowS orC os).toArray.size = true :=
  Nat.ble_eq_true_of_le (by rw [List.size_toArray, rowS_len orC_len]; omega)
/-- A sector's last bytes are new ones. -/
theorem RkP.setL {D F F' : Heap} {b q : Nat} {os : List OR} {G : Heap} {r : RS} (h : RkP D b q os G r) (hE : Ext D F) (hE2 : Ext F F') {i : Nat} {o o' : OR} (ho : os[i]? = some o) (hv : OrOk (gain G F F') o') :
    Moves D F ((gain D F F').put q (osO (os.set i o'))) (F'.put q (osO (os.set i o'))) ∧ RkP ((gain D F F').put q (osO (os.set i o'))) b q (os.set i o') (gain G F F') { r with L := r.L.set i (od o') } := by
  have hm := Moves.gain hE hE2
  have hg := gain_ext (F' := F') hE
  have hG : Ext G (gain G F F') := gain_ext (h.base.trans hE)
  have hGD : Ext (gain G F F') (gain D F F') := fun c u hc => by
    cases e : F c with
    | none => rw [gain_new e] at hc ⊢; exact hc
    | some w => rw [gain_old e] at hc ⊢; exact h.base _ _ hc
  have P : RkP (gain D F F') b q os (gain G F F') r := ⟨hg _ _ h.cell, hg _ _ h.row, h.L, hGD, by rw [gain_old (hE _ _ h.cell)]; exact h.gb, by rw [gain_old (hE _ _ h.row)]; exact h.gq, h.bq, fun x hx => (h.ok x hx).mono hG⟩
  exact ⟨hm.trans (Moves.put hm.inn (.inl (by rw [P.row]; simp)) _), P.set i o' hv⟩
end Go.Proofs.YtmpiggcooboenaaGreatDoor.Al
/- The reference's disks: Write, over what is known of memory (printed by mkrwrite.py). -/
namespace Go.Proofs.YtmpiggcooboenaaGreatDoor.Al
open Go Go.Al Go.Proofs Go.RowKit
set_option maxHeartbeats 8000000
set_option maxRecDepth 100000
set_option linter.unusedVariables false
set_option linter.unusedSimpArgs false
def rwriteE (r : RS) (i : Int) (l : List UInt8) : Int := if r.down = true then 5 else if ¬ (0 ≤ i ∧ i < (r.L.length : Int)) ∨ l.length ≠ 256 then 1 else if r.armed = true ∧ r.arm = 0 then 5 else 0
def rwriteO (r : RS) (o : OD) (i : Int) (l : List UInt8) : RS :=
  { r with L := r.L.set i.toNat ⟨o.s, l, if o.t = 0 then r.turn + 1 else o.t⟩, turn := if o.t = 0 then r.turn + 1 else r.turn, done := r.done + 1, arm := if r.armed = true then r.arm - 1 else r.arm }
def rwriteS (r : RS) (i : Int) (l : List UInt8) : RS :=
  if r.down = true ∨ ¬ (0 ≤ i ∧ i < (r.L.length : Int)) ∨ l.length ≠ 256 then r else if r.armed = true ∧ r.arm = 0 then { r with down := true } else
  match r.L[i.toNat]? with | some o => rwriteO r o i l | none => r
theorem rwrite_wf {r : RS} (h : RWf r) {o : OD} {i : Int} (l : List UInt8) (ho : o ∈ r.L) (hd : r.done < 1000000000) (ha : ¬ (r.armed = true ∧ r.arm = 0)) : RWf (rwriteO r o i l) := by
  have h1 := h.turn
  have h2 := h.arm
  have h3 := h.ts o ho
  refine ⟨by show 3 ≤ (r.L.set _ _).length ∧ (r.L.set _ _).length ≤ 65536; rw [List.length_set]; exact h.len, (?_ : 0 ≤ (if o.t = 0 then r.turn + 1 else r.turn) ∧ (if o.t = 0 then r.turn + 1 else r.turn) ≤ r.done + 1), (by omega : r.done + 1 ≤ 1000000000), (?_ : 0 ≤ (if r.armed = true then r.arm - 1 else r.arm) ∧ (if r.armed = true then r.arm - 1 else r.arm) ≤ 9223372036854775807), fun x hx => (?_ : 0 ≤ x.t ∧ x.t ≤ (if o.t = 0 then r.turn + 1 else r.turn))⟩
  · split <;> omega
  · split
    · next e => have : r.arm ≠ 0 := fun e2 => ha ⟨e, e2⟩
                omega
    · omega
  · rcases List.mem_or_eq_of_mem_set hx with hx | rfl
    · have := h.ts x hx
      split <;> omega
    · dsimp only
      split <;> omega
theorem rwrite {D F R : Heap} {b : Nat} {r : RS} (hE : Ext D F) (hD : Rk D b r) (hR : Ext R F) (hA : Apart D R) (l : List UInt8) (A : Option Addr) (c : Nat) (hr : RowAt R A (bytesOf l)) (hl : l.length ≤ 900000) (i : Int) (hw : r.done < 1000000000) :
    FnK Tryz.prog 65 #[.pointer (some ⟨b, 0, none⟩), .int .i64 i, .slice A l.length c] F (fun v F' => v = .int .i64 (rwriteE r i l) ∧ ∃ D', Moves D F D' F' ∧ Rk D' b (rwriteS r i l)) := by
  obtain ⟨hwf, q, os, G, hP⟩ := hD
  have hb := hE _ _ hP.cell
  have hlen : r.L.length = os.length := by rw [hP.L, List.length_map]
  have hre : rwriteE r i l = if r.down = true then 5 else if ¬ (0 ≤ i ∧ i < (os.length : Int)) ∨ l.length ≠ 256 then 1 else if r.armed = true ∧ r.arm = 0 then 5 else 0 := by unfold rwriteE; rw [hlen]
  have hrs : rwriteS r i l = if r.down = true ∨ ¬ (0 ≤ i ∧ i < (os.length : Int)) ∨ l.length ≠ 256 then r else if r.armed = true ∧ r.arm = 0 then { r with down := true } else
    match r.L[i.toNat]? with | some o => rwriteO r o i l | none => r := by unfold rwriteS; rw [hlen]
  generalize rwriteE r i l = we at hre ⊢
  generalize rwriteS r i l = ws at hrs ⊢
  have same : (r.down = true ∨ ¬ (0 ≤ i ∧ i < (os.length : Int)) ∨ l.length ≠ 256) → ∃ D', Moves D F D' F ∧ Rk D' b ws := fun h => ⟨D, Moves.refl hE, by rw [hrs, if_pos h]; exact ⟨hwf, q, os, G, hP⟩⟩
  (refine fn_walk tab_ok Tryz.func65 rfl rfl rfl rfl ?_; (conv => whnf))
  ((conv => whnf); repeat (first | (apply load_at; (conv => lhs; whnf); (with_reducible assumption); rfl; (conv => whnf)) | (apply load_at; (conv => lhs; rw [add_plain, add_plain]); (with_reducible assumption); rfl; (conv => whnf)) | (apply loads_at; (conv => lhs; whnf); (with_reducible assumption); rfl; (conv => whnf)) | (refine ⟨⟨by omega, by omega⟩, ?_⟩; (conv => whnf))))
  refine cond_split (fun h => ?_) (fun h => ?_)
  · have hd : r.down = true := h
    rw [if_pos hd] at hre
    ((conv => whnf); repeat (first | (apply load_at; (conv => lhs; whnf); (with_reducible assumption); rfl; (conv => whnf)) | (apply load_at; (conv => lhs; rw [add_plain, add_plain]); (with_reducible assumption); rfl; (conv => whnf)) | (apply loads_at; (conv => lhs; whnf); (with_reducible assumption); rfl; (conv => whnf)) | (refine ⟨⟨by omega, by omega⟩, ?_⟩; (conv => whnf))))
    exact ⟨by rw [hre]; rfl, same (.inl hd)⟩
  have hd : r.down = false := h
  have hdn : ¬ r.down = true := by rw [hd]; decide
  rw [if_neg hdn] at hre
  ((conv => whnf); repeat (first | (apply load_at; (conv => lhs; whnf); (with_reducible assumption); rfl; (conv => whnf)) | (apply load_at; (conv => lhs; rw [add_plain, add_plain]); (with_reducible assumption); rfl; (conv => whnf)) | (apply loads_at; (conv => lhs; whnf); (with_reducible assumption); rfl; (conv => whnf)) | (refine ⟨⟨by omega, by omega⟩, ?_⟩; (conv => whnf))))
  refine cond_split (fun h => ?_) (fun h => ?_)
  case refine_2 =>
    have h : (!decide (i < 0)) = false := h
    have h0 : i < 0 := by simpa using h
    have hi : ¬ (0 ≤ i ∧ i < (os.length : Int)) := by omega
    rw [if_pos (.inl hi)] at hre
    ((conv => whnf); repeat (first | (apply load_at; (conv => lhs; whnf); (with_reducible assumption); rfl; (conv => whnf)) | (apply load_at; (conv => lhs; rw [add_plain, add_plain]); (with_reducible assumption); rfl; (conv => whnf)) | (apply loads_at; (conv => lhs; whnf); (with_reducible assumption); rfl; (conv => whnf)) | (refine ⟨⟨by omega, by omega⟩, ?_⟩; (conv => whnf))))
    exact ⟨by rw [hre]; rfl, same (.inr (.inl hi))⟩
  have h : (!decide (i < 0)) = true := h
  have h0 : ¬ i < 0 := by simpa using h
  ((conv => whnf); repeat (first | (apply load_at; (conv => lhs; whnf); (with_reducible assumption); rfl; (conv => whnf)) | (apply load_at; (conv => lhs; rw [add_plain, add_plain]); (with_reducible assumption); rfl; (conv => whnf)) | (apply loads_at; (conv => lhs; whnf); (with_reducible assumption); rfl; (conv => whnf)) | (refine ⟨⟨by omega, by omega⟩, ?_⟩; (conv => whnf))))
  refine cond_split (fun h => ?_) (fun h => ?_)
  case refine_2 =>
    have h : (!decide (i ≥ (os.length : Int))) = false := h
    have hi : ¬ (0 ≤ i ∧ i < (os.length : Int)) := by have : i ≥ (os.length : Int) := by simpa using h
                                                      omega
    rw [if_pos (.inl hi)] at hre
    ((conv => whnf); repeat (first | (apply load_at; (conv => lhs; whnf); (with_reducible assumption); rfl; (conv => whnf)) | (apply load_at; (conv => lhs; rw [add_plain, add_plain]); (with_reducible assumption); rfl; (conv => whnf)) | (apply loads_at; (conv => lhs; whnf); (with_reducible assumption); rfl; (conv => whnf)) | (refine ⟨⟨by omega, by omega⟩, ?_⟩; (conv => whnf))))
    exact ⟨by rw [hre]; rfl, same (.inr (.inl hi))⟩
  have h : (!decide (i ≥ (os.length : Int))) = true := h
  have hi : 0 ≤ i ∧ i < (os.length : Int) := by have : ¬ i ≥ (os.length : Int) := by simpa using h
                                                omega
  ((conv => whnf); repeat (first | (apply load_at; (conv => lhs; whnf); (with_reducible assumption); rfl; (conv => whnf)) | (apply load_at; (conv => lhs; rw [add_plain, add_plain]); (with_reducible assumption); rfl; (conv => whnf)) | (apply loads_at; (conv => lhs; whnf); (with_reducible assumption); rfl; (conv => whnf)) | (refine ⟨⟨by omega, by omega⟩, ?_⟩; (conv => whnf))))
  refine cond_split (fun h => ?_) (fun h => ?_)
  · have h : ((l.length : Int) != 256) = true := h
    have hne : l.length ≠ 256 := fun e => by rw [e] at h; exact absurd h (by decide)
    rw [if_pos (.inr hne)] at hre
    ((conv => whnf); repeat (first | (apply load_at; (conv => lhs; whnf); (with_reducible assumption); rfl; (conv => whnf)) | (apply load_at; (conv => lhs; rw [add_plain, add_plain]); (with_reducible assumption); rfl; (conv => whnf)) | (apply loads_at; (conv => lhs; whnf); (with_reducible assumption); rfl; (conv => whnf)) | (refine ⟨⟨by omega, by omega⟩, ?_⟩; (conv => whnf))))
    exact ⟨by rw [hre]; rfl, same (.inr (.inr hne))⟩
  have h : ((l.length : Int) != 256) = false := h
  have hl256 : l.length = 256 := by have := bne_eq_false_iff_eq.1 h; omega
  rw [if_neg (by rintro (h1 | h1); exact h1 hi; exact h1 hl256)] at hre
  rw [if_neg (by rintro (h1 | h1 | h1); exact hdn h1; exact h1 hi; exact h1 hl256)] at hrs
  clear same
  have hq := hE _ _ hP.row
  obtain ⟨j, rfl⟩ : ∃ j : Nat, i = j := ⟨i.toNat, by omega⟩
  have hj : j < os.length := by omega
  obtain ⟨o, ho⟩ : ∃ o, os[j]? = some o := ⟨_, List.getElem?_eq_getElem hj⟩
  have hok := hP.ok o (List.mem_of_getElem? ho)
  have hLo : r.L[(j : Int).toNat]? = some (od o) := by rw [Int.toNat_natCast, hP.L, List.getElem?_map, ho]; rfl
  rw [hLo] at hrs
  have hmem : od o ∈ r.L := List.mem_of_getElem? hLo
  ((conv => whnf); repeat (first | (apply load_at; (conv => lhs; whnf); (with_reducible assumption); rfl; (conv => whnf)) | (apply load_at; (conv => lhs; rw [add_plain, add_plain]); (with_reducible assumption); rfl; (conv => whnf)) | (apply loads_at; (conv => lhs; whnf); (with_reducible assumption); rfl; (conv => whnf)) | (refine ⟨⟨by omega, by omega⟩, ?_⟩; (conv => whnf))))
  refine cond_split (fun har => ?_) (fun har => ?_)
  · have har : r.armed = true := har
    ((conv => whnf); repeat (first | (apply load_at; (conv => lhs; whnf); (with_reducible assumption); rfl; (conv => whnf)) | (apply load_at; (conv => lhs; rw [add_plain, add_plain]); (with_reducible assumption); rfl; (conv => whnf)) | (apply loads_at; (conv => lhs; whnf); (with_reducible assumption); rfl; (conv => whnf)) | (refine ⟨⟨by omega, by omega⟩, ?_⟩; (conv => whnf))))
    refine cond_split (fun h => ?_) (fun h => ?_)
    · have h : (r.arm == 0) = true := h
      have hz : r.arm = 0 := by simpa using h
      rw [if_pos ⟨har, hz⟩] at hre hrs
      ((conv => whnf); repeat (first | (apply load_at; (conv => lhs; whnf); (with_reducible assumption); rfl; (conv => whnf)) | (apply load_at; (conv => lhs; rw [add_plain, add_plain]); (with_reducible assumption); rfl; (conv => whnf)) | (apply loads_at; (conv => lhs; whnf); (with_reducible assumption); rfl; (conv => whnf)) | (refine ⟨⟨by omega, by omega⟩, ?_⟩; (conv => whnf))))
      refine store_step b 5 _ (rdC (.slice (some ⟨q, 0, none⟩) os.length os.length) r.turn r.done r.arm r.armed true) rfl hb rfl rfl (.inl (Nat.le_refl 0)) (one_bool _) ?_
      ((conv => whnf); repeat (first | (apply load_at; (conv => lhs; whnf); (with_reducible assumption); rfl; (conv => whnf)) | (apply load_at; (conv => lhs; rw [add_plain, add_plain]); (with_reducible assumption); rfl; (conv => whnf)) | (apply loads_at; (conv => lhs; whnf); (with_reducible assumption); rfl; (conv => whnf)) | (refine ⟨⟨by omega, by omega⟩, ?_⟩; (conv => whnf))))
      refine ⟨by rw [hre]; rfl, _, Moves.put hE (.inl (by rw [hP.cell]; simp)) _, ?_⟩
      rw [hrs]
      exact ⟨⟨hwf.len, hwf.turn, hwf.done, hwf.arm, hwf.ts⟩, q, os, G, hP.nums r.turn r.done r.arm r.armed true⟩
    · have h : (r.arm == 0) = false := h
      have hz : ¬ (r.armed = true ∧ r.arm = 0) := fun e => by rw [e.2] at h; exact absurd h (by decide)
      have hwf2 := rwrite_wf hwf (i := (j : Int)) l hmem hw hz
      rw [if_neg hz] at hre hrs
      ((conv => whnf); repeat (first | (apply load_at; (conv => lhs; whnf); (with_reducible assumption); rfl; (conv => whnf)) | (apply load_at; (conv => lhs; rw [add_plain, add_plain]); (with_reducible assumption); rfl; (conv => whnf)) | (apply loads_at; (conv => lhs; whnf); (with_reducible assumption); rfl; (conv => whnf)) | (refine ⟨⟨by omega, by omega⟩, ?_⟩; (conv => whnf))))
      refine cond_split (fun h2 => ?_) (fun h2 => ?_)
      case refine_2 => exact absurd (har.symm.trans h2) (by decide)
      refine short [0, 1, 2] [.pointer (some ⟨b, 0, none⟩), .int .i64 (j : Int), .slice A l.length c] rfl fun ρ => ?_
      ((conv => whnf); repeat (first | (apply load_at; (conv => lhs; whnf); (with_reducible assumption); rfl; (conv => whnf)) | (apply load_at; (conv => lhs; rw [add_plain, add_plain]); (with_reducible assumption); rfl; (conv => whnf)) | (apply loads_at; (conv => lhs; whnf); (with_reducible assumption); rfl; (conv => whnf)) | (refine ⟨⟨by omega, by omega⟩, ?_⟩; (conv => whnf))))
      obtain ⟨am, ham⟩ : ∃ am, am = if r.armed = true then r.arm - 1 else r.arm := ⟨_, rfl⟩
      have haw : IntKind.i64.wrap (r.arm - 1) = am := by rw [ham, if_pos har]; have := hwf.arm; exact wrap_eq (by omega) (by omega)
      refine store_step b 3 _ (rdC (.slice (some ⟨q, 0, none⟩) os.length os.length) r.turn r.done am r.armed r.down) rfl hb ((rfl : _ = rdC (.slice (some ⟨q, 0, none⟩) os.length os.length) r.turn r.done (IntKind.i64.wrap (r.arm - 1)) r.armed r.down).trans (congrArg (fun z => rdC (.slice (some ⟨q, 0, none⟩) os.length os.length) r.turn r.done z r.armed r.down) haw)) rfl (.inl (Nat.le_refl 0)) (one_int _ _) ?_
      have M1 := Moves.put hE (.inl (by rw [hP.cell]; simp)) (rdO (.slice (some ⟨q, 0, none⟩) os.length os.length) r.turn r.done am r.armed r.down)
      have P1 := hP.nums r.turn r.done am r.armed r.down
      have hb1 := Heap.put_same F b (rdO (.slice (some ⟨q, 0, none⟩) os.length os.length) r.turn r.done am r.armed r.down)
      generalize F.put b _ = F1 at M1 hb1 ⊢
      generalize D.put b _ = D1 at M1 P1
      ((conv => whnf); repeat (first | (apply load_at; (conv => lhs; whnf); (with_reducible assumption); rfl; (conv => whnf)) | (apply load_at; (conv => lhs; rw [add_plain, add_plain]); (with_reducible assumption); rfl; (conv => whnf)) | (apply loads_at; (conv => lhs; whnf); (with_reducible assumption); rfl; (conv => whnf)) | (refine ⟨⟨by omega, by omega⟩, ?_⟩; (conv => whnf))))
      have hdw : IntKind.i64.wrap (r.done + 1) = r.done + 1 := wrap_eq (by have := hwf.turn; omega) (by omega)
      refine store_step b 2 _ (rdC (.slice (some ⟨q, 0, none⟩) os.length os.length) r.turn (r.done + 1) am r.armed r.down) rfl hb1 ((rfl : _ = rdC (.slice (some ⟨q, 0, none⟩) os.length os.length) r.turn (IntKind.i64.wrap (r.done + 1)) am r.armed r.down).trans (congrArg (fun z => rdC (.slice (some ⟨q, 0, none⟩) os.length os.length) r.turn z am r.armed r.down) hdw)) rfl (.inl (Nat.le_refl 0)) (one_int _ _) ?_
      have M2 := M1.trans (Moves.put M1.inn (.inl (by rw [P1.cell]; simp)) (rdO (.slice (some ⟨q, 0, none⟩) os.length os.length) r.turn (r.done + 1) am r.armed r.down))
      have P2 := P1.nums r.turn (r.done + 1) am r.armed r.down
      have hb2 := Heap.put_same F1 b (rdO (.slice (some ⟨q, 0, none⟩) os.length os.length) r.turn (r.done + 1) am r.armed r.down)
      have hq2 := M2.inn _ _ P2.row
      generalize F1.put b _ = F2 at M2 hb2 hq2 ⊢
      generalize D1.put b _ = D2 at M2 P2
      ((conv => whnf); repeat (first | (apply load_at; (conv => lhs; whnf); (with_reducible assumption); rfl; (conv => whnf)) | (apply load_at; (conv => lhs; rw [add_plain, add_plain]); (with_reducible assumption); rfl; (conv => whnf)) | (apply loads_at; (conv => lhs; whnf); (with_reducible assumption); rfl; (conv => whnf)) | (refine ⟨⟨by omega, by omega⟩, ?_⟩; (conv => whnf))))
      refine load_at (ad3 q j 2) hq2 (os_get ho rfl) ?_
      ((conv => whnf); repeat (first | (apply load_at; (conv => lhs; whnf); (with_reducible assumption); rfl; (conv => whnf)) | (apply load_at; (conv => lhs; rw [add_plain, add_plain]); (with_reducible assumption); rfl; (conv => whnf)) | (apply loads_at; (conv => lhs; whnf); (with_reducible assumption); rfl; (conv => whnf)) | (refine ⟨⟨by omega, by omega⟩, ?_⟩; (conv => whnf))))
      refine cond_split (fun h => ?_) (fun h => ?_)
      · have h : (o.t == 0) = true := h
        have ht : o.t = 0 := by simpa using h
        refine short [0, 1, 2] [.pointer (some ⟨b, 0, none⟩), .int .i64 (j : Int), .slice A l.length c] rfl fun ρ => ?_
        have htw : IntKind.i64.wrap (r.turn + 1) = r.turn + 1 := wrap_eq (by have := hwf.turn; omega) (by have := hwf.turn; omega)
        ((conv => whnf); repeat (first | (apply load_at; (conv => lhs; whnf); (with_reducible assumption); rfl; (conv => whnf)) | (apply load_at; (conv => lhs; rw [add_plain, add_plain]); (with_reducible assumption); rfl; (conv => whnf)) | (apply loads_at; (conv => lhs; whnf); (with_reducible assumption); rfl; (conv => whnf)) | (refine ⟨⟨by omega, by omega⟩, ?_⟩; (conv => whnf))))
        refine store_step b 1 _ (rdC (.slice (some ⟨q, 0, none⟩) os.length os.length) (r.turn + 1) (r.done + 1) am r.armed r.down) rfl hb2 ((rfl : _ = rdC (.slice (some ⟨q, 0, none⟩) os.length os.length) (IntKind.i64.wrap (r.turn + 1)) (r.done + 1) am r.armed r.down).trans (congrArg (fun z => rdC (.slice (some ⟨q, 0, none⟩) os.length os.length) z (r.done + 1) am r.armed r.down) htw)) rfl (.inl (Nat.le_refl 0)) (one_int _ _) ?_
        have M3 := M2.trans (Moves.put M2.inn (.inl (by rw [P2.cell]; simp)) (rdO (.slice (some ⟨q, 0, none⟩) os.length os.length) (r.turn + 1) (r.done + 1) am r.armed r.down))
        have P3 := P2.nums (r.turn + 1) (r.done + 1) am r.armed r.down
        have hb3 := Heap.put_same F2 b (rdO (.slice (some ⟨q, 0, none⟩) os.length os.length) (r.turn + 1) (r.done + 1) am r.armed r.down)
        have hq3 := M3.inn _ _ P3.row
        generalize F2.put b _ = F3 at M3 hb3 hq3 ⊢
        generalize D2.put b _ = D3 at M3 P3
        refine short [0, 1, 2] [.pointer (some ⟨b, 0, none⟩), .int .i64 (j : Int), .slice A l.length c] rfl fun ρ => ?_
        (conv => whnf)
        refine draw_walk tab_ok (by kernel_rfl) [0, 1, 2, 3, 4, 5, 6, 7, 8, 9, 10, 11] (by kernel_rfl) ?_
        ((conv => whnf); repeat (first | (apply load_at; (conv => lhs; whnf); (with_reducible assumption); rfl; (conv => whnf)) | (apply load_at; (conv => lhs; rw [add_plain, add_plain]); (with_reducible assumption); rfl; (conv => whnf)) | (apply loads_at; (conv => lhs; whnf); (with_reducible assumption); rfl; (conv => whnf)) | (refine ⟨⟨by omega, by omega⟩, ?_⟩; (conv => whnf))))
        refine store_step q (j * 3 + 2) _ (rowS orC (os.set j { o with t := r.turn + 1 })).toArray (ad3 q j 2) hq3 (os_put ho (by decide) rfl) (os_in hj (by decide)) (.inl (Nat.le_refl 0)) (one_int _ _) ?_
        have M4 := M3.trans (Moves.put M3.inn (.inl (by rw [P3.row]; simp)) (osO (os.set j { o with t := r.turn + 1 })))
        have P4 := P3.set j { o with t := r.turn + 1 } ⟨hok.s, hok.l, hok.sc, hok.lc, hok.sn, hok.ln⟩
        generalize F3.put q _ = F4 at M4 ⊢
        generalize D3.put q _ = D4 at M4 P4
        have hn4 : (os.set j { o with t := r.turn + 1 }).length = os.length := List.length_set
        have ho4 : (os.set j { o with t := r.turn + 1 })[j]? = some { o with t := r.turn + 1 } := by rw [List.getElem?_set_self hj]
        have ok4 : OrOk G { o with t := r.turn + 1 } := ⟨hok.s, hok.l, hok.sc, hok.lc, hok.sn, hok.ln⟩
        have hj4 : j < (os.set j { o with t := r.turn + 1 }).length := by rw [hn4]; exact hj
        have hLe : ∀ l (A5 : Option Addr) (c5 : Nat), ({ L := (r.L.set j (od { o with t := r.turn + 1 })).set j (od { o with t := r.turn + 1, l := l, lA := A5, lc := c5 }), turn := r.turn + 1, done := r.done + 1, arm := am, armed := r.armed, down := r.down } : RS) = rwriteO r (od o) (j : Int) l := fun l A5 c5 => by
          unfold rwriteO
          rw [List.set_set, if_pos (show (od o).t = 0 from ht), if_pos (show (od o).t = 0 from ht), Int.toNat_natCast, ham]
          rfl
        replace P4 : RkP _ b q (os.set j { o with t := r.turn + 1 }) G ⟨r.L.set j (od { o with t := r.turn + 1 }), r.turn + 1, r.done + 1, am, r.armed, r.down⟩ := P4
        have M5 := M4
        have hb5 : F4 b = some (rdO (.slice (some ⟨q, 0, none⟩) os.length os.length) (r.turn + 1) (r.done + 1) am r.armed r.down) := by have := M4.inn _ _ P4.cell; rw [hn4] at this; exact this
        have hq5 := M4.inn _ _ P4.row
        ((conv => whnf); repeat (first | (apply load_at; (conv => lhs; whnf); (with_reducible assumption); rfl; (conv => whnf)) | (apply load_at; (conv => lhs; rw [add_plain, add_plain]); (with_reducible assumption); rfl; (conv => whnf)) | (apply loads_at; (conv => lhs; whnf); (with_reducible assumption); rfl; (conv => whnf)) | (refine ⟨⟨by omega, by omega⟩, ?_⟩; (conv => whnf))))
        refine draw_walk tab_ok (by kernel_rfl) [0, 1, 2, 3, 4, 5, 6, 7, 8, 9] (by kernel_rfl) ?_
        ((conv => whnf); repeat (first | (apply load_at; (conv => lhs; whnf); (with_reducible assumption); rfl; (conv => whnf)) | (apply load_at; (conv => lhs; rw [add_plain, add_plain]); (with_reducible assumption); rfl; (conv => whnf)) | (apply loads_at; (conv => lhs; whnf); (with_reducible assumption); rfl; (conv => whnf)) | (refine ⟨⟨by omega, by omega⟩, ?_⟩; (conv => whnf))))
        refine append_mine tab_ok rfl rfl rfl rfl rfl ⟨_, rfl, fun k h => by cases h⟩ ⟨_, rfl, rfl⟩ (by decide) (Mine.nil F4 F4 _ _ (Ext.refl _)) (m := l.length) (ys := bytesOf l) (y := .slice A l.length c) ⟨by simp [bytesOf], .inl ⟨_, _, rfl, hr.mono (M4.keep hR hA)⟩⟩ (hone_bytes l) (by show 2 * (0 + l.length) * 1 ≤ _; omega) fun s' F5 h1 _ => ?_
        obtain ⟨A5, c5, rfl, hc5, hr5⟩ := h1.own.row
        have hnew : ∀ a, A5 = some a → F4 a.block = none := fun a ha => h1.fresh _ (by rw [ha]; rfl)
        replace hr5 : RowAt F5 A5 (bytesOf l) := hr5
        have E5 := h1.ext
        have hll : 0 + l.length = l.length := Nat.zero_add _
        (conv => whnf)
        refine ⟨E5, ?_⟩
        ((conv => whnf); repeat (first | (apply load_at; (conv => lhs; whnf); (with_reducible assumption); rfl; (conv => whnf)) | (apply load_at; (conv => lhs; rw [add_plain, add_plain]); (with_reducible assumption); rfl; (conv => whnf)) | (apply loads_at; (conv => lhs; whnf); (with_reducible assumption); rfl; (conv => whnf)) | (refine ⟨⟨by omega, by omega⟩, ?_⟩; (conv => whnf))))
        refine store_step q (j * 3 + 1) _ (rowS orC ((os.set j { o with t := r.turn + 1 }).set j { o with t := r.turn + 1, l := l, lA := A5, lc := c5 })).toArray (ad3 q j 1) (E5 _ _ hq5) (os_put ho4 (by decide) (by show _ = [Value.slice ({ o with t := r.turn + 1 } : OR).sA ({ o with t := r.turn + 1 } : OR).s.length ({ o with t := r.turn + 1 } : OR).sc, .slice A5 (0 + l.length) c5, .int .i64 ({ o with t := r.turn + 1 } : OR).t]; rw [hll]; rfl)) (os_in hj4 (by decide)) (.inl (Nat.le_refl 0)) (one_slice _ _ _) ?_
        obtain ⟨M6, P6⟩ := P4.setL M4.inn E5 ho4 (o' := { o with t := r.turn + 1, l := l, lA := A5, lc := c5 }) ⟨ok4.s.mono (gain_ext (P4.base.trans M4.inn)), rowAt_gain hr5 hnew, ok4.sc, (by omega : l.length ≤ c5), ok4.sn, .inr hl256⟩
        replace M6 := M4.trans M6
        ((conv => whnf); repeat (first | (apply load_at; (conv => lhs; whnf); (with_reducible assumption); rfl; (conv => whnf)) | (apply load_at; (conv => lhs; rw [add_plain, add_plain]); (with_reducible assumption); rfl; (conv => whnf)) | (apply loads_at; (conv => lhs; whnf); (with_reducible assumption); rfl; (conv => whnf)) | (refine ⟨⟨by omega, by omega⟩, ?_⟩; (conv => whnf))))
        refine ⟨by rw [hre]; rfl, _, M6, ?_⟩
        rw [hrs]
        refine ⟨hwf2, q, (os.set j { o with t := r.turn + 1 }).set j { o with t := r.turn + 1, l := l, lA := A5, lc := c5 }, gain G F4 F5, ?_⟩
        have e4 : ({ L := (r.L.set j (od { o with t := r.turn + 1 })).set j (od { o with t := r.turn + 1, l := l, lA := A5, lc := c5 }), turn := (r.turn + 1), done := r.done + 1, arm := am, armed := r.armed, down := r.down } : RS) = rwriteO r (od o) (j : Int) l := by
          exact hLe _ _ _
        show RkP _ _ _ _ _ (rwriteO r (od o) (j : Int) l)
        rw [← e4]
        exact P6
      · have h : (o.t == 0) = false := h
        have ht : ¬ o.t = 0 := by simpa using h
        have M4 := M2
        have P4 := P2
        have hn4 : os.length = os.length := rfl
        have ho4 := ho
        have ok4 := hok
        have hj4 := hj
        have M5 := M4
        have hb5 : F2 b = some (rdO (.slice (some ⟨q, 0, none⟩) os.length os.length) r.turn (r.done + 1) am r.armed r.down) := by have := M4.inn _ _ P4.cell; rw [hn4] at this; exact this
        have hq5 := M4.inn _ _ P4.row
        ((conv => whnf); repeat (first | (apply load_at; (conv => lhs; whnf); (with_reducible assumption); rfl; (conv => whnf)) | (apply load_at; (conv => lhs; rw [add_plain, add_plain]); (with_reducible assumption); rfl; (conv => whnf)) | (apply loads_at; (conv => lhs; whnf); (with_reducible assumption); rfl; (conv => whnf)) | (refine ⟨⟨by omega, by omega⟩, ?_⟩; (conv => whnf))))
        refine draw_walk tab_ok (by kernel_rfl) [0, 1, 2, 3, 4, 5, 6, 7, 8, 9] (by kernel_rfl) ?_
        ((conv => whnf); repeat (first | (apply load_at; (conv => lhs; whnf); (with_reducible assumption); rfl; (conv => whnf)) | (apply load_at; (conv => lhs; rw [add_plain, add_plain]); (with_reducible assumption); rfl; (conv => whnf)) | (apply loads_at; (conv => lhs; whnf); (with_reducible assumption); rfl; (conv => whnf)) | (refine ⟨⟨by omega, by omega⟩, ?_⟩; (conv => whnf))))
        refine append_mine tab_ok rfl rfl rfl rfl rfl ⟨_, rfl, fun k h => by cases h⟩ ⟨_, rfl, rfl⟩ (by decide) (Mine.nil F2 F2 _ _ (Ext.refl _)) (m := l.length) (ys := bytesOf l) (y := .slice A l.length c) ⟨by simp [bytesOf], .inl ⟨_, _, rfl, hr.mono (M4.keep hR hA)⟩⟩ (hone_bytes l) (by show 2 * (0 + l.length) * 1 ≤ _; omega) fun s' F5 h1 _ => ?_
        obtain ⟨A5, c5, rfl, hc5, hr5⟩ := h1.own.row
        have hnew : ∀ a, A5 = some a → F2 a.block = none := fun a ha => h1.fresh _ (by rw [ha]; rfl)
        replace hr5 : RowAt F5 A5 (bytesOf l) := hr5
        have E5 := h1.ext
        have hll : 0 + l.length = l.length := Nat.zero_add _
        (conv => whnf)
        refine ⟨E5, ?_⟩
        ((conv => whnf); repeat (first | (apply load_at; (conv => lhs; whnf); (with_reducible assumption); rfl; (conv => whnf)) | (apply load_at; (conv => lhs; rw [add_plain, add_plain]); (with_reducible assumption); rfl; (conv => whnf)) | (apply loads_at; (conv => lhs; whnf); (with_reducible assumption); rfl; (conv => whnf)) | (refine ⟨⟨by omega, by omega⟩, ?_⟩; (conv => whnf))))
        refine store_step q (j * 3 + 1) _ (rowS orC (os.set j { o with l := l, lA := A5, lc := c5 })).toArray (ad3 q j 1) (E5 _ _ hq5) (os_put ho4 (by decide) (by show _ = [Value.slice o.sA o.s.length o.sc, .slice A5 (0 + l.length) c5, .int .i64 o.t]; rw [hll]; rfl)) (os_in hj4 (by decide)) (.inl (Nat.le_refl 0)) (one_slice _ _ _) ?_
        obtain ⟨M6, P6⟩ := P4.setL M4.inn E5 ho4 (o' := { o with l := l, lA := A5, lc := c5 }) ⟨ok4.s.mono (gain_ext (P4.base.trans M4.inn)), rowAt_gain hr5 hnew, ok4.sc, (by omega : l.length ≤ c5), ok4.sn, .inr hl256⟩
        replace M6 := M4.trans M6
        ((conv => whnf); repeat (first | (apply load_at; (conv => lhs; whnf); (with_reducible assumption); rfl; (conv => whnf)) | (apply load_at; (conv => lhs; rw [add_plain, add_plain]); (with_reducible assumption); rfl; (conv => whnf)) | (apply loads_at; (conv => lhs; whnf); (with_reducible assumption); rfl; (conv => whnf)) | (refine ⟨⟨by omega, by omega⟩, ?_⟩; (conv => whnf))))
        refine ⟨by rw [hre]; rfl, _, M6, ?_⟩
        rw [hrs]
        refine ⟨hwf2, q, os.set j { o with l := l, lA := A5, lc := c5 }, gain G F2 F5, ?_⟩
        have e4 : ({ L := r.L.set j (od { o with l := l, lA := A5, lc := c5 }), turn := r.turn, done := r.done + 1, arm := am, armed := r.armed, down := r.down } : RS) = rwriteO r (od o) (j : Int) l := by
          unfold rwriteO
          rw [if_neg (show ¬ (od o).t = 0 from ht), if_neg (show ¬ (od o).t = 0 from ht), Int.toNat_natCast, ham]
          rfl
        show RkP _ _ _ _ _ (rwriteO r (od o) (j : Int) l)
        rw [← e4]
        exact P6
  · have har : r.armed = false := har
    have hz : ¬ (r.armed = true ∧ r.arm = 0) := fun e => by rw [har] at e; exact absurd e.1 (by decide)
    have hwf2 := rwrite_wf hwf (i := (j : Int)) l hmem hw hz
    rw [if_neg hz] at hre hrs
    ((conv => whnf); repeat (first | (apply load_at; (conv => lhs; whnf); (with_reducible assumption); rfl; (conv => whnf)) | (apply load_at; (conv => lhs; rw [add_plain, add_plain]); (with_reducible assumption); rfl; (conv => whnf)) | (apply loads_at; (conv => lhs; whnf); (with_reducible assumption); rfl; (conv => whnf)) | (refine ⟨⟨by omega, by omega⟩, ?_⟩; (conv => whnf))))
    refine cond_split (fun h2 => ?_) (fun h2 => ?_)
    case refine_1 => exact absurd (har.symm.trans h2) (by decide)
    refine short [0, 1, 2] [.pointer (some ⟨b, 0, none⟩), .int .i64 (j : Int), .slice A l.length c] rfl fun ρ => ?_
    obtain ⟨am, ham⟩ : ∃ am, am = if r.armed = true then r.arm - 1 else r.arm := ⟨_, rfl⟩
    have haw : r.arm = am := by rw [ham, if_neg (by rw [har]; decide)]
    have M1 := Moves.refl hE
    have P1 : RkP D b q os G { r with arm := am } := by rw [← haw]; exact hP
    have hb1 : F b = some (rdO (.slice (some ⟨q, 0, none⟩) os.length os.length) r.turn r.done am r.armed r.down) := by rw [← haw]; exact hb
    ((conv => whnf); repeat (first | (apply load_at; (conv => lhs; whnf); (with_reducible assumption); rfl; (conv => whnf)) | (apply load_at; (conv => lhs; rw [add_plain, add_plain]); (with_reducible assumption); rfl; (conv => whnf)) | (apply loads_at; (conv => lhs; whnf); (with_reducible assumption); rfl; (conv => whnf)) | (refine ⟨⟨by omega, by omega⟩, ?_⟩; (conv => whnf))))
    have hdw : IntKind.i64.wrap (r.done + 1) = r.done + 1 := wrap_eq (by have := hwf.turn; omega) (by omega)
    refine store_step b 2 _ (rdC (.slice (some ⟨q, 0, none⟩) os.length os.length) r.turn (r.done + 1) am r.armed r.down) rfl hb1 ((rfl : _ = rdC (.slice (some ⟨q, 0, none⟩) os.length os.length) r.turn (IntKind.i64.wrap (r.done + 1)) am r.armed r.down).trans (congrArg (fun z => rdC (.slice (some ⟨q, 0, none⟩) os.length os.length) r.turn z am r.armed r.down) hdw)) rfl (.inl (Nat.le_refl 0)) (one_int _ _) ?_
    have M2 := M1.trans (Moves.put M1.inn (.inl (by rw [P1.cell]; simp)) (rdO (.slice (some ⟨q, 0, none⟩) os.length os.length) r.turn (r.done + 1) am r.armed r.down))
    have P2 := P1.nums r.turn (r.done + 1) am r.armed r.down
    have hb2 := Heap.put_same F b (rdO (.slice (some ⟨q, 0, none⟩) os.length os.length) r.turn (r.done + 1) am r.armed r.down)
    have hq2 := M2.inn _ _ P2.row
    generalize F.put b _ = F2 at M2 hb2 hq2 ⊢
    generalize D.put b _ = D2 at M2 P2
    ((conv => whnf); repeat (first | (apply load_at; (conv => lhs; whnf); (with_reducible assumption); rfl; (conv => whnf)) | (apply load_at; (conv => lhs; rw [add_plain, add_plain]); (with_reducible assumption); rfl; (conv => whnf)) | (apply loads_at; (conv => lhs; whnf); (with_reducible assumption); rfl; (conv => whnf)) | (refine ⟨⟨by omega, by omega⟩, ?_⟩; (conv => whnf))))
    refine load_at (ad3 q j 2) hq2 (os_get ho rfl) ?_
    ((conv => whnf); repeat (first | (apply load_at; (conv => lhs; whnf); (with_reducible assumption); rfl; (conv => whnf)) | (apply load_at; (conv => lhs; rw [add_plain, add_plain]); (with_reducible assumption); rfl; (conv => whnf)) | (apply loads_at; (conv => lhs; whnf); (with_reducible assumption); rfl; (conv => whnf)) | (refine ⟨⟨by omega, by omega⟩, ?_⟩; (conv => whnf))))
    refine cond_split (fun h => ?_) (fun h => ?_)
    · have h : (o.t == 0) = true := h
      have ht : o.t = 0 := by simpa using h
      refine short [0, 1, 2] [.pointer (some ⟨b, 0, none⟩), .int .i64 (j : Int), .slice A l.length c] rfl fun ρ => ?_
      have htw : IntKind.i64.wrap (r.turn + 1) = r.turn + 1 := wrap_eq (by have := hwf.turn; omega) (by have := hwf.turn; omega)
      ((conv => whnf); repeat (first | (apply load_at; (conv => lhs; whnf); (with_reducible assumption); rfl; (conv => whnf)) | (apply load_at; (conv => lhs; rw [add_plain, add_plain]); (with_reducible assumption); rfl; (conv => whnf)) | (apply loads_at; (conv => lhs; whnf); (with_reducible assumption); rfl; (conv => whnf)) | (refine ⟨⟨by omega, by omega⟩, ?_⟩; (conv => whnf))))
      refine store_step b 1 _ (rdC (.slice (some ⟨q, 0, none⟩) os.length os.length) (r.turn + 1) (r.done + 1) am r.armed r.down) rfl hb2 ((rfl : _ = rdC (.slice (some ⟨q, 0, none⟩) os.length os.length) (IntKind.i64.wrap (r.turn + 1)) (r.done + 1) am r.armed r.down).trans (congrArg (fun z => rdC (.slice (some ⟨q, 0, none⟩) os.length os.length) z (r.done + 1) am r.armed r.down) htw)) rfl (.inl (Nat.le_refl 0)) (one_int _ _) ?_
      have M3 := M2.trans (Moves.put M2.inn (.inl (by rw [P2.cell]; simp)) (rdO (.slice (some ⟨q, 0, none⟩) os.length os.length) (r.turn + 1) (r.done + 1) am r.armed r.down))
      have P3 := P2.nums (r.turn + 1) (r.done + 1) am r.armed r.down
      have hb3 := Heap.put_same F2 b (rdO (.slice (some ⟨q, 0, none⟩) os.length os.length) (r.turn + 1) (r.done + 1) am r.armed r.down)
      have hq3 := M3.inn _ _ P3.row
      generalize F2.put b _ = F3 at M3 hb3 hq3 ⊢
      generalize D2.put b _ = D3 at M3 P3
      refine short [0, 1, 2] [.pointer (some ⟨b, 0, none⟩), .int .i64 (j : Int), .slice A l.length c] rfl fun ρ => ?_
      (conv => whnf)
      refine draw_walk tab_ok (by kernel_rfl) [0, 1, 2, 3, 4, 5, 6, 7, 8, 9, 10, 11] (by kernel_rfl) ?_
      ((conv => whnf); repeat (first | (apply load_at; (conv => lhs; whnf); (with_reducible assumption); rfl; (conv => whnf)) | (apply load_at; (conv => lhs; rw [add_plain, add_plain]); (with_reducible assumption); rfl; (conv => whnf)) | (apply loads_at; (conv => lhs; whnf); (with_reducible assumption); rfl; (conv => whnf)) | (refine ⟨⟨by omega, by omega⟩, ?_⟩; (conv => whnf))))
      refine store_step q (j * 3 + 2) _ (rowS orC (os.set j { o with t := r.turn + 1 })).toArray (ad3 q j 2) hq3 (os_put ho (by decide) rfl) (os_in hj (by decide)) (.inl (Nat.le_refl 0)) (one_int _ _) ?_
      have M4 := M3.trans (Moves.put M3.inn (.inl (by rw [P3.row]; simp)) (osO (os.set j { o with t := r.turn + 1 })))
      have P4 := P3.set j { o with t := r.turn + 1 } ⟨hok.s, hok.l, hok.sc, hok.lc, hok.sn, hok.ln⟩
      generalize F3.put q _ = F4 at M4 ⊢
      generalize D3.put q _ = D4 at M4 P4
      have hn4 : (os.set j { o with t := r.turn + 1 }).length = os.length := List.length_set
      have ho4 : (os.set j { o with t := r.turn + 1 })[j]? = some { o with t := r.turn + 1 } := by rw [List.getElem?_set_self hj]
      have ok4 : OrOk G { o with t := r.turn + 1 } := ⟨hok.s, hok.l, hok.sc, hok.lc, hok.sn, hok.ln⟩
      have hj4 : j < (os.set j { o with t := r.turn + 1 }).length := by rw [hn4]; exact hj
      have hLe : ∀ l (A5 : Option Addr) (c5 : Nat), ({ L := (r.L.set j (od { o with t := r.turn + 1 })).set j (od { o with t := r.turn + 1, l := l, lA := A5, lc := c5 }), turn := r.turn + 1, done := r.done + 1, arm := am, armed := r.armed, down := r.down } : RS) = rwriteO r (od o) (j : Int) l := fun l A5 c5 => by
        unfold rwriteO
        rw [List.set_set, if_pos (show (od o).t = 0 from ht), if_pos (show (od o).t = 0 from ht), Int.toNat_natCast, ham]
        rfl
      replace P4 : RkP _ b q (os.set j { o with t := r.turn + 1 }) G ⟨r.L.set j (od { o with t := r.turn + 1 }), r.turn + 1, r.done + 1, am, r.armed, r.down⟩ := P4
      have M5 := M4
      have hb5 : F4 b = some (rdO (.slice (some ⟨q, 0, none⟩) os.length os.length) (r.turn + 1) (r.done + 1) am r.armed r.down) := by have := M4.inn _ _ P4.cell; rw [hn4] at this; exact this
      have hq5 := M4.inn _ _ P4.row
      ((conv => whnf); repeat (first | (apply load_at; (conv => lhs; whnf); (with_reducible assumption); rfl; (conv => whnf)) | (apply load_at; (conv => lhs; rw [add_plain, add_plain]); (with_reducible assumption); rfl; (conv => whnf)) | (apply loads_at; (conv => lhs; whnf); (with_reducible assumption); rfl; (conv => whnf)) | (refine ⟨⟨by omega, by omega⟩, ?_⟩; (conv => whnf))))
      refine draw_walk tab_ok (by kernel_rfl) [0, 1, 2, 3, 4, 5, 6, 7, 8, 9] (by kernel_rfl) ?_
      ((conv => whnf); repeat (first | (apply load_at; (conv => lhs; whnf); (with_reducible assumption); rfl; (conv => whnf)) | (apply load_at; (conv => lhs; rw [add_plain, add_plain]); (with_reducible assumption); rfl; (conv => whnf)) | (apply loads_at; (conv => lhs; whnf); (with_reducible assumption); rfl; (conv => whnf)) | (refine ⟨⟨by omega, by omega⟩, ?_⟩; (conv => whnf))))
      refine append_mine tab_ok rfl rfl rfl rfl rfl ⟨_, rfl, fun k h => by cases h⟩ ⟨_, rfl, rfl⟩ (by decide) (Mine.nil F4 F4 _ _ (Ext.refl _)) (m := l.length) (ys := bytesOf l) (y := .slice A l.length c) ⟨by simp [bytesOf], .inl ⟨_, _, rfl, hr.mono (M4.keep hR hA)⟩⟩ (hone_bytes l) (by show 2 * (0 + l.length) * 1 ≤ _; omega) fun s' F5 h1 _ => ?_
      obtain ⟨A5, c5, rfl, hc5, hr5⟩ := h1.own.row
      have hnew : ∀ a, A5 = some a → F4 a.block = none := fun a ha => h1.fresh _ (by rw [ha]; rfl)
      replace hr5 : RowAt F5 A5 (bytesOf l) := hr5
      have E5 := h1.ext
      have hll : 0 + l.length = l.length := Nat.zero_add _
      (conv => whnf)
      refine ⟨E5, ?_⟩
      ((conv => whnf); repeat (first | (apply load_at; (conv => lhs; whnf); (with_reducible assumption); rfl; (conv => whnf)) | (apply load_at; (conv => lhs; rw [add_plain, add_plain]); (with_reducible assumption); rfl; (conv => whnf)) | (apply loads_at; (conv => lhs; whnf); (with_reducible assumption); rfl; (conv => whnf)) | (refine ⟨⟨by omega, by omega⟩, ?_⟩; (conv => whnf))))
      refine store_step q (j * 3 + 1) _ (rowS orC ((os.set j { o with t := r.turn + 1 }).set j { o with t := r.turn + 1, l := l, lA := A5, lc := c5 })).toArray (ad3 q j 1) (E5 _ _ hq5) (os_put ho4 (by decide) (by show _ = [Value.slice ({ o with t := r.turn + 1 } : OR).sA ({ o with t := r.turn + 1 } : OR).s.length ({ o with t := r.turn + 1 } : OR).sc, .slice A5 (0 + l.length) c5, .int .i64 ({ o with t := r.turn + 1 } : OR).t]; rw [hll]; rfl)) (os_in hj4 (by decide)) (.inl (Nat.le_refl 0)) (one_slice _ _ _) ?_
      obtain ⟨M6, P6⟩ := P4.setL M4.inn E5 ho4 (o' := { o with t := r.turn + 1, l := l, lA := A5, lc := c5 }) ⟨ok4.s.mono (gain_ext (P4.base.trans M4.inn)), rowAt_gain hr5 hnew, ok4.sc, (by omega : l.length ≤ c5), ok4.sn, .inr hl256⟩
      replace M6 := M4.trans M6
      ((conv => whnf); repeat (first | (apply load_at; (conv => lhs; whnf); (with_reducible assumption); rfl; (conv => whnf)) | (apply load_at; (conv => lhs; rw [add_plain, add_plain]); (with_reducible assumption); rfl; (conv => whnf)) | (apply loads_at; (conv => lhs; whnf); (with_reducible assumption); rfl; (conv => whnf)) | (refine ⟨⟨by omega, by omega⟩, ?_⟩; (conv => whnf))))
      refine ⟨by rw [hre]; rfl, _, M6, ?_⟩
      rw [hrs]
      refine ⟨hwf2, q, (os.set j { o with t := r.turn + 1 }).set j { o with t := r.turn + 1, l := l, lA := A5, lc := c5 }, gain G F4 F5, ?_⟩
      have e4 : ({ L := (r.L.set j (od { o with t := r.turn + 1 })).set j (od { o with t := r.turn + 1, l := l, lA := A5, lc := c5 }), turn := (r.turn + 1), done := r.done + 1, arm := am, armed := r.armed, down := r.down } : RS) = rwriteO r (od o) (j : Int) l := by
        exact hLe _ _ _
      show RkP _ _ _ _ _ (rwriteO r (od o) (j : Int) l)
      rw [← e4]
      exact P6
    · have h : (o.t == 0) = false := h
      have ht : ¬ o.t = 0 := by simpa using h
      have M4 := M2
      have P4 := P2
      have hn4 : os.length = os.length := rfl
      have ho4 := ho
      have ok4 := hok
      have hj4 := hj
      have M5 := M4
      have hb5 : F2 b = some (rdO (.slice (some ⟨q, 0, none⟩) os.length os.length) r.turn (r.done + 1) am r.armed r.down) := by have := M4.inn _ _ P4.cell; rw [hn4] at this; exact this
      have hq5 := M4.inn _ _ P4.row
      ((conv => whnf); repeat (first | (apply load_at; (conv => lhs; whnf); (with_reducible assumption); rfl; (conv => whnf)) | (apply load_at; (conv => lhs; rw [add_plain, add_plain]); (with_reducible assumption); rfl; (conv => whnf)) | (apply loads_at; (conv => lhs; whnf); (with_reducible assumption); rfl; (conv => whnf)) | (refine ⟨⟨by omega, by omega⟩, ?_⟩; (conv => whnf))))
      refine draw_walk tab_ok (by kernel_rfl) [0, 1, 2, 3, 4, 5, 6, 7, 8, 9] (by kernel_rfl) ?_
      ((conv => whnf); repeat (first | (apply load_at; (conv => lhs; whnf); (with_reducible assumption); rfl; (conv => whnf)) | (apply load_at; (conv => lhs; rw [add_plain, add_plain]); (with_reducible assumption); rfl; (conv => whnf)) | (apply loads_at; (conv => lhs; whnf); (with_reducible assumption); rfl; (conv => whnf)) | (refine ⟨⟨by omega, by omega⟩, ?_⟩; (conv => whnf))))
      refine append_mine tab_ok rfl rfl rfl rfl rfl ⟨_, rfl, fun k h => by cases h⟩ ⟨_, rfl, rfl⟩ (by decide) (Mine.nil F2 F2 _ _ (Ext.refl _)) (m := l.length) (ys := bytesOf l) (y := .slice A l.length c) ⟨by simp [bytesOf], .inl ⟨_, _, rfl, hr.mono (M4.keep hR hA)⟩⟩ (hone_bytes l) (by show 2 * (0 + l.length) * 1 ≤ _; omega) fun s' F5 h1 _ => ?_
      obtain ⟨A5, c5, rfl, hc5, hr5⟩ := h1.own.row
      have hnew : ∀ a, A5 = some a → F2 a.block = none := fun a ha => h1.fresh _ (by rw [ha]; rfl)
      replace hr5 : RowAt F5 A5 (bytesOf l) := hr5
      have E5 := h1.ext
      have hll : 0 + l.length = l.length := Nat.zero_add _
      (conv => whnf)
      refine ⟨E5, ?_⟩
      ((conv => whnf); repeat (first | (apply load_at; (conv => lhs; whnf); (with_reducible assumption); rfl; (conv => whnf)) | (apply load_at; (conv => lhs; rw [add_plain, add_plain]); (with_reducible assumption); rfl; (conv => whnf)) | (apply loads_at; (conv => lhs; whnf); (with_reducible assumption); rfl; (conv => whnf)) | (refine ⟨⟨by omega, by omega⟩, ?_⟩; (conv => whnf))))
      refine store_step q (j * 3 + 1) _ (rowS orC (os.set j { o with l := l, lA := A5, lc := c5 })).toArray (ad3 q j 1) (E5 _ _ hq5) (os_put ho4 (by decide) (by show _ = [Value.slice o.sA o.s.length o.sc, .slice A5 (0 + l.length) c5, .int .i64 o.t]; rw [hll]; rfl)) (os_in hj4 (by decide)) (.inl (Nat.le_refl 0)) (one_slice _ _ _) ?_
      obtain ⟨M6, P6⟩ := P4.setL M4.inn E5 ho4 (o' := { o with l := l, lA := A5, lc := c5 }) ⟨ok4.s.mono (gain_ext (P4.base.trans M4.inn)), rowAt_gain hr5 hnew, ok4.sc, (by omega : l.length ≤ c5), ok4.sn, .inr hl256⟩
      replace M6 := M4.trans M6
      ((conv => whnf); repeat (first | (apply load_at; (conv => lhs; whnf); (with_reducible assumption); rfl; (conv => whnf)) | (apply load_at; (conv => lhs; rw [add_plain, add_plain]); (with_reducible assumption); rfl; (conv => whnf)) | (apply loads_at; (conv => lhs; whnf); (with_reducible assumption); rfl; (conv => whnf)) | (refine ⟨⟨by omega, by omega⟩, ?_⟩; (conv => whnf))))
      refine ⟨by rw [hre]; rfl, _, M6, ?_⟩
      rw [hrs]
      refine ⟨hwf2, q, os.set j { o with l := l, lA := A5, lc := c5 }, gain G F2 F5, ?_⟩
      have e4 : ({ L := r.L.set j (od { o with l := l, lA := A5, lc := c5 }), turn := r.turn, done := r.done + 1, arm := am, armed := r.armed, down := r.down } : RS) = rwriteO r (od o) (j : Int) l := by
        unfold rwriteO
        rw [if_neg (show ¬ (od o).t = 0 from ht), if_neg (show ¬ (od o).t = 0 from ht), Int.toNat_natCast, ham]
        rfl
      show RkP _ _ _ _ _ (rwriteO r (od o) (j : Int) l)
      rw [← e4]
      exact P6
end Go.Proofs.YtmpiggcooboenaaGreatDoor.Al
/- The reference's disks: Flush and Crash, over what is known of memory. -/
namespace Go.Proofs.YtmpiggcooboenaaGreatDoor.Al
open Go Go.Al Go.Proofs Go.RowKit
set_option maxHeartbeats 8000000
set_option maxRecDepth 100000
set_option linter.unusedVariables false
set_option linter.unusedSimpArgs false
/-- The first j are changed. -/
def mixL {α : Type} (f : α → α) (j : Nat) (xs : List α) : List α := (xs.take j).map f ++ xs.drop j
theorem mixL_len {α : Type} (f : α → α) (j : Nat) (xs : List α) : (mixL f j xs).length = xs.length := by
  unfold mixL
  rw [List.length_append, List.length_map, List.length_take, List.length_drop]
  omega
theorem mixL_zero {α : Type} (f : α → α) (xs : List α) : mixL f 0 xs = xs := rfl
theorem mixL_all {α : Type} (f : α → α) (xs : List α) : mixL f xs.length xs = xs.map f := by
  unfold mixL
  rw [List.take_length, List.drop_length, List.append_nil]
theorem mixL_get {α : Type} (f : α → α) {j : Nat} {xs : List α} (h : j < xs.length) : (mixL f j xs)[j]? = xs[j]? := by
  unfold mixL
  rw [List.getElem?_append_right (by rw [List.length_map, List.length_take]; omega), List.length_map, List.length_take, Nat.min_eq_left (by omega), Nat.sub_self, List.getElem?_drop, Nat.add_zero]
theorem mixL_set {α : Type} (f : α → α) {j : Nat} {xs : List α} {x : α} (h : xs[j]? = some x) : (mixL f j xs).set j (f x) = mixL f (j + 1) xs := by
  have hj := (List.getElem?_eq_some_iff.1 h).1
  have hx := (List.getElem?_eq_some_iff.1 h).2
  unfold mixL
  rw [List.set_append_right _ _ (by rw [List.length_map, List.length_take]; omega), List.length_map, List.length_take, Nat.min_eq_left (by omega), Nat.sub_self, List.drop_eq_getElem_cons hj, List.set_cons_zero, List.take_add_one, h, List.map_append, List.append_assoc]
  rfl
theorem mixL_same {α : Type} (f : α → α) {j : Nat} {xs : List α} {x : α} (h : xs[j]? = some x) (e : f x = x) : mixL f (j + 1) xs = mixL f j xs := by
  rw [← mixL_set f h, e]
  have hj := (List.getElem?_eq_some_iff.1 h).1
  have h2 : (mixL f j xs)[j]? = some x := by rw [mixL_get f hj, h]
  obtain ⟨h3, h4⟩ := List.getElem?_eq_some_iff.1 h2
  rw [← h4]
  exact List.set_getElem_self h3
theorem RkP.setM {D : Heap} {b q : Nat} {os : List OR} {G : Heap} {tn dn am : Int} {ad dw : Bool} (h : RkP D b q os G ⟨os.map od, tn, dn, am, ad, dw⟩) (i : Nat) (o : OR) (ho : OrOk G o) :
    RkP (D.put q (osO (os.set i o))) b q (os.set i o) G ⟨(os.set i o).map od, tn, dn, am, ad, dw⟩ := by
  have := h.set i o ho
  rw [List.map_set]
  exact this
def fl (o : OD) : OD := if o.t > 0 then ⟨o.l, o.l, 0⟩ else o
def flR (o : OR) : OR := if o.t > 0 then ⟨o.l, o.l, 0, o.lA, o.lc, o.lA, o.lc⟩ else o
theorem fl_od (o : OR) : od (flR o) = fl (od o) := by
  unfold flR fl
  by_cases h : o.t > 0
  · rw [if_pos h, if_pos (show (od o).t > 0 from h)]; rfl
  · rw [if_neg h, if_neg (show ¬ (od o).t > 0 from h)]
def rflushS (r : RS) : RS := if r.down = true then r else { r with L := r.L.map fl, turn := 0 }
theorem rflush_wf {r : RS} (h : RWf r) : RWf { r with L := r.L.map fl, turn := 0 } := by
  have h1 := h.turn
  refine ⟨by show 3 ≤ (r.L.map fl).length ∧ (r.L.map fl).length ≤ 65536; rw [List.length_map]; exact h.len, ⟨(by decide : (0 : Int) ≤ 0), (by omega : 0 ≤ r.done)⟩, h.done, h.arm, fun o ho => ?_⟩
  obtain ⟨x, hx, rfl⟩ := List.mem_map.1 ho
  have := h.ts x hx
  unfold fl
  split
  · exact ⟨(by decide : (0 : Int) ≤ 0), (by decide : (0 : Int) ≤ 0)⟩
  · exact ⟨this.1, (by omega : x.t ≤ 0)⟩
theorem rflush {D F : Heap} {b : Nat} {r : RS} (hE : Ext D F) (hD : Rk D b r) :
    FnK Tryz.prog 66 #[.pointer (some ⟨b, 0, none⟩)] F (fun v F' => v = .int .i64 (if r.down = true then 5 else 0) ∧ ∃ D', Moves D F D' F' ∧ Rk D' b (rflushS r)) := by
  have hD0 := hD
  obtain ⟨hwf, q, os, G, hP⟩ := hD
  have hb := hE _ _ hP.cell
  have hlen : r.L.length = os.length := by rw [hP.L, List.length_map]
  have hle := hwf.len
  (refine fn_walk tab_ok Tryz.func66 rfl rfl rfl rfl ?_; (conv => whnf))
  ((conv => whnf); repeat (first | (apply load_at; (conv => lhs; whnf); (with_reducible assumption); rfl; (conv => whnf)) | (apply load_at; (conv => lhs; rw [add_plain, add_plain]); (with_reducible assumption); rfl; (conv => whnf)) | (apply loads_at; (conv => lhs; whnf); (with_reducible assumption); rfl; (conv => whnf)) | (refine ⟨⟨by omega, by omega⟩, ?_⟩; (conv => whnf))))
  refine cond_split (fun h => ?_) (fun h => ?_)
  · have hd : r.down = true := h
    ((conv => whnf); repeat (first | (apply load_at; (conv => lhs; whnf); (with_reducible assumption); rfl; (conv => whnf)) | (apply load_at; (conv => lhs; rw [add_plain, add_plain]); (with_reducible assumption); rfl; (conv => whnf)) | (apply loads_at; (conv => lhs; whnf); (with_reducible assumption); rfl; (conv => whnf)) | (refine ⟨⟨by omega, by omega⟩, ?_⟩; (conv => whnf))))
    exact ⟨by rw [if_pos hd]; rfl, D, Moves.refl hE, by unfold rflushS; rw [if_pos hd]; exact hD0⟩
  have hd : ¬ r.down = true := by have h : r.down = false := h
                                  rw [h]; decide
  ((conv => whnf); repeat (first | (apply load_at; (conv => lhs; whnf); (with_reducible assumption); rfl; (conv => whnf)) | (apply load_at; (conv => lhs; rw [add_plain, add_plain]); (with_reducible assumption); rfl; (conv => whnf)) | (apply loads_at; (conv => lhs; whnf); (with_reducible assumption); rfl; (conv => whnf)) | (refine ⟨⟨by omega, by omega⟩, ?_⟩; (conv => whnf))))
  refine loop_slots [0, 3] (fun k vs F' => ∃ (j : Nat) (D' : Heap), j + k = os.length ∧ vs = [.pointer (some ⟨b, 0, none⟩), .int .i64 (j : Int)] ∧ Moves D F D' F' ∧ RkP D' b q (mixL flR j os) G ⟨(mixL flR j os).map od, r.turn, r.done, r.arm, r.armed, r.down⟩) os.length ⟨0, D, by omega, rfl, Moves.refl hE, by rw [mixL_zero, ← hP.L]; exact hP⟩ ?_
  rintro k vs F2 ρ ⟨j, D', hjk, rfl, hM, hP'⟩
  have hb2 : F2 b = some (rdO (.slice (some ⟨q, 0, none⟩) os.length os.length) r.turn r.done r.arm r.armed r.down) := by have := hM.inn _ _ hP'.cell; rw [mixL_len] at this; exact this
  have hq2 := hM.inn _ _ hP'.row
  ((conv => whnf); repeat (first | (apply load_at; (conv => lhs; whnf); (with_reducible assumption); rfl; (conv => whnf)) | (apply load_at; (conv => lhs; rw [add_plain, add_plain]); (with_reducible assumption); rfl; (conv => whnf)) | (apply loads_at; (conv => lhs; whnf); (with_reducible assumption); rfl; (conv => whnf)) | (refine ⟨⟨by omega, by omega⟩, ?_⟩; (conv => whnf))))
  refine cond_split (fun h => ?_) (fun h => ?_)
  · have hj : j < os.length := by have := of_decide_eq_true h; omega
    obtain ⟨o, ho⟩ : ∃ o, os[j]? = some o := ⟨_, List.getElem?_eq_getElem hj⟩
    have hok := hP.ok o (List.mem_of_getElem? ho)
    have ho2 : (mixL flR j os)[j]? = some o := by rw [mixL_get flR hj]; exact ho
    have hj2 : j < (mixL flR j os).length := by rw [mixL_len]; exact hj
    have hws : IntKind.i64.wrap ((j : Int) + 1) = ((j + 1 : Nat) : Int) := wrap_succ (by omega)
    ((conv => whnf); repeat (first | (apply load_at; (conv => lhs; whnf); (with_reducible assumption); rfl; (conv => whnf)) | (apply load_at; (conv => lhs; rw [add_plain, add_plain]); (with_reducible assumption); rfl; (conv => whnf)) | (apply loads_at; (conv => lhs; whnf); (with_reducible assumption); rfl; (conv => whnf)) | (refine ⟨⟨by omega, by omega⟩, ?_⟩; (conv => whnf))))
    refine load_at (ad3 q j 2) hq2 (os_get ho2 rfl) ?_
    ((conv => whnf); repeat (first | (apply load_at; (conv => lhs; whnf); (with_reducible assumption); rfl; (conv => whnf)) | (apply load_at; (conv => lhs; rw [add_plain, add_plain]); (with_reducible assumption); rfl; (conv => whnf)) | (apply loads_at; (conv => lhs; whnf); (with_reducible assumption); rfl; (conv => whnf)) | (refine ⟨⟨by omega, by omega⟩, ?_⟩; (conv => whnf))))
    refine cond_split (fun h => ?_) (fun h => ?_)
    · have h : decide (o.t > 0) = true := h
      have ht : o.t > 0 := of_decide_eq_true h
      refine short [0, 3] [.pointer (some ⟨b, 0, none⟩), .int .i64 (j : Int)] rfl fun ρ => ?_
      (conv => whnf)
      refine draw_walk tab_ok (by kernel_rfl) [0, 1, 2, 3, 4, 5, 6, 7, 8, 9, 10, 11, 12, 13, 14, 15, 16, 17, 18, 19, 20, 21, 22, 23] (by kernel_rfl) ?_
      ((conv => whnf); repeat (first | (apply load_at; (conv => lhs; whnf); (with_reducible assumption); rfl; (conv => whnf)) | (apply load_at; (conv => lhs; rw [add_plain, add_plain]); (with_reducible assumption); rfl; (conv => whnf)) | (apply loads_at; (conv => lhs; whnf); (with_reducible assumption); rfl; (conv => whnf)) | (refine ⟨⟨by omega, by omega⟩, ?_⟩; (conv => whnf))))
      refine load_at (ad3 q j 1) hq2 (os_get ho2 rfl) ?_
      ((conv => whnf); repeat (first | (apply load_at; (conv => lhs; whnf); (with_reducible assumption); rfl; (conv => whnf)) | (apply load_at; (conv => lhs; rw [add_plain, add_plain]); (with_reducible assumption); rfl; (conv => whnf)) | (apply loads_at; (conv => lhs; whnf); (with_reducible assumption); rfl; (conv => whnf)) | (refine ⟨⟨by omega, by omega⟩, ?_⟩; (conv => whnf))))
      refine store_step q (j * 3 + 0) _ (rowS orC ((mixL flR j os).set j { o with s := o.l, sA := o.lA, sc := o.lc })).toArray (ad3 q j 0) hq2 (os_put ho2 (by decide) rfl) (os_in hj2 (by decide)) (.inl (Nat.le_refl 0)) (one_slice _ _ _) ?_
      have M3 := hM.trans (Moves.put hM.inn (.inl (by rw [hP'.row]; simp)) (osO ((mixL flR j os).set j { o with s := o.l, sA := o.lA, sc := o.lc })))
      have P3 := hP'.setM j { o with s := o.l, sA := o.lA, sc := o.lc } ⟨hok.l, hok.l, hok.lc, hok.lc, hok.ln, hok.ln⟩
      have hq3 := M3.inn _ _ P3.row
      generalize F2.put q _ = F3 at M3 hq3 ⊢
      generalize D'.put q _ = D3 at M3 P3
      have ho3 : ((mixL flR j os).set j { o with s := o.l, sA := o.lA, sc := o.lc })[j]? = some { o with s := o.l, sA := o.lA, sc := o.lc } := by rw [List.getElem?_set_self hj2]
      have hj3 : j < ((mixL flR j os).set j { o with s := o.l, sA := o.lA, sc := o.lc }).length := by rw [List.length_set]; exact hj2
      ((conv => whnf); repeat (first | (apply load_at; (conv => lhs; whnf); (with_reducible assumption); rfl; (conv => whnf)) | (apply load_at; (conv => lhs; rw [add_plain, add_plain]); (with_reducible assumption); rfl; (conv => whnf)) | (apply loads_at; (conv => lhs; whnf); (with_reducible assumption); rfl; (conv => whnf)) | (refine ⟨⟨by omega, by omega⟩, ?_⟩; (conv => whnf))))
      refine store_step q (j * 3 + 2) _ (rowS orC (((mixL flR j os).set j { o with s := o.l, sA := o.lA, sc := o.lc }).set j (flR o))).toArray (ad3 q j 2) hq3 (os_put ho3 (by decide) (by unfold flR; rw [if_pos ht]; rfl)) (os_in hj3 (by decide)) (.inl (Nat.le_refl 0)) (one_int _ _) ?_
      have hokf : OrOk G (flR o) := by unfold flR; rw [if_pos ht]; exact ⟨hok.l, hok.l, hok.lc, hok.lc, hok.ln, hok.ln⟩
      have M4 := M3.trans (Moves.put M3.inn (.inl (by rw [P3.row]; simp)) (osO (((mixL flR j os).set j { o with s := o.l, sA := o.lA, sc := o.lc }).set j (flR o))))
      have P4 := P3.setM j (flR o) hokf
      generalize F3.put q _ = F4 at M4 ⊢
      generalize D3.put q _ = D4 at M4 P4
      rw [List.set_set, mixL_set flR ho] at P4
      ((conv => whnf); repeat (first | (apply load_at; (conv => lhs; whnf); (with_reducible assumption); rfl; (conv => whnf)) | (apply load_at; (conv => lhs; rw [add_plain, add_plain]); (with_reducible assumption); rfl; (conv => whnf)) | (apply loads_at; (conv => lhs; whnf); (with_reducible assumption); rfl; (conv => whnf)) | (refine ⟨⟨by omega, by omega⟩, ?_⟩; (conv => whnf))))
      refine ⟨k - 1, by omega, j + 1, D4, by omega, ?_, M4, P4⟩
      rw [← hws]
      rfl
    · have h : decide (o.t > 0) = false := h
      have ht : ¬ o.t > 0 := of_decide_eq_false h
      ((conv => whnf); repeat (first | (apply load_at; (conv => lhs; whnf); (with_reducible assumption); rfl; (conv => whnf)) | (apply load_at; (conv => lhs; rw [add_plain, add_plain]); (with_reducible assumption); rfl; (conv => whnf)) | (apply loads_at; (conv => lhs; whnf); (with_reducible assumption); rfl; (conv => whnf)) | (refine ⟨⟨by omega, by omega⟩, ?_⟩; (conv => whnf))))
      refine ⟨k - 1, by omega, j + 1, D', by omega, ?_, hM, ?_⟩
      · rw [← hws]
        rfl
      · rw [mixL_same flR ho (by unfold flR; rw [if_neg ht])]
        exact hP'
  · have hj : j = os.length := by have := of_decide_eq_false h; omega
    subst hj
    rw [mixL_all] at hP'
    ((conv => whnf); repeat (first | (apply load_at; (conv => lhs; whnf); (with_reducible assumption); rfl; (conv => whnf)) | (apply load_at; (conv => lhs; rw [add_plain, add_plain]); (with_reducible assumption); rfl; (conv => whnf)) | (apply loads_at; (conv => lhs; whnf); (with_reducible assumption); rfl; (conv => whnf)) | (refine ⟨⟨by omega, by omega⟩, ?_⟩; (conv => whnf))))
    refine store_step b 1 _ (rdC (.slice (some ⟨q, 0, none⟩) os.length os.length) 0 r.done r.arm r.armed r.down) rfl hb2 rfl rfl (.inl (Nat.le_refl 0)) (one_int _ _) ?_
    ((conv => whnf); repeat (first | (apply load_at; (conv => lhs; whnf); (with_reducible assumption); rfl; (conv => whnf)) | (apply load_at; (conv => lhs; rw [add_plain, add_plain]); (with_reducible assumption); rfl; (conv => whnf)) | (apply loads_at; (conv => lhs; whnf); (with_reducible assumption); rfl; (conv => whnf)) | (refine ⟨⟨by omega, by omega⟩, ?_⟩; (conv => whnf))))
    have P5 := hP'.nums 0 r.done r.arm r.armed r.down
    rw [List.length_map] at P5
    refine ⟨by rw [if_neg hd]; rfl, _, hM.trans (Moves.put hM.inn (.inl (by rw [hP'.cell]; simp)) _), ?_⟩
    have e : ((os.map flR).map od) = r.L.map fl := by rw [hP.L, List.map_map, List.map_map]; exact List.map_congr_left fun o _ => fl_od o
    unfold rflushS
    rw [if_neg hd]
    refine ⟨rflush_wf hwf, q, os.map flR, G, ?_⟩
    rw [← e]
    exact P5
end Go.Proofs.YtmpiggcooboenaaGreatDoor.Al
/- The reference's disks: Crash, over what is known of memory (printed by mkrcrash.py). -/
namespace Go.Proofs.YtmpiggcooboenaaGreatDoor.Al
open Go Go.Al Go.Proofs Go.RowKit
set_option maxHeartbeats 8000000
set_option maxRecDepth 100000
set_option linter.unusedVariables false
set_option linter.unusedSimpArgs false
def cr (keep : List Int) (o : OD) : OD := if o.t > 0 ∧ o.t - 1 ∈ keep then ⟨o.l, o.l, 0⟩ else ⟨o.s, o.s, 0⟩
def crR (keep : List Int) (o : OR) : OR := if o.t > 0 ∧ o.t - 1 ∈ keep then ⟨o.l, o.l, 0, o.lA, o.lc, o.lA, o.lc⟩ else ⟨o.s, o.s, 0, o.sA, o.sc, o.sA, o.sc⟩
theorem cr_od (keep : List Int) (o : OR) : od (crR keep o) = cr keep (od o) := by
  unfold crR cr
  by_cases h : o.t > 0 ∧ o.t - 1 ∈ keep
  · rw [if_pos h, if_pos (show (od o).t > 0 ∧ (od o).t - 1 ∈ keep from h)]; rfl
  · rw [if_neg h, if_neg (show ¬ ((od o).t > 0 ∧ (od o).t - 1 ∈ keep) from h)]; rfl
theorem crR_ok {G : Heap} {o : OR} (h : OrOk G o) (keep : List Int) : OrOk G (crR keep o) := by
  unfold crR
  split
  · exact ⟨h.l, h.l, h.lc, h.lc, h.ln, h.ln⟩
  · exact ⟨h.s, h.s, h.sc, h.sc, h.sn, h.sn⟩
def rcrashS (r : RS) (keep : List Int) : RS := ⟨r.L.map (cr keep), 0, r.done, 0, false, false⟩
theorem rcrash_wf {r : RS} (h : RWf r) (keep : List Int) : RWf (rcrashS r keep) := by
  have h1 := h.turn
  refine ⟨by show 3 ≤ (r.L.map (cr keep)).length ∧ (r.L.map (cr keep)).length ≤ 65536; rw [List.length_map]; exact h.len, ⟨(by decide : (0 : Int) ≤ 0), (by omega : 0 ≤ r.done)⟩, h.done, ⟨(by decide : (0 : Int) ≤ 0), (by decide : (0 : Int) ≤ 9223372036854775807)⟩, fun o ho => ?_⟩
  obtain ⟨x, hx, rfl⟩ := List.mem_map.1 ho
  unfold cr
  split <;> exact ⟨(by decide : (0 : Int) ≤ 0), (by decide : (0 : Int) ≤ 0)⟩
end Go.Proofs.YtmpiggcooboenaaGreatDoor.Al
/- The reference's disks: Pending, over what is known of memory. -/
namespace Go.Proofs.YtmpiggcooboenaaGreatDoor.Al
open Go Go.Al Go.Proofs Go.RowKit
set_option maxHeartbeats 8000000
set_option maxRecDepth 100000
set_option linter.unusedVariables false
set_option linter.unusedSimpArgs false
/-- The places, from i on, of the sectors with the number t. -/
def idxs (t : Int) : Nat → List OD → List Int
  | _, [] => []
  | i, o :: L => if o.t = t then (i : Int) :: idxs t (i + 1) L else idxs t (i + 1) L
def rpendL (L : List OD) : Nat → Int → List Int
  | 0, _ => []
  | n + 1, t => idxs t 0 L ++ rpendL L n (t + 1)
theorem idxs_len (t : Int) : ∀ (L : List OD) (i : Nat), (idxs t i L).length ≤ L.length
  | [], i => Nat.le_refl _
  | o :: L, i => by
    have := idxs_len t L (i + 1)
    unfold idxs
    split
    · simp only [List.length_cons]; omega
    · simp only [List.length_cons]; omega
theorem rpendL_len (L : List OD) : ∀ (n : Nat) (t : Int), (rpendL L n t).length ≤ n * L.length
  | 0, t => Nat.zero_le _
  | n + 1, t => by
    have h1 := rpendL_len L n (t + 1)
    have h2 := idxs_len t L 0
    unfold rpendL
    rw [List.length_append, Nat.add_mul, Nat.one_mul]
    omega
theorem idxs_cons (t : Int) (i : Nat) (o : OD) (L : List OD) : idxs t i (o :: L) = if o.t = t then (i : Int) :: idxs t (i + 1) L else idxs t (i + 1) L := rfl
end Go.Proofs.YtmpiggcooboenaaGreatDoor.Al
/- Disks: what is safe, in plain Lean. -/
namespace Go.Proofs.YtmpiggcooboenaaGreatDoor.Al
open Go Go.Al Go.Proofs Go.RowKit
set_option maxHeartbeats 8000000
set_option linter.unusedVariables false
set_option linter.unusedSimpArgs false
theorem Moves.stay {D F D' F' : Heap} (h : Moves D F D' F') {c : Nat} {o : Obj} (hc : F c = some o) (hd : D c = none) : F' c = some o ∧ D' c = none := by
  refine ⟨h.out c o hc hd, ?_⟩
  cases e : D' c with
  | none => rfl
  | some u =>
    rcases h.new c (by rw [e]; simp) with h1 | h1
    · exact absurd hd h1
    · rw [h1] at hc; cases hc
theorem Moves.side {F D F' : Heap} (h : Moves emptyH F D F') {p : Nat} (hp : F p = none) (hd : D p = none) (o : Obj) : Moves emptyH F D (F'.put p o) :=
  ⟨h.inn.put hd o, (fun c u hc _ => by
    have hne : c ≠ p := fun e => by subst e; rw [hp] at hc; cases hc
    rw [Heap.put_other _ _ hne]; exact h.out c u hc rfl), h.new⟩
def safB (s : DS) (i : Int) : List UInt8 := match s.safe i with | some l => l | none => List.replicate 256 0
theorem secB_some {s : DS} {i : Int} {l : List UInt8} (h : s.fresh i = some l) : secB s i = l := by unfold secB; rw [h]
theorem secB_none {s : DS} {i : Int} (h : s.fresh i = none) : secB s i = safB s i := by unfold secB; rw [h]; rfl
structure DkCalm (s : DS) (j : Nat) : Prop where
  sz : s.size = 16
  ar : s.armed = false
  dn : s.down = false
  wr : s.writes = (j : Int)
theorem safe_step {s : DS} {j : Nat} (h : DkCalm s j) {i : Int} (hi : 0 ≤ i ∧ i < 16) {l : List UInt8} (hl : l.length = 256) :
    DkCalm (writeS s i l) (j + 1) ∧ (∀ k, secB (writeS s i l) k = if k = i then l else secB s k) ∧ (∀ k, safB (writeS s i l) k = safB s k) := by
  have hd : ¬ (s.down = true ∨ ¬ (0 ≤ i ∧ i < s.size) ∨ l.length ≠ 256) := by
    rw [h.dn, h.sz]
    rintro (e | e | e)
    · cases e
    · exact e hi
    · exact e hl
  have hb : burnOk s.armed s.left = true := by rw [h.ar]; rfl
  unfold writeS
  rw [if_neg hd, if_pos hb]
  refine ⟨⟨h.sz, h.ar, h.dn, ?_⟩, fun k => ?_, fun k => rfl⟩
  · show s.writes + 1 = _
    rw [h.wr]; omega
  · unfold secB updF
    dsimp only
    by_cases e : k = i
    · rw [if_pos e, if_pos e]
    · rw [if_neg e, if_neg e]
theorem idxI_lt : ∀ (l : List Int) (n : Int) (i : Nat), idxI l n i ≥ 0 → (i : Int) ≤ idxI l n i := by
  intro l
  induction l with
  | nil => intro n i h; exact absurd h (by show ¬ ((-1 : Int) ≥ 0); decide)
  | cons x l ih =>
    intro n i h
    rw [idxI_cons] at h ⊢
    split
    · exact Int.le_refl _
    · next hne =>
      rw [if_neg hne] at h
      have := ih n (i + 1) h
      omega
theorem idxI_mem (l : List Int) (n : Int) (i : Nat) : idxI l n i ≥ 0 ↔ n ∈ l := decide_eq_decide.1 (idxI_ge l n i)
theorem setl_at (kp : Nat → Bool) (f : Int → Option (List UInt8)) : ∀ (l : List Int) (j : Nat) (sf : Int → Option (List UInt8)) (k : Int), l.Nodup → setl kp f l j sf k = if idxI l k j ≥ 0 ∧ kp (idxI l k j).toNat = true then f k else sf k := by
  intro l
  induction l with
  | nil =>
    intro j sf k _
    rw [if_neg (by rintro ⟨h, _⟩; exact absurd h (by show ¬ ((-1 : Int) ≥ 0); decide))]
    rfl
  | cons x l ih =>
    intro j sf k hn
    obtain ⟨h1, h2⟩ := List.nodup_cons.1 hn
    rw [setl_cons, ih (j + 1) _ k h2, idxI_cons]
    by_cases e : k = x
    · subst e
      have hnot : ¬ (idxI l k (j + 1) ≥ 0) := fun h => h1 ((idxI_mem l k (j + 1)).1 h)
      rw [if_neg (fun h => hnot h.1), if_pos rfl, Int.toNat_natCast]
      by_cases hk : kp j = true
      · rw [if_pos hk, if_pos ⟨by omega, hk⟩]
        unfold updF
        rw [if_pos rfl]
      · rw [if_neg hk, if_neg (fun h => hk h.2)]
    · rw [if_neg e]
      have : (if kp j = true then updF sf x (f x) else sf) k = sf k := by
        split
        · unfold updF; rw [if_neg e]
        · rfl
      rw [this]
theorem flush_calm {s : DS} {j : Nat} (h : DkCalm s j) (hw : DWf s) : DkCalm (flushS s) j ∧ (∀ k, secB (flushS s) k = secB s k) ∧ (∀ k, safB (flushS s) k = secB s k) := by
  have hd : ¬ s.down = true := by rw [h.dn]; decide
  unfold flushS
  rw [if_neg hd]
  have hs : ∀ k, safB (settleS s fun _ => true) k = secB s k := fun k => by
    have := setl_at (fun _ => true) s.fresh s.order 0 s.safe k hw.nod
    unfold safB settleS
    dsimp only
    rw [this]
    by_cases hm : k ∈ s.order
    · rw [if_pos ⟨(idxI_mem _ _ _).2 hm, rfl⟩]
      cases e : s.fresh k with
      | none => exact absurd e ((hw.fr k).1 hm)
      | some l => rw [secB_some e]
    · rw [if_neg (fun h => hm ((idxI_mem _ _ _).1 h.1))]
      cases e : s.fresh k with
      | none => rw [secB_none e]; rfl
      | some l => exact absurd ((hw.fr k).2 (by rw [e]; simp)) hm
  exact ⟨⟨h.sz, h.ar, h.dn, h.wr⟩, fun k => (secB_none (s := settleS s fun _ => true) rfl).trans (hs k), hs⟩
theorem crash_read {s : DS} {j : Nat} (h : DkCalm s j) (hw : DWf s) (keep : List Int) (k : Int) (hk : 0 ≤ k ∧ k < 16) :
    readE (crashS s keep) k = 0 ∧ readL (crashS s keep) k = if idxI s.order k 0 ≥ 0 ∧ idxI s.order k 0 ∈ keep then secB s k else safB s k := by
  have h1 : ¬ (crashS s keep).down = true := by show ¬ false = true; decide
  have h2 : ¬ ¬ (0 ≤ k ∧ k < (crashS s keep).size) := by
    rw [show (crashS s keep).size = 16 from h.sz]
    exact fun e => e hk
  refine ⟨by unfold readE; rw [if_neg h1, if_neg h2], ?_⟩
  unfold readL
  rw [if_neg (by rintro (e | e); exact h1 e; exact h2 e), secB_none (s := crashS s keep) rfl]
  have := setl_at (fun j => decide ((j : Int) ∈ keep)) s.fresh s.order 0 s.safe k hw.nod
  unfold safB
  show (match setl (fun j => decide ((j : Int) ∈ keep)) s.fresh s.order 0 s.safe k with | some l => l | none => List.replicate 256 0) = _
  rw [this]
  by_cases hm : idxI s.order k 0 ≥ 0
  · by_cases hk2 : idxI s.order k 0 ∈ keep
    · rw [if_pos ⟨hm, by rw [Int.toNat_of_nonneg hm]; exact decide_eq_true hk2⟩, if_pos ⟨hm, hk2⟩]
      cases e : s.fresh k with
      | none => exact absurd e ((hw.fr k).1 ((idxI_mem _ _ _).1 hm))
      | some l => rw [secB_some e]
    · rw [if_neg (fun e => hk2 (by have := e.2; rw [Int.toNat_of_nonneg hm] at this; exact of_decide_eq_true this)), if_neg (fun e => hk2 e.2)]
  · rw [if_neg (fun e => hm e.1), if_neg (fun e => hm e.1)]
/-- What the arrays say. -/
def Says (g : Int → List UInt8) (l : List UInt8) : Prop := l.length = 16 ∧ ∀ k : Nat, k < 16 → g k = List.replicate 256 (l.getD k 0)
theorem Says.set {g g' : Int → List UInt8} {l : List UInt8} (h : Says g l) {i : Nat} (hi : i < 16) (x : UInt8) (hg : ∀ k, g' k = if k = (i : Int) then List.replicate 256 x else g k) : Says g' (l.set i x) := by
  refine ⟨by rw [List.length_set]; exact h.1, fun k hk => ?_⟩
  rw [hg]
  by_cases e : k = i
  · subst e
    rw [if_pos rfl]
    simp [List.getD, h.1, hi]
  · rw [if_neg (by omega), h.2 k hk]
    simp [List.getD, List.getElem?_set, Ne.symm e]
theorem Says.congr {g g' : Int → List UInt8} {l : List UInt8} (h : Says g l) (hg : ∀ k, g' k = g k) : Says g' l := ⟨h.1, fun k hk => by rw [hg]; exact h.2 k hk⟩
end Go.Proofs.YtmpiggcooboenaaGreatDoor.Al
/- Disks: the program's and the reference's go together, in plain Lean. -/
namespace Go.Proofs.YtmpiggcooboenaaGreatDoor.Al
open Go Go.Al Go.Proofs Go.RowKit
set_option maxHeartbeats 8000000
set_option linter.unusedVariables false
set_option linter.unusedSimpArgs false
structure SimO (s : DS) (j : Nat) (o : OD) : Prop where
  f : (o.t = 0 ∧ s.fresh (j : Int) = none ∧ o.l = o.s) ∨ (0 < o.t ∧ s.order[(o.t - 1).toNat]? = some (j : Int) ∧ s.fresh (j : Int) = some o.l ∧ o.l.length = 256)
  k : (s.safe (j : Int) = none ∧ o.s = []) ∨ (s.safe (j : Int) = some o.s ∧ o.s.length = 256)
structure Sim (s : DS) (r : RS) : Prop where
  sz : s.size = (r.L.length : Int)
  ar : s.armed = r.armed
  lf : s.left = r.arm
  dn : s.down = r.down
  wr : s.writes = r.done
  tn : r.turn = (s.order.length : Int)
  el : ∀ j o, r.L[j]? = some o → SimO s j o
theorem sim_new (n : Nat) : Sim (newS (n : Int)) (newR n) := by
  refine ⟨by show (n : Int) = _; rw [show (newR n).L = List.replicate n ⟨[], [], 0⟩ from rfl, List.length_replicate], rfl, rfl, rfl, rfl, rfl, fun j o h => ?_⟩
  have h : (List.replicate n (⟨[], [], 0⟩ : OD))[j]? = some o := h
  rw [List.getElem?_replicate] at h
  split at h
  · cases h
    exact ⟨.inl ⟨rfl, rfl, rfl⟩, .inl ⟨rfl, rfl⟩⟩
  · cases h
theorem sim_read {s : DS} {r : RS} (h : Sim s r) (i : Int) : readE s i = rreadE r i ∧ readL s i = rreadL r i := by
  unfold readE rreadE readL rreadL
  rw [h.sz, h.dn]
  refine ⟨rfl, ?_⟩
  split
  · rfl
  · next hn =>
    have hi : 0 ≤ i ∧ i < (r.L.length : Int) := by
      by_cases e : 0 ≤ i ∧ i < (r.L.length : Int)
      · exact e
      · exact absurd (.inr e) hn
    obtain ⟨j, rfl⟩ : ∃ j : Nat, i = j := ⟨i.toNat, by omega⟩
    obtain ⟨o, ho⟩ : ∃ o, r.L[j]? = some o := ⟨_, List.getElem?_eq_getElem (by omega)⟩
    have hs := h.el j o ho
    have e : rsec r (j : Int) = fullB o.l := by unfold rsec; rw [Int.toNat_natCast, ho]
    rw [e]
    rcases hs.f with ⟨h1, h2, h3⟩ | ⟨h1, h2, h3, h4⟩
    · rw [secB_none h2, h3]
      unfold safB
      rcases hs.k with ⟨h5, h6⟩ | ⟨h5, h6⟩
      · rw [h5, h6]; rfl
      · rw [h5]
        unfold fullB
        rw [h6, Nat.sub_self]
        exact (List.append_nil _).symm
    · rw [secB_some h3]
      unfold fullB
      rw [h4, Nat.sub_self]
      exact (List.append_nil _).symm
theorem sim_write {s : DS} {r : RS} (h : Sim s r) (i : Int) (l : List UInt8) : writeE s i l = rwriteE r i l ∧ Sim (writeS s i l) (rwriteS r i l) := by
  have hb : (burnOk s.armed s.left = true) = ¬ (r.armed = true ∧ r.arm = 0) := by
    rw [h.ar, h.lf]
    unfold burnOk
    cases r.armed with
    | false => simp
    | true => simp
  unfold writeE rwriteE writeS rwriteS
  rw [h.sz, h.dn]
  by_cases hn : r.down = true ∨ ¬ (0 ≤ i ∧ i < (r.L.length : Int)) ∨ l.length ≠ 256
  · rw [if_pos hn, if_pos hn]
    refine ⟨?_, h⟩
    split
    · rfl
    · next hd => rw [if_pos (hn.resolve_left hd), if_pos (hn.resolve_left hd)]
  rw [if_neg hn, if_neg hn, if_neg (fun e => hn (.inl e)), if_neg (fun e => hn (.inr e)), if_neg (fun e => hn (.inl e)), if_neg (fun e => hn (.inr e))]
  by_cases ha : r.armed = true ∧ r.arm = 0
  · rw [if_pos ha, if_pos ha, if_neg (by rw [hb]; exact fun e => e ha), if_neg (by rw [hb]; exact fun e => e ha)]
    exact ⟨rfl, ⟨rfl, h.ar, h.lf, rfl, h.wr, h.tn, fun j o ho => ⟨(h.el j o ho).f, (h.el j o ho).k⟩⟩⟩
  rw [if_neg ha, if_neg ha, if_pos (by rw [hb]; exact ha), if_pos (by rw [hb]; exact ha)]
  refine ⟨rfl, ?_⟩
  have hl : l.length = 256 := by
    by_cases e : l.length = 256
    · exact e
    · exact absurd (.inr (.inr e)) hn
  have hi : 0 ≤ i ∧ i < (r.L.length : Int) := by
    by_cases e : 0 ≤ i ∧ i < (r.L.length : Int)
    · exact e
    · exact absurd (.inr (.inl e)) hn
  obtain ⟨j, rfl⟩ : ∃ j : Nat, i = j := ⟨i.toNat, by omega⟩
  have hj : j < r.L.length := by omega
  obtain ⟨o, ho⟩ : ∃ o, r.L[j]? = some o := ⟨_, List.getElem?_eq_getElem hj⟩
  have hs := h.el j o ho
  rw [Int.toNat_natCast, ho]
  have hfr : s.fresh (j : Int) = none ↔ o.t = 0 := by
    rcases hs.f with ⟨h1, h2, h3⟩ | ⟨h1, h2, h3, h4⟩
    · exact ⟨fun _ => h1, fun _ => h2⟩
    · exact ⟨fun e => (by rw [h3] at e; cases e), fun e => (by omega)⟩
  have htn := h.tn
  show Sim _ (rwriteO r o (j : Int) l)
  unfold rwriteO
  rw [Int.toNat_natCast]
  refine ⟨by show (r.L.length : Int) = ((r.L.set j _).length : Int); rw [List.length_set], h.ar, ?_, rfl, ?_, ?_, fun k p hp => ?_⟩
  · show (if s.armed = true then s.left - 1 else s.left) = if r.armed = true then r.arm - 1 else r.arm
    rw [h.ar, h.lf]
  · show s.writes + 1 = r.done + 1
    rw [h.wr]
  · show (if o.t = 0 then r.turn + 1 else r.turn) = ((if s.fresh (j : Int) = none then s.order ++ [(j : Int)] else s.order).length : Int)
    by_cases e : o.t = 0
    · rw [if_pos e, if_pos (hfr.2 e), List.length_append, htn]; rfl
    · rw [if_neg e, if_neg (fun x => e (hfr.1 x))]; exact htn
  · have hp : (r.L.set j ⟨o.s, l, if o.t = 0 then r.turn + 1 else o.t⟩)[k]? = some p := hp
    by_cases e : j = k
    · subst e
      rw [List.getElem?_set_self hj] at hp
      cases hp
      refine ⟨.inr ?_, hs.k⟩
      refine ⟨?_, ?_, ?_, hl⟩
      · show 0 < if o.t = 0 then r.turn + 1 else o.t
        split
        · omega
        · rcases hs.f with ⟨h1, _⟩ | ⟨h1, _⟩ <;> omega
      · show (if s.fresh (j : Int) = none then s.order ++ [(j : Int)] else s.order)[((if o.t = 0 then r.turn + 1 else o.t) - 1).toNat]? = _
        by_cases e : o.t = 0
        · rw [if_pos (hfr.2 e), if_pos e, htn, show ((s.order.length : Int) + 1 - 1).toNat = s.order.length by omega, List.getElem?_append_right (Nat.le_refl _), Nat.sub_self]
          rfl
        · rw [if_neg (fun x => e (hfr.1 x)), if_neg e]
          rcases hs.f with ⟨h1, _⟩ | ⟨_, h2, _⟩
          · exact absurd h1 e
          · exact h2
      · show updF s.fresh (j : Int) (some l) (j : Int) = _
        unfold updF
        rw [if_pos rfl]
    · rw [List.getElem?_set_ne e] at hp
      have hk := h.el k p hp
      refine ⟨?_, hk.k⟩
      have hu : updF s.fresh (j : Int) (some l) (k : Int) = s.fresh (k : Int) := by unfold updF; rw [if_neg (by omega)]
      rcases hk.f with ⟨h1, h2, h3⟩ | ⟨h1, h2, h3, h4⟩
      · exact .inl ⟨h1, hu.trans h2, h3⟩
      · refine .inr ⟨h1, ?_, hu.trans h3, h4⟩
        show (if s.fresh (j : Int) = none then s.order ++ [(j : Int)] else s.order)[(p.t - 1).toNat]? = _
        split
        · rw [List.getElem?_append_left (List.getElem?_eq_some_iff.1 h2).1]; exact h2
        · exact h2
theorem idxI_pos {l : List Int} (hn : l.Nodup) : ∀ {p : Nat} {k : Int} (i : Nat), l[p]? = some k → idxI l k i = ((i + p : Nat) : Int) := by
  induction l with
  | nil => intro p k i h; cases h
  | cons x l ih =>
    intro p k i h
    obtain ⟨h1, h2⟩ := List.nodup_cons.1 hn
    rw [idxI_cons]
    cases p with
    | zero =>
      have : x = k := by simpa using h
      rw [if_pos this.symm]
      rfl
    | succ p =>
      have h : l[p]? = some k := by simpa using h
      rw [if_neg (fun e => h1 (by rw [← e]; exact List.mem_of_getElem? h)), ih h2 (i + 1) h]
      congr 1
      omega
/-- Some of what was fresh is safe; the reference does the same to each sector. -/
theorem sim_settle {s : DS} {r : RS} (h : Sim s r) (hw : DWf s) (kp : Nat → Bool) (g : OD → OD) (hg : ∀ o, 0 ≤ o.t → g o = if 0 < o.t ∧ kp (o.t - 1).toNat = true then ⟨o.l, o.l, 0⟩ else ⟨o.s, o.s, 0⟩) :
    Sim (settleS s kp) { r with L := r.L.map g, turn := 0 } := by
  refine ⟨by show s.size = ((r.L.map g).length : Int); rw [List.length_map]; exact h.sz, h.ar, h.lf, h.dn, h.wr, rfl, fun j p hp => ?_⟩
  have hp : (r.L.map g)[j]? = some p := hp
  rw [List.getElem?_map] at hp
  obtain ⟨o, ho, rfl⟩ := Option.map_eq_some_iff.1 hp
  have hs := h.el j o ho
  have h0 : 0 ≤ o.t := by rcases hs.f with ⟨h1, _⟩ | ⟨h1, _⟩ <;> omega
  have hsf : (settleS s kp).safe (j : Int) = if 0 < o.t ∧ kp (o.t - 1).toNat = true then some o.l else s.safe (j : Int) := by
    show setl kp s.fresh s.order 0 s.safe (j : Int) = _
    rw [setl_at kp s.fresh s.order 0 s.safe (j : Int) hw.nod]
    rcases hs.f with ⟨h1, h2, h3⟩ | ⟨h1, h2, h3, h4⟩
    · rw [if_neg (by rintro ⟨e, _⟩; exact ((hw.fr j).1 ((idxI_mem _ _ _).1 e)) h2), if_neg (by omega)]
    · rw [idxI_pos hw.nod 0 h2, Int.toNat_natCast, Nat.zero_add, h3]
      by_cases e : kp (o.t - 1).toNat = true
      · rw [if_pos ⟨by omega, e⟩, if_pos ⟨h1, e⟩]
      · rw [if_neg (fun e2 => e e2.2), if_neg (fun e2 => e e2.2)]
  rw [hg o h0]
  by_cases e : 0 < o.t ∧ kp (o.t - 1).toNat = true
  · rw [if_pos e] at hsf ⊢
    refine ⟨.inl ⟨rfl, rfl, rfl⟩, .inr ⟨hsf, ?_⟩⟩
    rcases hs.f with ⟨h1, _⟩ | ⟨_, _, _, h4⟩
    · omega
    · exact h4
  · rw [if_neg e] at hsf ⊢
    refine ⟨.inl ⟨rfl, rfl, rfl⟩, ?_⟩
    rw [hsf]
    exact hs.k
theorem sim_flush {s : DS} {r : RS} (h : Sim s r) (hw : DWf s) : flushE s = (if r.down = true then 5 else 0) ∧ Sim (flushS s) (rflushS r) := by
  unfold flushE flushS rflushS
  rw [h.dn]
  refine ⟨rfl, ?_⟩
  split
  · exact h
  · have h2 : Sim (settleS s fun _ => true) { r with L := r.L.map fun o => if 0 < o.t ∧ (fun _ => true : Nat → Bool) (o.t - 1).toNat = true then ⟨o.l, o.l, 0⟩ else ⟨o.s, o.s, 0⟩, turn := 0 } := sim_settle h hw (fun _ => true) _ (fun o _ => rfl)
    have e : (r.L.map fun o : OD => if 0 < o.t ∧ (fun _ => true : Nat → Bool) (o.t - 1).toNat = true then (⟨o.l, o.l, 0⟩ : OD) else ⟨o.s, o.s, 0⟩) = r.L.map fl := List.map_congr_left fun o ho => by
      obtain ⟨j, hj⟩ := List.getElem?_of_mem ho
      have hs := h.el j o hj
      unfold fl
      rcases hs.f with ⟨h1, h2, h3⟩ | ⟨h1, h2, h3, h4⟩
      · rw [if_neg (by omega), if_neg (by omega)]
        obtain ⟨a, b, c⟩ := o
        simp at h1 h3
        subst h1 h3
        rfl
      · rw [if_pos ⟨h1, rfl⟩, if_pos h1]
    rw [e] at h2
    exact h2
theorem sim_crash {s : DS} {r : RS} (h : Sim s r) (hw : DWf s) (keep : List Int) : Sim (crashS s keep) (rcrashS r keep) := by
  have h2 := sim_settle h hw (fun j => decide ((j : Int) ∈ keep)) (cr keep) (fun o h0 => by
    unfold cr
    by_cases e : o.t > 0
    · have e2 : (((o.t - 1).toNat : Nat) : Int) = o.t - 1 := Int.toNat_of_nonneg (by omega)
      by_cases e3 : o.t - 1 ∈ keep
      · rw [if_pos ⟨e, e3⟩, if_pos ⟨e, by rw [e2]; exact decide_eq_true e3⟩]
      · rw [if_neg (fun x => e3 x.2), if_neg (fun x => e3 (by have := x.2; rw [e2] at this; exact of_decide_eq_true this))]
    · rw [if_neg (fun x => e x.1), if_neg (fun x => e x.1)])
  exact ⟨h2.sz, rfl, rfl, rfl, h2.wr, h2.tn, fun j o ho => ⟨(h2.el j o ho).f, (h2.el j o ho).k⟩⟩
theorem sim_arm {s : DS} {r : RS} (h : Sim s r) (i : Int) : Sim { s with armed := decide (i ≥ 0), left := max i 0 } { r with armed := decide (i ≥ 0), arm := max i 0 } :=
  ⟨h.sz, rfl, rfl, h.dn, h.wr, h.tn, fun j o ho => ⟨(h.el j o ho).f, (h.el j o ho).k⟩⟩
theorem idxs_none (t : Int) : ∀ (L : List OD) (i : Nat), (∀ o ∈ L, o.t ≠ t) → idxs t i L = []
  | [], i, _ => rfl
  | o :: L, i, h => by
    rw [idxs_cons, if_neg (h o List.mem_cons_self)]
    exact idxs_none t L (i + 1) fun p hp => h p (List.mem_cons_of_mem _ hp)
theorem idxs_one (t : Int) : ∀ (L : List OD) (i j : Nat), j < L.length → (∀ k o, L[k]? = some o → (o.t = t ↔ k = j)) → idxs t i L = [((i + j : Nat) : Int)]
  | [], i, j, hj, _ => absurd hj (Nat.not_lt_zero _)
  | o :: L, i, j, hj, h => by
    rw [idxs_cons]
    cases j with
    | zero =>
      rw [if_pos ((h 0 o rfl).2 rfl), idxs_none t L (i + 1)]
      · rfl
      · intro p hp e
        obtain ⟨k, hk⟩ := List.getElem?_of_mem hp
        have := (h (k + 1) p (by simpa using hk)).1 e
        omega
    | succ j =>
      rw [if_neg (fun e => by have := (h 0 o rfl).1 e; omega), idxs_one t L (i + 1) j (by simpa using hj) fun k p hp => ?_]
      · congr 2; omega
      · rw [h (k + 1) p (by simpa using hp)]
        omega
theorem sim_pending {s : DS} {r : RS} (h : Sim s r) (hw : DWf s) : rpendL r.L r.turn.toNat 1 = s.order := by
  have key : ∀ (n m : Nat), m + n = s.order.length → rpendL r.L n ((m + 1 : Nat) : Int) = s.order.drop m := by
    intro n
    induction n with
    | zero =>
      intro m hm
      rw [show m = s.order.length by omega, List.drop_length]
      rfl
    | succ n ih =>
      intro m hm
      have hm2 : m < s.order.length := by omega
      have hk : s.order[m]? = some s.order[m] := List.getElem?_eq_getElem hm2
      rw [List.drop_eq_getElem_cons hm2]
      have hr := hw.inr _ (List.mem_of_getElem? hk)
      have hf := (hw.fr _).1 (List.mem_of_getElem? hk)
      generalize s.order[m] = i at hk hr hf
      obtain ⟨j, rfl⟩ : ∃ j : Nat, i = j := ⟨i.toNat, by omega⟩
      have hj : j < r.L.length := by have := h.sz; omega
      have hone : idxs ((m + 1 : Nat) : Int) 0 r.L = [((0 + j : Nat) : Int)] := idxs_one _ r.L 0 j hj fun k o ho => by
        have hs := h.el k o ho
        constructor
        · intro e
          rcases hs.f with ⟨h1, h2, h3⟩ | ⟨h1, h2, h3, h4⟩
          · omega
          · rw [show (o.t - 1).toNat = m by omega, hk] at h2
            have := Option.some.inj h2
            omega
        · intro e
          subst e
          rcases hs.f with ⟨h1, h2, h3⟩ | ⟨h1, h2, h3, h4⟩
          · exact absurd h2 hf
          · have h5 := idxI_pos hw.nod 0 h2
            have h6 := idxI_pos hw.nod 0 hk
            omega
      show idxs ((m + 1 : Nat) : Int) 0 r.L ++ rpendL r.L n (((m + 1 : Nat) : Int) + 1) = _
      rw [hone, show (((m + 1 : Nat) : Int) + 1) = ((m + 1 + 1 : Nat) : Int) by omega, ih (m + 1) (by omega), Nat.zero_add]
      rfl
  have := key s.order.length 0 (by omega)
  rw [h.tn, Int.toNat_natCast]
  exact this
end Go.Proofs.YtmpiggcooboenaaGreatDoor.Al
/- Disks: two that go together; slices.Equal, exchequerlaw03.few, over what is known of memory. -/
namespace Go.Proofs.YtmpiggcooboenaaGreatDoor.Al
open Go Go.Al Go.Proofs Go.RowKit
set_option maxHeartbeats 8000000
set_option maxRecDepth 100000
set_option linter.unusedVariables false
set_option linter.unusedSimpArgs false
theorem slicesEqual (x y : List Int) (A B : Option Addr) (c e : Nat) (F : Heap) (hx : RowAt F A (x.map (.int .i64))) (hy : RowAt F B (y.map (.int .i64))) (hl : x.length ≤ 100000) (hl' : y.length ≤ 100000) :
    FnK Tryz.prog 20 #[.slice A x.length c, .slice B y.length e] F (fun v F' => v = .bool (x == y) ∧ F' = F) := by
  (refine fn_walk tab_ok Tryz.func20 rfl rfl rfl rfl ?_; (conv => whnf))
  refine cond_split (fun h => ?_) (fun h => ?_)
  · have hne : x.length ≠ y.length := by
      replace h : ((x.length : Int) != (y.length : Int)) = true := h
      intro e
      rw [e] at h
      simp at h
    (conv => whnf)
    refine ⟨congrArg Value.bool ?_, rfl⟩
    symm
    rw [beq_eq_false_iff_ne]
    intro e
    exact hne (by rw [e])
  · have heq : x.length = y.length := by
      replace h : ((x.length : Int) != (y.length : Int)) = false := h
      have := bne_eq_false_iff_eq.1 h
      omega
    (conv => whnf)
    refine loop_slots [0, 1, 12, 13] (fun k vs F' => ∃ j : Nat, j + k = x.length ∧ vs = [.slice A x.length c, .slice B y.length e, .int .i64 (x.length : Int), .int .i64 (j : Int)] ∧ x.take j = y.take j ∧ F' = F) x.length ⟨0, by omega, rfl, rfl, rfl⟩ ?_
    rintro k vs F2 ρ ⟨j, hjk, rfl, htk, rfl⟩
    (conv => whnf)
    refine cond_split (fun h => ?_) (fun h => ?_)
    · have hj : j < x.length := by have := of_decide_eq_true h; omega
      obtain ⟨ad, rfl⟩ := hx.some (by simp; omega)
      obtain ⟨bd, rfl⟩ := hy.some (by simp; omega)
      have hxj : x[j]? = some x[j] := List.getElem?_eq_getElem hj
      have hyj : y[j]? = some (y[j]'(by omega)) := List.getElem?_eq_getElem (by omega)
      (conv => whnf)
      refine draw_walk tab_ok (by kernel_rfl) [0, 1, 2, 3, 4, 5, 6, 7, 8] (by kernel_rfl) ?_
      (conv => whnf)
      refine ⟨⟨by omega, by omega⟩, ?_⟩
      (conv => whnf)
      refine load_step (v := .int .i64 x[j]) ?_ ?_
      · show F2.cell? (ad.add (Int.toNat (j : Int) * 1)) = _
        rw [Int.toNat_natCast, Nat.mul_one]
        exact hx.cell (by simp [hxj])
      (conv => whnf)
      refine ⟨⟨by omega, by omega⟩, ?_⟩
      (conv => whnf)
      refine load_step (v := .int .i64 (y[j]'(by omega))) ?_ ?_
      · show F2.cell? (bd.add (Int.toNat (j : Int) * 1)) = _
        rw [Int.toNat_natCast, Nat.mul_one]
        exact hy.cell (by simp [hyj])
      (conv => whnf)
      refine cond_split (fun h => ?_) (fun h => ?_)
      · (conv => whnf)
        refine ⟨congrArg Value.bool ?_, rfl⟩
        symm
        rw [beq_eq_false_iff_ne]
        rintro rfl
        simp at h
      · (conv => whnf)
        refine ⟨k - 1, by omega, j + 1, by omega, ?_, ?_, rfl⟩
        · have hw : IntKind.i64.wrap ((j : Int) + 1) = ((j + 1 : Nat) : Int) := by rw [IntKind.wrap_i64]; omega
          rw [← hw]
          rfl
        · have h := bne_eq_false_iff_eq.1 h
          rw [List.take_add_one, List.take_add_one, hxj, hyj, h, htk]
    · have hj : j = x.length := by have := of_decide_eq_false h; omega
      subst hj
      have hxy : x = y := by
        rw [List.take_length] at htk
        rw [htk, heq, List.take_length]
      (conv => whnf)
      exact ⟨congrArg Value.bool (beq_iff_eq.2 hxy).symm, rfl⟩
def fewD (r : DoR) : Bool := decide (r.keep.length ≤ 60)
def fewL (rs : List DoR) : Bool := decide (rs.length ≤ 60) && rs.all fewD
/-- Two things, each in its own part of memory. -/
structure Both (F D X : Heap) (b xb : Nat) (s : DS) (r : RS) : Prop where
  d : Ext D F
  x : Ext X F
  dk : Dk D b s
  rk : Rk X xb r
  ap : Apart D X
/-- What stands apart from both stays. -/
def Steps (F D X F' D' X' : Heap) : Prop := ∀ R, Ext R F → Apart D R → Apart X R → Ext R F' ∧ Apart D' R ∧ Apart X' R
theorem Steps.refl (F D X : Heap) : Steps F D X F D X := fun R h1 h2 h3 => ⟨h1, h2, h3⟩
theorem Steps.trans {F D X F1 D1 X1 F2 D2 X2 : Heap} (h : Steps F D X F1 D1 X1) (k : Steps F1 D1 X1 F2 D2 X2) : Steps F D X F2 D2 X2 := fun R h1 h2 h3 => by
  obtain ⟨a, b, c⟩ := h R h1 h2 h3
  exact k R a b c
theorem Both.onD {F D X F' D' : Heap} {b xb : Nat} {s s' : DS} {r : RS} (h : Both F D X b xb s r) (hM : Moves D F D' F') (hk : Dk D' b s') : Both F' D' X b xb s' r ∧ Steps F D X F' D' X :=
  ⟨⟨hM.inn, hM.keep h.x h.ap, hk, h.rk, hM.apart h.x h.ap⟩, fun R h1 h2 h3 => ⟨hM.keep h1 h2, hM.apart h1 h2, h3⟩⟩
theorem Both.onX {F D X F' X' : Heap} {b xb : Nat} {s : DS} {r r' : RS} (h : Both F D X b xb s r) (hM : Moves X F X' F') (hk : Rk X' xb r') : Both F' D X' b xb s r' ∧ Steps F D X F' D X' :=
  ⟨⟨hM.keep h.d h.ap.symm, hM.inn, h.dk, hk, (hM.apart h.d h.ap.symm).symm⟩, fun R h1 h2 h3 => ⟨hM.keep h1 h3, h2, hM.apart h1 h3⟩⟩
theorem Both.ext {F D X F' : Heap} {b xb : Nat} {s : DS} {r : RS} (h : Both F D X b xb s r) (hE : Ext F F') : Both F' D X b xb s r ∧ Steps F D X F' D X :=
  ⟨⟨h.d.trans hE, h.x.trans hE, h.dk, h.rk, h.ap⟩, fun R h1 h2 h3 => ⟨h1.trans hE, h2, h3⟩⟩
/-- A block of one's own stands apart from what was there. -/
theorem side_ext {R F F' : Heap} (hR : Ext R F) {p : Nat} {o : Obj} (hE : Ext F F') (hp : F' p = some o) : Ext (R.put p o) F' := fun c u hc => by
  by_cases e : c = p
  · subst e; rw [Heap.put_same] at hc; rw [hp]; exact hc
  · rw [Heap.put_other _ _ e] at hc; exact hE _ _ (hR _ _ hc)
theorem side_apart {R D F : Heap} (hA : Apart D R) (hD : Ext D F) {p : Nat} (hp : F p = none) (o : Obj) : Apart D (R.put p o) := fun c hc => by
  rw [Heap.put_other _ _ (fun e => by subst e; exact hc (hD.none hp))]; exact hA c hc
theorem only_apart {D F G : Heap} (hD : Ext D F) {p : Nat} (hp : F p = none) : Apart D (G.only p) := fun c hc => by
  unfold Heap.only
  rw [if_neg (fun e => by subst e; exact hc (hD.none hp))]
theorem rwriteSec {D F F0 : Heap} {b : Nat} {r : RS} {u : Value} (x : UInt8) (hE : Ext D F0) (hD : Rk D b r) (hr : NewRow F0 F u (List.replicate 256 x)) (hE2 : Ext F0 F) (i : Int) (hw : r.done < 1000000000) :
    FnK Tryz.prog 65 #[.pointer (some ⟨b, 0, none⟩), .int .i64 i, u] F (fun v F' => v = .int .i64 (rwriteE r i (List.replicate 256 x)) ∧ ∃ D', Moves D F0 D' F' ∧ Rk D' b (rwriteS r i (List.replicate 256 x))) := by
  obtain ⟨R, A, c, rfl, hc, hR, hA, hrow⟩ := newRow_apart hE hr
  have hM := Moves.ext hE hE2
  refine (rwrite hM.inn hD hR hA (List.replicate 256 x) A c hrow (by rw [List.length_replicate]; decide) i hw).mono ?_
  rintro v F' ⟨rfl, D', hM', hD'⟩
  exact ⟨rfl, D', hM.trans hM', hD'⟩
end Go.Proofs.YtmpiggcooboenaaGreatDoor.Al
/- Sectors: what they are in plain words, and the contracts of sector.Right, sealed, Pack. -/
namespace Go.Proofs.YtmpiggcooboenaaGreatDoor.Al
open Go Go.Al Go.Proofs Go.RowKit
set_option maxHeartbeats 8000000
set_option maxRecDepth 100000
set_option linter.unusedVariables false
set_option linter.unusedSimpArgs false
theorem gB_inj : ∀ (l l' : List UInt8), l.length = l'.length → gB l = gB l' → l = l' := by
  intro l
  induction l with
  | nil => intro l' h _; exact (List.eq_nil_of_length_eq_zero h.symm).symm
  | cons x l ih =>
    intro l' h hg
    cases l' with
    | nil => cases h
    | cons y l' =>
      have hl : l.length = l'.length := by simpa using h
      rw [gB_cons, gB_cons, hl] at hg
      have h1 := gB_lt l
      have h2 := gB_lt l'
      rw [hl] at h1
      generalize 256 ^ l'.length = p at hg h1 h2
      have hx : x.toNat = y.toNat := by
        have e1 : (x.toNat * p + gB l) / p = x.toNat := by rw [Nat.mul_comm, Nat.mul_add_div (by omega), Nat.div_eq_of_lt h1, Nat.add_zero]
        have e2 : (y.toNat * p + gB l') / p = y.toNat := by rw [Nat.mul_comm, Nat.mul_add_div (by omega), Nat.div_eq_of_lt h2, Nat.add_zero]
        rw [← e1, ← e2, hg]
      rw [hx] at hg
      rw [UInt8.toNat_inj.1 hx, ih l' hl (by omega)]
theorem beM_getV {m : Nat} (l : List UInt8) (hm : m ≤ 8) (h : l.length = m) : beM m (getV l) = l := by
  refine gB_inj _ _ (by rw [beM_len, h]) ?_
  have h1 := gB_lt l
  rw [h] at h1
  have h2 : 256 ^ m ≤ 256 ^ 8 := Nat.pow_le_pow_right (by decide) hm
  have h3 : (getV l % 18446744073709551616).toNat = gB l := by
    unfold getV
    rw [IntKind.wrap_i64]
    omega
  rw [gB_beM, h3, Nat.mod_eq_of_lt h1]
theorem getN_at {b : List UInt8} {i m : Nat} (h : i + m ≤ b.length) : getN b i m = getV ((b.drop i).take m) := if_pos h
def secR (p q : Int) : Bool := inM 4 p && (decide (q ≥ 0) && decide (q ≤ 4611686018427387904))
def headB (p q : Int) (d : List UInt8) : List UInt8 := putM 8 (putM 4 [] p) q ++ d
def sealB (b : List UInt8) : List UInt8 := beM 4 (sumB b : Nat) ++ b
def packY (p q : Int) (d : List UInt8) : Bool := secR p q && (d.length == 240)
def packB (p q : Int) (d : List UInt8) : List UInt8 := if packY p q d = true then sealB (headB p q d) else []
def packE (p q : Int) (d : List UInt8) : Int := if packY p q d = true then 0 else 1
theorem inSum (b : List UInt8) : inM 4 (sumB b : Nat) = true := by
  have := sumB_lt b
  unfold inM
  rw [show Nat.beq 4 8 = false by decide, cond_false, Bool.and_eq_true, decide_eq_true_iff, decide_eq_true_iff, show ((256 ^ 4 : Nat) : Int) = 4294967296 by decide]
  omega
theorem putSum (b : List UInt8) : putM 4 [] (sumB b : Nat) = beM 4 (sumB b : Nat) := by
  unfold putM
  rw [inSum, cond_true, List.nil_append]
theorem sealB_len (b : List UInt8) : (sealB b).length = 4 + b.length := by
  unfold sealB
  rw [List.length_append, beM_len]
theorem headB_len {p q : Int} {d : List UInt8} (h : packY p q d = true) : (headB p q d).length = 252 := by
  unfold packY secR at h
  simp only [Bool.and_eq_true] at h
  unfold headB putM
  rw [h.1.1]
  have hd : d.length = 240 := by simpa using h.2
  simp [inM, beM_len, hd]
theorem packB_len {p q : Int} {d : List UInt8} (h : packY p q d = true) : (packB p q d).length = 256 := by
  unfold packB
  rw [if_pos h, sealB_len, headB_len h]
theorem secRight (p q : Int) (F : Heap) : FnK Tryz.prog 88 #[.int .i64 p, .int .i64 q] F (fun v F' => v = .bool (secR p q) ∧ F' = F) := by
  have h4 := rightG 4 (.inr (.inr (.inl rfl))) p F
  unfold secR
  generalize inM 4 p = z at h4
  (refine fn_walk tab_ok Tryz.func88 rfl rfl rfl rfl ?_; (conv => whnf))
  refine call_of h4 ?_
  rintro v _ ⟨rfl, rfl⟩
  cases z with
  | false =>
    ((conv => whnf); repeat (first | (apply load_at; (conv => lhs; whnf); (with_reducible assumption); rfl; (conv => whnf)) | (apply load_at; (conv => lhs; rw [add_plain, add_plain]); (with_reducible assumption); rfl; (conv => whnf)) | (apply loads_at; (conv => lhs; whnf); (with_reducible assumption); rfl; (conv => whnf)) | (refine ⟨⟨by omega, by omega⟩, ?_⟩; (conv => whnf))))
    exact ⟨rfl, rfl⟩
  | true =>
    ((conv => whnf); repeat (first | (apply load_at; (conv => lhs; whnf); (with_reducible assumption); rfl; (conv => whnf)) | (apply load_at; (conv => lhs; rw [add_plain, add_plain]); (with_reducible assumption); rfl; (conv => whnf)) | (apply loads_at; (conv => lhs; whnf); (with_reducible assumption); rfl; (conv => whnf)) | (refine ⟨⟨by omega, by omega⟩, ?_⟩; (conv => whnf))))
    refine cond_split (fun h => ?_) (fun h => ?_)
    · have h : decide (q ≥ 0) = true := h
      rw [h]
      ((conv => whnf); repeat (first | (apply load_at; (conv => lhs; whnf); (with_reducible assumption); rfl; (conv => whnf)) | (apply load_at; (conv => lhs; rw [add_plain, add_plain]); (with_reducible assumption); rfl; (conv => whnf)) | (apply loads_at; (conv => lhs; whnf); (with_reducible assumption); rfl; (conv => whnf)) | (refine ⟨⟨by omega, by omega⟩, ?_⟩; (conv => whnf))))
      exact ⟨rfl, rfl⟩
    · have h : decide (q ≥ 0) = false := h
      rw [h]
      ((conv => whnf); repeat (first | (apply load_at; (conv => lhs; whnf); (with_reducible assumption); rfl; (conv => whnf)) | (apply load_at; (conv => lhs; rw [add_plain, add_plain]); (with_reducible assumption); rfl; (conv => whnf)) | (apply loads_at; (conv => lhs; whnf); (with_reducible assumption); rfl; (conv => whnf)) | (refine ⟨⟨by omega, by omega⟩, ?_⟩; (conv => whnf))))
      exact ⟨rfl, rfl⟩
theorem sealed (b : List UInt8) (A : Option Addr) (c : Nat) (F : Heap) (hr : RowAt F A (bytesOf b)) (hl : b.length ≤ 900000) (hN : NibAt F) :
    FnK Tryz.prog 86 #[.slice A b.length c] F (fun v F' => Mine F F' v 5 1 (sealB b).length (bytesOf (sealB b))) := by
  have h1 := crcSum b A c F hr (by omega) hN
  have h2 := fun G h => putG 4 (.inr (.inr (.inl rfl))) [] none 0 (sumB b : Nat) G h (by decide)
  have hlen := beM_len 4 (sumB b : Nat)
  rw [putSum] at h2
  unfold sealB
  have hlt := sumB_lt b
  generalize sumB b = n at h1 h2 hlen hlt
  generalize beM 4 (n : Int) = m at h2 hlen
  (refine fn_walk tab_ok Tryz.func86 rfl rfl rfl rfl ?_; (conv => whnf))
  refine call_of h1 ?_
  rintro v _ ⟨rfl, rfl⟩
  ((conv => whnf); repeat (first | (apply load_at; (conv => lhs; whnf); (with_reducible assumption); rfl; (conv => whnf)) | (apply load_at; (conv => lhs; rw [add_plain, add_plain]); (with_reducible assumption); rfl; (conv => whnf)) | (apply loads_at; (conv => lhs; whnf); (with_reducible assumption); rfl; (conv => whnf)) | (refine ⟨⟨by omega, by omega⟩, ?_⟩; (conv => whnf))))
  rw [wrap_eq (show -9223372036854775808 ≤ ((n : Nat) : Int) by omega) (by omega)]
  refine call_of (h2 _ (RowAt.nil _ _)) ?_
  rintro v F1 hM
  ((conv => whnf); repeat (first | (apply load_at; (conv => lhs; whnf); (with_reducible assumption); rfl; (conv => whnf)) | (apply load_at; (conv => lhs; rw [add_plain, add_plain]); (with_reducible assumption); rfl; (conv => whnf)) | (apply loads_at; (conv => lhs; whnf); (with_reducible assumption); rfl; (conv => whnf)) | (refine ⟨⟨by omega, by omega⟩, ?_⟩; (conv => whnf))))
  refine append_mine tab_ok rfl rfl rfl rfl rfl ⟨_, rfl, fun k h => by cases h⟩ ⟨_, rfl, rfl⟩ (by decide) hM (m := b.length) (ys := bytesOf b) (y := .slice A b.length c) ⟨by rw [bytes_len]; exact (Nat.mul_one _).symm, .inl ⟨_, _, rfl, hr.mono hM.ext⟩⟩ (hone_bytes _) (by show 2 * (m.length + b.length) * 1 ≤ _; omega) fun S2 F2 hM2 hk2 => ?_
  ((conv => whnf); repeat (first | (apply load_at; (conv => lhs; whnf); (with_reducible assumption); rfl; (conv => whnf)) | (apply load_at; (conv => lhs; rw [add_plain, add_plain]); (with_reducible assumption); rfl; (conv => whnf)) | (apply loads_at; (conv => lhs; whnf); (with_reducible assumption); rfl; (conv => whnf)) | (refine ⟨⟨by omega, by omega⟩, ?_⟩; (conv => whnf))))
  rw [List.length_append, bytes_app]
  exact hM2
theorem pack (p q : Int) (d : List UInt8) (A : Option Addr) (c : Nat) (F : Heap) (hr : RowAt F A (bytesOf d)) (hl : d.length ≤ 900000) (hN : NibAt F) :
    FnK Tryz.prog 78 #[.int .i64 p, .int .i64 q, .slice A d.length c] F (fun v F' => ∃ u, v = .tuple #[u, .int .i64 (packE p q d)] ∧ NewRow F F' u (packB p q d) ∧ Ext F F') := by
  have h0 := secRight p q F
  have h1 := fun G h => putG 4 (.inr (.inr (.inl rfl))) [] none 0 p G h (by decide)
  have e1 : (putM 4 [] p).length ≤ 4 := Nat.le_trans (putM_len 4 [] p) (by decide)
  have h2 := fun A c G h => putG 8 (.inr (.inr (.inr rfl))) (putM 4 [] p) A c q G h (by omega)
  have e2 : (putM 8 (putM 4 [] p) q).length ≤ 12 := Nat.le_trans (putM_len 8 _ q) (by omega)
  have h3 := fun A c G h hl => sealed (headB p q d) A c G h hl
  have hP : packY p q d = (secR p q && (d.length == 240)) := rfl
  have hB : packB p q d = if packY p q d = true then sealB (headB p q d) else [] := rfl
  have hE : packE p q d = if packY p q d = true then 0 else 1 := rfl
  have hH : headB p q d = putM 8 (putM 4 [] p) q ++ d := rfl
  generalize sealB (headB p q d) = sb at h3 hB
  generalize headB p q d = hb at h3 hH
  generalize putM 8 (putM 4 [] p) q = m2 at h2 e2 hH
  generalize putM 4 [] p = m1 at h1 h2 e1
  generalize packB p q d = pb at hB
  generalize packE p q d = pe at hE
  rw [hP] at hB hE
  generalize secR p q = z at h0 hB hE
  subst hH
  (refine fn_walk tab_ok Tryz.func78 rfl rfl rfl rfl ?_; (conv => whnf))
  refine call_of h0 ?_
  rintro v _ ⟨rfl, rfl⟩
  cases z with
  | false =>
    obtain rfl : pb = [] := hB
    obtain rfl : pe = 1 := hE
    ((conv => whnf); repeat (first | (apply load_at; (conv => lhs; whnf); (with_reducible assumption); rfl; (conv => whnf)) | (apply load_at; (conv => lhs; rw [add_plain, add_plain]); (with_reducible assumption); rfl; (conv => whnf)) | (apply loads_at; (conv => lhs; whnf); (with_reducible assumption); rfl; (conv => whnf)) | (refine ⟨⟨by omega, by omega⟩, ?_⟩; (conv => whnf))))
    exact ⟨_, rfl, newRow_nil _, Ext.refl _⟩
  | true =>
    rw [Bool.true_and] at hB hE
    ((conv => whnf); repeat (first | (apply load_at; (conv => lhs; whnf); (with_reducible assumption); rfl; (conv => whnf)) | (apply load_at; (conv => lhs; rw [add_plain, add_plain]); (with_reducible assumption); rfl; (conv => whnf)) | (apply loads_at; (conv => lhs; whnf); (with_reducible assumption); rfl; (conv => whnf)) | (refine ⟨⟨by omega, by omega⟩, ?_⟩; (conv => whnf))))
    refine cond_split (fun h => ?_) (fun h => ?_)
    · have hd : ¬ d.length = 240 := by
        have h : ((d.length : Int) != 240) = true := h
        simp only [bne_iff_ne, ne_eq] at h
        omega
      rw [if_neg (by simpa using hd)] at hB hE
      subst hB hE
      ((conv => whnf); repeat (first | (apply load_at; (conv => lhs; whnf); (with_reducible assumption); rfl; (conv => whnf)) | (apply load_at; (conv => lhs; rw [add_plain, add_plain]); (with_reducible assumption); rfl; (conv => whnf)) | (apply loads_at; (conv => lhs; whnf); (with_reducible assumption); rfl; (conv => whnf)) | (refine ⟨⟨by omega, by omega⟩, ?_⟩; (conv => whnf))))
      exact ⟨_, rfl, newRow_nil _, Ext.refl _⟩
    · have hd : d.length = 240 := by
        have h : ((d.length : Int) != 240) = false := h
        simp only [bne_eq_false_iff_eq] at h
        omega
      rw [if_pos (by simpa using hd)] at hB hE
      subst hB hE
      ((conv => whnf); repeat (first | (apply load_at; (conv => lhs; whnf); (with_reducible assumption); rfl; (conv => whnf)) | (apply load_at; (conv => lhs; rw [add_plain, add_plain]); (with_reducible assumption); rfl; (conv => whnf)) | (apply loads_at; (conv => lhs; whnf); (with_reducible assumption); rfl; (conv => whnf)) | (refine ⟨⟨by omega, by omega⟩, ?_⟩; (conv => whnf))))
      refine call_of (h1 _ (RowAt.nil _ _)) ?_
      rintro v F1 hM1
      obtain ⟨A1, c1, rfl, _, hr1⟩ := hM1.own.row
      ((conv => whnf); repeat (first | (apply load_at; (conv => lhs; whnf); (with_reducible assumption); rfl; (conv => whnf)) | (apply load_at; (conv => lhs; rw [add_plain, add_plain]); (with_reducible assumption); rfl; (conv => whnf)) | (apply loads_at; (conv => lhs; whnf); (with_reducible assumption); rfl; (conv => whnf)) | (refine ⟨⟨by omega, by omega⟩, ?_⟩; (conv => whnf))))
      refine call_of (h2 _ _ F1 hr1) ?_
      rintro v F2 hM2
      have hE2 := hM1.ext.trans hM2.ext
      ((conv => whnf); repeat (first | (apply load_at; (conv => lhs; whnf); (with_reducible assumption); rfl; (conv => whnf)) | (apply load_at; (conv => lhs; rw [add_plain, add_plain]); (with_reducible assumption); rfl; (conv => whnf)) | (apply loads_at; (conv => lhs; whnf); (with_reducible assumption); rfl; (conv => whnf)) | (refine ⟨⟨by omega, by omega⟩, ?_⟩; (conv => whnf))))
      refine append_mine tab_ok rfl rfl rfl rfl rfl ⟨_, rfl, fun k h => by cases h⟩ ⟨_, rfl, rfl⟩ (by decide) hM2 (m := d.length) (ys := bytesOf d) (y := .slice A d.length c) ⟨by rw [bytes_len]; exact (Nat.mul_one _).symm, .inl ⟨_, _, rfl, hr.mono hE2⟩⟩ (hone_bytes _) (by show 2 * (m2.length + d.length) * 1 ≤ _; omega) fun S3 F3 hM3 hk3 => ?_
      rw [← bytes_app, ← List.length_append] at hM3
      have hE3 := hM1.ext.trans hM3.ext
      obtain ⟨A3, c3, rfl, _, hr3⟩ := hM3.own.row
      ((conv => whnf); repeat (first | (apply load_at; (conv => lhs; whnf); (with_reducible assumption); rfl; (conv => whnf)) | (apply load_at; (conv => lhs; rw [add_plain, add_plain]); (with_reducible assumption); rfl; (conv => whnf)) | (apply loads_at; (conv => lhs; whnf); (with_reducible assumption); rfl; (conv => whnf)) | (refine ⟨⟨by omega, by omega⟩, ?_⟩; (conv => whnf))))
      refine call_of (h3 A3 c3 F3 hr3 (by rw [List.length_append]; omega) (hN.mono hE3)) ?_
      rintro v F4 hM4
      ((conv => whnf); repeat (first | (apply load_at; (conv => lhs; whnf); (with_reducible assumption); rfl; (conv => whnf)) | (apply load_at; (conv => lhs; rw [add_plain, add_plain]); (with_reducible assumption); rfl; (conv => whnf)) | (apply loads_at; (conv => lhs; whnf); (with_reducible assumption); rfl; (conv => whnf)) | (refine ⟨⟨by omega, by omega⟩, ?_⟩; (conv => whnf))))
      obtain ⟨A4, c4, rfl, g1, g2⟩ := hM4.own.row
      refine ⟨_, rfl, ⟨A4, c4, rfl, g1, g2, fun a ha => ?_⟩, hE3.trans hM4.ext⟩
      subst ha
      exact hE3.none (hM4.fresh a.block rfl)
end Go.Proofs.YtmpiggcooboenaaGreatDoor.Al
/- The logic of a known part of memory, 17: rows of structs: an append of zeros that grows, a copy to a place of a row. -/
namespace Go.Al
open Go
theorem copy_rows {P : Program} {T : Tab} (hT : TabOk P T) {o : Oper} {ev : Operand → Value} {F : Heap} {K : Value → Heap → Prop} {t u e e' : TypeId} {p q : Operand} {g off dl dc m c : Nat} {A : Option Addr} {ys : List Value} {cur : Array Value} {fz : Nat × Nat} {a1 a2 : Nat} {z1 : Option Value} {d : TD} {N : Nat}
    (ho : o.op = .call ⟨.builtin .copy, #[p, q], #[t, u]⟩) (hp : ev p = .slice (some ⟨g, off, none⟩) dl dc) (hq : ev q = .slice A m c) (h1 : T t = some ⟨a1, a2, .slice e, z1⟩) (h2 : T e = some d)
    (hr : RowAt F A ys) (hl : ys.length = N * d.size) (hg : F g = some (.cells cur e' fz)) (hfz : fz.2 ≤ fz.1 ∨ cur.size ≤ fz.1) (hN : N = min m dl) (hsz : off + N * d.size ≤ cur.size) (hone : ∀ v ∈ ys, v.oneCell' = true)
    (hk : K (.int .i64 (N : Nat)) (F.put g (.cells (putL cur.toList off ys).toArray e' fz))) : OpK P o ev F K := by
  subst hN
  obtain ⟨hu1, _⟩ := hT _ _ h1
  obtain ⟨_, i, hi, hs, _, _⟩ := hT _ _ h2
  refine ⟨opW_v (s := Builtin.copy_ #[t, u] o.type #[.slice (some ⟨g, off, none⟩) dl dc, .slice A m c]) (by simp [execOp, ho, resolve, invoke, builtin, hp, hq]) ?_⟩
  unfold Builtin.copy_
  simp only [List.getElem?_toArray, List.getElem?_cons_zero, List.getElem?_cons_succ]
  rw [wk_bind, wk_underlying hu1]
  dsimp only
  rw [wk_bind]
  rw [show Builtin.lenOf (.slice A m c) = (pure m : Sem Nat) from rfl, wk_pure, show Nat.min m dl = min m dl from rfl, wk_bind, wk_sizeOf hi, hs, wk_bind]
  refine wk_firstCells hr hl _ ?_
  simp only [wk_bind]
  refine wk_storeCells (a := ⟨g, off, none⟩) (e := e') (fz := fz) rfl ys 0 F cur _ hg (by rw [hl]; show off + 0 + min m dl * d.size ≤ _; omega) (hfz.imp id fun h => by rw [hl]; show off + 0 + min m dl * d.size ≤ fz.1; omega) hone ?_
  exact hk
theorem call_args {P : Program} {f : FuncId} {xs xs' : Array Value} {F : Heap} {K : Value → Heap → Prop} (e : xs = xs') (h : CallK P f xs' F K) : CallK P f xs F K := e ▸ h
theorem append_grow {P : Program} {T : Tab} (hT : TabOk P T) {o : Oper} {ev : Operand → Value} {F : Heap} {t u : TypeId} {p q : Operand} (ho : o.op = .call ⟨.builtin .append, #[p, q], #[t, u]⟩) {e : TypeId} {tsz tb : Nat} {tz : Option Value} {d : TD} {A : Option Addr} {n m c : Nat} {k : IntKind} {xs : List Value} {K : Value → Heap → Prop}
    (hp : ev p = .slice A n c) (hq : ev q = .int .i64 m) (ht : T t = some ⟨tsz, tb, .slice e, tz⟩) (he : T e = some d) (hu : ∃ du, T u = some du ∧ du.desc = .int k) (hz : ∃ zv, d.zero = some zv ∧ zv.cells.size = d.size) (hb0 : 0 < d.bytes)
    (hrow : RowAt F A xs) (hlxs : xs.length = n * d.size) (hcn : c < n + m) (hm0 : 0 < m) (hd0 : 0 < d.size) (hlim : 2 * (n + m) * d.bytes ≤ 281474976710656)
    (hk : ∀ b nc cs, F b = none → n + m ≤ nc → cs.size = nc * d.size → cs.toList.take (n * d.size) = xs → K (.slice (some ⟨b, 0, none⟩) (n + m) nc) (F.put b (.cells cs e))) : OpK P o ev F K := by
  obtain ⟨hut, _⟩ := hT _ _ ht
  obtain ⟨_, i, hi, hsz, hby, hze⟩ := hT _ _ he
  obtain ⟨du, hdu, hk'⟩ := hu
  obtain ⟨huu, _⟩ := hT _ _ hdu
  obtain ⟨zv, hzv, hzs⟩ := hz
  have hm : n + m ≤ 281474976710656 := by
    have := Nat.le_mul_of_pos_right (2 * (n + m)) hb0
    omega
  refine ⟨opW_v (s := Builtin.append_ #[t, u] o.type #[.slice A n c, .int .i64 m]) (by simp [execOp, ho, resolve, invoke, builtin, hp, hq]) ?_⟩
  unfold Builtin.append_
  simp only [List.getElem?_toArray, List.getElem?_cons_zero, List.getElem?_cons_succ]
  rw [wk_bind, wk_underlying hut]
  dsimp only
  rw [wk_bind, wk_sizeOf hi, hsz, wk_bind]
  rw [wk_underlying huu, wk_bind, wk_pure, hk']
  dsimp only
  have hw : IntKind.i64.wrap (m : Int) = m := by rw [IntKind.wrap_i64]; omega
  have hmb : ¬ ((m : Int) * (d.bytes : Int) > 2 ^ 48) := by
    have : m * d.bytes ≤ 281474976710656 := Nat.le_trans (Nat.mul_le_mul_right _ (by omega)) hlim
    have : ((m * d.bytes : Nat) : Int) ≤ ((281474976710656 : Nat) : Int) := Int.ofNat_le.2 this
    rw [Int.natCast_mul] at this
    omega
  simp only [if_true, asInt, asIntOf, wk_bind, wk_pure, hw]
  rw [if_neg (by omega)]
  simp only [wk_bind, wk_typeInfo hi, hby]
  rw [if_neg hmb]
  simp only [wk_bind, wk_pure, Int.toNat_natCast, Bool.not_true, Bool.false_eq_true, if_false]
  have app : ∀ (L : Array Value → Heap → Prop), L (Builtin.zeroCells zv.cells m) F → wk P (if m * d.size = 0 then pure #[] else do pure (Builtin.zeroCells (← zeroValue e).cells m) : Sem (Array Value)) F L := by
    intro L hL
    rw [if_neg (by have := Nat.mul_pos hm0 hd0; omega), wk_bind, wk_zeroValue hi (hze.trans hzv), wk_pure]
    exact hL
  rw [if_neg (by omega : ¬ n + m ≤ c)]
  have hcap := nextslicecap_le (need := n + m) (old := c) (by omega)
  rw [wk_bind, wk_typeInfo hi]
  rw [if_neg (by rw [hby]; simp [IntKind.max, IntKind.signed, IntKind.bits]; omega)]
  rw [wk_bind, wk_typeInfo hi]
  rw [if_neg (by rw [hby]; have := Nat.mul_le_mul_right d.bytes hcap; omega)]
  rw [wk_bind]
  refine wk_choose fun nc _ hch => ?_
  obtain ⟨tt, rfl⟩ := hch rfl
  have hge : n + m ≤ Question.cut (.appendCap (n + m) c e) tt := by show n + m ≤ n + m + _; omega
  generalize Question.cut (.appendCap (n + m) c e) tt = nc at hge
  rw [wk_bind, wk_typeInfo hi, wk_bind, wk_askRoom, wk_bind]
  refine wk_firstCells hrow hlxs _ ?_
  rw [wk_bind]
  refine app _ ?_
  rw [wk_bind, wk_zeroValue hi (hze.trans hzv)]
  simp only [newRow, wk_bind, wk_pure]
  refine run_new ⟨fun b hb => ?_⟩
  refine hk b nc _ hb hge ?_ ?_
  · simp only [Array.size_append, List.size_toArray, zeroCells_size, hzs, hlxs]
    rw [← Nat.add_mul, ← Nat.add_mul]
    congr 1
    omega
  · rw [Array.toList_append, Array.toList_append, List.toList_toArray, List.append_assoc]
    exact List.take_left' hlxs
end Go.Al
/- Sectors: the contracts of sector.Unpack, and of the reference's Right, Pack, Unpack. -/
namespace Go.Proofs.YtmpiggcooboenaaGreatDoor.Al
open Go Go.Al Go.Proofs Go.RowKit
set_option maxHeartbeats 8000000
set_option maxRecDepth 100000
set_option linter.unusedVariables false
set_option linter.unusedSimpArgs false
def okU (b : List UInt8) : Bool := (b.length == 256) && ((sealB (b.drop 4) == b) && secR (getN b 4 4) (getN b 8 8))
def unP (b : List UInt8) : Int := if okU b = true then getN b 4 4 else 0
def unQ (b : List UInt8) : Int := if okU b = true then getN b 8 8 else 0
def unD (b : List UInt8) : List UInt8 := if okU b = true then b.drop 16 else []
def unE (b : List UInt8) : Int := if okU b = true then 0 else 4
theorem newRow_nil' (F F' : Heap) : NewRow F F' (.slice none 0 0) [] := ⟨none, 0, rfl, Nat.le_refl 0, RowAt.nil _ _, fun a h => by cases h⟩
theorem unpack (b : List UInt8) (A : Option Addr) (c : Nat) (F : Heap) (hr : RowAt F A (bytesOf b)) (hl : b.length ≤ 900000) (hc : b.length ≤ c) (hN : NibAt F) :
    FnK Tryz.prog 57 #[.slice A b.length c] F (fun v F' => ∃ u, v = .tuple #[.int .i64 (unP b), .int .i64 (unQ b), u, .int .i64 (unE b)] ∧ NewRow F F' u (unD b) ∧ Ext F F') := by
  have hOk : okU b = ((b.length == 256) && ((sealB (b.drop 4) == b) && secR (getN b 4 4) (getN b 8 8))) := rfl
  unfold unP unQ unD unE
  by_cases hb : b.length = 256
  · have hdl : (b.drop 4).length = 252 := by rw [List.length_drop, hb]
    have hdl2 : (b.drop 16).length = 240 := by rw [List.length_drop, hb]
    have k1 : b.length - 4 = (b.drop 4).length := by rw [List.length_drop]
    have k2 : b.length - 16 = (b.drop 16).length := by rw [List.length_drop]
    have h1 := fun A c F h hN => sealed (b.drop 4) A c F h (by omega) hN
    have hsl : (sealB (b.drop 4)).length = 256 := by rw [sealB_len, hdl]
    have h2 := fun A B c e F hx hy => bytesEqual (sealB (b.drop 4)) b A B c e F hx hy
    have h3 := fun F h => getG 4 (.inr (.inr (.inl rfl))) b A c 4 F h (by omega) hc (by decide)
    have h4 := fun F h => getG 8 (.inr (.inr (.inr rfl))) b A c 8 F h (by omega) hc (by decide)
    have h5 := fun F => secRight (getN b 4 4) (getN b 8 8) F
    have h6 := fun A c F h => clone (b.drop 16) A c F h (by omega)
    have r1 : ∀ F, RowAt F A (bytesOf b) → RowAt F (if c = 4 then A else A.map (·.add (4 * 1))) (bytesOf (b.drop 4)) := fun F h => by
      have := row_cut3 4 252 c 4 h rfl (by omega) (by omega)
      rwa [List.take_of_length_le (by omega)] at this
    have r2 : ∀ F, RowAt F A (bytesOf b) → RowAt F (if c = 16 then A else A.map (·.add (16 * 1))) (bytesOf (b.drop 16)) := fun F h => by
      have := row_cut3 16 240 c 16 h rfl (by omega) (by omega)
      rwa [List.take_of_length_le (by omega)] at this
    generalize getN b 4 4 = p at h3 h5 hOk ⊢
    generalize getN b 8 8 = q at h4 h5 hOk ⊢
    generalize getE b 4 4 = e3 at h3
    generalize getE b 8 8 = e4 at h4
    generalize secR p q = z at h5 hOk
    generalize sealB (b.drop 4) = sb at h1 h2 hsl hOk
    generalize (sb == b) = y at h2 hOk
    generalize b.drop 4 = b4 at h1 r1 k1 hdl
    generalize b.drop 16 = b16 at h6 r2 k2 hdl2 ⊢
    rw [show (b.length == 256) = true by simpa using hb, Bool.true_and] at hOk
    rw [hOk]
    clear hOk
    (refine fn_walk tab_ok Tryz.func57 rfl rfl rfl rfl ?_; (conv => whnf))
    refine cond_split (fun h => ?_) (fun h => ?_)
    rotate_left
    · exact absurd hb (by
        have h : (!((b.length : Int) != 256)) = false := h
        simp only [Bool.not_eq_false', bne_iff_ne, ne_eq] at h
        omega)
    clear h
    ((conv => whnf); repeat (first | (apply load_at; (conv => lhs; whnf); (with_reducible assumption); rfl; (conv => whnf)) | (apply load_at; (conv => lhs; rw [add_plain, add_plain]); (with_reducible assumption); rfl; (conv => whnf)) | (apply loads_at; (conv => lhs; whnf); (with_reducible assumption); rfl; (conv => whnf)) | (refine ⟨⟨by omega, by omega⟩, ?_⟩; (conv => whnf))))
    refine call_args (xs' := #[.slice (if c = 4 then A else A.map (·.add (4 * 1))) b4.length (c - 4)]) ?hq (call_of (h1 _ _ F (r1 F hr) hN) ?_)
    case hq =>
      refine congrArg (fun x => #[x]) (slice_eq rfl ?_ rfl)
      exact k1
    rintro v F1 hM1
    obtain ⟨A1, c1, rfl, _, hr1⟩ := hM1.own.row
    ((conv => whnf); repeat (first | (apply load_at; (conv => lhs; whnf); (with_reducible assumption); rfl; (conv => whnf)) | (apply load_at; (conv => lhs; rw [add_plain, add_plain]); (with_reducible assumption); rfl; (conv => whnf)) | (apply loads_at; (conv => lhs; whnf); (with_reducible assumption); rfl; (conv => whnf)) | (refine ⟨⟨by omega, by omega⟩, ?_⟩; (conv => whnf))))
    refine call_of (h2 A1 A c1 c F1 hr1 (hr.mono hM1.ext)) ?_
    rintro v _ ⟨rfl, rfl⟩
    have hr' := hr.mono hM1.ext
    have hE1 := hM1.ext
    cases y with
    | false =>
      ((conv => whnf); repeat (first | (apply load_at; (conv => lhs; whnf); (with_reducible assumption); rfl; (conv => whnf)) | (apply load_at; (conv => lhs; rw [add_plain, add_plain]); (with_reducible assumption); rfl; (conv => whnf)) | (apply loads_at; (conv => lhs; whnf); (with_reducible assumption); rfl; (conv => whnf)) | (refine ⟨⟨by omega, by omega⟩, ?_⟩; (conv => whnf))))
      exact ⟨_, rfl, newRow_nil' _ _, hE1⟩
    | true =>
    rw [Bool.true_and]
    clear h1 h2 hr hM1 hr1
    refine short [0, 13, 18] [.slice A b.length c, .bool false, .bool true] rfl fun ρ => ?_
    ((conv => whnf); repeat (first | (apply load_at; (conv => lhs; whnf); (with_reducible assumption); rfl; (conv => whnf)) | (apply load_at; (conv => lhs; rw [add_plain, add_plain]); (with_reducible assumption); rfl; (conv => whnf)) | (apply loads_at; (conv => lhs; whnf); (with_reducible assumption); rfl; (conv => whnf)) | (refine ⟨⟨by omega, by omega⟩, ?_⟩; (conv => whnf))))
    refine call_of (h3 _ hr') ?_
    rintro v _ ⟨rfl, rfl⟩
    ((conv => whnf); repeat (first | (apply load_at; (conv => lhs; whnf); (with_reducible assumption); rfl; (conv => whnf)) | (apply load_at; (conv => lhs; rw [add_plain, add_plain]); (with_reducible assumption); rfl; (conv => whnf)) | (apply loads_at; (conv => lhs; whnf); (with_reducible assumption); rfl; (conv => whnf)) | (refine ⟨⟨by omega, by omega⟩, ?_⟩; (conv => whnf))))
    refine call_of (h4 _ hr') ?_
    rintro v _ ⟨rfl, rfl⟩
    ((conv => whnf); repeat (first | (apply load_at; (conv => lhs; whnf); (with_reducible assumption); rfl; (conv => whnf)) | (apply load_at; (conv => lhs; rw [add_plain, add_plain]); (with_reducible assumption); rfl; (conv => whnf)) | (apply loads_at; (conv => lhs; whnf); (with_reducible assumption); rfl; (conv => whnf)) | (refine ⟨⟨by omega, by omega⟩, ?_⟩; (conv => whnf))))
    refine call_of (h5 _) ?_
    rintro v _ ⟨rfl, rfl⟩
    cases z with
    | false =>
      ((conv => whnf); repeat (first | (apply load_at; (conv => lhs; whnf); (with_reducible assumption); rfl; (conv => whnf)) | (apply load_at; (conv => lhs; rw [add_plain, add_plain]); (with_reducible assumption); rfl; (conv => whnf)) | (apply loads_at; (conv => lhs; whnf); (with_reducible assumption); rfl; (conv => whnf)) | (refine ⟨⟨by omega, by omega⟩, ?_⟩; (conv => whnf))))
      exact ⟨_, rfl, newRow_nil' _ _, hE1⟩
    | true =>
    ((conv => whnf); repeat (first | (apply load_at; (conv => lhs; whnf); (with_reducible assumption); rfl; (conv => whnf)) | (apply load_at; (conv => lhs; rw [add_plain, add_plain]); (with_reducible assumption); rfl; (conv => whnf)) | (apply loads_at; (conv => lhs; whnf); (with_reducible assumption); rfl; (conv => whnf)) | (refine ⟨⟨by omega, by omega⟩, ?_⟩; (conv => whnf))))
    refine call_args (xs' := #[.slice (if c = 16 then A else A.map (·.add (16 * 1))) b16.length (c - 16)]) ?hq2 (call_of (h6 _ _ _ (r2 _ hr')) ?_)
    case hq2 => exact congrArg (fun x => #[x]) (slice_eq rfl k2 rfl)
    rintro v F3 hM3
    obtain ⟨A3, c3, rfl, g1, g2⟩ := hM3.own.row
    ((conv => whnf); repeat (first | (apply load_at; (conv => lhs; whnf); (with_reducible assumption); rfl; (conv => whnf)) | (apply load_at; (conv => lhs; rw [add_plain, add_plain]); (with_reducible assumption); rfl; (conv => whnf)) | (apply loads_at; (conv => lhs; whnf); (with_reducible assumption); rfl; (conv => whnf)) | (refine ⟨⟨by omega, by omega⟩, ?_⟩; (conv => whnf))))
    refine ⟨_, rfl, ⟨A3, c3, rfl, g1, g2, fun a ha => ?_⟩, hE1.trans hM3.ext⟩
    subst ha
    exact hE1.none (hM3.fresh a.block rfl)
  · rw [show (b.length == 256) = false by simpa using hb, Bool.false_and] at hOk
    rw [hOk]
    have hb' : ((b.length : Int) != 256) = true := by
      rw [bne_iff_ne]
      omega
    clear hOk
    show FnK _ _ _ F (fun v F' => ∃ u, v = .tuple #[.int .i64 0, .int .i64 0, u, .int .i64 4] ∧ NewRow F F' u [] ∧ Ext F F')
    (refine fn_walk tab_ok Tryz.func57 rfl rfl rfl rfl ?_; (conv => whnf))
    refine cond_split (fun h => ?_) (fun h => ?_)
    · exact absurd (by
        have h : (!((b.length : Int) != 256)) = true := h
        simp only [Bool.not_eq_true', bne_eq_false_iff_eq] at h
        omega) hb
    clear h
    ((conv => whnf); repeat (first | (apply load_at; (conv => lhs; whnf); (with_reducible assumption); rfl; (conv => whnf)) | (apply load_at; (conv => lhs; rw [add_plain, add_plain]); (with_reducible assumption); rfl; (conv => whnf)) | (apply loads_at; (conv => lhs; whnf); (with_reducible assumption); rfl; (conv => whnf)) | (refine ⟨⟨by omega, by omega⟩, ?_⟩; (conv => whnf))))
    exact ⟨_, rfl, newRow_nil' _ _, Ext.refl _⟩
theorem rsecRight (p q : Int) (F : Heap) : FnK Tryz.prog 75 #[.int .i64 p, .int .i64 q] F (fun v F' => v = .bool (secR p q) ∧ F' = F) := by
  have e : secR p q = (decide (p ≥ 0) && (decide (p < 4294967296) && (decide (q ≥ 0) && decide (q ≤ 4611686018427387904)))) := by
    unfold secR inM
    rw [show Nat.beq 4 8 = false by decide, cond_false, show ((256 ^ 4 : Nat) : Int) = 4294967296 by decide, Bool.and_assoc]
  rw [e]
  (refine fn_walk tab_ok Tryz.func75 rfl rfl rfl rfl ?_; (conv => whnf))
  refine cond_split (fun h => ?_) (fun h => ?_)
  rotate_left
  · have h : decide (p ≥ 0) = false := h
    rw [h]
    ((conv => whnf); repeat (first | (apply load_at; (conv => lhs; whnf); (with_reducible assumption); rfl; (conv => whnf)) | (apply load_at; (conv => lhs; rw [add_plain, add_plain]); (with_reducible assumption); rfl; (conv => whnf)) | (apply loads_at; (conv => lhs; whnf); (with_reducible assumption); rfl; (conv => whnf)) | (refine ⟨⟨by omega, by omega⟩, ?_⟩; (conv => whnf))))
    exact ⟨rfl, rfl⟩
  have h : decide (p ≥ 0) = true := h
  rw [h, Bool.true_and]
  ((conv => whnf); repeat (first | (apply load_at; (conv => lhs; whnf); (with_reducible assumption); rfl; (conv => whnf)) | (apply load_at; (conv => lhs; rw [add_plain, add_plain]); (with_reducible assumption); rfl; (conv => whnf)) | (apply loads_at; (conv => lhs; whnf); (with_reducible assumption); rfl; (conv => whnf)) | (refine ⟨⟨by omega, by omega⟩, ?_⟩; (conv => whnf))))
  refine cond_split (fun h => ?_) (fun h => ?_)
  rotate_left
  · have h : decide (p < 4294967296) = false := h
    rw [h]
    ((conv => whnf); repeat (first | (apply load_at; (conv => lhs; whnf); (with_reducible assumption); rfl; (conv => whnf)) | (apply load_at; (conv => lhs; rw [add_plain, add_plain]); (with_reducible assumption); rfl; (conv => whnf)) | (apply loads_at; (conv => lhs; whnf); (with_reducible assumption); rfl; (conv => whnf)) | (refine ⟨⟨by omega, by omega⟩, ?_⟩; (conv => whnf))))
    exact ⟨rfl, rfl⟩
  have h : decide (p < 4294967296) = true := h
  rw [h, Bool.true_and]
  ((conv => whnf); repeat (first | (apply load_at; (conv => lhs; whnf); (with_reducible assumption); rfl; (conv => whnf)) | (apply load_at; (conv => lhs; rw [add_plain, add_plain]); (with_reducible assumption); rfl; (conv => whnf)) | (apply loads_at; (conv => lhs; whnf); (with_reducible assumption); rfl; (conv => whnf)) | (refine ⟨⟨by omega, by omega⟩, ?_⟩; (conv => whnf))))
  refine cond_split (fun h => ?_) (fun h => ?_)
  rotate_left
  · have h : decide (q ≥ 0) = false := h
    rw [h]
    ((conv => whnf); repeat (first | (apply load_at; (conv => lhs; whnf); (with_reducible assumption); rfl; (conv => whnf)) | (apply load_at; (conv => lhs; rw [add_plain, add_plain]); (with_reducible assumption); rfl; (conv => whnf)) | (apply loads_at; (conv => lhs; whnf); (with_reducible assumption); rfl; (conv => whnf)) | (refine ⟨⟨by omega, by omega⟩, ?_⟩; (conv => whnf))))
    exact ⟨rfl, rfl⟩
  have h : decide (q ≥ 0) = true := h
  rw [h, Bool.true_and]
  ((conv => whnf); repeat (first | (apply load_at; (conv => lhs; whnf); (with_reducible assumption); rfl; (conv => whnf)) | (apply load_at; (conv => lhs; rw [add_plain, add_plain]); (with_reducible assumption); rfl; (conv => whnf)) | (apply loads_at; (conv => lhs; whnf); (with_reducible assumption); rfl; (conv => whnf)) | (refine ⟨⟨by omega, by omega⟩, ?_⟩; (conv => whnf))))
  exact ⟨rfl, rfl⟩
/-- The sum ahead is that of what stands behind. -/
theorem seal_iff {b : List UInt8} (h : b.length = 256) : (sealB (b.drop 4) == b) = (getN b 0 4 == ((sumB (b.drop 4) : Nat) : Int)) := by
  have hlt := sumB_lt (b.drop 4)
  have hb : b = b.take 4 ++ b.drop 4 := (List.take_append_drop 4 b).symm
  have hg : getN b 0 4 = getV (b.take 4) := by rw [getN_at (by omega), List.drop_zero]
  have h4 : (b.take 4).length = 4 := by rw [List.length_take]; omega
  rw [hg, Bool.eq_iff_iff, beq_iff_eq, beq_iff_eq]
  constructor
  · intro e
    have : b.take 4 = beM 4 ((sumB (b.drop 4) : Nat) : Int) := by
      have e2 := congrArg (List.take 4) e
      unfold sealB at e2
      rw [List.take_left' (beM_len 4 _)] at e2
      exact e2.symm
    rw [this, getV_back (.inr (.inr (.inl rfl))) (inSum _) (by omega) (by omega)]
  · intro e
    unfold sealB
    rw [← e, beM_getV _ (by decide) h4, List.take_append_drop]
theorem rpack (p q : Int) (d : List UInt8) (A : Option Addr) (c : Nat) (F : Heap) (hr : RowAt F A (bytesOf d)) (hl : d.length ≤ 900000) :
    FnK Tryz.prog 63 #[.int .i64 p, .int .i64 q, .slice A d.length c] F (fun v F' => ∃ u, v = .tuple #[u, .int .i64 (packE p q d)] ∧ NewRow F F' u (packB p q d) ∧ Ext F F') := by
  have h0 := rsecRight p q F
  have h1 := fun G h => rputG 4 (.inr (.inr (.inl rfl))) [] none 0 p G h (by decide)
  have e1 : (putM 4 [] p).length ≤ 4 := Nat.le_trans (putM_len 4 [] p) (by decide)
  have h2 := fun A c G h => rputG 8 (.inr (.inr (.inr rfl))) (putM 4 [] p) A c q G h (by omega)
  have e2 : (putM 8 (putM 4 [] p) q).length ≤ 12 := Nat.le_trans (putM_len 8 _ q) (by omega)
  have h3 := fun A c G h hl => rcrcSum (headB p q d) A c G h hl
  have h4 := fun G h => rputG 4 (.inr (.inr (.inl rfl))) [] none 0 (sumB (headB p q d) : Nat) G h (by decide)
  rw [putSum] at h4
  have hlt := sumB_lt (headB p q d)
  have hm := beM_len 4 (sumB (headB p q d) : Nat)
  have hP : packY p q d = (secR p q && (d.length == 240)) := rfl
  have hB : packB p q d = if packY p q d = true then beM 4 (sumB (headB p q d) : Nat) ++ headB p q d else [] := rfl
  have hE : packE p q d = if packY p q d = true then 0 else 1 := rfl
  have hH : headB p q d = putM 8 (putM 4 [] p) q ++ d := rfl
  generalize sumB (headB p q d) = sn at h3 h4 hB hlt hm
  generalize beM 4 (sn : Int) = sb at h4 hB hm
  generalize headB p q d = hb at h3 hH hB
  generalize putM 8 (putM 4 [] p) q = m2 at h2 e2 hH
  generalize putM 4 [] p = m1 at h1 h2 e1
  generalize packB p q d = pb at hB
  generalize packE p q d = pe at hE
  rw [hP] at hB hE
  generalize secR p q = z at h0 hB hE
  subst hH
  (refine fn_walk tab_ok Tryz.func63 rfl rfl rfl rfl ?_; (conv => whnf))
  refine call_of h0 ?_
  rintro v _ ⟨rfl, rfl⟩
  cases z with
  | false =>
    obtain rfl : pb = [] := hB
    obtain rfl : pe = 1 := hE
    ((conv => whnf); repeat (first | (apply load_at; (conv => lhs; whnf); (with_reducible assumption); rfl; (conv => whnf)) | (apply load_at; (conv => lhs; rw [add_plain, add_plain]); (with_reducible assumption); rfl; (conv => whnf)) | (apply loads_at; (conv => lhs; whnf); (with_reducible assumption); rfl; (conv => whnf)) | (refine ⟨⟨by omega, by omega⟩, ?_⟩; (conv => whnf))))
    exact ⟨_, rfl, newRow_nil _, Ext.refl _⟩
  | true =>
    rw [Bool.true_and] at hB hE
    ((conv => whnf); repeat (first | (apply load_at; (conv => lhs; whnf); (with_reducible assumption); rfl; (conv => whnf)) | (apply load_at; (conv => lhs; rw [add_plain, add_plain]); (with_reducible assumption); rfl; (conv => whnf)) | (apply loads_at; (conv => lhs; whnf); (with_reducible assumption); rfl; (conv => whnf)) | (refine ⟨⟨by omega, by omega⟩, ?_⟩; (conv => whnf))))
    refine cond_split (fun h => ?_) (fun h => ?_)
    · have hd : ¬ d.length = 240 := by
        have h : ((d.length : Int) != 240) = true := h
        simp only [bne_iff_ne, ne_eq] at h
        omega
      rw [if_neg (by simpa using hd)] at hB hE
      subst hB hE
      ((conv => whnf); repeat (first | (apply load_at; (conv => lhs; whnf); (with_reducible assumption); rfl; (conv => whnf)) | (apply load_at; (conv => lhs; rw [add_plain, add_plain]); (with_reducible assumption); rfl; (conv => whnf)) | (apply loads_at; (conv => lhs; whnf); (with_reducible assumption); rfl; (conv => whnf)) | (refine ⟨⟨by omega, by omega⟩, ?_⟩; (conv => whnf))))
      exact ⟨_, rfl, newRow_nil _, Ext.refl _⟩
    · have hd : d.length = 240 := by
        have h : ((d.length : Int) != 240) = false := h
        simp only [bne_eq_false_iff_eq] at h
        omega
      rw [if_pos (by simpa using hd)] at hB hE
      subst hB hE
      ((conv => whnf); repeat (first | (apply load_at; (conv => lhs; whnf); (with_reducible assumption); rfl; (conv => whnf)) | (apply load_at; (conv => lhs; rw [add_plain, add_plain]); (with_reducible assumption); rfl; (conv => whnf)) | (apply loads_at; (conv => lhs; whnf); (with_reducible assumption); rfl; (conv => whnf)) | (refine ⟨⟨by omega, by omega⟩, ?_⟩; (conv => whnf))))
      refine call_of (h1 _ (RowAt.nil _ _)) ?_
      rintro v F1 hM1
      obtain ⟨A1, c1, rfl, _, hr1⟩ := hM1.own.row
      ((conv => whnf); repeat (first | (apply load_at; (conv => lhs; whnf); (with_reducible assumption); rfl; (conv => whnf)) | (apply load_at; (conv => lhs; rw [add_plain, add_plain]); (with_reducible assumption); rfl; (conv => whnf)) | (apply loads_at; (conv => lhs; whnf); (with_reducible assumption); rfl; (conv => whnf)) | (refine ⟨⟨by omega, by omega⟩, ?_⟩; (conv => whnf))))
      refine call_of (h2 _ _ F1 hr1) ?_
      rintro v F2 hM2
      have hE2 := hM1.ext.trans hM2.ext
      ((conv => whnf); repeat (first | (apply load_at; (conv => lhs; whnf); (with_reducible assumption); rfl; (conv => whnf)) | (apply load_at; (conv => lhs; rw [add_plain, add_plain]); (with_reducible assumption); rfl; (conv => whnf)) | (apply loads_at; (conv => lhs; whnf); (with_reducible assumption); rfl; (conv => whnf)) | (refine ⟨⟨by omega, by omega⟩, ?_⟩; (conv => whnf))))
      refine append_mine tab_ok rfl rfl rfl rfl rfl ⟨_, rfl, fun k h => by cases h⟩ ⟨_, rfl, rfl⟩ (by decide) hM2 (m := d.length) (ys := bytesOf d) (y := .slice A d.length c) ⟨by rw [bytes_len]; exact (Nat.mul_one _).symm, .inl ⟨_, _, rfl, hr.mono hE2⟩⟩ (hone_bytes _) (by show 2 * (m2.length + d.length) * 1 ≤ _; omega) fun S3 F3 hM3 hk3 => ?_
      rw [← bytes_app, ← List.length_append] at hM3
      have hE3 := hM1.ext.trans hM3.ext
      obtain ⟨A3, c3, rfl, _, hr3⟩ := hM3.own.row
      have hl3 : (m2 ++ d).length ≤ 1000 := by rw [List.length_append]; omega
      generalize m2 ++ d = hb at h3 hM3 hr3 hl3 ⊢
      ((conv => whnf); repeat (first | (apply load_at; (conv => lhs; whnf); (with_reducible assumption); rfl; (conv => whnf)) | (apply load_at; (conv => lhs; rw [add_plain, add_plain]); (with_reducible assumption); rfl; (conv => whnf)) | (apply loads_at; (conv => lhs; whnf); (with_reducible assumption); rfl; (conv => whnf)) | (refine ⟨⟨by omega, by omega⟩, ?_⟩; (conv => whnf))))
      refine call_of (h3 A3 c3 F3 hr3 (by omega)) ?_
      rintro v _ ⟨rfl, rfl⟩
      ((conv => whnf); repeat (first | (apply load_at; (conv => lhs; whnf); (with_reducible assumption); rfl; (conv => whnf)) | (apply load_at; (conv => lhs; rw [add_plain, add_plain]); (with_reducible assumption); rfl; (conv => whnf)) | (apply loads_at; (conv => lhs; whnf); (with_reducible assumption); rfl; (conv => whnf)) | (refine ⟨⟨by omega, by omega⟩, ?_⟩; (conv => whnf))))
      rw [wrap_eq (show -9223372036854775808 ≤ ((sn : Nat) : Int) by omega) (by omega)]
      refine call_of (h4 _ (RowAt.nil _ _)) ?_
      rintro v F4 hM4
      ((conv => whnf); repeat (first | (apply load_at; (conv => lhs; whnf); (with_reducible assumption); rfl; (conv => whnf)) | (apply load_at; (conv => lhs; rw [add_plain, add_plain]); (with_reducible assumption); rfl; (conv => whnf)) | (apply loads_at; (conv => lhs; whnf); (with_reducible assumption); rfl; (conv => whnf)) | (refine ⟨⟨by omega, by omega⟩, ?_⟩; (conv => whnf))))
      refine append_mine tab_ok rfl rfl rfl rfl rfl ⟨_, rfl, fun k h => by cases h⟩ ⟨_, rfl, rfl⟩ (by decide) hM4 (m := hb.length) (ys := bytesOf hb) (y := .slice A3 hb.length c3) ⟨by rw [bytes_len]; exact (Nat.mul_one _).symm, .inl ⟨_, _, rfl, hr3.mono hM4.ext⟩⟩ (hone_bytes _) (by show 2 * (sb.length + hb.length) * 1 ≤ _; omega) fun S5 F5 hM5 hk5 => ?_
      rw [← bytes_app, ← List.length_append] at hM5
      obtain ⟨A5, c5, rfl, g1, g2⟩ := hM5.own.row
      ((conv => whnf); repeat (first | (apply load_at; (conv => lhs; whnf); (with_reducible assumption); rfl; (conv => whnf)) | (apply load_at; (conv => lhs; rw [add_plain, add_plain]); (with_reducible assumption); rfl; (conv => whnf)) | (apply loads_at; (conv => lhs; whnf); (with_reducible assumption); rfl; (conv => whnf)) | (refine ⟨⟨by omega, by omega⟩, ?_⟩; (conv => whnf))))
      refine ⟨_, rfl, ⟨A5, c5, rfl, g1, g2, fun a ha => ?_⟩, hE3.trans hM5.ext⟩
      subst ha
      exact hE3.none (hM5.fresh a.block rfl)
theorem runpack (b : List UInt8) (A : Option Addr) (c : Nat) (F : Heap) (hr : RowAt F A (bytesOf b)) (hl : b.length ≤ 900000) (hc : b.length ≤ c) :
    FnK Tryz.prog 46 #[.slice A b.length c] F (fun v F' => ∃ u, v = .tuple #[.int .i64 (unP b), .int .i64 (unQ b), u, .int .i64 (unE b)] ∧ NewRow F F' u (unD b) ∧ Ext F F') := by
  have hOk : okU b = ((b.length == 256) && ((sealB (b.drop 4) == b) && secR (getN b 4 4) (getN b 8 8))) := rfl
  unfold unP unQ unD unE
  by_cases hb : b.length = 256
  · have hdl : (b.drop 4).length = 252 := by rw [List.length_drop, hb]
    have hdl2 : (b.drop 16).length = 240 := by rw [List.length_drop, hb]
    have k1 : b.length - 4 = (b.drop 4).length := by rw [List.length_drop]
    have k2 : b.length - 16 = (b.drop 16).length := by rw [List.length_drop]
    have h1 := fun A c F h => rcrcSum (b.drop 4) A c F h (by omega)
    have hlt := sumB_lt (b.drop 4)
    have h2 := fun F h => rgetG 4 (.inr (.inr (.inl rfl))) b A c 0 F h (by omega) hc (by decide)
    have h3 := fun F h => rgetG 4 (.inr (.inr (.inl rfl))) b A c 4 F h (by omega) hc (by decide)
    have h4 := fun F h => rgetG 8 (.inr (.inr (.inr rfl))) b A c 8 F h (by omega) hc (by decide)
    have h5 := fun F => rsecRight (getN b 4 4) (getN b 8 8) F
    have r1 : ∀ F, RowAt F A (bytesOf b) → RowAt F (if c = 4 then A else A.map (·.add (4 * 1))) (bytesOf (b.drop 4)) := fun F h => by
      have := row_cut3 4 252 c 4 h rfl (by omega) (by omega)
      rwa [List.take_of_length_le (by omega)] at this
    have r2 : ∀ F, RowAt F A (bytesOf b) → RowAt F (if c = 16 then A else A.map (·.add (16 * 1))) (bytesOf (b.drop 16)) := fun F h => by
      have := row_cut3 16 240 c 16 h rfl (by omega) (by omega)
      rwa [List.take_of_length_le (by omega)] at this
    rw [seal_iff hb] at hOk
    generalize getN b 0 4 = s0 at h2 hOk
    generalize getN b 4 4 = p at h3 h5 hOk ⊢
    generalize getN b 8 8 = q at h4 h5 hOk ⊢
    generalize getE b 0 4 = e2 at h2
    generalize getE b 4 4 = e3 at h3
    generalize getE b 8 8 = e4 at h4
    generalize secR p q = z at h5 hOk
    generalize sumB (b.drop 4) = sn at h1 hOk hlt
    generalize b.drop 4 = b4 at h1 r1 k1 hdl
    generalize b.drop 16 = b16 at r2 k2 hdl2 ⊢
    rw [show (b.length == 256) = true by simpa using hb, Bool.true_and] at hOk
    rw [hOk]
    clear hOk
    (refine fn_walk tab_ok Tryz.func46 rfl rfl rfl rfl ?_; (conv => whnf))
    refine cond_split (fun h => ?_) (fun h => ?_)
    · exact absurd hb (by
        have h : ((b.length : Int) != 256) = true := h
        simp only [bne_iff_ne, ne_eq] at h
        omega)
    clear h
    ((conv => whnf); repeat (first | (apply load_at; (conv => lhs; whnf); (with_reducible assumption); rfl; (conv => whnf)) | (apply load_at; (conv => lhs; rw [add_plain, add_plain]); (with_reducible assumption); rfl; (conv => whnf)) | (apply loads_at; (conv => lhs; whnf); (with_reducible assumption); rfl; (conv => whnf)) | (refine ⟨⟨by omega, by omega⟩, ?_⟩; (conv => whnf))))
    refine call_of (h2 _ hr) ?_
    rintro v _ ⟨rfl, rfl⟩
    ((conv => whnf); repeat (first | (apply load_at; (conv => lhs; whnf); (with_reducible assumption); rfl; (conv => whnf)) | (apply load_at; (conv => lhs; rw [add_plain, add_plain]); (with_reducible assumption); rfl; (conv => whnf)) | (apply loads_at; (conv => lhs; whnf); (with_reducible assumption); rfl; (conv => whnf)) | (refine ⟨⟨by omega, by omega⟩, ?_⟩; (conv => whnf))))
    refine call_of (h3 _ hr) ?_
    rintro v _ ⟨rfl, rfl⟩
    ((conv => whnf); repeat (first | (apply load_at; (conv => lhs; whnf); (with_reducible assumption); rfl; (conv => whnf)) | (apply load_at; (conv => lhs; rw [add_plain, add_plain]); (with_reducible assumption); rfl; (conv => whnf)) | (apply loads_at; (conv => lhs; whnf); (with_reducible assumption); rfl; (conv => whnf)) | (refine ⟨⟨by omega, by omega⟩, ?_⟩; (conv => whnf))))
    refine call_of (h4 _ hr) ?_
    rintro v _ ⟨rfl, rfl⟩
    refine short [0, 6, 8, 27] [.slice A b.length c, .int .i64 s0, .int .i64 p, .tuple #[.int .i64 q, .int .i64 e4]] rfl fun ρ => ?_
    ((conv => whnf); repeat (first | (apply load_at; (conv => lhs; whnf); (with_reducible assumption); rfl; (conv => whnf)) | (apply load_at; (conv => lhs; rw [add_plain, add_plain]); (with_reducible assumption); rfl; (conv => whnf)) | (apply loads_at; (conv => lhs; whnf); (with_reducible assumption); rfl; (conv => whnf)) | (refine ⟨⟨by omega, by omega⟩, ?_⟩; (conv => whnf))))
    refine call_args (xs' := #[.slice (if c = 4 then A else A.map (·.add (4 * 1))) b4.length (c - 4)]) ?hq2 (call_of (h1 _ _ _ (r1 _ hr)) ?_)
    case hq2 => exact congrArg (fun x => #[x]) (slice_eq rfl k1 rfl)
    rintro v _ ⟨rfl, rfl⟩
    ((conv => whnf); repeat (first | (apply load_at; (conv => lhs; whnf); (with_reducible assumption); rfl; (conv => whnf)) | (apply load_at; (conv => lhs; rw [add_plain, add_plain]); (with_reducible assumption); rfl; (conv => whnf)) | (apply loads_at; (conv => lhs; whnf); (with_reducible assumption); rfl; (conv => whnf)) | (refine ⟨⟨by omega, by omega⟩, ?_⟩; (conv => whnf))))
    rw [wrap_eq (show -9223372036854775808 ≤ ((sn : Nat) : Int) by omega) (by omega)]
    refine cond_split (fun h => ?_) (fun h => ?_)
    rotate_left
    · have hy : (s0 == (sn : Int)) = false := by
        have h : (!(s0 != (sn : Int))) = false := h
        simpa using h
      rw [hy]
      ((conv => whnf); repeat (first | (apply load_at; (conv => lhs; whnf); (with_reducible assumption); rfl; (conv => whnf)) | (apply load_at; (conv => lhs; rw [add_plain, add_plain]); (with_reducible assumption); rfl; (conv => whnf)) | (apply loads_at; (conv => lhs; whnf); (with_reducible assumption); rfl; (conv => whnf)) | (refine ⟨⟨by omega, by omega⟩, ?_⟩; (conv => whnf))))
      exact ⟨_, rfl, newRow_nil' _ _, Ext.refl _⟩
    have hy : (s0 == (sn : Int)) = true := by
      have h : (!(s0 != (sn : Int))) = true := h
      simpa using h
    rw [hy, Bool.true_and]
    clear h
    ((conv => whnf); repeat (first | (apply load_at; (conv => lhs; whnf); (with_reducible assumption); rfl; (conv => whnf)) | (apply load_at; (conv => lhs; rw [add_plain, add_plain]); (with_reducible assumption); rfl; (conv => whnf)) | (apply loads_at; (conv => lhs; whnf); (with_reducible assumption); rfl; (conv => whnf)) | (refine ⟨⟨by omega, by omega⟩, ?_⟩; (conv => whnf))))
    refine call_of (h5 _) ?_
    rintro v _ ⟨rfl, rfl⟩
    have hne : (s0 != (sn : Int)) = false := by rw [bne, hy]; decide
    refine short [0, 8, 10, 36, 39] [.slice A b.length c, .int .i64 p, .int .i64 q, .bool false, .bool z] (by rw [← hne]; rfl) fun ρ => ?_
    cases z with
    | false =>
      ((conv => whnf); repeat (first | (apply load_at; (conv => lhs; whnf); (with_reducible assumption); rfl; (conv => whnf)) | (apply load_at; (conv => lhs; rw [add_plain, add_plain]); (with_reducible assumption); rfl; (conv => whnf)) | (apply loads_at; (conv => lhs; whnf); (with_reducible assumption); rfl; (conv => whnf)) | (refine ⟨⟨by omega, by omega⟩, ?_⟩; (conv => whnf))))
      exact ⟨_, rfl, newRow_nil' _ _, Ext.refl _⟩
    | true =>
    ((conv => whnf); repeat (first | (apply load_at; (conv => lhs; whnf); (with_reducible assumption); rfl; (conv => whnf)) | (apply load_at; (conv => lhs; rw [add_plain, add_plain]); (with_reducible assumption); rfl; (conv => whnf)) | (apply loads_at; (conv => lhs; whnf); (with_reducible assumption); rfl; (conv => whnf)) | (refine ⟨⟨by omega, by omega⟩, ?_⟩; (conv => whnf))))
    refine append_mine tab_ok rfl rfl ?hq rfl rfl ⟨_, rfl, fun k h => by cases h⟩ ⟨_, rfl, rfl⟩ (by decide) (Mine.nil _ _ _ _ (Ext.refl _)) (m := b16.length) (ys := bytesOf b16) (y := .slice (if c = 16 then A else A.map (·.add (16 * 1))) b16.length (c - 16)) ⟨by rw [bytes_len]; exact (Nat.mul_one _).symm, .inl ⟨_, _, rfl, r2 _ hr⟩⟩ (hone_bytes _) (by show 2 * (0 + b16.length) * 1 ≤ _; omega) fun S2 F2 hM2 hk2 => ?_
    case hq =>
      conv => lhs; whnf
      exact slice_eq rfl k2 rfl
    rw [List.nil_append, Nat.zero_add] at hM2
    obtain ⟨A3, c3, rfl, g1, g2⟩ := hM2.own.row
    ((conv => whnf); repeat (first | (apply load_at; (conv => lhs; whnf); (with_reducible assumption); rfl; (conv => whnf)) | (apply load_at; (conv => lhs; rw [add_plain, add_plain]); (with_reducible assumption); rfl; (conv => whnf)) | (apply loads_at; (conv => lhs; whnf); (with_reducible assumption); rfl; (conv => whnf)) | (refine ⟨⟨by omega, by omega⟩, ?_⟩; (conv => whnf))))
    exact ⟨_, rfl, ⟨A3, c3, rfl, g1, g2, fun a ha => by subst ha; exact hM2.fresh a.block rfl⟩, hM2.ext⟩
  · rw [show (b.length == 256) = false by simpa using hb, Bool.false_and] at hOk
    rw [hOk]
    clear hOk
    show FnK _ _ _ F (fun v F' => ∃ u, v = .tuple #[.int .i64 0, .int .i64 0, u, .int .i64 4] ∧ NewRow F F' u [] ∧ Ext F F')
    (refine fn_walk tab_ok Tryz.func46 rfl rfl rfl rfl ?_; (conv => whnf))
    refine cond_split (fun h => ?_) (fun h => ?_)
    rotate_left
    · exact absurd (by
        have h : ((b.length : Int) != 256) = false := h
        simp only [bne_eq_false_iff_eq] at h
        omega) hb
    clear h
    ((conv => whnf); repeat (first | (apply load_at; (conv => lhs; whnf); (with_reducible assumption); rfl; (conv => whnf)) | (apply load_at; (conv => lhs; rw [add_plain, add_plain]); (with_reducible assumption); rfl; (conv => whnf)) | (apply loads_at; (conv => lhs; whnf); (with_reducible assumption); rfl; (conv => whnf)) | (refine ⟨⟨by omega, by omega⟩, ?_⟩; (conv => whnf))))
    exact ⟨_, rfl, newRow_nil' _ _, Ext.refl _⟩
end Go.Proofs.YtmpiggcooboenaaGreatDoor.Al
