/- Disks: disk.New, Write and Read, over what is known of memory. -/
import Derived.Test.YtlkdbmoocajjlaaDskB
namespace Go.Proofs.Ytlkdbmoocajjlaa.Al
open Go Go.Al Go.Proofs Go.RowKit
set_option maxHeartbeats 8000000
set_option maxRecDepth 100000
set_option linter.unusedVariables false
set_option linter.unusedSimpArgs false
def emptyH : Heap := fun _ => none
theorem emptyH_ext (F : Heap) : Ext emptyH F := fun c o h => by cases h
def newS (n : Int) : DS := ⟨false, 0, false, n, fun _ => none, fun _ => none, [], 0⟩
theorem newS_wf {n : Int} (h : 3 ≤ n) (h2 : n ≤ 65536) : DWf (newS n) where
  sz := ⟨h, h2⟩
  lf := ⟨(by decide : (0 : Int) ≤ 0), (by decide : (0 : Int) ≤ 9223372036854775807)⟩
  wr := ⟨(by decide : (0 : Int) ≤ 0), (by decide : (0 : Int) ≤ 1000000000)⟩
  ord := (by decide : ((0 : Nat) : Int) ≤ 0)
  fr := fun i => ⟨fun h => (List.not_mem_nil h).elim, fun h => (h rfl).elim⟩
  inr := fun i hi => (List.not_mem_nil hi).elim
  nod := List.nodup_nil
theorem new (n : Int) (F : Heap) : FnK Try.prog 7 #[.int .i64 n] F (fun v F' => ((n < 3 ∨ n > 65536) ∧ v = .tuple #[.pointer none, .int .i64 1] ∧ F' = F) ∨
    (3 ≤ n ∧ n ≤ 65536 ∧ ∃ b D', v = .tuple #[.pointer (some ⟨b, 0, none⟩), .int .i64 0] ∧ Moves emptyH F D' F' ∧ Dk D' b (newS n))) := by
  (refine fn_walk tab_ok Try.func7 rfl rfl rfl rfl ?_; (conv => whnf))
  refine cond_split (fun h => ?_) (fun h => ?_)
  · have h : (!decide (n < 3)) = true := h
    have h3 : ¬ n < 3 := by simpa using h
    (conv => whnf)
    refine cond_split (fun h => ?_) (fun h => ?_)
    · have h : decide (n > 65536) = true := h
      (conv => whnf)
      exact .inl ⟨.inr (of_decide_eq_true h), rfl, rfl⟩
    · have h : decide (n > 65536) = false := h
      have h4 := of_decide_eq_false h
      (conv => whnf)
      refine op_makeMap rfl fun m1 h1 => ?_
      have M1 := Moves.put (emptyH_ext F) (.inr h1) (.map #[] 0)
      have A1 := Heap.put_same F m1 (.map #[] 0)
      have B1 : Heap.put emptyH m1 (.map #[] 0) = Heap.put emptyH m1 (.map #[] 0) := rfl
      generalize F.put m1 _ = F1 at M1 A1 ⊢
      (conv => whnf)
      refine op_makeMap rfl fun m2 h2 => ?_
      have M2 := M1.trans (Moves.put M1.inn (.inr h2) (.map #[] 0))
      have A2 : F1.put m2 (.map #[] 0) m1 = some (.map #[] 0) := by rw [Heap.put_other _ _ (fun e => by rw [e, h2] at A1; cases A1)]; exact A1
      have A3 := Heap.put_same F1 m2 (.map #[] 0)
      generalize F1.put m2 _ = F2 at M2 A2 A3 ⊢
      (conv => whnf)
      refine new_step (dkO false 0 false n (.map (some m1)) (.map (some m2)) (.slice none 0 0) 0) rfl fun b hb => ?_
      have M3 := M2.trans (Moves.put M2.inn (.inr hb) (dkO false 0 false n (.map (some m1)) (.map (some m2)) (.slice none 0 0) 0))
      have n1 : m1 ≠ m2 := fun e => by rw [e, h2] at A1; cases A1
      have n2 : m1 ≠ b := fun e => by rw [e, hb] at A2; cases A2
      have n3 : m2 ≠ b := fun e => by rw [e, hb] at A3; cases A3
      (conv => whnf)
      refine .inr ⟨by omega, by omega, b, _, rfl, M3, newS_wf (by omega) (by omega), m1, m2, .slice none 0 0, [], [], emptyH, ?_⟩
      exact ⟨Heap.put_same _ _ _, ⟨_, by rw [Heap.put_other _ _ n2, Heap.put_other _ _ n1, Heap.put_same], #[], 0, rfl, rfl⟩, ⟨_, by rw [Heap.put_other _ _ n3, Heap.put_same], #[], 0, rfl, rfl⟩, ⟨rfl, .inl ⟨rfl, rfl⟩⟩, emptyH_ext _, rfl, rfl, rfl, fun k hk => rfl, n1, (by intro e; cases e), MapR.nil _, MapR.nil _⟩
  · have h : (!decide (n < 3)) = false := h
    have h3 : n < 3 := by simpa using h
    (conv => whnf)
    exact .inl ⟨.inl h3, rfl, rfl⟩
def writeE (s : DS) (i : Int) (l : List UInt8) : Int := if s.down = true then 5 else if ¬ (0 ≤ i ∧ i < s.size) ∨ l.length ≠ 256 then 1 else if burnOk s.armed s.left = true then 0 else 5
def writeS (s : DS) (i : Int) (l : List UInt8) : DS :=
  if s.down = true ∨ ¬ (0 ≤ i ∧ i < s.size) ∨ l.length ≠ 256 then s else if burnOk s.armed s.left = true then
    { s with left := if s.armed = true then s.left - 1 else s.left, fresh := updF s.fresh i (some l), order := if s.fresh i = none then s.order ++ [i] else s.order, writes := s.writes + 1 }
  else { s with down := true }
theorem write_wf {s : DS} (h : DWf s) {i : Int} (hi : 0 ≤ i ∧ i < s.size) (hw : s.writes < 1000000000) (l : List UInt8) {lf : Int} (hlf : 0 ≤ lf ∧ lf ≤ 9223372036854775807) {o : List Int} (ho : o = if s.fresh i = none then s.order ++ [i] else s.order) :
    DWf { s with left := lf, fresh := updF s.fresh i (some l), order := o, writes := s.writes + 1 } := by
  have h1 := h.wr
  have h2 := h.ord
  have hmem : ∀ k, k ∈ o ↔ updF s.fresh i (some l) k ≠ none := fun k => by
    subst ho
    unfold updF
    by_cases e : s.fresh i = none
    · rw [if_pos e, List.mem_append, List.mem_singleton, h.fr]
      by_cases e2 : k = i
      · rw [if_pos e2]; exact ⟨fun _ h => (by cases h), fun _ => .inr e2⟩
      · rw [if_neg e2]; exact ⟨fun h => h.resolve_right e2, .inl⟩
    · rw [if_neg e, h.fr]
      by_cases e2 : k = i
      · rw [if_pos e2, e2]; exact ⟨fun _ h => (by cases h), fun _ => e⟩
      · rw [if_neg e2]
  refine ⟨h.sz, hlf, ⟨(by omega : 0 ≤ s.writes + 1), (by omega : s.writes + 1 ≤ 1000000000)⟩, (?_ : (o.length : Int) ≤ s.writes + 1), hmem, fun k hk => (?_ : 0 ≤ k ∧ k < s.size), (?_ : o.Nodup)⟩
  · subst ho
    split
    · rw [List.length_append]; simp only [List.length_singleton]; omega
    · omega
  · subst ho
    by_cases e : s.fresh i = none
    · rw [if_pos e] at hk
      rcases List.mem_append.1 hk with hk | hk
      · exact h.inr k hk
      · rw [List.mem_singleton] at hk; rw [hk]; exact hi
    · rw [if_neg e] at hk; exact h.inr k hk
  · subst ho
    by_cases e : s.fresh i = none
    · rw [if_pos e, List.nodup_append]
      refine ⟨h.nod, List.nodup_cons.2 ⟨List.not_mem_nil, List.nodup_nil⟩, fun x hx y hy => ?_⟩
      rw [List.mem_singleton] at hy
      subst hy
      intro e2
      subst e2
      exact (h.fr x).1 hx e
    · rw [if_neg e]; exact h.nod
theorem write {D F R : Heap} {b : Nat} {s : DS} (hE : Ext D F) (hD : Dk D b s) (hR : Ext R F) (hA : Apart D R) (l : List UInt8) (A : Option Addr) (c : Nat) (hr : RowAt R A (bytesOf l)) (hl : l.length ≤ 900000) (i : Int) (hw : s.writes < 1000000000) :
    FnK Try.prog 28 #[.pointer (some ⟨b, 0, none⟩), .int .i64 i, .slice A l.length c] F (fun v F' => v = .int .i64 (writeE s i l) ∧ ∃ D', Moves D F D' F' ∧ Dk D' b (writeS s i l)) := by
  obtain ⟨hwf, ms, mf, S, lS, lF, G, hP⟩ := hD
  have hsz := hwf.sz
  have hcell := hE _ _ hP.cell
  have hm := may hcell
  have ht := there hcell i
  have hwe : writeE s i l = if s.down = true then 5 else if ¬ (0 ≤ i ∧ i < s.size) ∨ l.length ≠ 256 then 1 else if burnOk s.armed s.left = true then 0 else 5 := rfl
  have hws : writeS s i l = if s.down = true ∨ ¬ (0 ≤ i ∧ i < s.size) ∨ l.length ≠ 256 then s else if burnOk s.armed s.left = true then
    { s with left := if s.armed = true then s.left - 1 else s.left, fresh := updF s.fresh i (some l), order := if s.fresh i = none then s.order ++ [i] else s.order, writes := s.writes + 1 }
  else { s with down := true } := rfl
  rw [show mayE s.down s.size = if s.down = true then 5 else 0 from if_pos (by omega)] at hm
  generalize writeE s i l = we at hwe ⊢
  generalize writeS s i l = ws at hws ⊢
  (refine fn_walk tab_ok Try.func28 rfl rfl rfl rfl ?_; (conv => whnf))
  refine call_of hm ?_
  rintro v F2 ⟨rfl, rfl⟩
  ((conv => whnf); repeat (first | (apply load_at; (conv => lhs; whnf); (with_reducible assumption); rfl; (conv => whnf)) | (apply load_at; (conv => lhs; rw [add_plain, add_plain]); (with_reducible assumption); rfl; (conv => whnf)) | (apply loads_at; (conv => lhs; whnf); (with_reducible assumption); rfl; (conv => whnf)) | (refine ⟨⟨by omega, by omega⟩, ?_⟩; (conv => whnf))))
  refine cond_split (fun h => ?_) (fun h => ?_)
  · have h : ((if s.down = true then (5 : Int) else 0) != 0) = true := h
    have hd : s.down = true := by
      cases e : s.down with
      | true => rfl
      | false => rw [e] at h; exact absurd h (by decide)
    rw [if_pos hd] at hwe
    rw [if_pos (.inl hd)] at hws
    ((conv => whnf); repeat (first | (apply load_at; (conv => lhs; whnf); (with_reducible assumption); rfl; (conv => whnf)) | (apply load_at; (conv => lhs; rw [add_plain, add_plain]); (with_reducible assumption); rfl; (conv => whnf)) | (apply loads_at; (conv => lhs; whnf); (with_reducible assumption); rfl; (conv => whnf)) | (refine ⟨⟨by omega, by omega⟩, ?_⟩; (conv => whnf))))
    refine ⟨?_, D, Moves.refl hE, by rw [hws]; exact ⟨hwf, ms, mf, S, lS, lF, G, hP⟩⟩
    rw [hwe]
    show Value.int .i64 (if s.down = true then 5 else 0) = _
    rw [if_pos hd]
  have h : ((if s.down = true then (5 : Int) else 0) != 0) = false := h
  have hd : s.down = false := by
    cases e : s.down with
    | true => rw [e] at h; exact absurd h (by decide)
    | false => rfl
  rw [if_neg (by rw [hd]; decide)] at hwe
  have hdn : ¬ s.down = true := by rw [hd]; decide
  ((conv => whnf); repeat (first | (apply load_at; (conv => lhs; whnf); (with_reducible assumption); rfl; (conv => whnf)) | (apply load_at; (conv => lhs; rw [add_plain, add_plain]); (with_reducible assumption); rfl; (conv => whnf)) | (apply loads_at; (conv => lhs; whnf); (with_reducible assumption); rfl; (conv => whnf)) | (refine ⟨⟨by omega, by omega⟩, ?_⟩; (conv => whnf))))
  refine call_of ht ?_
  rintro v F2 ⟨rfl, rfl⟩
  ((conv => whnf); repeat (first | (apply load_at; (conv => lhs; whnf); (with_reducible assumption); rfl; (conv => whnf)) | (apply load_at; (conv => lhs; rw [add_plain, add_plain]); (with_reducible assumption); rfl; (conv => whnf)) | (apply loads_at; (conv => lhs; whnf); (with_reducible assumption); rfl; (conv => whnf)) | (refine ⟨⟨by omega, by omega⟩, ?_⟩; (conv => whnf))))
  refine cond_split (fun h => ?_) (fun h => ?_)
  case refine_2 =>
    have h : (!!decide (0 ≤ i ∧ i < s.size)) = false := h
    have hi : ¬ (0 ≤ i ∧ i < s.size) := by simpa only [Bool.not_not, decide_eq_false_iff_not] using h
    rw [if_pos (.inl hi)] at hwe
    rw [if_pos (.inr (.inl hi))] at hws
    ((conv => whnf); repeat (first | (apply load_at; (conv => lhs; whnf); (with_reducible assumption); rfl; (conv => whnf)) | (apply load_at; (conv => lhs; rw [add_plain, add_plain]); (with_reducible assumption); rfl; (conv => whnf)) | (apply loads_at; (conv => lhs; whnf); (with_reducible assumption); rfl; (conv => whnf)) | (refine ⟨⟨by omega, by omega⟩, ?_⟩; (conv => whnf))))
    refine ⟨by rw [hwe]; rfl, D, Moves.refl hE, by rw [hws]; exact ⟨hwf, ms, mf, S, lS, lF, G, hP⟩⟩
  have h : (!!decide (0 ≤ i ∧ i < s.size)) = true := h
  have hi : 0 ≤ i ∧ i < s.size := by simpa only [Bool.not_not, decide_eq_true_eq] using h
  ((conv => whnf); repeat (first | (apply load_at; (conv => lhs; whnf); (with_reducible assumption); rfl; (conv => whnf)) | (apply load_at; (conv => lhs; rw [add_plain, add_plain]); (with_reducible assumption); rfl; (conv => whnf)) | (apply loads_at; (conv => lhs; whnf); (with_reducible assumption); rfl; (conv => whnf)) | (refine ⟨⟨by omega, by omega⟩, ?_⟩; (conv => whnf))))
  refine cond_split (fun h => ?_) (fun h => ?_)
  · have h : ((l.length : Int) != 256) = true := h
    have hne : l.length ≠ 256 := fun e => by rw [e] at h; exact absurd h (by decide)
    rw [if_pos (.inr hne)] at hwe
    rw [if_pos (.inr (.inr hne))] at hws
    ((conv => whnf); repeat (first | (apply load_at; (conv => lhs; whnf); (with_reducible assumption); rfl; (conv => whnf)) | (apply load_at; (conv => lhs; rw [add_plain, add_plain]); (with_reducible assumption); rfl; (conv => whnf)) | (apply loads_at; (conv => lhs; whnf); (with_reducible assumption); rfl; (conv => whnf)) | (refine ⟨⟨by omega, by omega⟩, ?_⟩; (conv => whnf))))
    refine ⟨by rw [hwe]; rfl, D, Moves.refl hE, by rw [hws]; exact ⟨hwf, ms, mf, S, lS, lF, G, hP⟩⟩
  have h : ((l.length : Int) != 256) = false := h
  have hl256 : l.length = 256 := by have := bne_eq_false_iff_eq.1 h; omega
  rw [if_neg (by rintro (h1 | h1); exact h1 hi; exact h1 hl256)] at hwe
  rw [if_neg (by rintro (h1 | h1 | h1); exact hdn h1; exact h1 hi; exact h1 hl256)] at hws
  have hbn := burn hcell hwf.lf.1 hwf.lf.2
  ((conv => whnf); repeat (first | (apply load_at; (conv => lhs; whnf); (with_reducible assumption); rfl; (conv => whnf)) | (apply load_at; (conv => lhs; rw [add_plain, add_plain]); (with_reducible assumption); rfl; (conv => whnf)) | (apply loads_at; (conv => lhs; whnf); (with_reducible assumption); rfl; (conv => whnf)) | (refine ⟨⟨by omega, by omega⟩, ?_⟩; (conv => whnf))))
  refine call_of hbn ?_
  rintro v F3 ⟨rfl, hF3⟩
  generalize hbo : burnOk s.armed s.left = bo at hF3 hwe hws ⊢
  ((conv => whnf); repeat (first | (apply load_at; (conv => lhs; whnf); (with_reducible assumption); rfl; (conv => whnf)) | (apply load_at; (conv => lhs; rw [add_plain, add_plain]); (with_reducible assumption); rfl; (conv => whnf)) | (apply loads_at; (conv => lhs; whnf); (with_reducible assumption); rfl; (conv => whnf)) | (refine ⟨⟨by omega, by omega⟩, ?_⟩; (conv => whnf))))
  refine cond_split (fun h => ?_) (fun h => ?_)
  · have h : (!bo) = true := h
    have hb0 : bo = false := by simpa using h
    subst hb0
    rw [if_neg (by decide)] at hwe hws
    rcases hF3 with ⟨h1, _⟩ | ⟨_, rfl⟩
    · cases h1
    ((conv => whnf); repeat (first | (apply load_at; (conv => lhs; whnf); (with_reducible assumption); rfl; (conv => whnf)) | (apply load_at; (conv => lhs; rw [add_plain, add_plain]); (with_reducible assumption); rfl; (conv => whnf)) | (apply loads_at; (conv => lhs; whnf); (with_reducible assumption); rfl; (conv => whnf)) | (refine ⟨⟨by omega, by omega⟩, ?_⟩; (conv => whnf))))
    refine ⟨by rw [hwe]; rfl, _, Moves.put hE (.inl (by rw [hP.cell]; simp)) _, ?_⟩
    rw [hws]
    exact ⟨⟨hwf.sz, hwf.lf, hwf.wr, hwf.ord, hwf.fr, hwf.inr, hwf.nod⟩, ms, mf, S, lS, lF, G, hP.nums s.armed s.left true s.writes⟩
  have h : (!bo) = false := h
  have hb0 : bo = true := by simpa using h
  subst hb0
  rw [if_pos rfl] at hwe hws
  rcases hF3 with ⟨_, hF3⟩ | ⟨h1, _⟩
  case inr => cases h1
  have M3 := Moves.put hE (.inl (by rw [hP.cell]; simp)) (dkO s.armed (if s.armed = true then s.left - 1 else s.left) s.down s.size (.map (some ms)) (.map (some mf)) S s.writes)
  have P3 := hP.nums s.armed (if s.armed = true then s.left - 1 else s.left) s.down s.writes
  rw [← hF3] at M3
  clear hF3 hbn
  generalize D.put b _ = D3 at M3 P3
  generalize hlf' : (if s.armed = true then s.left - 1 else s.left) = lf' at P3 hws
  have hlf2 : 0 ≤ lf' ∧ lf' ≤ 9223372036854775807 := by
    have h1 := hwf.lf
    rw [← hlf']
    split
    · next ha =>
      have : s.left ≠ 0 := fun e => by rw [ha, e] at hbo; exact absurd hbo (by decide)
      omega
    · omega
  have hb3 : F3 b = some (dkO s.armed lf' s.down s.size (.map (some ms)) (.map (some mf)) S s.writes) := M3.inn _ _ P3.cell
  ((conv => whnf); repeat (first | (apply load_at; (conv => lhs; whnf); (with_reducible assumption); rfl; (conv => whnf)) | (apply load_at; (conv => lhs; rw [add_plain, add_plain]); (with_reducible assumption); rfl; (conv => whnf)) | (apply loads_at; (conv => lhs; whnf); (with_reducible assumption); rfl; (conv => whnf)) | (refine ⟨⟨by omega, by omega⟩, ?_⟩; (conv => whnf))))
  refine op_lookup tab_ok rfl rfl rfl rfl rfl rfl rfl (P3.fresh.mono M3.inn) ?_
  ((conv => whnf); repeat (first | (apply load_at; (conv => lhs; whnf); (with_reducible assumption); rfl; (conv => whnf)) | (apply load_at; (conv => lhs; rw [add_plain, add_plain]); (with_reducible assumption); rfl; (conv => whnf)) | (apply loads_at; (conv => lhs; whnf); (with_reducible assumption); rfl; (conv => whnf)) | (refine ⟨⟨by omega, by omega⟩, ?_⟩; (conv => whnf))))
  refine cond_split (fun h => ?_) (fun h => ?_)
  · have h : (!(getM lF i).isSome) = true := h
    have hn : s.fresh i = none := P3.rf.no i (by simpa using h)
    refine short [0, 1, 2] [.pointer (some ⟨b, 0, none⟩), .int .i64 i, .slice A l.length c] rfl fun ρ => ?_
    ((conv => whnf); repeat (first | (apply load_at; (conv => lhs; whnf); (with_reducible assumption); rfl; (conv => whnf)) | (apply load_at; (conv => lhs; rw [add_plain, add_plain]); (with_reducible assumption); rfl; (conv => whnf)) | (apply loads_at; (conv => lhs; whnf); (with_reducible assumption); rfl; (conv => whnf)) | (refine ⟨⟨by omega, by omega⟩, ?_⟩; (conv => whnf))))
    refine new_step (.cells #[.int .i64 i] 3) rfl fun g h0_g => ?_
    have hE_g := Ext.new h0_g (.cells #[.int .i64 i] 3)
    have hB_g := Heap.put_same F3 g (.cells #[.int .i64 i] 3)
    generalize F3.put g _ = F4 at hE_g hB_g ⊢
    have M4 := M3.trans (Moves.ext M3.inn hE_g)
    have hb4 := hE_g _ _ hb3
    ((conv => whnf); repeat (first | (apply load_at; (conv => lhs; whnf); (with_reducible assumption); rfl; (conv => whnf)) | (apply load_at; (conv => lhs; rw [add_plain, add_plain]); (with_reducible assumption); rfl; (conv => whnf)) | (apply loads_at; (conv => lhs; whnf); (with_reducible assumption); rfl; (conv => whnf)) | (refine ⟨⟨by omega, by omega⟩, ?_⟩; (conv => whnf))))
    have hord : s.order.length ≤ 1000000000 := by have := hwf.ord; have := hwf.wr; omega
    refine append_own tab_ok (e := 3) (n := s.order.length) (m := 1) (xs := s.order.map (.int .i64)) (ys := [.int .i64 i]) (s := S) (y := .slice (some ⟨g, 0, none⟩) 1 1) rfl rfl rfl rfl rfl ⟨_, rfl, fun k h => by cases h⟩ ⟨_, rfl, rfl⟩ (by decide) (P3.own.of_blk fun k o _ ho => hE_g _ _ (M3.inn _ _ ho)) ⟨rfl, .inl ⟨_, _, rfl, row_blk hB_g⟩⟩ (one_int _ _) (by show 2 * (s.order.length + 1) * 8 ≤ _; omega) fun S5 F5 ho hk hf => ?_
    have hb5 : F5 b = _ := hk _ _ hb4 P3.bS
    obtain ⟨A5, c5, hS5, _, _⟩ := ho.row
    subst hS5
    ((conv => whnf); repeat (first | (apply load_at; (conv => lhs; whnf); (with_reducible assumption); rfl; (conv => whnf)) | (apply load_at; (conv => lhs; rw [add_plain, add_plain]); (with_reducible assumption); rfl; (conv => whnf)) | (apply loads_at; (conv => lhs; whnf); (with_reducible assumption); rfl; (conv => whnf)) | (refine ⟨⟨by omega, by omega⟩, ?_⟩; (conv => whnf))))
    refine store_step b 6 _ (dkC s.armed lf' s.down s.size (.map (some ms)) (.map (some mf)) (.slice A5 (s.order.length + 1) c5) s.writes) rfl hb5 rfl rfl (.inl (Nat.le_refl 0)) (one_slice _ _ _) ?_
    obtain ⟨D5, M5, P5⟩ := P3.push M4.inn ho hk hf
    replace M5 := M4.trans M5
    have hb5 := Heap.put_same F5 b (dkO s.armed lf' s.down s.size (.map (some ms)) (.map (some mf)) (.slice A5 (s.order.length + 1) c5) s.writes)
    generalize F5.put b _ = F5 at M5 hb5 ⊢
    ((conv => whnf); repeat (first | (apply load_at; (conv => lhs; whnf); (with_reducible assumption); rfl; (conv => whnf)) | (apply load_at; (conv => lhs; rw [add_plain, add_plain]); (with_reducible assumption); rfl; (conv => whnf)) | (apply loads_at; (conv => lhs; whnf); (with_reducible assumption); rfl; (conv => whnf)) | (refine ⟨⟨by omega, by omega⟩, ?_⟩; (conv => whnf))))
    refine draw_walk tab_ok (by kernel_rfl) [0, 1, 2, 3, 4, 5, 6, 7] (by kernel_rfl) ?_
    ((conv => whnf); repeat (first | (apply load_at; (conv => lhs; whnf); (with_reducible assumption); rfl; (conv => whnf)) | (apply load_at; (conv => lhs; rw [add_plain, add_plain]); (with_reducible assumption); rfl; (conv => whnf)) | (apply loads_at; (conv => lhs; whnf); (with_reducible assumption); rfl; (conv => whnf)) | (refine ⟨⟨by omega, by omega⟩, ?_⟩; (conv => whnf))))
    refine call_of (clone l A c F5 (hr.mono (M5.keep hR hA)) hl) ?_
    rintro v F6 hM
    (conv => whnf)
    refine ⟨hM.ext, ?_⟩
    ((conv => whnf); repeat (first | (apply load_at; (conv => lhs; whnf); (with_reducible assumption); rfl; (conv => whnf)) | (apply load_at; (conv => lhs; rw [add_plain, add_plain]); (with_reducible assumption); rfl; (conv => whnf)) | (apply loads_at; (conv => lhs; whnf); (with_reducible assumption); rfl; (conv => whnf)) | (refine ⟨⟨by omega, by omega⟩, ?_⟩; (conv => whnf))))
    refine op_mapUpdate (t := 61) (kt := 3) (et := 55) (v := v) (k := i) tab_ok rfl rfl rfl rfl rfl rfl (P5.fresh.mono (M5.inn.trans hM.ext)) fun o' ho => ?_
    obtain ⟨M6, P6⟩ := P5.setF M5.inn hM.ext (i := i) hl256 hM.newRow ho
    have hb7 : F6.put mf o' b = some (dkO s.armed lf' s.down s.size (.map (some ms)) (.map (some mf)) (.slice A5 (s.order.length + 1) c5) s.writes) := M6.inn _ _ P6.cell
    generalize F6.put mf o' = F7 at M6 hb7 ⊢
    ((conv => whnf); repeat (first | (apply load_at; (conv => lhs; whnf); (with_reducible assumption); rfl; (conv => whnf)) | (apply load_at; (conv => lhs; rw [add_plain, add_plain]); (with_reducible assumption); rfl; (conv => whnf)) | (apply loads_at; (conv => lhs; whnf); (with_reducible assumption); rfl; (conv => whnf)) | (refine ⟨⟨by omega, by omega⟩, ?_⟩; (conv => whnf))))
    refine store_step b 7 _ (dkC s.armed lf' s.down s.size (.map (some ms)) (.map (some mf)) (.slice A5 (s.order.length + 1) c5) (IntKind.i64.wrap (s.writes + 1))) rfl hb7 rfl rfl (.inl (Nat.le_refl 0)) (one_int _ _) ?_
    ((conv => whnf); repeat (first | (apply load_at; (conv => lhs; whnf); (with_reducible assumption); rfl; (conv => whnf)) | (apply load_at; (conv => lhs; rw [add_plain, add_plain]); (with_reducible assumption); rfl; (conv => whnf)) | (apply loads_at; (conv => lhs; whnf); (with_reducible assumption); rfl; (conv => whnf)) | (refine ⟨⟨by omega, by omega⟩, ?_⟩; (conv => whnf))))
    refine ⟨by rw [hwe]; rfl, _, (M5.trans M6).trans (Moves.put M6.inn (.inl (by rw [P6.cell]; simp)) _), ?_⟩
    have P7 := P6.nums s.armed lf' s.down (s.writes + 1)
    rw [wrap_eq (by have := hwf.wr; omega) (by omega), hws, if_pos hn]
    exact ⟨write_wf hwf hi hw l hlf2 (if_pos hn).symm, ms, mf, _, lS, _, _, P7⟩
  · have h : (!(getM lF i).isSome) = false := h
    have hn : ¬ s.fresh i = none := by
      cases e : getM lF i with
      | none => rw [e] at h; cases h
      | some v =>
        obtain ⟨l', h1, _⟩ := P3.rf.yes i v e
        rw [h1]
        intro h; cases h
    have M5 := M3
    have P5 := P3
    have hb5 := hb3
    clear M3 P3 hb3
    obtain ⟨F5, hF5⟩ : ∃ F5, F5 = F3 := ⟨_, rfl⟩
    obtain ⟨S5, hS5⟩ : ∃ S5, S5 = S := ⟨_, rfl⟩
    subst hF5 hS5
    refine short [0, 1, 2] [.pointer (some ⟨b, 0, none⟩), .int .i64 i, .slice A l.length c] rfl fun ρ => ?_
    ((conv => whnf); repeat (first | (apply load_at; (conv => lhs; whnf); (with_reducible assumption); rfl; (conv => whnf)) | (apply load_at; (conv => lhs; rw [add_plain, add_plain]); (with_reducible assumption); rfl; (conv => whnf)) | (apply loads_at; (conv => lhs; whnf); (with_reducible assumption); rfl; (conv => whnf)) | (refine ⟨⟨by omega, by omega⟩, ?_⟩; (conv => whnf))))
    refine draw_walk tab_ok (by kernel_rfl) [0, 1, 2, 3, 4, 5, 6, 7] (by kernel_rfl) ?_
    ((conv => whnf); repeat (first | (apply load_at; (conv => lhs; whnf); (with_reducible assumption); rfl; (conv => whnf)) | (apply load_at; (conv => lhs; rw [add_plain, add_plain]); (with_reducible assumption); rfl; (conv => whnf)) | (apply loads_at; (conv => lhs; whnf); (with_reducible assumption); rfl; (conv => whnf)) | (refine ⟨⟨by omega, by omega⟩, ?_⟩; (conv => whnf))))
    refine call_of (clone l A c F5 (hr.mono (M5.keep hR hA)) hl) ?_
    rintro v F6 hM
    (conv => whnf)
    refine ⟨hM.ext, ?_⟩
    ((conv => whnf); repeat (first | (apply load_at; (conv => lhs; whnf); (with_reducible assumption); rfl; (conv => whnf)) | (apply load_at; (conv => lhs; rw [add_plain, add_plain]); (with_reducible assumption); rfl; (conv => whnf)) | (apply loads_at; (conv => lhs; whnf); (with_reducible assumption); rfl; (conv => whnf)) | (refine ⟨⟨by omega, by omega⟩, ?_⟩; (conv => whnf))))
    refine op_mapUpdate (t := 61) (kt := 3) (et := 55) (v := v) (k := i) tab_ok rfl rfl rfl rfl rfl rfl (P5.fresh.mono (M5.inn.trans hM.ext)) fun o' ho => ?_
    obtain ⟨M6, P6⟩ := P5.setF M5.inn hM.ext (i := i) hl256 hM.newRow ho
    have hb7 : F6.put mf o' b = some (dkO s.armed lf' s.down s.size (.map (some ms)) (.map (some mf)) S5 s.writes) := M6.inn _ _ P6.cell
    generalize F6.put mf o' = F7 at M6 hb7 ⊢
    ((conv => whnf); repeat (first | (apply load_at; (conv => lhs; whnf); (with_reducible assumption); rfl; (conv => whnf)) | (apply load_at; (conv => lhs; rw [add_plain, add_plain]); (with_reducible assumption); rfl; (conv => whnf)) | (apply loads_at; (conv => lhs; whnf); (with_reducible assumption); rfl; (conv => whnf)) | (refine ⟨⟨by omega, by omega⟩, ?_⟩; (conv => whnf))))
    refine store_step b 7 _ (dkC s.armed lf' s.down s.size (.map (some ms)) (.map (some mf)) S5 (IntKind.i64.wrap (s.writes + 1))) rfl hb7 rfl rfl (.inl (Nat.le_refl 0)) (one_int _ _) ?_
    ((conv => whnf); repeat (first | (apply load_at; (conv => lhs; whnf); (with_reducible assumption); rfl; (conv => whnf)) | (apply load_at; (conv => lhs; rw [add_plain, add_plain]); (with_reducible assumption); rfl; (conv => whnf)) | (apply loads_at; (conv => lhs; whnf); (with_reducible assumption); rfl; (conv => whnf)) | (refine ⟨⟨by omega, by omega⟩, ?_⟩; (conv => whnf))))
    refine ⟨by rw [hwe]; rfl, _, (M5.trans M6).trans (Moves.put M6.inn (.inl (by rw [P6.cell]; simp)) _), ?_⟩
    have P7 := P6.nums s.armed lf' s.down (s.writes + 1)
    rw [wrap_eq (by have := hwf.wr; omega) (by omega), hws, if_neg hn]
    exact ⟨write_wf hwf hi hw l hlf2 (if_neg hn).symm, ms, mf, _, lS, _, _, P7⟩
end Go.Proofs.Ytlkdbmoocajjlaa.Al
