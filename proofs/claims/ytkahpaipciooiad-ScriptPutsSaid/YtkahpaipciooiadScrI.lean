/- The contract of script.Parse, over what is known of memory. -/
import Derived.Test.YtkahpaipciooiadScrH
namespace Go.Proofs.Ytkahpaipciooiad.Al
open Go Go.Al Go.Proofs Go.RowKit
set_option maxHeartbeats 8000000
set_option maxRecDepth 100000
set_option linter.unusedVariables false
set_option linter.unusedSimpArgs false
def parseG : Nat → List UInt8 → List ED
  | 0, _ => []
  | n + 1, b => if firstOk b then evOf b :: parseG n (b.drop (firstN b)) else []
def parseS (b : List UInt8) : List ED := parseG b.length b
theorem firstN_le {b : List UInt8} (h : firstOk b) : 6 ≤ firstN b ∧ firstN b ≤ b.length := by
  obtain ⟨h1, h2, ⟨h3, h4⟩, _⟩ := h
  unfold tlB at h3 h4
  rw [List.length_drop] at h3 h4
  unfold firstN
  unfold tlB
  omega
theorem parseG_more : ∀ (n m : Nat) (b : List UInt8), b.length ≤ n → b.length ≤ m → parseG n b = parseG m b := by
  intro n
  induction n with
  | zero =>
    intro m b h1 h2
    have hn : ¬ firstOk b := fun h => by have := h.1; omega
    cases m with
    | zero => rfl
    | succ m => show [] = if firstOk b then _ else _; rw [if_neg hn]
  | succ n ih =>
    intro m b h1 h2
    cases m with
    | zero =>
      have hn : ¬ firstOk b := fun h => by have := h.1; omega
      show (if firstOk b then _ else _) = []
      rw [if_neg hn]
    | succ m =>
      show (if firstOk b then _ else _) = if firstOk b then _ else _
      by_cases h : firstOk b
      · have h6 := firstN_le h
        rw [if_pos h, if_pos h, ih m _ (by rw [List.length_drop]; omega) (by rw [List.length_drop]; omega)]
      · rw [if_neg h, if_neg h]
theorem parseS_no {b : List UInt8} (h : ¬ firstOk b) : parseS b = [] := by
  unfold parseS
  cases b.length with
  | zero => rfl
  | succ n => show (if firstOk b then _ else _) = _; rw [if_neg h]
theorem parseS_yes {b : List UInt8} (h : firstOk b) : parseS b = evOf b :: parseS (b.drop (firstN b)) := by
  have h6 := firstN_le h
  unfold parseS
  obtain ⟨n, hn⟩ : ∃ n, b.length = n + 1 := ⟨b.length - 1, by omega⟩
  rw [hn]
  show (if firstOk b then _ else _) = _
  rw [if_pos h, parseG_more n (b.drop (firstN b)).length _ (by rw [List.length_drop]; omega) (Nat.le_refl _)]
def lessO (F : Heap) (o : Option Nat) : Heap := fun c => if some c = o then none else F c
theorem lessO_ext (F : Heap) (o : Option Nat) : Ext (lessO F o) F := fun c u h => by
  unfold lessO at h
  split at h
  · cases h
  · exact h
theorem lessO_keeps (F : Heap) (o : Option Nat) : Keeps F (lessO F o) o := fun c u h hw => by
  unfold lessO
  rw [if_neg fun e => hw e.symm]
  exact h
theorem rowO {F F' : Heap} {A : Option Addr} {vs : List Value} {w : Option Nat} (h : RowAt F A vs) (hA : ∀ a, A = some a → some a.block ≠ w) (hk : Keeps F F' w) : RowAt F' A vs := by
  cases w with
  | none => exact h.mono fun c o hc => hk c o hc (by simp)
  | some w => exact row_keeps h (fun a ha e => hA a ha (by rw [e])) hk
theorem own_there {F : Heap} {S : Value} {e z n w : Nat} {vs : List Value} (h : Own F S e z n vs) (hw : blk S = some w) : F w ≠ none := by
  rcases h.2 with ⟨h1, _⟩ | ⟨b, c, cs', h1, ⟨fz', hb, _⟩, _⟩
  · subst h1; cases hw
  · subst h1
    obtain rfl : b = w := Option.some.inj hw
    rw [hb]
    simp
/-- A row of events of one's own, each with rows that nobody writes. -/
def EVS (F0 F : Heap) (S : Value) (rs : List ER) : Prop := ∃ G, Ext F0 G ∧ Mine G F S 47 4 rs.length (evsV rs) ∧ ∀ r ∈ rs, EvOk G r
theorem EVS.mono {F0 F F' : Heap} {S : Value} {rs : List ER} (h : EVS F0 F S rs) (hE : Ext F F') : EVS F0 F' S rs := by
  obtain ⟨G, h1, h2, h3⟩ := h
  exact ⟨G, h1, h2.mono hE, h3⟩
theorem EVS.nil (F : Heap) : EVS F F (.slice none 0 0) [] := ⟨F, Ext.refl F, Mine.nil _ _ _ _ (Ext.refl F), fun r h => by cases h⟩
theorem EVS.ext {F0 F : Heap} {S : Value} {rs : List ER} (h : EVS F0 F S rs) : Ext F0 F := by
  obtain ⟨G, h1, h2, h3⟩ := h
  exact h1.trans h2.ext
theorem EVS.step {F0 F F1 : Heap} {S : Value} {rs : List ER} {r : ER} (h : EVS F0 F S rs) (hE : Ext F F1) (ho : EvOk F1 r) (hn : EvNew F r) : ∃ G, Ext F0 G ∧ Mine G F1 S 47 4 rs.length (evsV rs) ∧ (∀ x ∈ rs, EvOk G x) ∧ EvOk G r := by
  obtain ⟨G, h1, h2, h3⟩ := h
  have hG : Ext G (lessO F1 (blk S)) := fun c o hc => by
    unfold lessO
    rw [if_neg (fun e => by rw [h2.fresh c e.symm] at hc; cases hc)]
    exact hE _ _ (h2.ext _ _ hc)
  have hw : ∀ a : Addr, F a.block = none → some a.block ≠ blk S := fun a ha e => own_there h2.own e.symm ha
  refine ⟨lessO F1 (blk S), h1.trans hG, ⟨(h2.mono hE).own, fun c hc => by unfold lessO; rw [if_pos hc.symm], lessO_ext _ _⟩, fun x hx => (h3 x hx).mono hG, ?_⟩
  exact ⟨rowO ho.1 (fun a ha => hw a (hn.1 a ha)) (lessO_keeps _ _), rowO ho.2.1 (fun a ha => hw a (hn.2 a ha)) (lessO_keeps _ _), ho.2.2⟩
theorem evsV_app (rs : List ER) (r : ER) : evsV (rs ++ [r]) = evsV rs ++ (evA r).toList := by
  unfold evsV
  rw [List.flatMap_append]
  simp
/-- What a parse comes to. -/
def Evs (es : List ED) (v : Value) (F : Heap) : Prop := ∃ rs A c, rs.map (·.e) = es ∧ v = .slice A rs.length c ∧ RowAt F A (evsV rs) ∧ ∀ r ∈ rs, EvOk F r
theorem EVS.evs {F0 F : Heap} {S : Value} {rs : List ER} (h : EVS F0 F S rs) : Evs (rs.map (·.e)) S F := by
  obtain ⟨G, h1, h2, h3⟩ := h
  obtain ⟨A, c, h4, _, h5⟩ := h2.own.row
  exact ⟨rs, A, c, rfl, h4, h5, fun r hr => (h3 r hr).mono h2.ext⟩
theorem ev_one (r : ER) : ∀ v ∈ (evA r).toList, v.oneCell' = true := by
  obtain ⟨⟨k, n, bs, ks⟩, A, c, B, cc⟩ := r
  exact os4 k n A bs.length c B ks.length cc
theorem parse (b : List UInt8) (A : Option Addr) (c : Nat) (F : Heap) (hr : RowAt F A (bytesOf b)) (hl : b.length ≤ 50000) (hc : b.length ≤ c) :
    FnK Try.prog 25 #[.slice A b.length c] F (fun v F' => Evs (parseS b) v F' ∧ Ext F F') := by
  (refine fn_walk tab_ok Try.func25 rfl rfl rfl rfl ?_; (conv => whnf))
  refine loop_slots [0, 3] (fun mm vs F' => ∃ (x : List UInt8) (A' : Option Addr) (c' : Nat) (S : Value) (rs : List ER), x.length = mm ∧ x.length ≤ c' ∧ vs = [.slice A' x.length c', S] ∧ parseS b = rs.map (·.e) ++ parseS x ∧ rs.length + x.length ≤ b.length ∧ RowAt F A' (bytesOf x) ∧ EVS F F' S rs) b.length ⟨b, A, c, .slice none 0 0, [], rfl, hc, rfl, rfl, by simp, hr, EVS.nil F⟩ ?_
  rintro mm vs F2 ρ ⟨x, A', c', S, rs, hxm, hxc, rfl, hpx, hrl, hrx, hS⟩
  have hf := first x A' c' F2 (hrx.mono hS.ext) (by omega) hxc
  (conv => whnf)
  refine call_of hf ?_
  clear hf
  rintro v F3 ⟨hv, hE⟩
  unfold Fst at hv
  by_cases hok : firstOk x
  case neg =>
    rw [if_neg hok] at hv
    subst hv
    rw [parseS_no hok, List.append_nil] at hpx
    (conv => whnf)
    refine new_step zeroE rfl fun u hu => ?_
    have hU := Heap.put_same F3 u zeroE
    have hX := hE.trans (ext_put_put hu (o := zeroE) (o' := zeroE))
    generalize F3.put u zeroE = F4 at hU hX ⊢
    (conv => whnf)
    refine store_step u 0 _ _ rfl hU rfl rfl (.inl (Nat.le_refl 0)) ozE ?_
    have hS4 := hS.mono hX
    have hev := hS4.evs
    have hX4 := hS4.ext
    rw [← hpx] at hev
    (conv => whnf)
    exact ⟨hev, hX4⟩
  rw [if_pos hok] at hv
  obtain ⟨A1, c1, B1, cc1, rfl, ho, hn⟩ := hv
  rw [parseS_yes hok] at hpx
  have hxN := firstN_le hok
  have hrx' := cut_tail (firstN x) hrx hxc
  generalize evOf x = e at hpx ho hn
  obtain ⟨k, n, bs, ks⟩ := e
  generalize firstN x = N at hpx hxN hrx'
  have oE := os4 k n A1 bs.length c1 B1 ks.length cc1
  (conv => whnf)
  refine new_step zeroE rfl fun u hu => ?_
  have hU := Heap.put_same F3 u zeroE
  have hX := fun o => ext_put_put hu (o := zeroE) (o' := o)
  generalize F3.put u zeroE = F4 at hU hX ⊢
  (conv => whnf)
  refine store_step u 0 _ (evC k n (.slice A1 bs.length c1) (.slice B1 ks.length cc1)) rfl hU rfl rfl (.inl (Nat.le_refl 0)) oE ?_
  have hU5 := Heap.put_same F4 u (evO k n (.slice A1 bs.length c1) (.slice B1 ks.length cc1))
  replace hX := hX (evO k n (.slice A1 bs.length c1) (.slice B1 ks.length cc1))
  generalize F4.put u _ = F5 at hU5 hX ⊢
  (conv => whnf)
  refine ⟨⟨_, _, _, hU5, rfl, Nat.le_refl 4, ?_⟩⟩
  (conv => whnf)
  refine new_step (evO k n (.slice A1 bs.length c1) (.slice B1 ks.length cc1)) rfl fun g hg => ?_
  have hXg := Ext.new hg (evO k n (.slice A1 bs.length c1) (.slice B1 ks.length cc1))
  have hG := Heap.put_same F5 g (evO k n (.slice A1 bs.length c1) (.slice B1 ks.length cc1))
  generalize F5.put g _ = F6 at hXg hG ⊢
  obtain ⟨G, h1, h2, h3, h4⟩ := hS.step ((hE.trans hX).trans hXg) (ho.mono (hX.trans hXg)) hn
  (conv => whnf)
  refine append_mine tab_ok (m := 1) (ys := (evA ⟨⟨k, n, bs, ks⟩, A1, c1, B1, cc1⟩).toList) (y := .slice (some ⟨g, 0, none⟩) 1 1) rfl rfl rfl rfl rfl ⟨_, rfl, fun k h => by cases h⟩ ⟨_, rfl, rfl⟩ (by decide) h2 ⟨rfl, .inl ⟨_, _, rfl, fun j v hj => ⟨_, rfl, by rw [add_plain, Heap.cell_at hG, Nat.zero_add, ← Array.getElem?_toList]; exact hj⟩⟩⟩ (ev_one _) (by show 2 * (rs.length + 1) * 64 ≤ _; omega) fun s' F7 h5 h6 => ?_
  (conv => whnf)
  refine ⟨(x.drop N).length, by rw [List.length_drop]; omega, x.drop N, cutA c' A' N, c' - N, s', rs ++ [⟨⟨k, n, bs, ks⟩, A1, c1, B1, cc1⟩], rfl, by rw [List.length_drop]; omega, by rw [List.length_drop]; rfl, ?_, ?_, hrx', G, h1, ?_, ?_⟩
  · rw [hpx, List.map_append, List.append_assoc]; rfl
  · rw [List.length_append, List.length_drop, List.length_singleton]; omega
  · rw [evsV_app, List.length_append]; exact h5
  · intro r hr
    rcases List.mem_append.1 hr with h | h
    · exact h3 r h
    · rw [List.mem_singleton.1 h]; exact h4
end Go.Proofs.Ytkahpaipciooiad.Al
