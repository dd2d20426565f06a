/- The contract of the reference's Parse, over what is known of memory. -/
import Derived.Test.YtkahpaipciooiadScrJ
namespace Go.Proofs.Ytkahpaipciooiad.Al
open Go Go.Al Go.Proofs Go.RowKit
set_option maxHeartbeats 8000000
set_option maxRecDepth 100000
set_option linter.unusedVariables false
set_option linter.unusedSimpArgs false
theorem rparse (b : List UInt8) (A : Option Addr) (c : Nat) (F : Heap) (hr : RowAt F A (bytesOf b)) (hl : b.length ≤ 50000) (hc : b.length ≤ c) :
    FnK Try.prog 26 #[.slice A b.length c] F (fun v F' => Evs (parseS b) v F' ∧ Ext F F') := by
  (refine fn_walk tab_ok Try.func26 rfl rfl rfl rfl ?_; (conv => whnf))
  refine loop_slots [0, 3] (fun mm vs F' => ∃ (x : List UInt8) (A' : Option Addr) (c' : Nat) (S : Value) (rs : List ER), x.length = mm ∧ x.length ≤ c' ∧ vs = [.slice A' x.length c', S] ∧ parseS b = rs.map (·.e) ++ parseS x ∧ rs.length + x.length ≤ b.length ∧ RowAt F A' (bytesOf x) ∧ EVS F F' S rs) b.length ⟨b, A, c, .slice none 0 0, [], rfl, hc, rfl, rfl, by simp, hr, EVS.nil F⟩ ?_
  rintro mm vs F2 ρ ⟨x, A', c', S, rs, hxm, hxc, rfl, hpx, hrl, hrx, hS⟩
  have hf := one x A' c' F2 (hrx.mono hS.ext) (by omega) hxc
  (conv => whnf)
  refine cond_split (fun h => ?_) (fun h => ?_)
  case refine_2 =>
    have h0 : x.length = 0 := by
      have h : decide ((x.length : Int) > 0) = false := h
      have := of_decide_eq_false h
      omega
    have hno : ¬ firstOk x := fun h => by have := h.1; omega
    have hev := hS.evs
    have hX := hS.ext
    rw [parseS_no hno, List.append_nil] at hpx
    rw [← hpx] at hev
    (conv => whnf)
    exact ⟨hev, hX⟩
  (conv => whnf)
  refine call_of hf ?_
  clear hf
  rintro v F3 ⟨hv, hE⟩
  unfold One at hv
  by_cases hok : firstOk x
  case neg =>
    rw [if_neg hok] at hv
    obtain ⟨k, n, A1, l1, c1, B1, l2, c2, y, rfl⟩ := hv
    rw [parseS_no hok, List.append_nil] at hpx
    (conv => whnf)
    refine new_step zeroE rfl fun u hu => ?_
    have hU := Heap.put_same F3 u zeroE
    have hX := fun o => hE.trans (ext_put_put hu (o := zeroE) (o' := o))
    generalize F3.put u zeroE = F4 at hU hX ⊢
    (conv => whnf)
    refine store_step u 0 _ (evC k n (.slice A1 l1 c1) (.slice B1 l2 c2)) rfl hU rfl rfl (.inl (Nat.le_refl 0)) (os4 k n A1 l1 c1 B1 l2 c2) ?_
    have hS4 := hS.mono (hX (evO k n (.slice A1 l1 c1) (.slice B1 l2 c2)))
    generalize F4.put u _ = F5 at hS4 ⊢
    have hev := hS4.evs
    have hX4 := hS4.ext
    rw [← hpx] at hev
    (conv => whnf)
    exact ⟨hev, hX4⟩
  rw [if_pos hok] at hv
  obtain ⟨A1, c1, B1, cc1, rfl, ho, hn⟩ := hv
  rw [parseS_yes hok] at hpx
  have hxN := firstN_le hok
  have hrx' := cut_tail (firstN x) hrx hxc
  generalize evOf x = e at hpx ho hn
  obtain ⟨k, n, bs, ks⟩ := e
  generalize firstN x = N at hpx hxN hrx'
  have oE := os4 k n A1 bs.length c1 B1 ks.length cc1
  (conv => whnf)
  refine new_step zeroE rfl fun u hu => ?_
  have hU := Heap.put_same F3 u zeroE
  have hX := fun o => ext_put_put hu (o := zeroE) (o' := o)
  generalize F3.put u zeroE = F4 at hU hX ⊢
  (conv => whnf)
  refine store_step u 0 _ (evC k n (.slice A1 bs.length c1) (.slice B1 ks.length cc1)) rfl hU rfl rfl (.inl (Nat.le_refl 0)) oE ?_
  have hU5 := Heap.put_same F4 u (evO k n (.slice A1 bs.length c1) (.slice B1 ks.length cc1))
  replace hX := hX (evO k n (.slice A1 bs.length c1) (.slice B1 ks.length cc1))
  generalize F4.put u _ = F5 at hU5 hX ⊢
  (conv => whnf)
  refine ⟨⟨_, _, _, hU5, rfl, Nat.le_refl 4, ?_⟩⟩
  (conv => whnf)
  refine new_step (evO k n (.slice A1 bs.length c1) (.slice B1 ks.length cc1)) rfl fun g hg => ?_
  have hXg := Ext.new hg (evO k n (.slice A1 bs.length c1) (.slice B1 ks.length cc1))
  have hG := Heap.put_same F5 g (evO k n (.slice A1 bs.length c1) (.slice B1 ks.length cc1))
  generalize F5.put g _ = F6 at hXg hG ⊢
  obtain ⟨G, h1, h2, h3, h4⟩ := hS.step ((hE.trans hX).trans hXg) (ho.mono (hX.trans hXg)) hn
  (conv => whnf)
  refine append_mine tab_ok (m := 1) (ys := (evA ⟨⟨k, n, bs, ks⟩, A1, c1, B1, cc1⟩).toList) (y := .slice (some ⟨g, 0, none⟩) 1 1) rfl rfl rfl rfl rfl ⟨_, rfl, fun k h => by cases h⟩ ⟨_, rfl, rfl⟩ (by decide) h2 ⟨rfl, .inl ⟨_, _, rfl, fun j v hj => ⟨_, rfl, by rw [add_plain, Heap.cell_at hG, Nat.zero_add, ← Array.getElem?_toList]; exact hj⟩⟩⟩ (ev_one _) (by show 2 * (rs.length + 1) * 64 ≤ _; omega) fun s' F7 h5 h6 => ?_
  (conv => whnf)
  refine ⟨⟨by omega, by omega⟩, ?_⟩
  (conv => whnf)
  refine ⟨(x.drop N).length, by rw [List.length_drop]; omega, x.drop N, cutA c' A' N, c' - N, s', rs ++ [⟨⟨k, n, bs, ks⟩, A1, c1, B1, cc1⟩], rfl, by rw [List.length_drop]; omega, by rw [List.length_drop]; rfl, ?_, ?_, hrx', G, h1, ?_, ?_⟩
  · rw [hpx, List.map_append, List.append_assoc]; rfl
  · rw [List.length_append, List.length_drop, List.length_singleton]; omega
  · rw [evsV_app, List.length_append]; exact h5
  · intro r hr
    rcases List.mem_append.1 hr with h | h
    · exact h3 r h
    · rw [List.mem_singleton.1 h]; exact h4
end Go.Proofs.Ytkahpaipciooiad.Al
