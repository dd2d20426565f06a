/- The reference's disks: Read, over what is known of memory. -/
import Derived.Test.YtlkdbmoocajjlaaDskF
namespace Go.Proofs.Ytlkdbmoocajjlaa.Al
open Go Go.Al Go.Proofs Go.RowKit
set_option maxHeartbeats 8000000
set_option maxRecDepth 100000
set_option linter.unusedVariables false
set_option linter.unusedSimpArgs false
def rreadE (r : RS) (i : Int) : Int := if r.down = true then 5 else if ¬ (0 ≤ i ∧ i < (r.L.length : Int)) then 1 else 0
def rsec (r : RS) (i : Int) : List UInt8 := match r.L[i.toNat]? with | some o => fullB o.l | none => []
def rreadL (r : RS) (i : Int) : List UInt8 := if r.down = true ∨ ¬ (0 ≤ i ∧ i < (r.L.length : Int)) then [] else rsec r i
theorem ad3 (q j k : Nat) : Addr.add (Addr.add ⟨q, 0, none⟩ ((Int.toNat (j : Int)) * 3)) k = ⟨q, j * 3 + k, none⟩ := by
  rw [Int.toNat_natCast, add_plain, add_plain, Nat.zero_add]
theorem os_get {os : List OR} {j k : Nat} {o : OR} {v : Value} (h : os[j]? = some o) (hv : (orC o)[k]? = some v) : (rowS orC os).toArray[j * 3 + k]? = some v := by
  rw [List.getElem?_toArray]
  exact rowS_get orC_len h hv
theorem rread {D F : Heap} {b : Nat} {r : RS} (hE : Ext D F) (hD : Rk D b r) (i : Int) :
    FnK Try.prog 36 #[.pointer (some ⟨b, 0, none⟩), .int .i64 i] F (fun v F' => ∃ u, v = .tuple #[u, .int .i64 (rreadE r i)] ∧ NewRow F F' u (rreadL r i) ∧ Ext F F') := by
  obtain ⟨hw, q, os, G, hP⟩ := hD
  have hb := hE _ _ hP.cell
  have hq := hE _ _ hP.row
  have hlen : r.L.length = os.length := by rw [hP.L, List.length_map]
  have hre : rreadE r i = if r.down = true then 5 else if ¬ (0 ≤ i ∧ i < (os.length : Int)) then 1 else 0 := by unfold rreadE; rw [hlen]
  have hrl : rreadL r i = if r.down = true ∨ ¬ (0 ≤ i ∧ i < (os.length : Int)) then [] else rsec r i := by unfold rreadL; rw [hlen]
  generalize rreadE r i = re at hre ⊢
  generalize rreadL r i = rl at hrl ⊢
  (refine fn_walk tab_ok Try.func36 rfl rfl rfl rfl ?_; (conv => whnf))
  ((conv => whnf); repeat (first | (apply load_at; (conv => lhs; whnf); (with_reducible assumption); rfl; (conv => whnf)) | (apply load_at; (conv => lhs; rw [add_plain, add_plain]); (with_reducible assumption); rfl; (conv => whnf)) | (apply loads_at; (conv => lhs; whnf); (with_reducible assumption); rfl; (conv => whnf)) | (refine ⟨⟨by omega, by omega⟩, ?_⟩; (conv => whnf))))
  refine cond_split (fun h => ?_) (fun h => ?_)
  · have hd : r.down = true := h
    rw [if_pos hd] at hre
    rw [if_pos (.inl hd)] at hrl
    ((conv => whnf); repeat (first | (apply load_at; (conv => lhs; whnf); (with_reducible assumption); rfl; (conv => whnf)) | (apply load_at; (conv => lhs; rw [add_plain, add_plain]); (with_reducible assumption); rfl; (conv => whnf)) | (apply loads_at; (conv => lhs; whnf); (with_reducible assumption); rfl; (conv => whnf)) | (refine ⟨⟨by omega, by omega⟩, ?_⟩; (conv => whnf))))
    exact ⟨.slice none 0 0, by rw [hre]; rfl, by rw [hrl]; exact newRow_nil _, Ext.refl _⟩
  have hd : r.down = false := h
  have hdn : ¬ r.down = true := by rw [hd]; decide
  rw [if_neg hdn] at hre
  ((conv => whnf); repeat (first | (apply load_at; (conv => lhs; whnf); (with_reducible assumption); rfl; (conv => whnf)) | (apply load_at; (conv => lhs; rw [add_plain, add_plain]); (with_reducible assumption); rfl; (conv => whnf)) | (apply loads_at; (conv => lhs; whnf); (with_reducible assumption); rfl; (conv => whnf)) | (refine ⟨⟨by omega, by omega⟩, ?_⟩; (conv => whnf))))
  refine cond_split (fun h => ?_) (fun h => ?_)
  case refine_2 =>
    have h : (!decide (i < 0)) = false := h
    have h0 : i < 0 := by simpa using h
    have hi : ¬ (0 ≤ i ∧ i < (os.length : Int)) := by omega
    rw [if_pos hi] at hre
    rw [if_pos (.inr hi)] at hrl
    ((conv => whnf); repeat (first | (apply load_at; (conv => lhs; whnf); (with_reducible assumption); rfl; (conv => whnf)) | (apply load_at; (conv => lhs; rw [add_plain, add_plain]); (with_reducible assumption); rfl; (conv => whnf)) | (apply loads_at; (conv => lhs; whnf); (with_reducible assumption); rfl; (conv => whnf)) | (refine ⟨⟨by omega, by omega⟩, ?_⟩; (conv => whnf))))
    exact ⟨.slice none 0 0, by rw [hre]; rfl, by rw [hrl]; exact newRow_nil _, Ext.refl _⟩
  have h : (!decide (i < 0)) = true := h
  have h0 : ¬ i < 0 := by simpa using h
  ((conv => whnf); repeat (first | (apply load_at; (conv => lhs; whnf); (with_reducible assumption); rfl; (conv => whnf)) | (apply load_at; (conv => lhs; rw [add_plain, add_plain]); (with_reducible assumption); rfl; (conv => whnf)) | (apply loads_at; (conv => lhs; whnf); (with_reducible assumption); rfl; (conv => whnf)) | (refine ⟨⟨by omega, by omega⟩, ?_⟩; (conv => whnf))))
  refine cond_split (fun h => ?_) (fun h => ?_)
  · have h : decide (i ≥ (os.length : Int)) = true := h
    have hi : ¬ (0 ≤ i ∧ i < (os.length : Int)) := by have := of_decide_eq_true h; omega
    rw [if_pos hi] at hre
    rw [if_pos (.inr hi)] at hrl
    ((conv => whnf); repeat (first | (apply load_at; (conv => lhs; whnf); (with_reducible assumption); rfl; (conv => whnf)) | (apply load_at; (conv => lhs; rw [add_plain, add_plain]); (with_reducible assumption); rfl; (conv => whnf)) | (apply loads_at; (conv => lhs; whnf); (with_reducible assumption); rfl; (conv => whnf)) | (refine ⟨⟨by omega, by omega⟩, ?_⟩; (conv => whnf))))
    exact ⟨.slice none 0 0, by rw [hre]; rfl, by rw [hrl]; exact newRow_nil _, Ext.refl _⟩
  have h : decide (i ≥ (os.length : Int)) = false := h
  have hi : 0 ≤ i ∧ i < (os.length : Int) := by have := of_decide_eq_false h; omega
  rw [if_neg (fun e => e hi)] at hre
  rw [if_neg (by rintro (e | e); exact hdn e; exact e hi)] at hrl
  obtain ⟨j, rfl⟩ : ∃ j : Nat, i = j := ⟨i.toNat, by omega⟩
  have hj : j < os.length := by omega
  obtain ⟨o, ho⟩ : ∃ o, os[j]? = some o := ⟨_, List.getElem?_eq_getElem hj⟩
  have hok := hP.ok o (List.mem_of_getElem? ho)
  have hsec : rsec r (j : Int) = fullB o.l := by
    unfold rsec
    rw [Int.toNat_natCast, hP.L, List.getElem?_map, ho]
    rfl
  ((conv => whnf); repeat (first | (apply load_at; (conv => lhs; whnf); (with_reducible assumption); rfl; (conv => whnf)) | (apply load_at; (conv => lhs; rw [add_plain, add_plain]); (with_reducible assumption); rfl; (conv => whnf)) | (apply loads_at; (conv => lhs; whnf); (with_reducible assumption); rfl; (conv => whnf)) | (refine ⟨⟨by omega, by omega⟩, ?_⟩; (conv => whnf))))
  refine load_at (ad3 q j 1) hq (os_get ho rfl) ?_
  ((conv => whnf); repeat (first | (apply load_at; (conv => lhs; whnf); (with_reducible assumption); rfl; (conv => whnf)) | (apply load_at; (conv => lhs; rw [add_plain, add_plain]); (with_reducible assumption); rfl; (conv => whnf)) | (apply loads_at; (conv => lhs; whnf); (with_reducible assumption); rfl; (conv => whnf)) | (refine ⟨⟨by omega, by omega⟩, ?_⟩; (conv => whnf))))
  refine call_of (full o.l o.lA o.lc F (hok.l.mono (hP.base.trans hE)) (by have := hok.ln; omega)) ?_
  rintro v F2 ⟨hr, hE2⟩
  ((conv => whnf); repeat (first | (apply load_at; (conv => lhs; whnf); (with_reducible assumption); rfl; (conv => whnf)) | (apply load_at; (conv => lhs; rw [add_plain, add_plain]); (with_reducible assumption); rfl; (conv => whnf)) | (apply loads_at; (conv => lhs; whnf); (with_reducible assumption); rfl; (conv => whnf)) | (refine ⟨⟨by omega, by omega⟩, ?_⟩; (conv => whnf))))
  exact ⟨v, by rw [hre]; rfl, by rw [hrl, hsec]; exact hr, hE2⟩
end Go.Proofs.Ytlkdbmoocajjlaa.Al
