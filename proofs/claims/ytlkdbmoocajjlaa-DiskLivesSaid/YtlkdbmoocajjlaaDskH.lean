/- The reference's disks: Write, over what is known of memory. -/
import Derived.Test.YtlkdbmoocajjlaaDskG
namespace Go.Proofs.Ytlkdbmoocajjlaa.Al
open Go Go.Al Go.Proofs Go.RowKit
set_option maxHeartbeats 8000000
set_option maxRecDepth 100000
set_option linter.unusedVariables false
set_option linter.unusedSimpArgs false
theorem os_put {os : List OR} {j k : Nat} {o o' : OR} {v : Value} (h : os[j]? = some o) (hk : k < 3) (hv : orC o' = (orC o).set k v) : (putL (rowS orC os).toArray.toList (j * 3 + k) [v]).toArray = (rowS orC (os.set j o')).toArray := by
  rw [List.toList_toArray, rowS_set orC_len os j k o o' v h hk hv]
theorem os_in {os : List OR} {j k : Nat} (h : j < os.length) (hk : k < 3) : Nat.ble (j * 3 + k + 1) (rowS orC os).toArray.size = true :=
  Nat.ble_eq_true_of_le (by rw [List.size_toArray, rowS_len orC_len]; omega)
/-- A sector's last bytes are new ones. -/
theorem RkP.setL {D F F' : Heap} {b q : Nat} {os : List OR} {G : Heap} {r : RS} (h : RkP D b q os G r) (hE : Ext D F) (hE2 : Ext F F') {i : Nat} {o o' : OR} (ho : os[i]? = some o) (hv : OrOk (gain G F F') o') :
    Moves D F ((gain D F F').put q (osO (os.set i o'))) (F'.put q (osO (os.set i o'))) ∧ RkP ((gain D F F').put q (osO (os.set i o'))) b q (os.set i o') (gain G F F') { r with L := r.L.set i (od o') } := by
  have hm := Moves.gain hE hE2
  have hg := gain_ext (F' := F') hE
  have hG : Ext G (gain G F F') := gain_ext (h.base.trans hE)
  have hGD : Ext (gain G F F') (gain D F F') := fun c u hc => by
    cases e : F c with
    | none => rw [gain_new e] at hc ⊢; exact hc
    | some w => rw [gain_old e] at hc ⊢; exact h.base _ _ hc
  have P : RkP (gain D F F') b q os (gain G F F') r := ⟨hg _ _ h.cell, hg _ _ h.row, h.L, hGD, by rw [gain_old (hE _ _ h.cell)]; exact h.gb, by rw [gain_old (hE _ _ h.row)]; exact h.gq, h.bq, fun x hx => (h.ok x hx).mono hG⟩
  exact ⟨hm.trans (Moves.put hm.inn (.inl (by rw [P.row]; simp)) _), P.set i o' hv⟩
end Go.Proofs.Ytlkdbmoocajjlaa.Al
