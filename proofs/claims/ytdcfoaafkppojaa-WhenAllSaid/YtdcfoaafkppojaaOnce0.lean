/- No two alike: what spec.once tells, whatever the keys. -/
import Derived.Test.YtdcfoaafkppojaaTcT
import Derived.Test.YtdcfoaafkppojaaShL
set_option linter.unusedVariables false
set_option linter.unusedSimpArgs false
set_option linter.unusedSectionVars false
namespace Go.Proofs.Ytdcfoaafkppojaa
open Go Go.RowKit Sh
namespace Ic
section
variable {P : Program} {e : Env} {τ : TH} {σ : ak}
theorem aft_le {σ' : ak} (h : HR e τ σ) (hnt : ∀ g i,e.who g ≠ .tok i) (hle : σ.le σ') : Aft ⟨σ,e,τ.lock⟩ e τ σ' := by
  have hat : ∀ g,g < σ.next → σ'.at g = σ.at g := fun g hg => hle.at_ hg
  have hk : zg σ σ' := fun g t cs md hg hm => ⟨md,hm,by rw [hat g (ak.lt_of_at (by rw [hg]; rfl))]; exact hg⟩
  exact {
  hr := {
    n := h.n
    wlt := fun g hg => Nat.lt_of_lt_of_le (h.wlt g hg) hle.next
    wid := h.wid
    ob := fun id hid => by
      obtain ⟨b',h1,h2⟩ := h.ob id hid
      have hlt : ∀ g,e.who g ≠ .none → σ'.at g = σ.at g := fun g hg => hat g (h.wlt g hg)
      exact ⟨b',h1,h2.step hk (fun _ _ => rfl) (by rw [h.n]; exact hid) (fun q => hlt _ (by rw [q]; simp)) (fun q => q) fun g j hg => ⟨hg,hlt g (by rw [hg]; simp)⟩⟩ }
  nx := hle.next
  keep := fun g hg _ => hle.blk g hg
  fro := hk
  n0 := Nat.le_refl _
  b0 := fun _ _ => rfl
  old := fun _ _ _ => rfl
  notok := hnt
  lock := rfl }
def seen {α : Type} (kv : α → Value) (l : List α) : List (Value × Value) := l.map fun a => (kv a,.bool true)
theorem zaeo {α : Type} {kv : α → Value} {kt : TypeId} {l : List α} {a : α} {v : Value} {σ' : ak} (hat : σ'.at σ.next = .map (seen kv l)) (hK : Maps.Keyed P kt) (hv : v = .map (some σ.next)) (hf : ∀ b,b ∈ a :: l → zaey (kv b) = true ∧ ∃ x,keyOf P kt (kv b) = some x) :
    zatk P kt σ' v (kv a) (seen kv l) :=
  ⟨σ.next,hv,hat,hK,(hf a (by simp)).1,(hf a (by simp)).2,fun e he => by
    obtain ⟨b,hb,rfl⟩ := List.mem_map.1 he
    exact hf b (by simp [hb])⟩
theorem set_le {σ' : ak} (b : Blk) (h : σ.le σ') (hn : σ.next < σ'.next) : σ.le (σ'.set σ.next b) ∧ σ.next < (σ'.set σ.next b).next ∧ (σ'.set σ.next b).at σ.next = b :=
  ⟨⟨h.next,fun i hi => by rw [zal7 (Nat.ne_of_lt hi)]; exact h.blk i hi⟩,hn,σ'.at_set_same _ hn⟩
theorem ju {α : Type} {l : List α} {i : Nat} (hi : i < l.length) : (l.take (i + 1)).Nodup ↔ (l.take i).Nodup ∧ l[i] ∉ l.take i := by
  rw [List.take_succ_eq_append_getElem hi,List.nodup_append]
  constructor
  · rintro ⟨h1,_,h3⟩
    exact ⟨h1,fun hm => h3 _ hm _ (by simp) rfl⟩
  · rintro ⟨h1,h2⟩
    refine ⟨h1,by simp,fun a ha b hb => ?_⟩
    simp only [List.mem_singleton] at hb
    subst hb
    rintro rfl
    exact h2 ha
end
end Ic
end Go.Proofs.Ytdcfoaafkppojaa
