import Derived.Test.YtleofbpepfmfgaaGreatDoorVxFind
import Derived.Test.YtleofbpepfmfgaaGreatDoorVxIR0
import Derived.Test.YtleofbpepfmfgaaGreatDoorVxIR1
import Derived.Test.YtleofbpepfmfgaaGreatDoorVxIR2
import Derived.Test.YtleofbpepfmfgaaGreatDoorProg
import Derived.KernelRfl
set_option linter.unusedVariables false
set_option maxRecDepth 100000
namespace Go.Proofs.YtleofbpepfmfgaaGreatDoor
open Go Go.Vx Go.Vx.Ev
structure Row where
 f : Nat
 E : Ent
 ok : ∀ gl, EntOK Tryz.prog gl f E
def trieOf : List Row → Tr Ent
 | [] => .lf
 | r :: rs => Tr.set r.E 12 (trieOf rs) r.f
theorem trieOf_ok : ∀ (L : List Row) (f : Nat) (E : Ent), (trieOf L).get f = some E → (L.all fun r => Nat.ble (r.f + 2) 4096) = true → ∀ gl, EntOK Tryz.prog gl f E := by
 intro L
 induction L with
 | nil => intro f E h _; cases h
 | cons r rs ih =>
  intro f E h hl gl
  rw [List.all_cons, Bool.and_eq_true] at hl
  simp only [trieOf] at h
  by_cases e : f = r.f
  ·subst e
   rw [Tr.get_set_eq _ _ _ _ (by have := Nat.le_of_ble_eq_true hl.1; omega)] at h
   cases h; exact r.ok gl
  ·rw [Tr.get_set_ne _ _ _ _ _ e] at h; exact ih f E h hl.2 gl
def rows : List Row := [⟨123, .sp findEv, findEv_ok⟩,
 ⟨7, .fn ir_biremelaw27_SimOne, fun _ => ⟨_, Tryz.func7, ok_biremelaw27_SimOne⟩⟩,
 ⟨14, .fn ir_biremelaw27_alive, fun _ => ⟨_, Tryz.func14, ok_biremelaw27_alive⟩⟩,
 ⟨15, .fn ir_biremelaw27_own, fun _ => ⟨_, Tryz.func15, ok_biremelaw27_own⟩⟩,
 ⟨17, .fn ir_sim_Run, fun _ => ⟨_, Tryz.func17, ok_sim_Run⟩⟩,
 ⟨22, .fn ir_sim_Strict, fun _ => ⟨_, Tryz.func22, ok_sim_Strict⟩⟩,
 ⟨23, .fn ir_sim_Waits, fun _ => ⟨_, Tryz.func23, ok_sim_Waits⟩⟩,
 ⟨24, .fn ir_biremeref26_Fits, fun _ => ⟨_, Tryz.func24, ok_biremeref26_Fits⟩⟩,
 ⟨28, .fn ir_biremeref19_Check, fun _ => ⟨_, Tryz.func28, ok_biremeref19_Check⟩⟩,
 ⟨29, .fn ir_sim_Start, fun _ => ⟨_, Tryz.func29, ok_sim_Start⟩⟩,
 ⟨30, .fn ir_sim_Sim_Run, fun _ => ⟨_, Tryz.func30, ok_sim_Sim_Run⟩⟩,
 ⟨32, .fn ir_sim_Sim_Settle, fun _ => ⟨_, Tryz.func32, ok_sim_Sim_Settle⟩⟩,
 ⟨39, .fn ir_sim_Sim_Reg, fun _ => ⟨_, Tryz.func39, ok_sim_Sim_Reg⟩⟩,
 ⟨42, .fn ir_sim_Sim_OnWay, fun _ => ⟨_, Tryz.func42, ok_sim_Sim_OnWay⟩⟩,
 ⟨44, .fn ir_biremeref26_Cut, fun _ => ⟨_, Tryz.func44, ok_biremeref26_Cut⟩⟩,
 ⟨45, .fn ir_biremelaw27_example, fun _ => ⟨_, Tryz.func45, ok_biremelaw27_example⟩⟩,
 ⟨46, .fn ir_sim_Can, fun _ => ⟨_, Tryz.func46, ok_sim_Can⟩⟩,
 ⟨47, .fn ir_sim_begin, fun _ => ⟨_, Tryz.func47, ok_sim_begin⟩⟩,
 ⟨48, .fn ir_sim_Sim_For, fun _ => ⟨_, Tryz.func48, ok_sim_Sim_For⟩⟩,
 ⟨49, .fn ir_sim_Sim_outcome, fun _ => ⟨_, Tryz.func49, ok_sim_Sim_outcome⟩⟩,
 ⟨50, .fn ir_words_Fits, fun _ => ⟨_, Tryz.func50, ok_words_Fits⟩⟩,
 ⟨51, .fn ir_sim_find, fun _ => ⟨_, Tryz.func51, ok_sim_find⟩⟩,
 ⟨52, .fn ir_sim_waits_strict, fun _ => ⟨_, Tryz.func52, ok_sim_waits_strict⟩⟩,
 ⟨53, .fn ir_biremeref26_Check, fun _ => ⟨_, Tryz.func53, ok_biremeref26_Check⟩⟩,
 ⟨54, .fn ir_biremeref19_Together, fun _ => ⟨_, Tryz.func54, ok_biremeref19_Together⟩⟩,
 ⟨57, .fn ir_sim_Sim_none, fun _ => ⟨_, Tryz.func57, ok_sim_Sim_none⟩⟩,
 ⟨58, .fn ir_sim_Sim_settle, fun _ => ⟨_, Tryz.func58, ok_sim_Sim_settle⟩⟩,
 ⟨63, .fn ir_words_Check, fun _ => ⟨_, Tryz.func63, ok_words_Check⟩⟩,
 ⟨65, .fn ir_sim_clone, fun _ => ⟨_, Tryz.func65, ok_sim_clone⟩⟩,
 ⟨66, .fn ir_slices_Clone_int_int, fun _ => ⟨_, Tryz.func66, ok_slices_Clone_int_int⟩⟩,
 ⟨67, .fn ir_sim_Sim_cycle, fun _ => ⟨_, Tryz.func67, ok_sim_Sim_cycle⟩⟩,
 ⟨68, .fn ir_slices_Clone_int64_int64, fun _ => ⟨_, Tryz.func68, ok_slices_Clone_int64_int64⟩⟩,
 ⟨69, .fn ir_machine_Check, fun _ => ⟨_, Tryz.func69, ok_machine_Check⟩⟩,
 ⟨70, .fn ir_machine_NewUse, fun _ => ⟨_, Tryz.func70, ok_machine_NewUse⟩⟩,
 ⟨71, .fn ir_machine_Use_With, fun _ => ⟨_, Tryz.func71, ok_machine_Use_With⟩⟩,
 ⟨72, .fn ir_machine_Use_Fits, fun _ => ⟨_, Tryz.func72, ok_machine_Use_Fits⟩⟩,
 ⟨73, .fn ir_sim_waits_meet, fun _ => ⟨_, Tryz.func73, ok_sim_waits_meet⟩⟩,
 ⟨74, .fn ir_sim_waits_from, fun _ => ⟨_, Tryz.func74, ok_sim_waits_from⟩⟩,
 ⟨75, .fn ir_slices_Clone_int8_int8, fun _ => ⟨_, Tryz.func75, ok_slices_Clone_int8_int8⟩⟩,
 ⟨76, .fn ir_machine_Reads, fun _ => ⟨_, Tryz.func76, ok_machine_Reads⟩⟩,
 ⟨77, .fn ir_sim_writes, fun _ => ⟨_, Tryz.func77, ok_sim_writes⟩⟩,
 ⟨78, .fn ir_sim_waits_delay, fun _ => ⟨_, Tryz.func78, ok_sim_waits_delay⟩⟩,
 ⟨79, .fn ir_words_Leaves, fun _ => ⟨_, Tryz.func79, ok_words_Leaves⟩⟩,
 ⟨80, .fn ir_biremeref26_wrong, fun _ => ⟨_, Tryz.func80, ok_biremeref26_wrong⟩⟩,
 ⟨81, .fn ir_biremeref26_Leaves, fun _ => ⟨_, Tryz.func81, ok_biremeref26_Leaves⟩⟩,
 ⟨82, .fn ir_biremeref19_Home, fun _ => ⟨_, Tryz.func82, ok_biremeref19_Home⟩⟩,
 ⟨83, .fn ir_biremeref19_Reads, fun _ => ⟨_, Tryz.func83, ok_biremeref19_Reads⟩⟩,
 ⟨92, .fn ir_code_Check, fun _ => ⟨_, Tryz.func92, ok_code_Check⟩⟩,
 ⟨93, .fn ir_words_head, fun _ => ⟨_, Tryz.func93, ok_words_head⟩⟩,
 ⟨94, .fn ir_words_within, fun _ => ⟨_, Tryz.func94, ok_words_within⟩⟩,
 ⟨95, .fn ir_words_op, fun _ => ⟨_, Tryz.func95, ok_words_op⟩⟩,
 ⟨96, .fn ir_slices_ContainsFunc_api_Op_api_Op, fun _ => ⟨_, Tryz.func96, ok_slices_ContainsFunc_api_Op_api_Op⟩⟩,
 ⟨98, .fn ir_slices_Clone_api_Word_api_Word, fun _ => ⟨_, Tryz.func98, ok_slices_Clone_api_Word_api_Word⟩⟩,
 ⟨99, .fn ir_slices_Clone_api_Op_api_Op, fun _ => ⟨_, Tryz.func99, ok_slices_Clone_api_Op_api_Op⟩⟩,
 ⟨100, .fn ir_sim_Sim_arrive, fun _ => ⟨_, Tryz.func100, ok_sim_Sim_arrive⟩⟩,
 ⟨101, .fn ir_sim_Sim_do, fun _ => ⟨_, Tryz.func101, ok_sim_Sim_do⟩⟩,
 ⟨103, .fn ir_machine_in, fun _ => ⟨_, Tryz.func103, ok_machine_in⟩⟩,
 ⟨104, .fn ir_machine_Class, fun _ => ⟨_, Tryz.func104, ok_machine_Class⟩⟩,
 ⟨105, .fn ir_slices_Max_int_int, fun _ => ⟨_, Tryz.func105, ok_slices_Max_int_int⟩⟩,
 ⟨106, .fn ir_words_Ways, fun _ => ⟨_, Tryz.func106, ok_words_Ways⟩⟩,
 ⟨107, .fn ir_sim_waits_from_1, fun _ => ⟨_, Tryz.func107, ok_sim_waits_from_1⟩⟩,
 ⟨108, .fn ir_code_Reads, fun _ => ⟨_, Tryz.func108, ok_code_Reads⟩⟩,
 ⟨109, .fn ir_slices_Contains_int_int, fun _ => ⟨_, Tryz.func109, ok_slices_Contains_int_int⟩⟩,
 ⟨110, .fn ir_code_Write, fun _ => ⟨_, Tryz.func110, ok_code_Write⟩⟩,
 ⟨111, .fn ir_words_isOwn, fun _ => ⟨_, Tryz.func111, ok_words_isOwn⟩⟩,
 ⟨112, .fn ir_biremeref26_Uses, fun _ => ⟨_, Tryz.func112, ok_biremeref26_Uses⟩⟩,
 ⟨113, .fn ir_biremeref26_none, fun _ => ⟨_, Tryz.func113, ok_biremeref26_none⟩⟩,
 ⟨114, .fn ir_biremeref19_counts, fun _ => ⟨_, Tryz.func114, ok_biremeref19_counts⟩⟩,
 ⟨115, .fn ir_biremeref19_Class, fun _ => ⟨_, Tryz.func115, ok_biremeref19_Class⟩⟩,
 ⟨116, .fn ir_biremeref18_Reads, fun _ => ⟨_, Tryz.func116, ok_biremeref18_Reads⟩⟩,
 ⟨124, .fn ir_slices_Repeat_api_Block_api_Block, fun _ => ⟨_, Tryz.func124, ok_slices_Repeat_api_Block_api_Block⟩⟩,
 ⟨125, .fn ir_words_own, fun _ => ⟨_, Tryz.func125, ok_words_own⟩⟩,
 ⟨126, .fn ir_slices_IndexFunc_api_Op_api_Op, fun _ => ⟨_, Tryz.func126, ok_slices_IndexFunc_api_Op_api_Op⟩⟩,
 ⟨130, .fn ir_slices_DeleteFunc_sim_result_sim_result, fun _ => ⟨_, Tryz.func130, ok_slices_DeleteFunc_sim_result_sim_result⟩⟩,
 ⟨131, .fn ir_sim_Sim_arrive_1, fun _ => ⟨_, Tryz.func131, ok_sim_Sim_arrive_1⟩⟩,
 ⟨133, .fn ir_sim_Sim_leaves, fun _ => ⟨_, Tryz.func133, ok_sim_Sim_leaves⟩⟩,
 ⟨134, .fn ir_word_Do, fun _ => ⟨_, Tryz.func134, ok_word_Do⟩⟩,
 ⟨135, .fn ir_sim_Sim_give, fun _ => ⟨_, Tryz.func135, ok_sim_Sim_give⟩⟩,
 ⟨136, .fn ir_sim_Sim_end, fun _ => ⟨_, Tryz.func136, ok_sim_Sim_end⟩⟩,
 ⟨137, .fn ir_code_Class, fun _ => ⟨_, Tryz.func137, ok_code_Class⟩⟩,
 ⟨138, .fn ir_words_MayTrap, fun _ => ⟨_, Tryz.func138, ok_words_MayTrap⟩⟩,
 ⟨139, .fn ir_code_of, fun _ => ⟨_, Tryz.func139, ok_code_of⟩⟩,
 ⟨140, .fn ir_code_Read, fun _ => ⟨_, Tryz.func140, ok_code_Read⟩⟩,
 ⟨141, .fn ir_slices_Index_int_int, fun _ => ⟨_, Tryz.func141, ok_slices_Index_int_int⟩⟩,
 ⟨142, .fn ir_biremeref18_uses, fun _ => ⟨_, Tryz.func142, ok_biremeref18_uses⟩⟩,
 ⟨143, .fn ir_biremeref18_put, fun _ => ⟨_, Tryz.func143, ok_biremeref18_put⟩⟩,
 ⟨148, .fn ir_code_checker_unit, fun _ => ⟨_, Tryz.func148, ok_code_checker_unit⟩⟩,
 ⟨149, .fn ir_math_bits_Mul, fun _ => ⟨_, Tryz.func149, ok_math_bits_Mul⟩⟩,
 ⟨150, .fn ir_slices_ContainsFunc_int_int, fun _ => ⟨_, Tryz.func150, ok_slices_ContainsFunc_int_int⟩⟩,
 ⟨151, .fn ir_words_own_1, fun _ => ⟨_, Tryz.func151, ok_words_own_1⟩⟩,
 ⟨154, .fn ir_slices_IndexFunc_sim_result_sim_result, fun _ => ⟨_, Tryz.func154, ok_slices_IndexFunc_sim_result_sim_result⟩⟩,
 ⟨156, .fn ir_word_late, fun _ => ⟨_, Tryz.func156, ok_word_late⟩⟩,
 ⟨157, .fn ir_word_table, fun _ => ⟨_, Tryz.func157, ok_word_table⟩⟩,
 ⟨158, .fn ir_word_Formed, fun _ => ⟨_, Tryz.func158, ok_word_Formed⟩⟩,
 ⟨159, .fn ir_word_both, fun _ => ⟨_, Tryz.func159, ok_word_both⟩⟩,
 ⟨160, .fn ir_sim_Sim_latency, fun _ => ⟨_, Tryz.func160, ok_sim_Sim_latency⟩⟩,
 ⟨161, .fn ir_biremeref18_in, fun _ => ⟨_, Tryz.func161, ok_biremeref18_in⟩⟩,
 ⟨163, .fn ir_code_checker_must, fun _ => ⟨_, Tryz.func163, ok_code_checker_must⟩⟩,
 ⟨164, .fn ir_code_checker_unit_1, fun _ => ⟨_, Tryz.func164, ok_code_checker_unit_1⟩⟩,
 ⟨165, .fn ir_code_within, fun _ => ⟨_, Tryz.func165, ok_code_within⟩⟩,
 ⟨166, .fn ir_code_checker_op, fun _ => ⟨_, Tryz.func166, ok_code_checker_op⟩⟩,
 ⟨167, .fn ir_code_checker_end, fun _ => ⟨_, Tryz.func167, ok_code_checker_end⟩⟩,
 ⟨169, .fn ir_math_bits_Mul64, fun _ => ⟨_, Tryz.func169, ok_math_bits_Mul64⟩⟩,
 ⟨170, .fn ir_slices_IndexFunc_int_int, fun _ => ⟨_, Tryz.func170, ok_slices_IndexFunc_int_int⟩⟩,
 ⟨182, .fn ir_word_plain, fun _ => ⟨_, Tryz.func182, ok_word_plain⟩⟩,
 ⟨186, .fn ir_word_table_4, fun _ => ⟨_, Tryz.func186, ok_word_table_4⟩⟩,
 ⟨193, .fn ir_word_table_10, fun _ => ⟨_, Tryz.func193, ok_word_table_10⟩⟩,
 ⟨197, .fn ir_code_checker_reg, fun _ => ⟨_, Tryz.func197, ok_code_checker_reg⟩⟩,
 ⟨204, .fn ir_word_plain_1, fun _ => ⟨_, Tryz.func204, ok_word_plain_1⟩⟩]
def tabT : Tr Ent := trieOf rows
theorem tab_ok (gl : List Nat) : ∀ f E, tabT.get f = some E → EntOK Tryz.prog gl f E := fun f E h => trieOf_ok rows f E h (by kernel_rfl) gl
end Go.Proofs.YtleofbpepfmfgaaGreatDoor
