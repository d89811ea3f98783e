/- The evaluator's words for this program: numbers by names. -/
import Derived.Test.YtkkcknfeljgdcaaGreatProg
import Derived.Test.YtkkcknfeljgdcaaGreatB2
import Derived.Test.YtkkcknfeljgdcaaGreatB3
import Derived.Test.YtkkcknfeljgdcaaGreatEv33
namespace Go.Proofs.Cx
open Go Go.Ev
noncomputable def Ee : Env := envW Tryz.prog [] (sums [(13, truth), (78, (keysW [112, 131, 138])), (113, (keysW [137]))]) [(164, 187, 1)]
abbrev F_cohortlaw17_MasterLives : FuncId := 6
abbrev F_cohortlaw17_awake : FuncId := 13
abbrev F_master_Master_Apply : FuncId := 23
abbrev F_master_Master_Life : FuncId := 28
abbrev F_master_Master_Workers : FuncId := 31
abbrev F_master_New : FuncId := 35
abbrev F_cohortlaw17_there : FuncId := 36
abbrev F_sess_Table_Do : FuncId := 61
abbrev F_master_Master_Apply_1 : FuncId := 62
abbrev F_master_replyOf : FuncId := 66
abbrev F_master_Master_join : FuncId := 67
abbrev F_master_Master_lose : FuncId := 68
abbrev F_master_Master_report : FuncId := 69
abbrev F_master_Master_current : FuncId := 71
abbrev F_slices_Contains_L_int_int : FuncId := 72
abbrev F_master_Master_ids : FuncId := 77
abbrev F_slices_Sorted_int : FuncId := 78
abbrev F_maps_Keys_map_int_int_int_int : FuncId := 79
abbrev F_sess_New : FuncId := 82
abbrev F_master_Master_start : FuncId := 99
abbrev F_master_Master_begin : FuncId := 101
abbrev F_maps_Keys_map_int_P_master_job_int_P_master_job : FuncId := 109
abbrev F_maps_Keys_map_int_int_int_int_1 : FuncId := 112
abbrev F_maps_Keys_map_int_P_master_job_int_P_master_job_1 : FuncId := 131
abbrev F_maps_Keys_map_int_api_Report_int_api_Report_1 : FuncId := 138
abbrev T_int64 : TypeId := 2
abbrev T_int : TypeId := 3
abbrev T_string : TypeId := 9
abbrev T_L_api_Vertex : TypeId := 30
abbrev T_api_Graph : TypeId := 32
abbrev T_L_int64 : TypeId := 33
abbrev T_api_Job : TypeId := 35
abbrev T_L_cohortlaw17_Act : TypeId := 92
abbrev T_M_int_int : TypeId := 93
abbrev T_cohortlaw17_Act : TypeId := 95
abbrev T_M_int_P_master_job : TypeId := 128
abbrev T_L_api_Edge : TypeId := 172
abbrev T_api_Vertex : TypeId := 174
abbrev T_api_Edge : TypeId := 175
end Go.Proofs.Cx
